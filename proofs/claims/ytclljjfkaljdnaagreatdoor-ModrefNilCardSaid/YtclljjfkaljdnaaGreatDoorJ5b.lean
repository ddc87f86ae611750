/- modrefNil: closed facts of the row, by the kernel. -/
import Derived.Test.YtclljjfkaljdnaaGreatDoorRows
import Derived.KernelRfl
import Derived.JoinedOf
namespace Go.Proofs.YtclljjfkaljdnaaGreatDoor.lawModrefNil
open Go
theorem jf_unfollowed : (Rows.modrefNilRow.unfollowed == Tryz.pinned.checked.prog.unfollowed 5) = true := by kernel_rfl
end Go.Proofs.YtclljjfkaljdnaaGreatDoor.lawModrefNil
