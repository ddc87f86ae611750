/- mssaNil: closed facts of the row, by the kernel. -/
import Derived.Test.YtclljjfkaljdnaaGreatDoorRows
import Derived.Test.YtclljjfkaljdnaaGreatDoorJ8a
import Derived.Test.YtclljjfkaljdnaaGreatDoorJ8b
import Derived.Test.YtclljjfkaljdnaaGreatDoorJ8c
import Derived.Test.YtclljjfkaljdnaaGreatDoorJ8d
import Derived.KernelRfl
import Derived.JoinedOf
namespace Go.Proofs.YtclljjfkaljdnaaGreatDoor.lawMssaNil
open Go
theorem joined : joinedFacts Tryz.pinned.checked.prog 8 Go.Proofs.Tryz.f8 Rows.mssaNilSpec Rows.mssaNilRow = true := by
  unfold joinedFacts
  rw [jf_inPlace, jf_unfollowed, jf_recurses, jf_named]
  kernel_rfl
end Go.Proofs.YtclljjfkaljdnaaGreatDoor.lawMssaNil
