/- memphiNil: closed facts of the row, by the kernel. -/
import Derived.Test.YtclljjfkaljdnaaGreatDoorRows
import Derived.Test.YtclljjfkaljdnaaGreatDoorJ7a
import Derived.Test.YtclljjfkaljdnaaGreatDoorJ7b
import Derived.Test.YtclljjfkaljdnaaGreatDoorJ7c
import Derived.Test.YtclljjfkaljdnaaGreatDoorJ7d
import Derived.KernelRfl
import Derived.JoinedOf
namespace Go.Proofs.YtclljjfkaljdnaaGreatDoor.lawMemphiNil
open Go
theorem joined : joinedFacts Tryz.pinned.checked.prog 7 Go.Proofs.Tryz.f7 Rows.memphiNilSpec Rows.memphiNilRow = true := by
  unfold joinedFacts
  rw [jf_inPlace, jf_unfollowed, jf_recurses, jf_named]
  kernel_rfl
end Go.Proofs.YtclljjfkaljdnaaGreatDoor.lawMemphiNil
