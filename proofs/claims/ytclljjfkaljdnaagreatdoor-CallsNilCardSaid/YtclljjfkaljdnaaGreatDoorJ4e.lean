/- callsNil: closed facts of the row, by the kernel. -/
import Derived.Test.YtclljjfkaljdnaaGreatDoorRows
import Derived.Test.YtclljjfkaljdnaaGreatDoorJ4a
import Derived.Test.YtclljjfkaljdnaaGreatDoorJ4b
import Derived.Test.YtclljjfkaljdnaaGreatDoorJ4c
import Derived.Test.YtclljjfkaljdnaaGreatDoorJ4d
import Derived.KernelRfl
import Derived.JoinedOf
namespace Go.Proofs.YtclljjfkaljdnaaGreatDoor.lawCallsNil
open Go
theorem joined : joinedFacts Tryz.pinned.checked.prog 4 Go.Proofs.Tryz.f4 Rows.callsNilSpec Rows.callsNilRow = true := by
  unfold joinedFacts
  rw [jf_inPlace, jf_unfollowed, jf_recurses, jf_named]
  kernel_rfl
end Go.Proofs.YtclljjfkaljdnaaGreatDoor.lawCallsNil
