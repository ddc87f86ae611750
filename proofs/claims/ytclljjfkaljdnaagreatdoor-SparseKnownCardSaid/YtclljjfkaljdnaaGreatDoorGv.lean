/- What the kernel's runs rest on, at this program. -/
import Derived.Test.YtclljjfkaljdnaaGreatDoorE25
import Derived.Test.YtclljjfkaljdnaaGreatDoorPT
import Derived.Test.YtclljjfkaljdnaaGreatDoorProg
import Derived.KernelRfl
namespace Go.Proofs.YtclljjfkaljdnaaGreatDoor
open Go.RowKit
theorem plans_ok : plansB Go.Proofs.Tryz.prog plans = true := by kernel_rfl
theorem mixed_ok : Go.Proofs.Tryz.prog.follows .mixedOrders = true := by kernel_rfl
theorem names_ok : (Go.Proofs.Tryz.prog.funcs.toList.all fun fn => !(fn.name == "runtime.NumGoroutine")) = true := by kernel_rfl
theorem keys_ok : (keys.all fun p => keyB2 Go.Proofs.Tryz.prog p.1 p.2) = true := by kernel_rfl
theorem given : Given Go.Proofs.Tryz.prog plans keys where
  plans := plans_ok
  nm f fn h _ := by
    have h' : Go.Proofs.Tryz.prog.funcs.toList[f]? = some fn := by simpa using h
    have := List.all_eq_true.1 names_ok fn (List.mem_of_getElem? h')
    simpa using this
  ky t ks h := keyB2_ok (List.all_eq_true.1 keys_ok (t, ks) h)
  mixed := mixed_ok
end Go.Proofs.YtclljjfkaljdnaaGreatDoor
