/- The reckoner at this program: what EnvOK asks of it. -/
import Derived.Test.YtocabeobfbhajaaGreatDoorSxExt
import Derived.Test.YtocabeobfbhajaaGreatDoorSxRow
import Derived.Test.YtocabeobfbhajaaGreatDoorProg
namespace Go.Proofs.YtocabeobfbhajaaGreatDoor.Sx
open Go Go.Proofs
theorem plainAll : Tryz.prog.funcs.toList.all (fun fn => !(fn.name == "runtime.NumGoroutine")) = true := by decide +kernel
theorem plainT : Plain Tryz.prog := fun f fn h => by
  have h1 : fn ∈ Tryz.prog.funcs.toList := by
    rw [← Array.getElem?_toList] at h
    exact List.mem_of_getElem? h
  have := List.all_eq_true.1 plainAll fn h1
  simpa using this
theorem mixedT : Tryz.prog.follows .mixedOrders = true := by decide +kernel
theorem extC : ExtF Tryz.prog 312 Extern.BytealgCount.count := ⟨_, Tryz.func312, by decide +kernel, by decide +kernel, by kernel_rfl, by kernel_rfl⟩
theorem extI : ExtF Tryz.prog 334 Extern.BytealgIndexByte.indexByte := ⟨_, Tryz.func334, by decide +kernel, by decide +kernel, by kernel_rfl, by kernel_rfl⟩
/-- The reckoner's surroundings at this program. -/
noncomputable def E0 : Env := ⟨8, Tryz.prog, bytesX 312 334, fun _ _ _ => none, none⟩
theorem ok0 : EnvOK E0 := ⟨plainT, mixedT, fun _ _ _ _ _ _ h _ _ hv w => bytesX_ok extC extI h hv w, fun _ _ _ _ _ h => nomatch h⟩
end Go.Proofs.YtocabeobfbhajaaGreatDoor.Sx
