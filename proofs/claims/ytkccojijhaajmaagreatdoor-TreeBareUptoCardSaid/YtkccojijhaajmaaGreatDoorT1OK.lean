/- A part of the proof. -/
import Derived.Test.YtkccojijhaajmaaGreatDoorT1W
import Derived.Test.YtkccojijhaajmaaGreatDoorT1Cx
import Derived.Test.YtkccojijhaajmaaGreatDoorShPrim2
import Derived.Test.YtkccojijhaajmaaGreatDoorShClosed
set_option linter.unusedSimpArgs false
set_option linter.unusedVariables false
set_option linter.unusedSectionVars false
set_option maxRecDepth 1000000
namespace Sh
open Go Go.Proofs
theorem enters41 : Enters Tryz.prog 41 := ⟨Tryz.f41, Tryz.func41, by kernel_rfl, by decide⟩
theorem enters113 : Enters Tryz.prog 113 := ⟨Tryz.f113, Tryz.func113, by kernel_rfl, by decide⟩
theorem cxOK : CtxOK cx where
  order := by rw [cxP]; kernel_rfl
  dst := dst_of (P := Tryz.prog) (by kernel_rfl)
  prim := fun f g args h r hp hr => by
    have hp' : primS f = some g := hp
    unfold primS at hp'
    split at hp'
    · cases hp'
      exact bstring_sound enters41 string_nil (fun b g cap N l h0 w c1 hcap hg hn h63 hc => string_row b g cap N l h0 w c1 hcap hg hn h63 hc) args h r hr
    · cases hp'
      exact copyCheck_sound enters113 check_used check_fresh args h r hr
    · cases hp'
      exact indexByte_sound (P := Tryz.prog) (fn := Tryz.f132) Tryz.func132 (by kernel_rfl) (by kernel_rfl) (by kernel_rfl) (by kernel_rfl) args h r hr
    · cases hp'
end Sh
