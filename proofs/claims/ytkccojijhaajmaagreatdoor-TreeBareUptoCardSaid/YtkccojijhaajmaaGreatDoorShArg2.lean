/-
A row's arguments, as values of the interpreter.
-/
import Derived.Test.YtkccojijhaajmaaGreatDoorShArg
set_option linter.unusedSimpArgs false
set_option linter.unusedVariables false
set_option linter.unusedSectionVars false
set_option linter.unusedSimpArgs false
namespace Sh
open Go

/-- an argument -/
def avArg {H : Type} (P : Program) (m : Nat) (t : TypeId) (d : DataW H) : Option AV := (avc P m t d).bind fun c => match P.underlying t with
  | some (.struct _) | some (.array _ _) => some (.agg c)
  | _ => match c with
    | [v] => some v
    | _ => none

/-- all of them -/
def avArgs {H : Type} (P : Program) (m : Nat) : List TypeId → List (DataW H) → Option (List AV)
  | [], [] => some []
  | t :: ts, d :: ds => (avArg P m t d).bind fun a => (avArgs P m ts ds).map fun r => a :: r
  | _, _ => none

section
variable {H : Type} {enc : TypeId × Value → H} {P : Program} {w : World}

theorem arg_rv {r : Reach} {b0 base m : Nat} {sp : Nat → Bool} {held : Bool} {t : TypeId} {v : Value} {d : DataW H} {ps : List MemPlace} {a : AV} {A : Nat → Prop} {ι : Nat → Nat} (hval : Value.okWide P w r b0 t v) (ht : DataW.Trod enc P w base sp held t v d ps) (ha : avArg P m t d = some a) :
    RV (fun _ => False) A ι w a v := by
  obtain ⟨n, hn⟩ := ht
  unfold avArg at ha
  rw [Option.bind_eq_some_iff] at ha
  obtain ⟨c, hc, ha⟩ := ha
  have hR := avc_sound m n t d _ ps c hn hc
  unfold Value.okWide at hval
  split at ha
  · rename_i fs hu
    rw [hu] at hval
    obtain ⟨cs, rfl, _⟩ := hval
    cases ha
    exact ⟨cs, rfl, hR.imp fun _ _ _ h => .deep h⟩
  · rename_i k e hu
    rw [hu] at hval
    obtain ⟨cs, rfl, _⟩ := hval
    cases ha
    exact ⟨cs, rfl, hR.imp fun _ _ _ h => .deep h⟩
  · rename_i h1 h2
    split at ha
    · rename_i v0
      cases ha
      have hv : Cell.okWide P w r b0 t v := by
        split at hval
        · rename_i hu; exact absurd hu (h1 _)
        · rename_i hu; exact absurd hu (h2 _ _)
        · exact hval
      cases v
      case agg cs =>
        exfalso
        unfold Cell.okWide at hv
        split at hv <;> simp_all [Cell.ok]
      all_goals exact RV.ofC (.deep hR.head)
    · cases ha

theorem args_rl {r : Reach} {b0 base m : Nat} {sp : Nat → Bool} {held : Bool} {A : Nat → Prop} {ι : Nat → Nat} : ∀ {ts : List TypeId} {vs : List Value} {ds : List (DataW H)} {ps : List MemPlace} {as : List AV}, DataW.TrodAll enc P w base sp held ts vs ds ps →
    (∀ (j : Nat) t v, ts[j]? = some t → vs[j]? = some v → Value.okWide P w r b0 t v) → avArgs P m ts ds = some as → RL (RV (fun _ => False) A ι w) as vs
  | [], [], [], _, as, _, _, ha => by
    unfold avArgs at ha
    cases ha
    exact RL.nil _
  | t :: ts, v :: vs, d :: ds, _, as, ⟨p, q, h, hs, _⟩, hval, ha => by
    unfold avArgs at ha
    rw [Option.bind_eq_some_iff] at ha
    obtain ⟨a, h1, h2⟩ := ha
    rw [Option.map_eq_some_iff] at h2
    obtain ⟨rr, h3, rfl⟩ := h2
    exact RL.cons (arg_rv (hval 0 t v rfl rfl) h h1) (args_rl hs (fun j t v ht hv => hval (j + 1) t v (by simpa using ht) (by simpa using hv)) h3)

/-- A LAW's CONTRACT, from what the interpreter says of its call. -/
theorem law_contract {cx : Ctx} (hcx : CtxOK cx) {S : TypeId → Bool} (hz : Closes cx.P S) {f : FuncId} {fn : Func} {s : ChangeSpec} {apart fresh handsOn : Bool} {r : Reach} {base m : Nat} {args : Array Value} {ds gs : List (DataW H)} {before : List MemPlace} {T : TypeId} {as : List AV} {hh : Heap}
    (hS : ∀ t ∈ fn.params.toList, S t = true) (hf : cx.P.funcs[f]? = some fn) (hb : fn.body.isNone = false) (hrt : fn.resultTypes = #[T]) (hT : cx.P.underlying T = some .bool) (hsv : s.vars = []) (hfn : s.fn H ds = { results := [.lit (.bool true)], args := ds })
    (hval : ∀ (j : Nat) t v, fn.params[j]? = some t → args[j]? = some v → Value.okWide cx.P w r base t v) (hW : DataW.Whole enc cx.P fn.params.toList s.vars apart w args.toList ds gs before)
    (has : avArgs cx.P m fn.params.toList ds = some as) (hr : acall cx f as [] = some (.bool true, hh)) :
    Calls cx.P f args w fun e w' => ∃ v, e = .returned v ∧ s.post enc cx.P fn apart fresh handsOn false w args v w' := by
  have hW' := hW
  obtain ⟨p, q, hA, _⟩ := hW'
  have hargs := args_rl (A := fun _ => False) (ι := fun _ => 0) hA (fun j t v ht hv => hval j t v (by simpa using ht) (by simpa using hv)) has
  refine (law_calls hcx hr hf hb hargs).mono fun e w' ⟨he, hg, hbk⟩ => ⟨.bool true, he, ?_⟩
  exact post_law hz hS hW hsv hfn hrt hT hg hbk
end
end Sh
