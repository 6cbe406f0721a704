/-
What the interpreter says of a function holds of each of its calls.
-/
import Derived.Test.YtkccojijhaajmaaGreatDoorShDraw3
set_option linter.unusedSimpArgs false
set_option linter.unusedVariables false
set_option linter.unusedSectionVars false
set_option linter.unusedSimpArgs false
namespace Sh
open Go

/-- each slot that is written is there -/
def dstOK (nt : Nat) : Code → Bool
  | .region _ ops _ => ops.all fun o => match o.dst with | some d => decide (d < nt) | none => true
  | .seq a b => dstOK nt a && dstOK nt b
  | .cond _ a b => dstOK nt a && dstOK nt b
  | .block _ c => dstOK nt c
  | .loop c => dstOK nt c
  | _ => true

section
variable {X0 : Nat → Prop} {w : World} {h : Heap} {t : Fr} {a : Act} {cx : Ctx} {call : FuncId → List AV → Heap → Res} {n0 : Nat} {ι0 : Nat → Nat} {w0 : World} {h0 : Heap} {nt : Nat} {Q : Exit → Act → World → Prop}

theorem St.drew (hs : St X0 n0 ι0 w0 h0 nt t h a w) : St X0 n0 ι0 w0 h0 nt t h a w.drew := by
  obtain ⟨ι, h1, h2, h3, h4, h5⟩ := hs
  exact ⟨ι, ⟨h1.hr.drew, fun i => (h1.fr i).mono (fun _ _ h => h) (fun _ _ _ => rfl) (Grow.drew w) (fun _ h => ⟨h, rfl⟩)⟩, h2.trans (Chg.drew _ _ _ _), h3, h4, h5⟩

/-- a loop -/
def LoopOK (cx : Ctx) (loop : (Fr → Heap → Kont → Option (AV × Heap)) → Nat → List Nat → Fr → Heap → Kont → Option (AV × Heap)) : Prop :=
  ∀ (c : Code) (F : Fr → Heap → Kont → Option (AV × Heap)) (keep : List Nat) (K : Kont) (r : AV × Heap) (X0 : Nat → Prop) (n0 : Nat) (ι0 : Nat → Nat) (w0 : World) (h0 : Heap) (nt : Nat) (Q : Exit → Act → World → Prop),
    (∀ t h K a w (Q : Exit → Act → World → Prop), F t h K = some r → St X0 n0 ι0 w0 h0 nt t h a w → (∀ e t' h' a' w', K e t' h' = some r → St X0 n0 ι0 w0 h0 nt t' h' a' w' → Q e a' w') → c.wp cx.P Q a w) →
    ∀ t h a w, loop F n0 keep t h K = some r → St X0 n0 ι0 w0 h0 nt t h a w → (∀ e t' h' a' w', K e t' h' = some r → St X0 n0 ι0 w0 h0 nt t' h' a' w' → Q e a' w') → (Code.loop c).wp cx.P Q a w

theorem loopN_OK (cx : Ctx) (n : Nat) : LoopOK cx (loopN n) := by
  intro c F keep K r X0 n0 ι0 w0 h0 nt Q hF t h a w hl hs hK
  intro b k cs
  have key : ∀ (n : Nat) t h a w, loopN n F n0 keep t h K = some r → St X0 n0 ι0 w0 h0 nt t h a w →
      ∃ e a' w', Q e a' w' ∧ Arrives cx.P (lone (b.at a (.code c :: .inLoop c :: k)) cs w) b k cs e a' w' := by
    intro n
    induction n with
    | zero => intro t h a w hl _; cases hl
    | succ n ih =>
      intro t h a w hl hs
      obtain ⟨s, hs1, hl2⟩ := bindR_ok hl
      cases hs1
      have hcs := canon_St hs keep
      have hround := hF _ _ _ a w (Exit.then (fun a' w' => ∃ t h, loopN n F n0 keep t h K = some r ∧ St X0 n0 ι0 w0 h0 nt t h a' w') Q) hl2 hcs (fun e t' h' a' w' he hs' => by
        cases e with
        | normal => exact ⟨t', h', he, hs'⟩
        | exit id => exact hK _ _ _ _ _ he hs'
        | goto l => exact hK _ _ _ _ _ he hs'
        | ret => exact hK _ _ _ _ _ he hs'
        | panic ch => exact hK _ _ _ _ _ he hs'
        | outgrown => exact hK _ _ _ _ _ he hs')
      obtain ⟨e, a₁, w₁, hq, harr⟩ := hround b (.inLoop c :: k) cs
      cases e with
      | normal =>
        obtain ⟨t1, h1, hl1, hs1⟩ := hq
        obtain ⟨e₂, a₂, w₂, hq₂, harr₂⟩ := ih t1 h1 a₁ w₁ hl1 hs1
        exact ⟨e₂, a₂, w₂, hq₂, .of_steps (Steps.trans harr (.one step_inLoop)) harr₂⟩
      | exit id => exact ⟨_, a₁, w₁, hq, .pass (x := .inLoop c) rfl (fun _ _ => .inl (by simp)) harr⟩
      | goto l => exact ⟨_, a₁, w₁, hq, .pass (x := .inLoop c) rfl (fun _ _ => .inl (by simp)) harr⟩
      | ret => exact ⟨_, a₁, w₁, hq, .pass (x := .inLoop c) rfl (fun _ _ => .inl (by simp)) harr⟩
      | panic ch => exact ⟨_, a₁, w₁, hq, .pass (x := .inLoop c) rfl (fun _ _ => .inl (by simp)) harr⟩
      | outgrown => exact ⟨_, a₁, w₁, hq, .pass (x := .inLoop c) rfl (fun _ _ => .inl (by simp)) harr⟩
  obtain ⟨e, a', w', hq, harr⟩ := key n t h a w hl hs
  exact ⟨e, a', w', hq, .of_steps (.one step_loop) harr⟩

theorem code_sound {f : FuncId} {loop : (Fr → Heap → Kont → Option (AV × Heap)) → Nat → List Nat → Fr → Heap → Kont → Option (AV × Heap)} {r : AV × Heap} (hm : cx.P.follows .mixedOrders = true) (hcall : CallsOK cx.P call) (hloop : LoopOK cx loop) :
    ∀ (c : Code) (blk : Nat) (t : Fr) (h : Heap) (K : Kont) (u v) (Q : Exit → Act → World → Prop) (a : Act) (w : World), dstOK nt c = true → code cx f call loop n0 blk c t h K u v = some r → St X0 n0 ι0 w0 h0 nt t h a w →
      (∀ e t' h' a' w', K e t' h' = some r → St X0 n0 ι0 w0 h0 nt t' h' a' w' → Q e a' w') → c.wp cx.P Q a w := by
  intro c
  induction c with
  | skip => intro blk t h K u v Q a w _ he hs hK; exact wp_skip (hK _ _ _ _ _ he hs)
  | region id ops draw =>
    intro blk t h K u v Q a w hdst he hs hK
    have hd : ∀ o ∈ ops, ∀ d, o.dst = some d → d < nt := fun o ho d hod => by
      have := Array.all_eq_true_iff_forall_mem.1 hdst o ho
      rw [hod] at this
      exact of_decide_eq_true this
    cases draw with
    | false =>
      obtain ⟨es, t', h', hr, hk⟩ := runOps_run _ _ _ _ _ _ _ _ _ he
      have := run_ops hcall hd hr (by simp) (fun j g hj => by cases hj) hs (fun a' w' hs' => hK _ _ _ _ _ hk hs')
      refine wp_region ?_
      rw [List.range_eq_range']
      simpa using this
    | true =>
      obtain ⟨es, t', h', hr, hk⟩ := runOps_run _ _ _ _ _ _ _ _ _ he
      have hk' : (∃ x, ckR (regOK ops.toList (es.reverse ++ [])) (K .normal t' h') x = some r) := ⟨_, hk⟩
      obtain ⟨x, hk'⟩ := hk'
      cases hro : regOK ops.toList (es.reverse ++ []) with
      | false => rw [hro] at hk'; cases hk'
      | true =>
        rw [hro] at hk'
        exact wp_region_any hm (draw_ops hcall hd hr (by simpa using hro) hs.drew (fun a' w' hs' => hK _ _ _ _ _ hk' hs'))
  | seq x y ihx ihy =>
    intro blk t h K u v Q a w hdst he hs hK
    simp only [dstOK, Bool.and_eq_true] at hdst
    refine wp_seq (ihx blk t h _ _ _ _ a w hdst.1 he hs fun e t' h' a' w' he' hs' => ?_)
    cases e with
    | normal => exact ihy blk t' h' K _ _ Q a' w' hdst.2 he' hs' hK
    | exit id => exact hK _ _ _ _ _ he' hs'
    | goto l => exact hK _ _ _ _ _ he' hs'
    | ret => exact hK _ _ _ _ _ he' hs'
    | panic ch => exact hK _ _ _ _ _ he' hs'
    | outgrown => exact hK _ _ _ _ _ he' hs'
  | cond c x y ihx ihy =>
    intro blk t h K u v Q a w hdst he hs hK
    simp only [dstOK, Bool.and_eq_true] at hdst
    have hc : ∃ b, opv t c = .bool b := by
      unfold code at he
      cases hv : opv t c <;> rw [hv] at he <;> first | exact ⟨_, rfl⟩ | cases he
    obtain ⟨b, hb⟩ := hc
    have hev : a.eval c = .bool b := by
      obtain ⟨ι, h1, _⟩ := hs
      have := rv_op h1.fr c
      rw [hb] at this
      exact rv_bool this
    unfold code at he
    rw [hb] at he
    cases b with
    | false => exact wp_cond_false hev (ihy blk t h K _ _ Q a w hdst.2 he hs hK)
    | true => exact wp_cond_true hev (ihx blk t h K _ _ Q a w hdst.1 he hs hK)
  | block id c ih =>
    intro blk t h K u v Q a w hdst he hs hK
    refine wp_block (ih id t h _ _ _ _ a w hdst he hs fun e t' h' a' w' he' hs' => ?_)
    cases e with
    | normal => exact hK _ _ _ _ _ he' hs'
    | exit j =>
      simp only [Kont.block] at he'
      simp only [Exit.inBlock]
      split at he'
      · rename_i hj; rw [if_pos hj]; exact hK _ _ _ _ _ he' hs'
      · rename_i hj; rw [if_neg hj]; exact hK _ _ _ _ _ he' hs'
    | goto l => exact hK _ _ _ _ _ he' hs'
    | ret => exact hK _ _ _ _ _ he' hs'
    | panic ch => exact hK _ _ _ _ _ he' hs'
    | outgrown => exact hK _ _ _ _ _ he' hs'
  | loop c ih =>
    intro blk t h K u v Q a w hdst he hs hK
    exact hloop c _ _ K r X0 n0 ι0 w0 h0 nt Q (fun t h K a w Q he hs hK => ih blk t h K _ _ Q a w hdst he hs hK) t h a w he hs hK
  | exit id => intro blk t h K u v Q a w _ he hs hK; exact wp_exit (hK _ _ _ _ _ he hs)
  | ret => intro blk t h K u v Q a w _ he hs hK; exact wp_ret (hK _ _ _ _ _ he hs)
  | _ => intro blk t h K u v Q a w _ he; cases he

end

/-- What must hold of a program and of what is given of it. -/
structure CtxOK (cx : Ctx) : Prop where
  order : cx.P.follows .mixedOrders = true
  dst : ∀ (f : Nat) fn c, cx.P.funcs[f]? = some fn → fn.body = some c → dstOK fn.ntmps c = true ∧ fn.name ≠ "runtime.NumGoroutine"
  prim : ∀ f g args h r, cx.prim f = some g → g args h = some r → Sound1 cx.P f args h r

theorem frame0_get : ∀ (l : List AV) (k i : Nat), Fr.get ((List.range' k l.length).zip l) i = if k ≤ i ∧ i < k + l.length then l.getD (i - k) .top else .top
  | [], k, i => by simp [Fr.get]
  | v :: l, k, i => by
    rw [List.length_cons, List.range'_succ, List.zip_cons_cons]
    show (if k = i then v else Fr.get _ i) = _
    split
    · rename_i h1
      subst h1
      rw [if_pos (by simp)]
      simp
    · rename_i h1
      rw [frame0_get l (k + 1) i]
      by_cases h2 : k + 1 ≤ i ∧ i < k + 1 + l.length
      · rw [if_pos h2, if_pos ⟨by omega, by omega⟩, show i - k = (i - (k + 1)) + 1 by omega]
        simp [List.getD]
      · rw [if_neg h2, if_neg (by omega)]

theorem dstOK_mono {m n : Nat} (hmn : m ≤ n) : ∀ c, dstOK m c = true → dstOK n c = true := by
  intro c
  induction c with
  | region id ops draw =>
    intro h
    refine Array.all_eq_true_iff_forall_mem.2 fun o ho => ?_
    have := Array.all_eq_true_iff_forall_mem.1 h o ho
    cases hd : o.dst with
    | none => rfl
    | some d =>
      rw [hd] at this
      exact decide_eq_true (Nat.lt_of_lt_of_le (of_decide_eq_true this) hmn)
  | seq a b iha ihb => intro h; simp only [dstOK, Bool.and_eq_true] at h ⊢; exact ⟨iha h.1, ihb h.2⟩
  | cond c a b iha ihb => intro h; simp only [dstOK, Bool.and_eq_true] at h ⊢; exact ⟨iha h.1, ihb h.2⟩
  | block id c ih => exact ih
  | loop c ih => exact ih
  | _ => intro _; rfl

theorem callN_sound {cx : Ctx} (hcx : CtxOK cx) : ∀ n, CallsOK cx.P (callN cx n) := by
  intro n
  induction n with
  | zero => intro f args h r he; cases he
  | succ n ih =>
    intro f args h r he
    have he : body cx f (callN cx n) (loopN n) args h = some r := he
    unfold body at he
    cases hp : cx.prim f with
    | some g => rw [hp] at he; exact hcx.prim f g args h r hp he
    | none =>
      rw [hp] at he
      dsimp only at he
      cases hf : cx.P.funcs[f]? with
      | none => rw [hf] at he; cases he
      | some fn =>
        rw [hf] at he
        dsimp only at he
        cases hb : fn.body with
        | none => rw [hb] at he; cases he
        | some c =>
          rw [hb] at he
          dsimp only at he
          intro X0 ι w vals hHR hargs
          obtain ⟨hdst, hname⟩ := hcx.dst f fn c hf hb
          refine .inl ⟨⟨fn, hf, by simp [hb], hname⟩, ?_⟩
          refine calls_of_wp hf hb ?_
          have hlen := hargs.1
          simp only [Array.length_toList] at hlen
          have hSt : St X0 h.length ι w h (vals ++ Array.replicate (fn.ntmps - vals.size) undef).size (frame0 args) h { tmps := vals ++ Array.replicate (fn.ntmps - vals.size) undef, defers := [] } w := by
            refine ⟨ι, ⟨hHR, fun i => ?_⟩, Chg.refl _ _ _ _, Nat.le_refl _, rfl, rfl⟩
            unfold frame0
            rw [List.range_eq_range', frame0_get args 0 i]
            split
            · rename_i hi
              have hi' : i < args.length := by omega
              obtain ⟨u, hu, hr⟩ := hargs.ex (List.getElem?_eq_getElem hi')
              have hiv : i < vals.size := by omega
              have hge : (vals ++ Array.replicate (fn.ntmps - vals.size) undef).getD i undef = u := by
                rw [Array.getD_eq_getD_getElem?, Array.getElem?_append_left hiv]
                rw [Array.getElem?_toList] at hu
                rw [hu]; rfl
              have hga : args.getD (i - 0) .top = args[i] := by simp [List.getD, hi']
              rw [hga]
              show RV _ _ _ _ _ ((vals ++ Array.replicate (fn.ntmps - vals.size) undef).getD i undef)
              rw [hge]
              exact hr
            · exact RV.top _
          have hdst' : dstOK (vals ++ Array.replicate (fn.ntmps - vals.size) undef).size c = true := dstOK_mono (by simp; omega) c hdst
          refine code_sound (f := f) (loop := loopN n) (r := r) hcx.order ih (loopN_OK cx n) c 0 (frame0 args) h _ _ _ _ _ w hdst' he hSt (fun e t' h' a' w' hk hs' => ?_)
          cases e with
          | normal =>
            obtain ⟨g1, v, g2, g3⟩ := finish_sound hs' (show finish cx f h.length fn.results.toList t' h' = some r from hk)
            exact ⟨g1, v, g2, g3⟩
          | ret =>
            obtain ⟨g1, v, g2, g3⟩ := finish_sound hs' (show finish cx f h.length fn.results.toList t' h' = some r from hk)
            exact ⟨g1, v, g2, g3⟩
          | exit id => cases hk
          | goto l => cases hk
          | panic ch => cases hk
          | outgrown => cases hk
end Sh
