/-
The operations of a region that may come in any order: together.
-/
import Derived.Test.YtkccojijhaajmaaGreatDoorShDraw
set_option linter.unusedSimpArgs false
set_option linter.unusedVariables false
set_option linter.unusedSectionVars false
set_option linter.unusedSimpArgs false
namespace Sh
open Go

section
variable {X0 : Nat → Prop} {w : World} {h : Heap} {t : Fr} {a : Act} {cx : Ctx} {call : FuncId → List AV → Heap → Res} {n0 : Nat} {ι0 : Nat → Nat} {w0 : World} {h0 : Heap} {nt : Nat} {Q : Exit → Act → World → Prop}
variable {ops : Array Oper} {O : Nat → Oper} {T : Nat → Fr} {Hh : Nat → Heap} {E : Nat → Eff} {D : Nat → Bool}

/-- the state behind those that are done -/
def Inv (X0 : Nat → Prop) (n0 : Nat) (ι0 : Nat → Nat) (w0 : World) (h0 : Heap) (nt : Nat) (ops : Array Oper) (O : Nat → Oper) (T : Nat → Fr) (Hh : Nat → Heap) (E : Nat → Eff) (D : Nat → Bool) (a : Act) (w : World) : Prop :=
  ∃ A ι, SR X0 A ι w (HD D E (fun k => (Hh k).length) (hget (Hh 0)) ops.size) (FD D (fun k => (O k).dst) E (T 0) ops.size) a ∧ Chg (· < n0) ι0 w0 (hget h0) A ι w (HD D E (fun k => (Hh k).length) (hget (Hh 0)) ops.size) ∧
    (∀ i, A i ↔ i < (Hh 0).length ∨ ∃ j, j < ops.size ∧ D j = true ∧ (Hh j).length ≤ i ∧ i < (Hh j).length + (E j).new.length) ∧ a.defers = [] ∧ a.tmps.size = nt

theorem looks_op {ds : List (Option Tmp)} {o : Oper} {s : Tmp} (h : Operand.tmp s ∈ o.op.operands.toList) : s ∈ Oper.looks ds o := by
  unfold Oper.looks
  exact List.mem_append_left _ (List.mem_filterMap.2 ⟨_, h, rfl⟩)

theorem looks_guard {o : Oper} {j g : Nat} {b : Bool} (h : o.guard = some (j, b)) (hj : (ops[j]?).bind (·.dst) = some g) : g ∈ Oper.looks (ops.toList.map (·.dst)) o := by
  unfold Oper.looks
  refine List.mem_append_right _ ?_
  rw [h]
  have : ((ops.toList.map (·.dst))[j]?).getD none = some g := by
    rw [List.getElem?_map, Array.getElem?_toList]
    cases hoj : ops[j]? with
    | none => rw [hoj] at hj; cases hj
    | some o => rw [hoj] at hj; simpa using hj
  simp only [this]
  simp

theorem inv_step (hr : Reg cx call ops O T Hh E) (hcall : CallsOK cx.P call) (hd : ∀ o ∈ ops, ∀ d, o.dst = some d → d < nt) (hc : Closed ops D) {i : Nat} (hi : i < ops.size) (hDi : D i = false)
    (hai : ∀ j ∈ (ahead ops.toList).getD i [], D j = true) (hinv : Inv X0 n0 ι0 w0 h0 nt ops O T Hh E D a w) {K : Act → World → Prop} (hK : ∀ a' w', Inv X0 n0 ι0 w0 h0 nt ops O T Hh E (add1 D i) a' w' → K a' w') : wpOp cx.P ops Q i K a w := by
  obtain ⟨A, ι, h1, h2, h3, h4, h5⟩ := hinv
  have hno := hr.op i hi
  have hmem : O i ∈ ops := Array.mem_of_getElem? hno
  have hfd : ∀ s, s ∈ Oper.looks (ops.toList.map (·.dst)) (O i) → (FD D (fun k => (O k).dst) E (T 0) ops.size).get s = (T i).get s := fun s hs => by
    have := hr.fd hc hi hDi hai hs ops.size (Nat.le_refl _)
    rwa [Nat.min_eq_right (Nat.le_of_lt hi)] at this
  have hdst : ∀ d, (O i).dst = some d → d < a.tmps.size := fun d hd' => by rw [h5]; exact hd _ hmem d hd'
  have hyield : ∀ j g b, (O i).guard = some (j, b) → (ops[j]?).bind (·.dst) = some g → ∀ c, (T i).get g = .bool c → yielded ops a.tmps j = some c := fun j g b hg hj c hv => by
    have hf := h1.fr g
    rw [hfd g (looks_guard hg hj), hv] at hf
    exact yielded_of hj hf
  have hadd := hr.fd_add hc hi hDi hai
  have haddH := hr.hd_add hc hi hDi hai ops.size (Nat.le_refl _)
  rw [if_pos hi] at haddH
  have hA' : ∀ (A' : Nat → Prop), (∀ k, A' k ↔ A k ∨ ((Hh i).length ≤ k ∧ k < (Hh i).length + (E i).new.length)) → ∀ k, A' k ↔ k < (Hh 0).length ∨ ∃ j, j < ops.size ∧ add1 D i j = true ∧ (Hh j).length ≤ k ∧ k < (Hh j).length + (E j).new.length := fun A' hA' k => by
    rw [hA' k, h3 k]
    constructor
    · rintro ((h | ⟨j, g1, g2, g3⟩) | h)
      · exact .inl h
      · exact .inr ⟨j, g1, by simp [add1, g2], g3⟩
      · exact .inr ⟨i, hi, by simp [add1], h⟩
    · rintro (h | ⟨j, g1, g2, g3⟩)
      · exact .inl (.inl h)
      · simp only [add1, Bool.or_eq_true, beq_iff_eq] at g2
        rcases g2 with g2 | rfl
        · exact .inl (.inr ⟨j, g1, g2, g3⟩)
        · exact .inr g3
  unfold wpOp
  rw [hno]
  rcases hr.step i hi with ⟨te, e1, e2, e3, e4, e5⟩ | ⟨e1, ⟨j, want, g, g1, g2, g3⟩, e3, e4⟩
  · have hw : Region.wanted (O i) (yielded ops a.tmps) = true := by
      rcases e3 with hg | ⟨j, want, g, g1, g2, g3⟩
      · simp [Region.wanted, hg]
      · simp [Region.wanted, g1, hyield j g want g1 g2 want g3]
    simp only [hw, if_true]
    have hop : ∀ x ∈ (O i).op.operands.toList, XR cx.P X0 A ι w (HD D E (fun k => (Hh k).length) (hget (Hh 0)) ops.size) a te x := fun x hx => by
      have heq : opv te x = opv (FD D (fun k => (O k).dst) E (T 0) ops.size) x := by
        cases x with
        | tmp s => show te.get s = _; rw [e1 s]; exact (hfd s (looks_op hx)).symm
        | const v => rfl
        | global g => rfl
        | func f => rfl
      unfold XR
      rw [heq]
      exact rv_op h1.fr x
    have hnA : ∀ k, (Hh i).length ≤ k → k < (Hh i).length + (E i).new.length → ¬ A k := fun k k1 k2 hk => by
      rcases (h3 k).1 hk with hk | ⟨j, j1, j2, j3, j4⟩
      · have := hr.mono (Nat.zero_le i) (Nat.le_of_lt hi); omega
      · have hji : j ≠ i := fun e => by rw [e, hDi] at j2; cases j2
        rcases Nat.lt_or_gt_of_ne hji with hlt | hlt
        · have := hr.len j1
          have := hr.mono (show j + 1 ≤ i by omega) (Nat.le_of_lt hi)
          omega
        · have := hr.len hi
          have := hr.mono (show i + 1 ≤ j by omega) (Nat.le_of_lt j1)
          omega
    have hrd : ∀ r ∈ (E i).rd, HD D E (fun k => (Hh k).length) (hget (Hh 0)) ops.size r = hget (Hh i) r := fun r hrr => by
      have := hr.hd hc hi hDi hai hrr ops.size (Nat.le_refl _)
      rwa [Nat.min_eq_right (Nat.le_of_lt hi)] at this
    have hok := ok_exec (o := O i) hcall h1 hdst hnA hop hrd e2
    refine .inl <| hok K Q fun A' ι' w' a' s1 s2 s3 s4 s5 => hK a' w' ⟨A', ι', ?_, ?_, hA' A' s3, s4.trans h4, s5.trans h5⟩
    · rw [haddH]
      refine s1.get fun s => ?_
      rw [hadd s ops.size (Nat.le_refl _), if_pos hi]
    · rw [haddH]; exact h2.trans s2
  · have hw : Region.wanted (O i) (yielded ops a.tmps) = false := by
      have hne : (yielded ops a.tmps j == some want) = false := by
        rcases g3 with g3 | g3
        · rw [hyield j g want g1 g2 (!want) g3]; cases want <;> rfl
        · have hf := h1.fr g
          rw [hfd g (looks_guard g1 g2), g3] at hf
          rw [yielded_none g2 hf]; rfl
      simp only [Region.wanted, g1, hne]
    simp only [hw, Bool.false_eq_true, if_false]
    refine hK _ _ ⟨A, ι, ?_, ?_, hA' A (fun k => ?_), (put_defers _ _).trans h4, (put_size _ _).trans h5⟩
    · rw [haddH, e1, upd_none]
      refine SR.get (t1 := sett (FD D (fun k => (O k).dst) E (T 0) ops.size) (O i).dst (.tup [])) ⟨h1.hr, fun s => fr_put (o := O i) h1.fr rv_undef hdst s⟩ fun s => ?_
      rw [hadd s ops.size (Nat.le_refl _), if_pos hi, e1]
    · rw [haddH, e1, upd_none]; exact h2
    · rw [e1]; simp; omega

theorem closed_add (hr : Reg cx call ops O T Hh E) (hc : Closed ops D) {i : Nat} (hi : i < ops.size) (hedge : ∀ e ∈ (O i).after, Region.binds .any e = true → D e.on = true) :
    (∀ j ∈ (ahead ops.toList).getD i [], D j = true) ∧ Closed ops (add1 D i) := by
  have hai : ∀ j ∈ (ahead ops.toList).getD i [], D j = true := fun j hj => by
    have hno := hr.op i hi
    have := ahead_of ops.toList [] i (O i) (by rw [Array.getElem?_toList]; exact hno) j (by simpa [ahead] using hj)
    obtain ⟨e, he, hb, h3⟩ := this
    have hD := hedge e (Array.mem_toList_iff.1 he) hb
    rcases h3 with rfl | h3
    · exact hD
    · exact hc e.on (Nat.lt_trans (hr.back i hi e (Array.mem_toList_iff.1 he) hb) hi) hD j (by simpa [ahead] using h3)
  refine ⟨hai, fun j hj hDj k hk => ?_⟩
  simp only [add1, Bool.or_eq_true, beq_iff_eq] at hDj ⊢
  rcases hDj with hDj | rfl
  · exact .inl (hc j hj hDj k hk)
  · exact .inl (hai k hk)

theorem wpAny_inv (hr : Reg cx call ops O T Hh E) (hcall : CallsOK cx.P call) (hd : ∀ o ∈ ops, ∀ d, o.dst = some d → d < nt) (hfin : ∀ a w D, (∀ i, i < ops.size → D i = true) → Inv X0 n0 ι0 w0 h0 nt ops O T Hh E D a w → Q .normal a w) :
    ∀ (fuel : Nat) (listed : Array Bool) (a : Act) (w : World), listed.size = ops.size → ((List.range ops.size).filter fun i => !listed.getD i false).length ≤ fuel → Closed ops (fun i => listed.getD i false) → Inv X0 n0 ι0 w0 h0 nt ops O T Hh E (fun i => listed.getD i false) a w →
      wpAny cx.P .any ops Q fuel listed a w := by
  have hstuck : ∀ (listed : Array Bool), listed.size = ops.size → Region.ready .any ops listed = [] → ∀ i, i < ops.size → listed.getD i false = true := fun listed hsz hnil i => by
    induction i using Nat.strongRecOn with
    | _ i ih =>
      intro hi
      cases hl : listed.getD i false with
      | true => rfl
      | false =>
        exfalso
        have : i ∈ Region.ready .any ops listed := mem_ready.2 ⟨by
          rw [Array.getD_eq_getD_getElem?, Array.getElem?_eq_getElem (by omega)] at hl ⊢
          exact hl, O i, hr.op i hi, fun e he hb => ih e.on (hr.back i hi e he hb) (Nat.lt_trans (hr.back i hi e he hb) hi)⟩
        rw [hnil] at this
        cases this
  intro fuel
  induction fuel with
  | zero =>
    intro listed a w hsz hlen hc hinv
    have hall : ∀ i, i < ops.size → listed.getD i false = true := fun i hi => by
      have h0 := List.length_eq_zero_iff.1 (Nat.le_zero.1 hlen)
      rw [List.filter_eq_nil_iff] at h0
      have := h0 i (List.mem_range.2 hi)
      simpa using this
    refine ⟨?_, hfin a w _ hall hinv⟩
    cases hrr : Region.ready .any ops listed with
    | nil => rfl
    | cons i r =>
      have hm : i ∈ Region.ready .any ops listed := by rw [hrr]; simp
      obtain ⟨h1, o, h2, _⟩ := mem_ready.1 hm
      have hi : i < ops.size := (Array.getElem?_eq_some_iff.1 h2).1
      have := hall i hi
      rw [Array.getD_eq_getD_getElem?, Array.getElem?_eq_getElem (by omega)] at this h1
      simp only [Option.getD_some] at this h1
      rw [this] at h1; cases h1
  | succ fuel ih =>
    intro listed a w hsz hlen hc hinv
    refine ⟨fun hnil => hfin a w _ (hstuck listed hsz hnil) hinv, fun i hi => ?_⟩
    obtain ⟨h1, o, h2, h3⟩ := mem_ready.1 hi
    have hin : i < ops.size := (Array.getElem?_eq_some_iff.1 h2).1
    have hDi : listed.getD i false = false := by
      rw [Array.getD_eq_getD_getElem?, Array.getElem?_eq_getElem (by omega)] at h1 ⊢
      exact h1
    have ho : o = O i := by rw [hr.op i hin] at h2; exact (Option.some.inj h2).symm
    subst ho
    obtain ⟨hai, hc'⟩ := closed_add hr hc hin (fun e he hb => h3 e he hb)
    have hset : (fun k => (listed.setIfInBounds i true).getD k false) = add1 (fun k => listed.getD k false) i := by
      funext k
      unfold add1
      by_cases hki : k = i
      · subst hki
        simp [Array.getD_eq_getD_getElem?, Array.getElem?_setIfInBounds, hsz, hin]
      · rw [Array.getD_eq_getD_getElem?, Array.getElem?_setIfInBounds_ne (fun e => hki e.symm), ← Array.getD_eq_getD_getElem?]
        have : (k == i) = false := by simpa using hki
        rw [this, Bool.or_false]
    refine inv_step hr hcall hd hc hin hDi hai hinv fun a' w' hinv' => ih _ a' w' (by simp [hsz]) ?_ (by rw [hset]; exact hc') (by rw [hset]; exact hinv')
    have hf : ((List.range ops.size).filter fun k => !(listed.setIfInBounds i true).getD k false) = ((List.range ops.size).filter fun k => !listed.getD k false).filter fun k => k != i := by
      rw [List.filter_filter]
      congr 1
      funext k
      have hk2 : (listed.setIfInBounds i true).getD k false = add1 (fun k => listed.getD k false) i k := congrFun hset k
      rw [hk2]
      show (!(listed.getD k false || (k == i))) = ((k != i) && !listed.getD k false)
      generalize listed.getD k false = p
      cases p <;> cases h2 : (k == i) <;> simp only [bne, h2] <;> rfl
    rw [hf]
    have hlt : (((List.range ops.size).filter fun k => !listed.getD k false).filter fun k => k != i).length < ((List.range ops.size).filter fun k => !listed.getD k false).length :=
      List.length_filter_lt_length_iff_exists.2 ⟨i, List.mem_filter.2 ⟨List.mem_range.2 hin, by simp [hDi]⟩, by simp⟩
    omega

theorem fd_all (hr : Reg cx call ops O T Hh E) (hD : ∀ i, i < ops.size → D i = true) : ∀ k, k ≤ ops.size → (∀ s, (FD D (fun k => (O k).dst) E (T 0) k).get s = (T k).get s) ∧ HD D E (fun k => (Hh k).length) (hget (Hh 0)) k = hget (Hh k) := by
  intro k
  induction k with
  | zero => intro _; exact ⟨fun _ => rfl, rfl⟩
  | succ k ih =>
    intro hk
    obtain ⟨i1, i2⟩ := ih (by omega)
    simp only [FD, HD, hD k (by omega)]
    exact ⟨fun s => by rw [hr.get (by omega)]; exact sett_get i1 _ _ s, by rw [hr.blk (by omega), i2]⟩

theorem draw_ops (hcall : CallsOK cx.P call) {ops : Array Oper} (hd : ∀ o ∈ ops, ∀ d, o.dst = some d → d < nt) {es : List (Eff × Nat)} {t' : Fr} {h' : Heap} (hrun : Run cx call 0 [] ops.toList t h es t' h')
    (hok : regOK ops.toList es.reverse = true) (hs : St X0 n0 ι0 w0 h0 nt t h a w) (hK : ∀ a' w', St X0 n0 ι0 w0 h0 nt t' h' a' w' → Q .normal a' w') : wpAny cx.P .any ops Q ops.size (Array.replicate ops.size false) a w := by
  obtain ⟨hlen, T, Hh, hT0, hH0, hTn, hHn, hst⟩ := run_steps (ops := ops) hrun (by simp) (fun j g hj => by cases hj)
  simp only [Nat.zero_add, Array.length_toList, Nat.sub_zero] at hTn hHn hst hlen
  let O : Nat → Oper := fun k => ops[k]?.getD default
  let E : Nat → Eff := fun k => (((es[k]?).map (·.1)).getD { v := .tup [] })
  have hop : ∀ k, k < ops.size → ops[k]? = some (O k) ∧ es[k]? = some (E k, (Hh k).length) ∧ StepR cx call ops (O k) (T k) (Hh k) (E k) (T (k + 1)) (Hh (k + 1)) := fun k hk => by
    obtain ⟨o, e, g1, g2, g3⟩ := hst k (Nat.zero_le _) hk
    have hO : O k = o := by simp only [O, g1]; rfl
    have hE : E k = e := by simp only [E, g2]; rfl
    rw [hO, hE]
    exact ⟨g1, g2, g3⟩
  unfold regOK at hok
  simp only [List.reverse_reverse, List.all_eq_true, List.mem_range, Array.length_toList, Bool.and_eq_true, Bool.or_eq_true] at hok
  have hr : Reg cx call ops O T Hh E := by
    refine ⟨fun k hk => (hop k hk).1, fun k hk => (hop k hk).2.2, fun i j hij hj => ?_, fun j hj e he hb => ?_⟩
    · have := (hok j hj).2 i hij
      rcases this with h1 | h1
      · left
        rw [List.getD_eq_getElem?_getD]
        simpa using h1
      · right
        simp only [Array.getElem?_toList, (hop i (by omega)).1, (hop j hj).1, (hop i (by omega)).2.1, (hop j hj).2.1] at h1
        exact h1
    · have h1 := (hok j hj).1
      simp only [Array.getElem?_toList, (hop j hj).1, Option.any_some, List.all_eq_true, Bool.or_eq_true, Bool.not_eq_true', decide_eq_true_eq] at h1
      rcases h1 e (Array.mem_toList_iff.2 he) with h2 | h2
      · rw [hb] at h2; cases h2
      · exact h2
  obtain ⟨ι, s1, s2, s3, s4, s5⟩ := hs
  refine wpAny_inv (X0 := X0) (n0 := n0) (ι0 := ι0) (w0 := w0) (h0 := h0) hr hcall hd (fun a w D hD hinv => ?_) ops.size _ a w (by simp) ?_ (fun j hj hDj => ?_) ?_
  · obtain ⟨A, ι, g1, g2, g3, g4, g5⟩ := hinv
    obtain ⟨f1, f2⟩ := fd_all hr hD ops.size (Nat.le_refl _)
    rw [f2, hHn] at g1 g2
    have hA : A = (· < h'.length) := by
      funext i
      apply propext
      rw [g3 i]
      constructor
      · rintro (hi | ⟨j, j1, _, j3, j4⟩)
        · have := hr.mono (Nat.zero_le ops.size) (Nat.le_refl _)
          rw [hHn] at this; omega
        · have := hr.len j1
          have := hr.mono (show j + 1 ≤ ops.size by omega) (Nat.le_refl _)
          rw [hHn] at this; omega
      · intro hi
        have key : ∀ n, n ≤ ops.size → i < (Hh n).length → i < (Hh 0).length ∨ ∃ j, j < ops.size ∧ D j = true ∧ (Hh j).length ≤ i ∧ i < (Hh j).length + (E j).new.length := by
          intro n
          induction n with
          | zero => intro _ h; exact .inl h
          | succ n ih =>
            intro hn hin
            rcases Nat.lt_or_ge i (Hh n).length with h1 | h1
            · exact ih (by omega) h1
            · rw [hr.len (by omega)] at hin
              exact .inr ⟨n, by omega, hD n (by omega), h1, hin⟩
        exact key ops.size (Nat.le_refl _) (by rw [hHn]; exact hi)
    rw [hA] at g1 g2
    refine hK a w ⟨ι, g1.get fun s => by rw [f1 s, hTn], g2, ?_, g4, g5⟩
    have := hr.mono (Nat.zero_le ops.size) (Nat.le_refl _)
    rw [hHn, hH0] at this
    omega
  · refine Nat.le_trans (List.length_filter_le _ _) (by simp)
  · simp only [Array.getD_eq_getD_getElem?, Array.getElem?_replicate] at hDj
    split at hDj <;> cases hDj
  · have hF : ∀ k, FD (fun i => (Array.replicate ops.size false).getD i false) (fun k => (O k).dst) E (T 0) k = T 0 ∧ HD (fun i => (Array.replicate ops.size false).getD i false) E (fun k => (Hh k).length) (hget (Hh 0)) k = hget (Hh 0) := by
      have hff : ∀ i, (Array.replicate ops.size false).getD i false = false := fun i => by
        rw [Array.getD_eq_getD_getElem?, Array.getElem?_replicate]
        split <;> rfl
      intro k
      induction k with
      | zero => exact ⟨rfl, rfl⟩
      | succ k ih => simp only [FD, HD, hff k]; exact ih
    unfold Inv
    rw [(hF ops.size).1, (hF ops.size).2, hT0, hH0]
    refine ⟨_, ι, s1, s2, fun i => ?_, s4, s5⟩
    constructor
    · exact fun hi => .inl hi
    · rintro (hi | ⟨j, _, j2, _⟩)
      · exact hi
      · have j2' : (Array.replicate ops.size false).getD j false = true := j2
        rw [Array.getD_eq_getD_getElem?, Array.getElem?_replicate] at j2'
        split at j2' <;> cases j2'
end
end Sh
