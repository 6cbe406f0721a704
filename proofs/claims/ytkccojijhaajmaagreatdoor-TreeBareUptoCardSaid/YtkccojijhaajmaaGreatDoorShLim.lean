/-
The interpreter without a bound on its depth.
-/
import Derived.Test.YtkccojijhaajmaaGreatDoorShSound
set_option linter.unusedSimpArgs false
set_option linter.unusedVariables false
set_option linter.unusedSectionVars false
set_option linter.unusedSimpArgs false
namespace Sh
open Go

/-- what one gives the other gives -/
def Le {α : Type} (x y : Option α) : Prop := ∀ r, x = some r → y = some r
theorem Le.refl {α : Type} (x : Option α) : Le x x := fun _ h => h
theorem Le.trans {α : Type} {x y z : Option α} (h : Le x y) (k : Le y z) : Le x z := fun r hr => k r (h r hr)

def LeK (K K' : Kont) : Prop := ∀ e t h, Le (K e t h) (K' e t h)
abbrev Calling := FuncId → List AV → Heap → Res
abbrev Looping := (Fr → Heap → Kont → Option (AV × Heap)) → Nat → List Nat → Fr → Heap → Kont → Option (AV × Heap)
abbrev Rounding := Fr → Heap → Kont → Option (AV × Heap)
def LeC (c c' : Calling) : Prop := ∀ f args h, Le (c f args h) (c' f args h)
def LeF (F F' : Rounding) : Prop := (∀ K K', LeK K K' → ∀ t h, Le (F t h K) (F' t h K')) ∧ ∀ K K', LeK K K' → ∀ t h, Le (F' t h K) (F' t h K')
def LeL (l l' : Looping) : Prop := ∀ F F', LeF F F' → ∀ K K', LeK K K' → ∀ n keep t h, Le (l F n keep t h K) (l' F' n keep t h K')

section
variable {cx : Ctx} {call call' : Calling}

theorem exec_le (hc : LeC call call') (o : Oper) (t : Fr) (h : Heap) (base : Nat) : Le (exec cx call o t h base) (exec cx call' o t h base) := by
  intro r hr
  unfold exec at hr ⊢
  split at hr
  · obtain ⟨p, hp, h1⟩ := bindR_ok hr
    obtain ⟨q, hq, h2⟩ := bindR_ok h1
    simp only [bindR, hp, Option.bind_some, hc _ _ _ q hq]
    exact h2
  · exact hr
  · exact hr

theorem Run.le (hc : LeC call call') {n ds os t h es t' h'} (hr : Run cx call n ds os t h es t' h') : Run cx call' n ds os t h es t' h' := by
  induction hr with
  | nil => exact .nil _ _ _ _
  | plain hg hex _ ih => exact .plain hg (exec_le hc _ _ _ _ _ hex) ih
  | yes hg hl hb hex _ ih => exact .yes hg hl hb (exec_le hc _ _ _ _ _ hex) ih
  | no hg hl hb hv _ ih => exact .no hg hl hb hv ih

theorem run_runOps {α : Type} {r : α} {n ds os t h es t' h'} (hr : Run cx call n ds os t h es t' h') : ∀ (lg : List (Eff × Nat)) (K : Fr → Heap → List (Eff × Nat) → Option α) (u v), K t' h' (es.reverse ++ lg) = some r → runOps cx call n ds os t h lg K u v = some r := by
  induction hr with
  | nil => intro lg K u v h; rw [runOps]; simpa using h
  | plain hg hex _ ih =>
    intro lg K u v h
    rw [runOps, hg]
    simp only [bindR, hex, Option.bind_some]
    exact ih _ _ _ _ (by simpa using h)
  | @yes n ds o os t h es t' h' e j want g hg hl hb hex _ ih =>
    intro lg K u v hk
    rw [runOps, hg]
    simp only [hl, hb, beq_self_eq_true, br, bindR, hex, Option.bind_some]
    exact ih _ _ _ _ (by simpa using hk)
  | @no n ds o os t h es t' h' j want g v hg hl hb hv _ ih =>
    intro lg K u v' hk
    rw [runOps, hg]
    rcases hv with rfl | rfl
    · have : ((!want) == want) = false := by cases want <;> rfl
      simp only [hl, hb, this, br]
      exact ih _ _ _ _ (by simpa using hk)
    · simp only [hl, hb]
      exact ih _ _ _ _ (by simpa using hk)

theorem seq_le {next next' : Fr → Heap → Option (AV × Heap)} {K K' : Kont} (h1 : ∀ t h, Le (next t h) (next' t h)) (h2 : LeK K K') : LeK (K.seq next) (K'.seq next') := by
  intro e t h
  cases e <;> first | exact h1 t h | exact h2 _ t h

theorem block_le {id : Nat} {K K' : Kont} (h2 : LeK K K') : LeK (K.block id) (K'.block id) := by
  intro e t h
  cases e
  case exit j =>
    simp only [Kont.block]
    split <;> exact h2 _ t h
  all_goals exact h2 _ t h

theorem code_le {f : FuncId} {n0 : Nat} : ∀ (c : Code) {call call' : Calling} {loop loop' : Looping} (_ : LeC call call') (_ : LeL loop loop') (_ : LeL loop' loop') (blk : Nat) (t : Fr) (h : Heap) (K K' : Kont) (u v u' v'), LeK K K' →
    Le (code cx f call loop n0 blk c t h K u v) (code cx f call' loop' n0 blk c t h K' u' v') := by
  intro c
  induction c with
  | skip => intro _ _ _ _ hc hl hll blk t h K K' u v u' v' hK; exact hK _ t h
  | region id ops draw =>
    intro call call' _ _ hc hl hll blk t h K K' u v u' v' hK r hr
    cases draw with
    | false =>
      obtain ⟨es, t', h', h1, h2⟩ := runOps_run _ _ _ _ _ _ _ _ _ hr
      exact run_runOps (h1.le hc) _ _ _ _ (hK _ _ _ r h2)
    | true =>
      obtain ⟨es, t', h', h1, h2⟩ := runOps_run _ _ _ _ _ _ _ _ _ hr
      refine run_runOps (h1.le hc) _ _ _ _ ?_
      have h2' : (∃ x, ckR (regOK ops.toList (es.reverse ++ [])) (K .normal t' h') x = some r) := ⟨_, h2⟩
      obtain ⟨x, h2'⟩ := h2'
      cases hro : regOK ops.toList (es.reverse ++ []) with
      | false => rw [hro] at h2'; cases h2'
      | true =>
        rw [hro] at h2'
        exact hK _ _ _ r h2'
  | seq x y ihx ihy => intro _ _ _ _ hc hl hll blk t h K K' u v u' v' hK; exact ihx hc hl hll blk t h _ _ _ _ _ _ (seq_le (fun t h => ihy hc hl hll blk t h _ _ _ _ _ _ hK) hK)
  | cond c x y ihx ihy =>
    intro _ _ _ _ hc hl hll blk t h K K' u v u' v' hK r hr
    unfold code at hr ⊢
    split at hr
    · rename_i b hb
      cases b
      · exact ihy hc hl hll blk t h _ _ _ _ _ _ hK r hr
      · exact ihx hc hl hll blk t h _ _ _ _ _ _ hK r hr
    · cases hr
  | block id c ih => intro _ _ _ _ hc hl hll blk t h K K' u v u' v' hK; exact ih hc hl hll id t h _ _ _ _ _ _ (block_le hK)
  | loop c ih =>
    intro _ _ _ _ hc hl hll blk t h K K' u v u' v' hK
    exact hl _ _ ⟨fun K K' hK t h => ih hc hl hll blk t h _ _ _ _ _ _ hK, fun K K' hK t h => ih (fun _ _ _ => Le.refl _) hll hll blk t h _ _ _ _ _ _ hK⟩ K K' hK _ _ t h
  | exit id => intro _ _ _ _ hc hl hll blk t h K K' u v u' v' hK; exact hK _ t h
  | ret => intro _ _ _ _ hc hl hll blk t h K K' u v u' v' hK; exact hK _ t h
  | _ => intro _ _ _ _ hc hl hll blk t h K K' u v u' v' hK r hr; cases hr

theorem loopN_le : ∀ (n m : Nat), n ≤ m → LeL (loopN n) (loopN m)
  | 0, _, _ => fun _ _ _ _ _ _ _ _ _ _ r hr => by cases hr
  | n + 1, 0, h => by omega
  | n + 1, m + 1, h => fun F F' hF K K' hK n0 keep t h' r hr => by
    obtain ⟨s, hs, h1⟩ := bindR_ok hr
    cases hs
    show F' _ _ _ = some r
    exact hF.1 _ _ (seq_le (fun t h' => loopN_le n m (by omega) F F' hF K K' hK n0 keep t h') hK) _ _ r h1

theorem body_le {f : FuncId} {loop loop' : Looping} (hc : LeC call call') (hl : LeL loop loop') (hll : LeL loop' loop') (args : List AV) (h : Heap) : Le (body cx f call loop args h) (body cx f call' loop' args h) := by
  intro r hr
  unfold body at hr ⊢
  split at hr
  · exact hr
  · split at hr
    · cases hr
    · split at hr
      · cases hr
      · exact code_le _ hc hl hll _ _ _ _ _ _ _ _ _ (fun _ _ _ => Le.refl _) r hr

theorem callN_le (cx : Ctx) : ∀ (n m : Nat), n ≤ m → LeC (callN cx n) (callN cx m)
  | 0, _, _ => fun _ _ _ r hr => by cases hr
  | n + 1, 0, h => by omega
  | n + 1, m + 1, h => fun f args h' => body_le (callN_le cx n m (by omega)) (loopN_le n m (by omega)) (loopN_le m m (Nat.le_refl _)) args h'
end

/-! ## The limit -/
open Classical in
noncomputable def lim {α : Type} (x : Nat → Option α) : Option α := if h : ∃ n r, x n = some r then some (choose (choose_spec h)) else none

theorem lim_some {α : Type} {x : Nat → Option α} {r : α} (h : lim x = some r) : ∃ n, x n = some r := by
  unfold lim at h
  split at h
  · rename_i hx
    exact ⟨_, (Classical.choose_spec (Classical.choose_spec hx)).trans h⟩
  · cases h

theorem lim_of {α : Type} {x : Nat → Option α} (hm : ∀ n m, n ≤ m → Le (x n) (x m)) {n : Nat} {r : α} (h : x n = some r) : lim x = some r := by
  have hx : ∃ n r, x n = some r := ⟨n, r, h⟩
  unfold lim
  rw [dif_pos hx]
  have h1 := Classical.choose_spec (Classical.choose_spec hx)
  have h2 := hm _ (max (Classical.choose hx) n) (Nat.le_max_left _ _) _ h1
  have h3 := hm n (max (Classical.choose hx) n) (Nat.le_max_right _ _) _ h
  rw [h3] at h2
  exact congrArg some (Option.some.inj h2).symm

noncomputable def acall (cx : Ctx) : Calling := fun f args h => lim fun n => callN cx n f args h
noncomputable def aloop : Looping := fun F n0 keep t h K => lim fun n => loopN n F n0 keep t h K

theorem acall_sound {cx : Ctx} (hcx : CtxOK cx) : CallsOK cx.P (acall cx) := fun f args h r hr => by
  obtain ⟨n, hn⟩ := lim_some hr
  exact callN_sound hcx n f args h r hn

theorem acall_le (cx : Ctx) (n : Nat) : LeC (callN cx n) (acall cx) := fun f args h _ hr => lim_of (fun n m hnm => callN_le cx n m hnm f args h) hr

theorem aloop_le (n : Nat) : LeL (loopN n) aloop := fun F F' hF K K' hK n0 keep t h r hr =>
  lim_of (n := n) (fun n m hnm => loopN_le n m hnm F' F' ⟨hF.2, hF.2⟩ K' K' (fun _ _ _ => Le.refl _) n0 keep t h) (loopN_le n n (Nat.le_refl _) F F' hF K K' hK n0 keep t h r hr)

theorem aloop_mono : LeL aloop aloop := fun F F' hF K K' hK n0 keep t h r hr => by
  obtain ⟨n, hn⟩ := lim_some hr
  exact aloop_le n F F' hF K K' hK n0 keep t h r hn

section
variable {cx : Ctx}

theorem Run.lim {n ds os t h es t' h'} (hr : Run cx (acall cx) n ds os t h es t' h') : ∃ m, Run cx (callN cx m) n ds os t h es t' h' := by
  have hex : ∀ (o : Oper) (t : Fr) (h : Heap) (base : Nat) (e : Eff), exec cx (acall cx) o t h base = some e → ∃ m, exec cx (callN cx m) o t h base = some e := fun o t h base e he => by
    unfold exec at he ⊢
    split at he
    · obtain ⟨p, hp, h1⟩ := bindR_ok he
      obtain ⟨q, hq, h2⟩ := bindR_ok h1
      obtain ⟨m, hm⟩ := lim_some hq
      refine ⟨m, ?_⟩
      simp only [bindR, hp, Option.bind_some, hm]
      exact h2
    · exact ⟨0, he⟩
    · exact ⟨0, he⟩
  induction hr with
  | nil => exact ⟨0, .nil _ _ _ _⟩
  | plain hg he _ ih =>
    obtain ⟨m1, h1⟩ := hex _ _ _ _ _ he
    obtain ⟨m2, h2⟩ := ih
    exact ⟨max m1 m2, .plain hg (exec_le (callN_le cx _ _ (Nat.le_max_left m1 m2)) _ _ _ _ _ h1) (h2.le (callN_le cx _ _ (Nat.le_max_right m1 m2)))⟩
  | yes hg hl hb he _ ih =>
    obtain ⟨m1, h1⟩ := hex _ _ _ _ _ he
    obtain ⟨m2, h2⟩ := ih
    exact ⟨max m1 m2, .yes hg hl hb (exec_le (callN_le cx _ _ (Nat.le_max_left m1 m2)) _ _ _ _ _ h1) (h2.le (callN_le cx _ _ (Nat.le_max_right m1 m2)))⟩
  | no hg hl hb hv _ ih =>
    obtain ⟨m2, h2⟩ := ih
    exact ⟨m2, .no hg hl hb hv h2⟩

/-- a row of continuations and its limit -/
structure Fam (K : Nat → Kont) (L : Kont) : Prop where
  mono : ∀ n m, n ≤ m → LeK (K n) (K m)
  lim : ∀ e t h r, L e t h = some r → ∃ n, K n e t h = some r

theorem code_mono {f : FuncId} {n0 : Nat} (c : Code) (blk : Nat) {K : Nat → Kont} {L : Kont} (hK : Fam K L) {n m : Nat} (hnm : n ≤ m) (t : Fr) (h : Heap) (u v u' v') :
    Le (code cx f (callN cx n) (loopN n) n0 blk c t h (K n) u v) (code cx f (callN cx m) (loopN m) n0 blk c t h (K m) u' v') :=
  code_le c (callN_le cx n m hnm) (loopN_le n m hnm) (loopN_le m m (Nat.le_refl _)) blk t h _ _ _ _ _ _ (hK.mono n m hnm)

theorem code_F {f : FuncId} {n0 : Nat} (c : Code) (blk : Nat) {n m : Nat} (hnm : n ≤ m) : LeF (fun t h K => code cx f (callN cx n) (loopN n) n0 blk c t h K) (fun t h K => code cx f (callN cx m) (loopN m) n0 blk c t h K) :=
  ⟨fun _ _ hK t h => code_le c (callN_le cx n m hnm) (loopN_le n m hnm) (loopN_le m m (Nat.le_refl _)) blk t h _ _ _ _ _ _ hK,
    fun _ _ hK t h => code_le c (fun _ _ _ => Le.refl _) (loopN_le m m (Nat.le_refl _)) (loopN_le m m (Nat.le_refl _)) blk t h _ _ _ _ _ _ hK⟩

theorem Fam.seq {K : Nat → Kont} {L : Kont} (hK : Fam K L) {next : Nat → Fr → Heap → Option (AV × Heap)} {nextL : Fr → Heap → Option (AV × Heap)} (h1 : ∀ n m, n ≤ m → ∀ t h, Le (next n t h) (next m t h)) (h2 : ∀ t h r, nextL t h = some r → ∃ n, next n t h = some r) :
    Fam (fun n => (K n).seq (next n)) (L.seq nextL) :=
  ⟨fun n m hnm => seq_le (h1 n m hnm) (hK.mono n m hnm), fun e t h r hr => by
    cases e
    case normal => exact h2 t h r hr
    all_goals exact hK.lim _ t h r hr⟩

theorem Fam.block {K : Nat → Kont} {L : Kont} (hK : Fam K L) (id : Nat) : Fam (fun n => (K n).block id) (L.block id) :=
  ⟨fun n m hnm => block_le (hK.mono n m hnm), fun e t h r hr => by
    cases e
    case exit j =>
      simp only [Kont.block] at hr ⊢
      split at hr
      · rename_i hj; obtain ⟨n, hn⟩ := hK.lim _ t h r hr; exact ⟨n, by rw [if_pos hj]; exact hn⟩
      · rename_i hj; obtain ⟨n, hn⟩ := hK.lim _ t h r hr; exact ⟨n, by rw [if_neg hj]; exact hn⟩
    all_goals exact hK.lim _ t h r hr⟩

theorem code_lim {f : FuncId} {n0 : Nat} : ∀ (c : Code) (blk : Nat) (t : Fr) (h : Heap) (K : Nat → Kont) (L : Kont) (u v) (r : AV × Heap), Fam K L → code cx f (acall cx) aloop n0 blk c t h L u v = some r → ∃ n, code cx f (callN cx n) (loopN n) n0 blk c t h (K n) = some r := by
  intro c
  induction c with
  | skip => intro blk t h K L u v r hK hr; exact hK.lim _ t h r hr
  | exit id => intro blk t h K L u v r hK hr; exact hK.lim _ t h r hr
  | ret => intro blk t h K L u v r hK hr; exact hK.lim _ t h r hr
  | region id ops draw =>
    intro blk t h K L u v r hK hr
    cases draw with
    | false =>
      obtain ⟨es, t', h', h1, h2⟩ := runOps_run _ _ _ _ _ _ _ _ _ hr
      obtain ⟨m, hm⟩ := h1.lim
      obtain ⟨k, hk⟩ := hK.lim _ _ _ r h2
      exact ⟨max m k, run_runOps (hm.le (callN_le cx _ _ (Nat.le_max_left m k))) _ _ _ _ (hK.mono k (max m k) (Nat.le_max_right m k) _ _ _ r hk)⟩
    | true =>
      obtain ⟨es, t', h', h1, h2⟩ := runOps_run _ _ _ _ _ _ _ _ _ hr
      obtain ⟨m, hm⟩ := h1.lim
      have h2' : (∃ x, ckR (regOK ops.toList (es.reverse ++ [])) (L .normal t' h') x = some r) := ⟨_, h2⟩
      obtain ⟨x, h2'⟩ := h2'
      cases hro : regOK ops.toList (es.reverse ++ []) with
      | false => rw [hro] at h2'; cases h2'
      | true =>
        rw [hro] at h2'
        obtain ⟨k, hk⟩ := hK.lim _ _ _ r h2'
        refine ⟨max m k, run_runOps (hm.le (callN_le cx _ _ (Nat.le_max_left m k))) _ _ _ _ ?_⟩
        have hfin := hK.mono k (max m k) (Nat.le_max_right m k) _ _ _ r hk
        have : ∀ (b : Bool) (x) (_ : b = true), ckR b (K (max m k) .normal t' h') x = some r := fun b x hb => by subst hb; exact hfin
        exact this _ _ hro
  | seq x y ihx ihy =>
    intro blk t h K L u v r hK hr
    exact ihx blk t h _ _ _ _ r (hK.seq (fun n m hnm t h => code_mono y blk hK hnm t h _ _ _ _) (fun t h r hr => ihy blk t h K L _ _ r hK hr)) hr
  | cond c x y ihx ihy =>
    intro blk t h K L u v r hK hr
    unfold code at hr
    split at hr
    · rename_i b hb
      cases b
      · obtain ⟨n, hn⟩ := ihy blk t h K L _ _ r hK hr
        exact ⟨n, by unfold code; rw [hb]; exact hn⟩
      · obtain ⟨n, hn⟩ := ihx blk t h K L _ _ r hK hr
        exact ⟨n, by unfold code; rw [hb]; exact hn⟩
    · cases hr
  | block id c ih => intro blk t h K L u v r hK hr; exact ih id t h _ _ _ _ r (hK.block id) hr
  | loop c ih =>
    intro blk t h K L u v r hK hr
    obtain ⟨m, hm⟩ := lim_some (show lim (fun n => loopN n (fun t h K => code cx f (acall cx) aloop n0 blk c t h K) n0 (cx.keep f blk) t h L) = some r from hr)
    have key : ∀ (m : Nat) t h r, loopN m (fun t h K => code cx f (acall cx) aloop n0 blk c t h K) n0 (cx.keep f blk) t h L = some r →
        ∃ n, loopN n (fun t h K => code cx f (callN cx n) (loopN n) n0 blk c t h K) n0 (cx.keep f blk) t h (K n) = some r := by
      intro m
      induction m with
      | zero => intro t h r hr; cases hr
      | succ m ihm =>
        intro t h r hr
        obtain ⟨s, hs, h1⟩ := bindR_ok hr
        cases hs
        have hfam : Fam (fun n => (K n).seq fun t h => loopN n (fun t h K => code cx f (callN cx n) (loopN n) n0 blk c t h K) n0 (cx.keep f blk) t h (K n)) (L.seq fun t h => loopN m (fun t h K => code cx f (acall cx) aloop n0 blk c t h K) n0 (cx.keep f blk) t h L) :=
          hK.seq (fun n m hnm t h => loopN_le n m hnm _ _ (code_F c blk hnm) _ _ (hK.mono n m hnm) n0 _ t h) ihm
        obtain ⟨n, hn⟩ := ih blk _ _ _ _ _ _ r hfam h1
        refine ⟨n + 1, ?_⟩
        have h2 : loopN (n + 1) (fun t h K => code cx f (callN cx n) (loopN n) n0 blk c t h K) n0 (cx.keep f blk) t h (K n) = some r := hn
        exact loopN_le (n + 1) (n + 1) (Nat.le_refl _) _ _ (code_F c blk (Nat.le_succ n)) _ _ (hK.mono n (n + 1) (Nat.le_succ n)) n0 _ t h r h2
    exact key m t h r hm
  | _ => intro blk t h K L u v r hK hr; cases hr

/-- A FUNCTION IS ITS BODY. -/
theorem acall_eq (f : FuncId) (args : List AV) (h : Heap) : acall cx f args h = body cx f (acall cx) aloop args h := by
  apply Option.ext
  intro r
  constructor
  · intro hr
    obtain ⟨n, hn⟩ := lim_some hr
    cases n with
    | zero => cases hn
    | succ n => exact body_le (acall_le cx n) (aloop_le n) aloop_mono args h r hn
  · intro hr
    have key : ∃ n, body cx f (callN cx n) (loopN n) args h = some r := by
      unfold body at hr ⊢
      split at hr
      · exact ⟨0, hr⟩
      · split at hr
        · cases hr
        · split at hr
          · cases hr
          · exact code_lim _ _ _ _ (fun _ => fin cx f h.length _) _ _ _ r ⟨fun _ _ _ _ _ _ => Le.refl _, fun _ _ _ _ hr => ⟨0, hr⟩⟩ hr
    obtain ⟨n, hn⟩ := key
    exact lim_of (n := n + 1) (fun n m hnm => callN_le cx n m hnm f args h) hn

theorem code_FL {f : FuncId} {n0 : Nat} (c : Code) (blk : Nat) : LeF (fun t h K => code cx f (acall cx) aloop n0 blk c t h K) (fun t h K => code cx f (acall cx) aloop n0 blk c t h K) :=
  ⟨fun _ _ hK t h => code_le c (fun _ _ _ => Le.refl _) aloop_mono aloop_mono blk t h _ _ _ _ _ _ hK,
    fun _ _ hK t h => code_le c (fun _ _ _ => Le.refl _) aloop_mono aloop_mono blk t h _ _ _ _ _ _ hK⟩

/-- A LOOP's ROUND. -/
theorem aloop_eq {f : FuncId} {n0 : Nat} (c : Code) (blk : Nat) (keep : List Nat) (t : Fr) (h : Heap) (K : Kont) :
    aloop (fun t h K => code cx f (acall cx) aloop n0 blk c t h K) n0 keep t h K =
      code cx f (acall cx) aloop n0 blk c (canon n0 keep t h).1 (canon n0 keep t h).2 (K.seq fun t h => aloop (fun t h K => code cx f (acall cx) aloop n0 blk c t h K) n0 keep t h K) := by
  apply Option.ext
  intro r
  have hself := code_FL (cx := cx) (f := f) (n0 := n0) c blk
  have hle : ∀ n t h, Le (loopN n (fun t h K => code cx f (acall cx) aloop n0 blk c t h K) n0 keep t h K) (aloop (fun t h K => code cx f (acall cx) aloop n0 blk c t h K) n0 keep t h K) := fun n t h =>
    aloop_le n _ _ hself K K (fun _ _ _ => Le.refl _) n0 keep t h
  constructor
  · intro hr
    obtain ⟨n, hn⟩ := lim_some hr
    cases n with
    | zero => cases hn
    | succ n =>
      obtain ⟨s, hs, h1⟩ := bindR_ok hn
      cases hs
      exact hself.1 _ _ (seq_le (fun t h => hle n t h) (fun _ _ _ => Le.refl _)) _ _ r h1
  · intro hr
    have hfam : Fam (fun n => K.seq fun t h => loopN n (fun t h K => code cx f (acall cx) aloop n0 blk c t h K) n0 keep t h K) (K.seq fun t h => aloop (fun t h K => code cx f (acall cx) aloop n0 blk c t h K) n0 keep t h K) :=
      ⟨fun n m hnm => seq_le (fun t h => loopN_le n m hnm _ _ hself K K (fun _ _ _ => Le.refl _) n0 keep t h) (fun _ _ _ => Le.refl _), fun e t h r hr => by
        cases e
        case normal => exact lim_some hr
        all_goals exact ⟨0, hr⟩⟩
    obtain ⟨n, hn⟩ := code_lim c blk _ _ _ _ _ _ r hfam hr
    have h2 : loopN (n + 1) (fun t h K => code cx f (acall cx) aloop n0 blk c t h K) n0 keep t h K = some r :=
      code_le c (acall_le cx n) (aloop_le n) aloop_mono blk _ _ _ _ _ _ _ _ (fun _ _ _ => Le.refl _) r hn
    exact hle (n + 1) t h r h2
end
end Sh
