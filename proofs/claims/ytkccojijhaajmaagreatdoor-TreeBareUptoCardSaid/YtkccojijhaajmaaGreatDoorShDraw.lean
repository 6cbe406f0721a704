/-
The operations of a region that may come in any order.
-/
import Derived.Test.YtkccojijhaajmaaGreatDoorShCode
import Derived.Orders
set_option linter.unusedSimpArgs false
set_option linter.unusedVariables false
set_option linter.unusedSectionVars false
set_option linter.unusedSimpArgs false
namespace Sh
open Go

section
variable {X0 : Nat → Prop} {w : World} {h : Heap} {t : Fr} {a : Act} {cx : Ctx} {call : FuncId → List AV → Heap → Res}

/-- one step of a region -/
def StepR (cx : Ctx) (call : FuncId → List AV → Heap → Res) (ops : Array Oper) (o : Oper) (t : Fr) (h : Heap) (e : Eff) (t' : Fr) (h' : Heap) : Prop :=
  (∃ te : Fr, (∀ s, te.get s = t.get s) ∧ exec cx call o te h h.length = some e ∧ (o.guard = none ∨ ∃ j want g, o.guard = some (j, want) ∧ (ops[j]?).bind (·.dst) = some g ∧ t.get g = .bool want) ∧
    (∀ s, t'.get s = (sett t o.dst e.v).get s) ∧ h' = puth h e.wr ++ e.new) ∨
  (e = { v := .tup [] } ∧ (∃ j want g, o.guard = some (j, want) ∧ (ops[j]?).bind (·.dst) = some g ∧ (t.get g = .bool (!want) ∨ t.get g = .tup [])) ∧ (∀ s, t'.get s = (sett t o.dst (.tup [])).get s) ∧ h' = h)

theorem sett_get {t1 t2 : Fr} (h : ∀ s, t1.get s = t2.get s) (d : Option Tmp) (v : AV) (s : Nat) : (sett t1 d v).get s = (sett t2 d v).get s := by
  cases d with
  | none => exact h s
  | some d =>
    show (if d = s then v else t1.get s) = (if d = s then v else t2.get s)
    rw [h s]

theorem run_steps {ops : Array Oper} : ∀ {n ds os t h es t' h'}, Run cx call n ds os t h es t' h' → ops.toList.drop n = os → (∀ j g, lookT ds j = some g → (ops[j]?).bind (·.dst) = some g) →
    es.length = os.length ∧ ∃ (T : Nat → Fr) (Hh : Nat → Heap), T n = t ∧ Hh n = h ∧ T (n + os.length) = t' ∧ Hh (n + os.length) = h' ∧
      ∀ k, n ≤ k → k < n + os.length → ∃ o e, ops[k]? = some o ∧ es[k - n]? = some (e, (Hh k).length) ∧ StepR cx call ops o (T k) (Hh k) e (T (k + 1)) (Hh (k + 1)) := by
  intro n ds os t h es t' h' hr
  have step : ∀ {n : Nat} {o : Oper} {os : List Oper} {ds : List (Nat × Tmp)}, ops.toList.drop n = o :: os → (∀ j g, lookT ds j = some g → (ops[j]?).bind (·.dst) = some g) →
      ops[n]? = some o ∧ ops.toList.drop (n + 1) = os ∧ (∀ j g, lookT (sets ds n o.dst) j = some g → (ops[j]?).bind (·.dst) = some g) := fun {n o os ds} hos hds => by
    have hn : n < ops.toList.length := by
      rcases Nat.lt_or_ge n ops.toList.length with h | h
      · exact h
      · rw [List.drop_eq_nil_of_le h] at hos; cases hos
    rw [List.drop_eq_getElem_cons hn] at hos
    simp only [List.cons.injEq] at hos
    obtain ⟨ho, hos⟩ := hos
    have hno : ops[n]? = some o := by rw [← Array.getElem?_toList, List.getElem?_eq_getElem hn, ho]
    refine ⟨hno, hos, fun j g hj => ?_⟩
    cases hdst : o.dst with
    | none => rw [hdst] at hj; exact hds j g hj
    | some d =>
      rw [hdst] at hj
      simp only [sets, lookT] at hj
      split at hj
      · rename_i hnj
        subst hnj
        cases hj
        rw [hno]; exact hdst
      · exact hds j g hj
  have glue : ∀ {n : Nat} {o : Oper} {os : List Oper} {t t1 t' : Fr} {h h1 h' : Heap} {e : Eff} {es : List (Eff × Nat)}, ops[n]? = some o → StepR cx call ops o t h e t1 h1 →
      (es.length = os.length ∧ ∃ (T : Nat → Fr) (Hh : Nat → Heap), T (n + 1) = t1 ∧ Hh (n + 1) = h1 ∧ T (n + 1 + os.length) = t' ∧ Hh (n + 1 + os.length) = h' ∧
        ∀ k, n + 1 ≤ k → k < n + 1 + os.length → ∃ o e, ops[k]? = some o ∧ es[k - (n + 1)]? = some (e, (Hh k).length) ∧ StepR cx call ops o (T k) (Hh k) e (T (k + 1)) (Hh (k + 1))) →
      (((e, h.length) :: es).length = (o :: os).length ∧ ∃ (T : Nat → Fr) (Hh : Nat → Heap), T n = t ∧ Hh n = h ∧ T (n + (o :: os).length) = t' ∧ Hh (n + (o :: os).length) = h' ∧
        ∀ k, n ≤ k → k < n + (o :: os).length → ∃ o' e', ops[k]? = some o' ∧ ((e, h.length) :: es)[k - n]? = some (e', (Hh k).length) ∧ StepR cx call ops o' (T k) (Hh k) e' (T (k + 1)) (Hh (k + 1))) := by
    intro n o os t t1 t' h h1 h' e es hno hst ⟨hl, T, Hh, h2, h3, h4, h5, h6⟩
    refine ⟨by simp [hl], fun i => if i = n then t else T i, fun i => if i = n then h else Hh i, by simp, by simp, ?_, ?_, fun k hk1 hk2 => ?_⟩
    · simp only [List.length_cons]
      rw [if_neg (by omega), show n + (os.length + 1) = n + 1 + os.length by omega]; exact h4
    · simp only [List.length_cons]
      rw [if_neg (by omega), show n + (os.length + 1) = n + 1 + os.length by omega]; exact h5
    · by_cases hkn : k = n
      · subst hkn
        refine ⟨o, e, hno, by simp, ?_⟩
        simp only [if_true]
        rw [if_neg (by omega), if_neg (by omega), h2, h3]
        exact hst
      · obtain ⟨o', e', g1, g2, g3⟩ := h6 k (by omega) (by simp only [List.length_cons] at hk2; omega)
        refine ⟨o', e', g1, ?_, ?_⟩
        · simp only [if_neg hkn]
          rw [show k - n = (k - (n + 1)) + 1 by omega]
          exact g2
        · simp only [if_neg hkn]
          rw [if_neg (by omega), if_neg (by omega)]
          exact g3
  induction hr with
  | nil n ds t h => intro hos _; exact ⟨rfl, fun _ => t, fun _ => h, rfl, rfl, rfl, rfl, fun k h1 h2 => by simp at h2; omega⟩
  | @plain n ds o os t h es t' h' e hg hex hr ih =>
    intro hos hds
    obtain ⟨hno, hos', hds'⟩ := step hos hds
    exact glue hno (.inl ⟨t, fun _ => rfl, hex, .inl hg, fun _ => rfl, rfl⟩) (ih hos' hds')
  | @yes n ds o os t h es t' h' e j want g hg hl hb hex hr ih =>
    intro hos hds
    obtain ⟨hno, hos', hds'⟩ := step hos hds
    exact glue hno (.inl ⟨_, get_put hb, hex, .inr ⟨j, want, g, hg, hds j g hl, hb⟩, fun s => sett_get (get_put hb) _ _ s, rfl⟩) (ih hos' hds')
  | @no n ds o os t h es t' h' j want g v hg hl hb hv hr ih =>
    intro hos hds
    obtain ⟨hno, hos', hds'⟩ := step hos hds
    exact glue hno (.inr ⟨rfl, ⟨j, want, g, hg, hds j g hl, hv.elim (fun e => .inl (hb.trans e)) (fun e => .inr (hb.trans e))⟩, fun s => sett_get (get_put hb) _ _ s, rfl⟩) (ih hos' hds')

/-! ## What stands ahead of what -/
theorem ahead_spec : ∀ (ops : List Oper) (acc : List (List Nat)), ∃ r, (ops.foldl (fun acc o => acc ++ [o.after.toList.foldl (fun s e => if Region.binds .any e then (e.on :: (acc.getD e.on []) ++ s).eraseDups else s) []]) acc) = acc ++ r ∧ r.length = ops.length
  | [], acc => ⟨[], by simp⟩
  | o :: ops, acc => by
    obtain ⟨r, h1, h2⟩ := ahead_spec ops (acc ++ [o.after.toList.foldl (fun s e => if Region.binds .any e then (e.on :: (acc.getD e.on []) ++ s).eraseDups else s) []])
    exact ⟨_ :: r, by rw [List.foldl_cons, h1, List.append_assoc]; rfl, by simp [h2]⟩

theorem after_mem {L : List (List Nat)} {i : Nat} : ∀ (l : List Edge) (s : List Nat), i ∈ l.foldl (fun s e => if Region.binds .any e then (e.on :: (L.getD e.on []) ++ s).eraseDups else s) s → i ∈ s ∨ ∃ e ∈ l, Region.binds .any e = true ∧ (i = e.on ∨ i ∈ L.getD e.on [])
  | [], s, h => .inl h
  | e :: l, s, h => by
    rw [List.foldl_cons] at h
    rcases after_mem l _ h with h1 | ⟨e', h1, h2, h3⟩
    · split at h1
      · rename_i hb
        rw [List.mem_eraseDups] at h1
        rcases List.mem_append.1 h1 with h1 | h1
        · rcases List.mem_cons.1 h1 with h1 | h1
          · exact .inr ⟨e, by simp, hb, .inl h1⟩
          · exact .inr ⟨e, by simp, hb, .inr h1⟩
        · exact .inl h1
      · exact .inl h1
    · exact .inr ⟨e', List.mem_cons_of_mem _ h1, h2, h3⟩

theorem ahead_of : ∀ (ops : List Oper) (acc : List (List Nat)) (j : Nat) (o : Oper), ops[j]? = some o → ∀ i, i ∈ ((ops.foldl (fun acc o => acc ++ [o.after.toList.foldl (fun s e => if Region.binds .any e then (e.on :: (acc.getD e.on []) ++ s).eraseDups else s) []]) acc).getD (acc.length + j) []) →
    ∃ e ∈ o.after.toList, Region.binds .any e = true ∧ (i = e.on ∨ i ∈ ((ops.foldl (fun acc o => acc ++ [o.after.toList.foldl (fun s e => if Region.binds .any e then (e.on :: (acc.getD e.on []) ++ s).eraseDups else s) []]) acc).getD e.on []))
  | [], acc, j, o, h, _, _ => by simp at h
  | o' :: ops, acc, j, o, h, i, hi => by
    rw [List.foldl_cons] at hi ⊢
    obtain ⟨r, hr, _⟩ := ahead_spec ops (acc ++ [o'.after.toList.foldl (fun s e => if Region.binds .any e then (e.on :: (acc.getD e.on []) ++ s).eraseDups else s) []])
    cases j with
    | zero =>
      simp only [List.getElem?_cons_zero, Option.some.injEq] at h
      subst h
      rw [hr] at hi ⊢
      rw [Nat.add_zero, List.append_assoc, List.getD_eq_getElem?_getD, List.getElem?_append_right (Nat.le_refl _)] at hi
      simp only [Nat.sub_self, List.singleton_append, List.getElem?_cons_zero, Option.getD_some] at hi
      rcases after_mem _ _ hi with h1 | ⟨e, h1, h2, h3⟩
      · simp at h1
      · refine ⟨e, h1, h2, ?_⟩
        rcases h3 with h3 | h3
        · exact .inl h3
        · right
          have hlt : e.on < acc.length := by
            rcases Nat.lt_or_ge e.on acc.length with h | h
            · exact h
            · rw [List.getD_eq_getElem?_getD, List.getElem?_eq_none h] at h3; simp at h3
          rw [List.append_assoc, List.getD_eq_getElem?_getD, List.getElem?_append_left hlt, ← List.getD_eq_getElem?_getD]
          exact h3
    | succ j =>
      simp only [List.getElem?_cons_succ] at h
      have := ahead_of ops (acc ++ [o'.after.toList.foldl (fun s e => if Region.binds .any e then (e.on :: (acc.getD e.on []) ++ s).eraseDups else s) []]) j o h i (by
        rw [List.length_append, List.length_singleton, show acc.length + 1 + j = acc.length + (j + 1) by omega]; exact hi)
      exact this
end
end Sh
/-
The operations of a region that may come in any order: the state behind any of them.
-/
set_option linter.unusedSimpArgs false
namespace Sh
open Go

section
variable {X0 : Nat → Prop} {w : World} {h : Heap} {t : Fr} {a : Act} {cx : Ctx} {call : FuncId → List AV → Heap → Res}

/-- the frame behind those of the first k operations that are done -/
def FD (D : Nat → Bool) (ds : Nat → Option Tmp) (E : Nat → Eff) (t : Fr) : Nat → Fr
  | 0 => t
  | k + 1 => match D k with
    | true => sett (FD D ds E t k) (ds k) (E k).v
    | false => FD D ds E t k

/-- and the blocks -/
def HD (D : Nat → Bool) (E : Nat → Eff) (B : Nat → Nat) (H : Nat → Option Blk) : Nat → Nat → Option Blk
  | 0 => H
  | k + 1 => match D k with
    | true => upd (HD D E B H k) (E k) (B k)
    | false => HD D E B H k

theorem sett_get' {t1 t2 : Fr} {s : Nat} (h : t1.get s = t2.get s) {d : Option Tmp} {v : AV} : (sett t1 d v).get s = (sett t2 d v).get s := by
  cases d with
  | none => exact h
  | some d =>
    show (if d = s then v else t1.get s) = (if d = s then v else t2.get s)
    rw [h]

def add1 (D : Nat → Bool) (i : Nat) : Nat → Bool := fun k => D k || k == i

theorem upd_other {H : Nat → Option Blk} {e : Eff} {b r : Nat} (h1 : ∀ p ∈ e.wr, p.1 ≠ r) (h2 : ¬ (b ≤ r ∧ r < b + e.new.length)) : upd H e b r = H r := by
  unfold upd
  rw [if_neg h2]
  have : ∀ (l : List (Nat × Option Blk)), (∀ p ∈ l, p.1 ≠ r) → wrGet l r = none := by
    intro l
    induction l with
    | nil => intro _; rfl
    | cons p l ih =>
      intro hl
      obtain ⟨j, x⟩ := p
      simp only [wrGet, ih (fun q hq => hl q (List.mem_cons_of_mem _ hq))]
      rw [if_neg (hl (j, x) (by simp))]
  rw [this _ h1]

theorem upd_hit {H H' : Nat → Option Blk} {e : Eff} {b r : Nat} (h : (∃ p ∈ e.wr, p.1 = r) ∨ (b ≤ r ∧ r < b + e.new.length)) : upd H e b r = upd H' e b r := by
  unfold upd
  by_cases h2 : b ≤ r ∧ r < b + e.new.length
  · rw [if_pos h2, if_pos h2]
  · rw [if_neg h2, if_neg h2]
    have hp := h.resolve_right h2
    have : ∀ (l : List (Nat × Option Blk)), (∃ p ∈ l, p.1 = r) → ∃ x, wrGet l r = some x := by
      intro l
      induction l with
      | nil => intro ⟨p, hp, _⟩; simp at hp
      | cons q l ih =>
        intro ⟨p, hp, hr⟩
        obtain ⟨j, x⟩ := q
        simp only [wrGet]
        cases hw : wrGet l r with
        | some y => exact ⟨y, rfl⟩
        | none =>
          rcases List.mem_cons.1 hp with rfl | hp
          · exact ⟨x, by simp only; rw [if_pos hr]⟩
          · obtain ⟨y, hy⟩ := ih ⟨p, hp, hr⟩
            rw [hw] at hy; cases hy
    obtain ⟨x, hx⟩ := this _ hp
    rw [hx]

/-- two effects that don't meet -/
theorem upd_comm {H : Nat → Option Blk} {e1 e2 : Eff} {b1 b2 : Nat} (h : ∀ r, ((∃ p ∈ e1.wr, p.1 = r) ∨ (b1 ≤ r ∧ r < b1 + e1.new.length)) → ¬ ((∃ p ∈ e2.wr, p.1 = r) ∨ (b2 ≤ r ∧ r < b2 + e2.new.length))) :
    upd (upd H e1 b1) e2 b2 = upd (upd H e2 b2) e1 b1 := by
  funext r
  by_cases h1 : (∃ p ∈ e1.wr, p.1 = r) ∨ (b1 ≤ r ∧ r < b1 + e1.new.length)
  · have h2 := h r h1
    have h3 : ∀ p ∈ e2.wr, p.1 ≠ r := fun p hp e => h2 (.inl ⟨p, hp, e⟩)
    have h4 : ¬ (b2 ≤ r ∧ r < b2 + e2.new.length) := fun e => h2 (.inr e)
    rw [upd_other h3 h4, upd_hit h1]
  · have h3 : ∀ p ∈ e1.wr, p.1 ≠ r := fun p hp e => h1 (.inl ⟨p, hp, e⟩)
    have h4 : ¬ (b1 ≤ r ∧ r < b1 + e1.new.length) := fun e => h1 (.inr e)
    rw [upd_other (H := upd H e2 b2) h3 h4]
    by_cases h2 : (∃ p ∈ e2.wr, p.1 = r) ∨ (b2 ≤ r ∧ r < b2 + e2.new.length)
    · exact upd_hit h2
    · have h5 : ∀ p ∈ e2.wr, p.1 ≠ r := fun p hp e => h2 (.inl ⟨p, hp, e⟩)
      have h6 : ¬ (b2 ≤ r ∧ r < b2 + e2.new.length) := fun e => h2 (.inr e)
      rw [upd_other h5 h6, upd_other h5 h6, upd_other h3 h4]

/-- What is known of a region that was run in its own order. -/
structure Reg (cx : Ctx) (call : FuncId → List AV → Heap → Res) (ops : Array Oper) (O : Nat → Oper) (T : Nat → Fr) (Hh : Nat → Heap) (E : Nat → Eff) : Prop where
  op : ∀ k, k < ops.size → ops[k]? = some (O k)
  step : ∀ k, k < ops.size → StepR cx call ops (O k) (T k) (Hh k) (E k) (T (k + 1)) (Hh (k + 1))
  ap : ∀ i j, i < j → j < ops.size → i ∈ (ahead ops.toList).getD j [] ∨ apart (ops.toList.map (·.dst)) (O i) (O j) (.of (E i, (Hh i).length)) (.of (E j, (Hh j).length)) = true
  back : ∀ j, j < ops.size → ∀ e ∈ (O j).after, Region.binds .any e = true → e.on < j

variable {ops : Array Oper} {O : Nat → Oper} {T : Nat → Fr} {Hh : Nat → Heap} {E : Nat → Eff}

theorem Reg.len (hr : Reg cx call ops O T Hh E) {k : Nat} (hk : k < ops.size) : (Hh (k + 1)).length = (Hh k).length + (E k).new.length := by
  rcases hr.step k hk with ⟨te, _, _, _, _, h5⟩ | ⟨h1, _, _, h4⟩
  · rw [h5, List.length_append, puth_len]
  · rw [h4, h1]; rfl

theorem Reg.mono (hr : Reg cx call ops O T Hh E) : ∀ {i j : Nat}, i ≤ j → j ≤ ops.size → (Hh i).length ≤ (Hh j).length := by
  intro i j hij
  induction j with
  | zero => intro _; have : i = 0 := by omega
            subst this; exact Nat.le_refl _
  | succ j ih =>
    intro hj
    by_cases h1 : i = j + 1
    · subst h1; exact Nat.le_refl _
    · have := ih (by omega) (by omega)
      rw [hr.len (by omega)]
      omega

theorem Reg.get (hr : Reg cx call ops O T Hh E) {k : Nat} (hk : k < ops.size) (s : Nat) : (T (k + 1)).get s = (sett (T k) (O k).dst (E k).v).get s := by
  rcases hr.step k hk with ⟨te, _, _, _, h4, _⟩ | ⟨h1, _, h3, _⟩
  · exact h4 s
  · rw [h3 s, h1]

theorem Reg.wr (hr : Reg cx call ops O T Hh E) {k : Nat} (hk : k < ops.size) : ∀ p ∈ (E k).wr, p.1 ∈ (E k).rd ∧ (p.2.isSome = true → p.1 < (Hh k).length) := by
  rcases hr.step k hk with ⟨te, _, h2, _⟩ | ⟨h1, _⟩
  · exact exec_wr h2
  · rw [h1]; simp

theorem Reg.blk (hr : Reg cx call ops O T Hh E) {k : Nat} (hk : k < ops.size) : hget (Hh (k + 1)) = upd (hget (Hh k)) (E k) (Hh k).length := by
  rcases hr.step k hk with ⟨te, _, h2, _, _, h5⟩ | ⟨h1, _, _, h4⟩
  · rw [h5, hget_upd _ _ (fun p hp hs => (exec_wr h2 p hp).2 hs)]
  · rw [h4, h1, upd_none]

/-- what 'apart' says -/
theorem apart_spec {dl : List (Option Tmp)} {o p : Oper} {x y : Eff × Nat} (h : apart dl o p (.of x) (.of y) = true) :
    (∀ d, o.dst = some d → d ∉ Oper.looks dl p ∧ p.dst ≠ some d) ∧ (∀ d, p.dst = some d → d ∉ Oper.looks dl o) ∧
    (∀ r, ((∃ q ∈ x.1.wr, q.1 = r) ∨ (x.2 ≤ r ∧ r < x.2 + x.1.new.length)) → r ∉ y.1.rd) ∧ (∀ r, ((∃ q ∈ y.1.wr, q.1 = r) ∨ (y.2 ≤ r ∧ r < y.2 + y.1.new.length)) → r ∉ x.1.rd) := by
  unfold apart at h
  simp only [Bool.and_eq_true] at h
  obtain ⟨⟨⟨h1, h2⟩, h3⟩, h4⟩ := h
  have hf : ∀ (x y : Eff × Nat), ((Foot.of x).wr.all fun i => !(Foot.of y).rd.contains i) = true → ∀ r, ((∃ q ∈ x.1.wr, q.1 = r) ∨ (x.2 ≤ r ∧ r < x.2 + x.1.new.length)) → r ∉ y.1.rd := fun x y hh r hr hmem => by
    have hm : r ∈ (Foot.of x).wr := by
      unfold Foot.of
      rcases hr with ⟨q, hq, rfl⟩ | ⟨h1, h2⟩
      · exact List.mem_append_left _ (List.mem_map.2 ⟨q, hq, rfl⟩)
      · exact List.mem_append_right _ (List.mem_map.2 ⟨r - x.2, List.mem_range.2 (by omega), by omega⟩)
    have := List.all_eq_true.1 hh r hm
    have hc : (Foot.of y).rd.contains r = true := by simpa [Foot.of] using hmem
    rw [hc] at this
    cases this
  refine ⟨fun d hd => ?_, fun d hd => ?_, hf x y h3, hf y x h4⟩
  · rw [hd] at h1
    simp only [Bool.and_eq_true, Bool.not_eq_true', bne_iff_ne, ne_eq] at h1
    exact ⟨fun hm => by have := h1.1; rw [List.contains_eq_mem, decide_eq_false_iff_not] at this; exact this hm, h1.2⟩
  · rw [hd] at h2
    simp only [Bool.not_eq_true'] at h2
    exact fun hm => by rw [List.contains_eq_mem, decide_eq_false_iff_not] at h2; exact h2 hm

/-- done with all that must come ahead -/
def Closed (ops : Array Oper) (D : Nat → Bool) : Prop := ∀ j, j < ops.size → D j = true → ∀ i ∈ (ahead ops.toList).getD j [], D i = true

variable {D : Nat → Bool}

/-- an operation that isn't done, and one that is or stands ahead in the text: they don't meet -/
theorem Reg.meet (hr : Reg cx call ops O T Hh E) (hc : Closed ops D) {i k : Nat} (hi : i < ops.size) (hk : k < ops.size) (hDi : D i = false) (hai : ∀ j ∈ (ahead ops.toList).getD i [], D j = true) (_ : k ≠ i) (hdiff : (k < i ∧ D k = false) ∨ (i < k ∧ D k = true)) :
    (∀ d, (O k).dst = some d → d ∉ Oper.looks (ops.toList.map (·.dst)) (O i)) ∧ (∀ d, (O i).dst = some d → (O k).dst ≠ some d) ∧
    (∀ r, ((∃ q ∈ (E k).wr, q.1 = r) ∨ ((Hh k).length ≤ r ∧ r < (Hh k).length + (E k).new.length)) → r ∉ (E i).rd) ∧
    (∀ r, ((∃ q ∈ (E i).wr, q.1 = r) ∨ ((Hh i).length ≤ r ∧ r < (Hh i).length + (E i).new.length)) → r ∉ (E k).rd) := by
  rcases hdiff with ⟨h1, h2⟩ | ⟨h1, h2⟩
  · rcases hr.ap k i h1 hi with h3 | h3
    · have := hai k h3; rw [h2] at this; cases this
    · obtain ⟨g1, g2, g3, g4⟩ := apart_spec h3
      exact ⟨fun d hd => (g1 d hd).1, fun d hd e => (g1 d e).2 hd, g3, g4⟩
  · rcases hr.ap i k h1 hk with h3 | h3
    · have := hc k hk h2 i h3; rw [hDi] at this; cases this
    · obtain ⟨g1, g2, g3, g4⟩ := apart_spec h3
      exact ⟨g2, fun d hd => (g1 d hd).2, g4, g3⟩

/-- what an operation looks at is as it was in the text's order -/
theorem Reg.fd (hr : Reg cx call ops O T Hh E) (hc : Closed ops D) {i : Nat} (hi : i < ops.size) (hDi : D i = false) (hai : ∀ j ∈ (ahead ops.toList).getD i [], D j = true) {s : Nat} (hs : s ∈ Oper.looks (ops.toList.map (·.dst)) (O i)) :
    ∀ k, k ≤ ops.size → (FD D (fun k => (O k).dst) E (T 0) k).get s = (T (min k i)).get s := by
  intro k
  induction k with
  | zero => intro _; simp [FD]
  | succ k ih =>
    intro hk
    have ih := ih (by omega)
    by_cases hki : k < i
    · rw [show min (k + 1) i = k + 1 by omega, hr.get (by omega)]
      rw [show min k i = k by omega] at ih
      cases hD : D k with
      | true => simp only [FD, hD]; cases hd : (O k).dst with
        | none => exact ih
        | some d =>
          show (if d = s then _ else _) = (if d = s then _ else _)
          rw [ih]
      | false =>
        simp only [FD, hD]
        obtain ⟨g1, _⟩ := hr.meet hc hi (show k < ops.size by omega) hDi hai (by omega) (.inl ⟨hki, hD⟩)
        cases hd : (O k).dst with
        | none => exact ih
        | some d =>
          show _ = (if d = s then _ else _)
          rw [if_neg (fun e => g1 d hd (by rw [e]; exact hs))]
          exact ih
    · rw [show min (k + 1) i = i by omega]
      rw [show min k i = i by omega] at ih
      cases hD : D k with
      | true =>
        simp only [FD, hD]
        have hne : k ≠ i := fun e => by rw [e, hDi] at hD; cases hD
        obtain ⟨g1, _⟩ := hr.meet hc hi (show k < ops.size by omega) hDi hai hne (.inr ⟨by omega, hD⟩)
        cases hd : (O k).dst with
        | none => exact ih
        | some d =>
          show (if d = s then _ else _) = _
          rw [if_neg (fun e => g1 d hd (by rw [e]; exact hs))]
          exact ih
      | false => simp only [FD, hD]; exact ih

theorem Reg.hd (hr : Reg cx call ops O T Hh E) (hc : Closed ops D) {i : Nat} (hi : i < ops.size) (hDi : D i = false) (hai : ∀ j ∈ (ahead ops.toList).getD i [], D j = true) {r : Nat} (hs : r ∈ (E i).rd) :
    ∀ k, k ≤ ops.size → HD D E (fun k => (Hh k).length) (hget (Hh 0)) k r = hget (Hh (min k i)) r := by
  intro k
  induction k with
  | zero => intro _; simp [HD]
  | succ k ih =>
    intro hk
    have ih := ih (by omega)
    have hoff : ∀ {H : Nat → Option Blk}, ((k < i ∧ D k = false) ∨ (i < k ∧ D k = true)) → upd H (E k) (Hh k).length r = H r := fun {H} hd => by
      obtain ⟨_, _, g3, _⟩ := hr.meet hc hi (show k < ops.size by omega) hDi hai (by rcases hd with h | h <;> omega) hd
      exact upd_other (fun p hp e => g3 r (.inl ⟨p, hp, e⟩) hs) (fun e => g3 r (.inr e) hs)
    by_cases hki : k < i
    · rw [show min (k + 1) i = k + 1 by omega, hr.blk (by omega)]
      rw [show min k i = k by omega] at ih
      cases hD : D k with
      | true =>
        simp only [HD, hD]
        by_cases hh : (∃ p ∈ (E k).wr, p.1 = r) ∨ ((Hh k).length ≤ r ∧ r < (Hh k).length + (E k).new.length)
        · exact upd_hit hh
        · rw [upd_other (fun p hp e => hh (.inl ⟨p, hp, e⟩)) (fun e => hh (.inr e)), upd_other (fun p hp e => hh (.inl ⟨p, hp, e⟩)) (fun e => hh (.inr e))]
          exact ih
      | false =>
        simp only [HD, hD]
        rw [hoff (.inl ⟨hki, hD⟩)]
        exact ih
    · rw [show min (k + 1) i = i by omega]
      rw [show min k i = i by omega] at ih
      cases hD : D k with
      | true =>
        simp only [HD, hD]
        have hne : k ≠ i := fun e => by rw [e, hDi] at hD; cases hD
        rw [hoff (.inr ⟨by omega, hD⟩)]
        exact ih
      | false => simp only [HD, hD]; exact ih

/-- one more is done: the frame -/
theorem Reg.fd_add (hr : Reg cx call ops O T Hh E) (hc : Closed ops D) {i : Nat} (hi : i < ops.size) (hDi : D i = false) (hai : ∀ j ∈ (ahead ops.toList).getD i [], D j = true) (s : Nat) :
    ∀ k, k ≤ ops.size → (FD (add1 D i) (fun k => (O k).dst) E (T 0) k).get s = if i < k then (sett (FD D (fun k => (O k).dst) E (T 0) k) (O i).dst (E i).v).get s else (FD D (fun k => (O k).dst) E (T 0) k).get s := by
  intro k
  induction k with
  | zero => intro _; simp [FD]
  | succ k ih =>
    intro hk
    have ih := ih (by omega)
    by_cases hki : k = i
    · subst hki
      rw [if_pos (by omega)]
      rw [if_neg (by omega)] at ih
      simp only [FD, add1, hDi, beq_self_eq_true, Bool.or_true]
      cases hd : (O k).dst with
      | none => exact ih
      | some d =>
        show (if d = s then _ else _) = (if d = s then _ else _)
        rw [ih]
    · have hb : (k == i) = false := by simpa using hki
      by_cases hlt : i < k
      · rw [if_pos (by omega)]
        rw [if_pos hlt] at ih
        cases hD : D k with
        | true =>
          simp only [FD, add1, hD, Bool.true_or]
          obtain ⟨_, g2, _⟩ := hr.meet hc hi (show k < ops.size by omega) hDi hai hki (.inr ⟨hlt, hD⟩)
          cases hd : (O k).dst with
          | none => exact ih
          | some d =>
            cases hdi : (O i).dst with
            | none =>
              rw [hdi] at ih
              show (if d = s then _ else _) = (if d = s then _ else _)
              rw [ih]
              rfl
            | some d' =>
              rw [hdi] at ih
              have hdd : d ≠ d' := fun e => g2 d' hdi (by rw [hd, e])
              show (if d = s then _ else _) = (if d' = s then _ else (if d = s then _ else _))
              rw [ih]
              by_cases h1 : d = s
              · rw [if_pos h1, if_neg (fun e => hdd (h1.trans e.symm)), if_pos h1]
              · rw [if_neg h1, if_neg h1]; rfl
        | false =>
          simp only [FD, add1, hD, hb, Bool.or_false]
          exact ih
      · rw [if_neg (by omega)]
        rw [if_neg hlt] at ih
        cases hD : D k with
        | true =>
          simp only [FD, add1, hD, Bool.true_or]
          exact sett_get' ih
        | false =>
          simp only [FD, add1, hD, hb, Bool.or_false]
          exact ih

/-- one more is done: the blocks -/
theorem Reg.hd_add (hr : Reg cx call ops O T Hh E) (hc : Closed ops D) {i : Nat} (hi : i < ops.size) (hDi : D i = false) (hai : ∀ j ∈ (ahead ops.toList).getD i [], D j = true) :
    ∀ k, k ≤ ops.size → HD (add1 D i) E (fun k => (Hh k).length) (hget (Hh 0)) k = if i < k then upd (HD D E (fun k => (Hh k).length) (hget (Hh 0)) k) (E i) (Hh i).length else HD D E (fun k => (Hh k).length) (hget (Hh 0)) k := by
  intro k
  induction k with
  | zero => intro _; simp [HD]
  | succ k ih =>
    intro hk
    have ih := ih (by omega)
    by_cases hki : k = i
    · subst hki
      rw [if_pos (by omega)]
      rw [if_neg (by omega)] at ih
      simp only [HD, add1, hDi, beq_self_eq_true, Bool.or_true]
      rw [ih]
    · have hb : (k == i) = false := by simpa using hki
      by_cases hlt : i < k
      · rw [if_pos (by omega)]
        rw [if_pos hlt] at ih
        cases hD : D k with
        | true =>
          simp only [HD, add1, hD, Bool.true_or]
          rw [ih]
          obtain ⟨_, _, g3, g4⟩ := hr.meet hc hi (show k < ops.size by omega) hDi hai hki (.inr ⟨hlt, hD⟩)
          refine upd_comm fun r h1 h2 => ?_
          have hlen : (Hh i).length + (E i).new.length ≤ (Hh k).length := by rw [← hr.len hi]; exact hr.mono (by omega) (by omega)
          rcases h2 with ⟨p, hp, rfl⟩ | h2
          · exact g4 _ h1 (hr.wr (show k < ops.size by omega) p hp).1
          · rcases h1 with ⟨q, hq, rfl⟩ | h1
            · exact g3 _ (.inr h2) (hr.wr hi q hq).1
            · omega
        | false =>
          simp only [HD, add1, hD, hb, Bool.or_false]
          exact ih
      · rw [if_neg (by omega)]
        rw [if_neg hlt] at ih
        cases hD : D k with
        | true =>
          simp only [HD, add1, hD, Bool.true_or]
          rw [ih]
        | false =>
          simp only [HD, add1, hD, hb, Bool.or_false]
          exact ih
end
end Sh
