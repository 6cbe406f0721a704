/-
The operations of a region, one behind the other.
-/
import Derived.Test.YtkccojijhaajmaaGreatDoorShFrz
set_option linter.unusedSimpArgs false
set_option linter.unusedVariables false
set_option linter.unusedSectionVars false
set_option linter.unusedSimpArgs false
namespace Sh
open Go

section
variable {P : Program} {X X' X0 A A' : Nat → Prop} {ι ι' : Nat → Nat} {w : World} {H : Nat → Option Blk} {h : Heap} {t t' : Fr} {a : Act} {base : Nat} {e : Eff} {o : Oper}

/-- what is known of the functions that are called -/
def CallsOK (P : Program) (call : FuncId → List AV → Heap → Res) : Prop := ∀ f args h r, call f args h = some r → Sound1 P f args h r

theorem bindR_ok {α β : Type} {r : Option β} {k : β → Option α} {v : α} {u} (h : bindR r k u = some v) : ∃ b, r = some b ∧ k b = some v := by
  unfold bindR at h
  exact Option.bind_eq_some_iff.1 h

theorem ok_exec {cx : Ctx} {call : FuncId → List AV → Heap → Res} (hcall : CallsOK cx.P call) (hs : SR X0 A ι w H t' a) (hd : ∀ d, o.dst = some d → d < a.tmps.size) (hn : ∀ k, base ≤ k → k < base + e.new.length → ¬ A k)
    (hxs : ∀ x ∈ o.op.operands.toList, XR cx.P X0 A ι w H a t x) (hrd : ∀ i ∈ e.rd, H i = hget h i) (he : exec cx call o t h base = some e) : OK cx.P X0 A ι w H t' a o base e := by
  have hn' : e.new ≠ [] → ¬ A base := fun hne => hn base (Nat.le_refl _) (by have := List.length_pos_iff.2 hne; omega)
  unfold exec at he
  split at he
  · rename_i f args at_ hop
    obtain ⟨p, hp, he1⟩ := bindR_ok he
    obtain ⟨r, hr, he2⟩ := bindR_ok he1
    obtain ⟨dst, op, ty, pos, af, gd⟩ := o
    simp only at hop
    subst hop
    exact ok_call hs hd hn (fun x hx => hxs x (by simp [Op.operands, Call.operands]; right; simpa using hx)) hrd hp (hcall _ _ _ _ hr) he2
  · rename_i T n ps hop
    obtain ⟨e0, h1, rfl⟩ := Option.map_eq_some_iff.1 he
    have hnl : (frz h e0).new.length = e0.new.length := by
      rcases frz_cases h e0 with hf | ⟨c, d, ids, _, he0, _, hf⟩
      · rw [hf]
      · rw [hf, he0]; rfl
    by_cases h0 : e0.new = []
    · have hf : frz h e0 = e0 := by unfold frz; rw [h0]
      rw [hf] at hrd hn' ⊢
      exact ok_eff hs hd hn' hxs hrd h1
    · have hnb : ¬ A base := hn base (Nat.le_refl _) (by rw [hnl]; have := List.length_pos_iff.2 h0; omega)
      refine ok_frz (ok_eff hs hd (fun _ => hnb) hxs ?_ h1) hnb hrd hs.hr.num
      intro i hi
      rcases frz_cases h e0 with hf | ⟨c, d, ids, _, he0, _, hf⟩
      · rw [hf] at hrd; exact hrd i hi
      · rw [he0] at hi; simp at hi
  · exact ok_eff hs hd hn' hxs hrd he

theorem hget_set (h : Heap) (j i : Nat) (b : Option Blk) (hj : b.isSome = true → j < h.length) : hget (h.set j b) i = if j = i then b else hget h i := by
  unfold hget
  rw [List.getElem?_set]
  by_cases hji : j = i
  · subst hji
    rw [if_pos rfl, if_pos rfl]
    by_cases hl : j < h.length
    · rw [if_pos hl]; rfl
    · rw [if_neg hl]
      cases b with
      | none => rfl
      | some b => exact absurd (hj rfl) hl
  · rw [if_neg hji, if_neg hji]

theorem puth_len : ∀ (wr : List (Nat × Option Blk)) (h : Heap), (puth h wr).length = h.length
  | [], _ => rfl
  | (i, b) :: r, h => by rw [puth, puth_len r]; simp

theorem puth_get : ∀ (wr : List (Nat × Option Blk)) (h : Heap), (∀ p ∈ wr, p.2.isSome = true → p.1 < h.length) → ∀ i, hget (puth h wr) i = match wrGet wr i with | some b => b | none => hget h i
  | [], _, _, _ => rfl
  | (j, b) :: r, h, hw, i => by
    rw [puth, puth_get r _ (fun p hp hs => by rw [List.length_set]; exact hw p (List.mem_cons_of_mem _ hp) hs)]
    simp only [wrGet]
    cases hwr : wrGet r i with
    | some x => rfl
    | none =>
      dsimp only
      rw [hget_set h j i b (fun hs => hw (j, b) (by simp) hs)]
      split <;> rfl

theorem hget_upd (h : Heap) (e : Eff) (hw : ∀ p ∈ e.wr, p.2.isSome = true → p.1 < h.length) : hget (puth h e.wr ++ e.new) = upd (hget h) e h.length := by
  funext i
  unfold upd
  by_cases hi : i < h.length
  · rw [if_neg (by omega)]
    refine Eq.trans ?_ (puth_get e.wr h hw i)
    unfold hget
    rw [List.getElem?_append_left (by rw [puth_len]; exact hi)]
  · have hpn : hget (puth h e.wr) i = none := by
      unfold hget
      rw [List.getElem?_eq_none (by rw [puth_len]; omega)]
      rfl
    by_cases hi2 : i < h.length + e.new.length
    · rw [if_pos ⟨by omega, hi2⟩]
      unfold hget
      rw [List.getElem?_append_right (by rw [puth_len]; omega), puth_len]
    · rw [if_neg (by omega)]
      refine Eq.trans ?_ (puth_get e.wr h hw i)
      rw [hpn]
      unfold hget
      rw [List.getElem?_eq_none (by simp [puth_len]; omega)]
      rfl

theorem hget_lt {h : Heap} {i : Nat} (hi : (hget h i).isSome = true) : i < h.length := by
  unfold hget at hi
  rcases Nat.lt_or_ge i h.length with h1 | h1
  · exact h1
  · rw [List.getElem?_eq_none h1] at hi; simp at hi

theorem zipWr_mem : ∀ {ids : List Nat} {hh : Heap} {p : Nat × Option Blk}, p ∈ zipWr ids hh → p.1 ∈ ids
  | [], _, p, h => by simp [zipWr] at h
  | i :: ids, [], p, h => by simp [zipWr] at h
  | i :: ids, b :: hh, p, h => by
    simp only [zipWr, List.mem_cons] at h
    rcases h with rfl | h
    · simp
    · exact List.mem_cons_of_mem _ (zipWr_mem h)

/-- what an operation leaves otherwise it has looked at -/
theorem append_wr {h : Heap} {es eb et : Nat} {s x : AV} (he : aappend h base es eb et s x = some e) : ∀ p ∈ e.wr, p.1 ∈ e.rd ∧ (hget h p.1).isSome = true := by
  unfold aappend at he
  obtain ⟨⟨c, rd⟩, _, he1⟩ := bnd_some he
  dsimp only at he1
  cases s <;> try (simp at he1; done)
  case nils =>
    dsimp only at he1
    cases hce : c.isEmpty <;> rw [hce] at he1
    · obtain ⟨_, he5⟩ := fresh_some (show freshE base es eb (tagS eb et) c [] 0 rd [] = some e from he1)
      subst he5; simp
    · have := (Option.some.inj (show some _ = some e from he1)).symm
      subst this; simp
  case lsl i o n cap es' =>
    dsimp only at he1
    split at he1
    case isFalse => cases he1
    obtain ⟨b, hb, he2⟩ := bnd_some he1
    split at he2
    case h_2 => cases he2
    cases cap with
    | some cap =>
      dsimp only at he2
      cases hd : decide (n + c.length / es ≤ cap) <;> rw [hd] at he2
      · have he3 : (match rd.contains i with | true => none | false => (getr b.c o (n * es)).bnd fun old => freshE base es eb (keepT et b.ty) c old n (i :: rd) []) = some e := he2
        split at he3
        · cases he3
        · obtain ⟨old, _, he4⟩ := bnd_some he3
          obtain ⟨_, he5⟩ := fresh_some he4
          subst he5; simp
      · obtain ⟨c', _, he4⟩ := bnd_some (show ((putr b.c (o + n * es) c).bnd fun c' => some ({ v := .lsl i o (n + c.length / es) (some cap) es, rd := i :: rd, wr := [(i, some { b with c := c' })] } : Eff)) = some e from he2)
        have := (Option.some.inj he4).symm
        subst this; simp [hb]
    | none =>
      dsimp only at he2
      split at he2
      · obtain ⟨_, he5⟩ := fresh_some he2
        subst he5; simp [hb]
      · cases he2

theorem copy_wr {h : Heap} {es : Nat} {s x : AV} (he : acopy h es s x = some e) : ∀ p ∈ e.wr, p.1 ∈ e.rd ∧ (hget h p.1).isSome = true := by
  unfold acopy at he
  cases s <;> try (simp at he; done)
  case nils =>
    obtain ⟨⟨c, rd⟩, _, he1⟩ := bnd_some he
    have := (Option.some.inj he1).symm
    subst this; simp
  case lsl i o n cap es' =>
    dsimp only at he
    split at he
    case isFalse => cases he
    obtain ⟨⟨c, rd⟩, _, he1⟩ := bnd_some he
    obtain ⟨b, hb, he2⟩ := bnd_some he1
    dsimp only at he2
    split at he2
    case h_2 => cases he2
    obtain ⟨c', _, he3⟩ := bnd_some he2
    have := (Option.some.inj he3).symm
    subst this; simp [hb]

/-- It leaves nothing otherwise. -/
def NW (r : Option Eff) : Prop := ∀ e, r = some e → e.wr = []
theorem NW.none : NW none := fun _ h => by cases h
theorem NW.some {e : Eff} (h : e.wr = []) : NW (some e) := fun _ h' => by cases h'; exact h
theorem NW.of (v : AV) : NW (Eff.of v) := NW.some rfl
theorem NW.bnd {β : Type} {r : Option β} {k : β → Option Eff} (h : ∀ u, NW (k u)) : NW (r.bnd k) := fun e he => by
  obtain ⟨u, _, h2⟩ := bnd_some he
  exact h u e h2
theorem NW.mpd {β : Type} {r : Option β} {k : β → Eff} (h : ∀ u, (k u).wr = []) : NW (r.mpd k) := fun e he => by
  obtain ⟨u, _, h2⟩ := mpd_some he
  subst h2
  exact h u
theorem NW.br {b : Bool} {x y : Option Eff} {u v} (h1 : NW x) (h2 : NW y) : NW (br b x y u v) := by
  cases b
  · exact h2
  · exact h1

theorem eff_wr (he : eff P o t h base = some e) : ∀ p ∈ e.wr, p.1 ∈ e.rd ∧ (hget h p.1).isSome = true := by
  have nw : NW (eff P o t h base) → ∀ p ∈ e.wr, p.1 ∈ e.rd ∧ (hget h p.1).isSome = true := fun hn => by rw [hn e he]; simp
  obtain ⟨dst, op, ty, pos, af, gd⟩ := o
  cases op
  case store T x y =>
    unfold eff at he
    dsimp only at he
    split at he
    · obtain ⟨b, hb, he1⟩ := bnd_some he
      obtain ⟨vc, _, he2⟩ := bnd_some he1
      split at he2
      · split at he2
        · obtain ⟨c, _, he3⟩ := bnd_some he2
          have := (Option.some.inj he3).symm
          subst this; simp [hb]
        · cases he2
      · cases he2
    · cases he
  case call c =>
    obtain ⟨callee, args, at_⟩ := c
    cases callee
    case builtin b =>
      cases b
      case append =>
        unfold eff at he
        dsimp only at he
        split at he
        · split at he
          · split at he
            · exact append_wr he
            · cases he
          · cases he
        · cases he
      case copy =>
        unfold eff at he
        dsimp only at he
        split at he
        · split at he
          · split at he
            · exact copy_wr he
            · cases he
          · cases he
        · cases he
      all_goals
        refine nw ?_
        unfold eff
        dsimp only
        repeat' (first | exact NW.none | exact NW.of _ | (refine NW.bnd fun _ => ?_) | split)
    all_goals (refine nw ?_; unfold eff; exact NW.none)
  case convert =>
    refine nw ?_
    unfold eff aconv
    dsimp only
    repeat' (first | exact NW.none | exact NW.of _ | exact NW.some rfl | (refine NW.br ?_ ?_) | (refine NW.bnd fun _ => ?_) | split)
  case slice S x lo hi m =>
    refine nw ?_
    unfold eff aslice
    dsimp only
    cases m
    all_goals repeat' (first | exact NW.none | exact NW.of _ | exact NW.some rfl | (refine NW.mpd fun _ => rfl) | (refine NW.bnd fun _ => ?_) | split)
  all_goals
    refine nw ?_
    unfold eff
    dsimp only
    repeat' (first | exact NW.none | exact NW.of _ | exact NW.some rfl | (refine NW.bnd fun _ => ?_) | split)

theorem back_wr {p : Prep} {r : AV × Heap} (hb : back p base r = some e) : ∀ q ∈ e.wr, q.1 ∈ e.rd ∧ (q.2.isSome = true → q.1 ∈ p.ids) := by
  obtain ⟨_, K, hK, hKl, rfl⟩ := back_some hb
  intro q hq
  dsimp only at hq ⊢
  rcases List.mem_append.1 hq with hq | hq
  · have := zipWr_mem hq
    exact ⟨List.mem_append_left _ this, fun _ => this⟩
  · obtain ⟨k, hk, rfl⟩ := List.mem_map.1 hq
    exact ⟨List.mem_append_right _ (hKl k hk), by simp⟩

theorem exec_wr {cx : Ctx} {call : FuncId → List AV → Heap → Res} (he : exec cx call o t h base = some e) : ∀ p ∈ e.wr, p.1 ∈ e.rd ∧ (p.2.isSome = true → p.1 < h.length) := by
  unfold exec at he
  split at he
  · obtain ⟨p, hp, he1⟩ := bindR_ok he
    obtain ⟨r, hr, he2⟩ := bindR_ok he1
    intro q hq
    obtain ⟨h1, h2⟩ := back_wr he2 q hq
    refine ⟨h1, fun hs => ?_⟩
    obtain ⟨a1, _, hids, _⟩ := prep_some hp
    have := h2 hs
    rw [hids] at this
    rcases reach_live h _ _ _ _ this with h3 | h3
    · simp at h3
    · exact hget_lt h3
  · obtain ⟨e0, h1, rfl⟩ := Option.map_eq_some_iff.1 he
    intro q hq
    rcases frz_cases h e0 with hf | ⟨c, d, ids, _, _, _, hf⟩
    · rw [hf] at hq ⊢
      obtain ⟨h1, h2⟩ := eff_wr h1 q hq
      exact ⟨h1, fun _ => hget_lt h2⟩
    · rw [hf] at hq ⊢
      obtain ⟨i, hi, rfl⟩ := List.mem_map.1 hq
      exact ⟨hi, fun hs => by simp at hs⟩
  · intro q hq
    obtain ⟨h1, h2⟩ := eff_wr he q hq
    exact ⟨h1, fun _ => hget_lt h2⟩

/-! ## One behind the other -/
inductive Run (cx : Ctx) (call : FuncId → List AV → Heap → Res) : Nat → List (Nat × Tmp) → List Oper → Fr → Heap → List (Eff × Nat) → Fr → Heap → Prop
  | nil (n ds t h) : Run cx call n ds [] t h [] t h
  | plain {n ds o os t h es t' h' e} : o.guard = none → exec cx call o t h h.length = some e → Run cx call (n + 1) (sets ds n o.dst) os (sett t o.dst e.v) (puth h e.wr ++ e.new) es t' h' → Run cx call n ds (o :: os) t h ((e, h.length) :: es) t' h'
  | yes {n ds o os t h es t' h' e j want g} : o.guard = some (j, want) → lookT ds j = some g → Fr.get t g = .bool want → exec cx call o ((g, .bool want) :: t) h h.length = some e →
      Run cx call (n + 1) (sets ds n o.dst) os (sett ((g, .bool want) :: t) o.dst e.v) (puth h e.wr ++ e.new) es t' h' → Run cx call n ds (o :: os) t h ((e, h.length) :: es) t' h'
  | no {n ds o os t h es t' h' j want g v} : o.guard = some (j, want) → lookT ds j = some g → Fr.get t g = v → (v = .bool (!want) ∨ v = .tup []) →
      Run cx call (n + 1) (sets ds n o.dst) os (sett ((g, v) :: t) o.dst (.tup [])) h es t' h' → Run cx call n ds (o :: os) t h (({ v := .tup [] }, h.length) :: es) t' h'

theorem runOps_run {α : Type} {cx : Ctx} {call : FuncId → List AV → Heap → Res} {r : α} : ∀ (os : List Oper) (n : Nat) (ds : List (Nat × Tmp)) (t : Fr) (h : Heap) (lg : List (Eff × Nat)) (K : Fr → Heap → List (Eff × Nat) → Option α) (u v),
    runOps cx call n ds os t h lg K u v = some r → ∃ es t' h', Run cx call n ds os t h es t' h' ∧ K t' h' (es.reverse ++ lg) = some r
  | [], n, ds, t, h, lg, K, u, v, he => by
    rw [runOps] at he
    exact ⟨[], t, h, .nil _ _ _ _, by simpa using he⟩
  | o :: os, n, ds, t, h, lg, K, u, v, he => by
    rw [runOps] at he
    cases hg : o.guard with
    | none =>
      rw [hg] at he
      obtain ⟨e, h1, h2⟩ := bindR_ok he
      obtain ⟨es, t', h', h3, h4⟩ := runOps_run os _ _ _ _ _ _ _ _ h2
      exact ⟨_, t', h', .plain hg h1 h3, by simpa using h4⟩
    | some q =>
      obtain ⟨j, want⟩ := q
      rw [hg] at he
      dsimp only at he
      cases hl : lookT ds j with
      | none => rw [hl] at he; cases he
      | some g =>
        rw [hl] at he
        dsimp only at he
        split at he
        · rename_i b hb
          cases hbw : b == want
          · rw [hbw] at he
            simp only [br] at he
            have hbw' : b = !want := by cases b <;> cases want <;> simp_all
            subst hbw'
            obtain ⟨es, t', h', h3, h4⟩ := runOps_run os _ _ _ _ _ _ _ _ he
            exact ⟨_, t', h', .no hg hl hb (.inl rfl) h3, by simpa using h4⟩
          · rw [hbw] at he
            simp only [br] at he
            have hbw' : b = want := by simpa using hbw
            subst hbw'
            obtain ⟨e, h1, h2⟩ := bindR_ok he
            obtain ⟨es, t', h', h3, h4⟩ := runOps_run os _ _ _ _ _ _ _ _ h2
            exact ⟨_, t', h', .yes hg hl hb h1 h3, by simpa using h4⟩
        · rename_i hb
          obtain ⟨es, t', h', h3, h4⟩ := runOps_run os _ _ _ _ _ _ _ _ he
          exact ⟨_, t', h', .no hg hl hb (.inr rfl) h3, by simpa using h4⟩
        · cases he

/-- The state of a function: what it began with stands behind. -/
def St (X0 : Nat → Prop) (n0 : Nat) (ι0 : Nat → Nat) (w0 : World) (h0 : Heap) (nt : Nat) (t : Fr) (h : Heap) (a : Act) (w : World) : Prop :=
  ∃ ι, SR X0 (· < h.length) ι w (hget h) t a ∧ Chg (· < n0) ι0 w0 (hget h0) (· < h.length) ι w (hget h) ∧ n0 ≤ h.length ∧ a.defers = [] ∧ a.tmps.size = nt

theorem SR.get {t1 t2 : Fr} (h : SR X0 A ι w H t1 a) (hg : ∀ i, t2.get i = t1.get i) : SR X0 A ι w H t2 a := ⟨h.hr, fun i => by rw [hg i]; exact h.fr i⟩

theorem St.get {n0 : Nat} {ι0 : Nat → Nat} {w0 : World} {h0 : Heap} {nt : Nat} {t1 t2 : Fr} (h1 : St X0 n0 ι0 w0 h0 nt t1 h a w) (hg : ∀ i, t2.get i = t1.get i) : St X0 n0 ι0 w0 h0 nt t2 h a w := by
  obtain ⟨ι, h2, h3⟩ := h1
  exact ⟨ι, h2.get hg, h3⟩

theorem get_put {t : Fr} {g : Nat} {v : AV} (h : t.get g = v) (i : Nat) : Fr.get ((g, v) :: t) i = t.get i := by
  show (if g = i then v else t.get i) = t.get i
  split
  · rename_i h1; subst h1; exact h.symm
  · rfl

theorem yielded_of {X : Nat → Prop} {ops : Array Oper} {j g : Nat} {b : Bool} (hj : (ops[j]?).bind (·.dst) = some g) (h : RV X A ι w (.bool b) (a.tmps.getD g undef)) : yielded ops a.tmps j = some b := by
  have hb := rv_bool h
  unfold yielded
  rw [hj]
  simp only [Option.bind_some]
  rcases Nat.lt_or_ge g a.tmps.size with h1 | h1
  · simp only [Array.getD_eq_getD_getElem?, Array.getElem?_eq_getElem h1, Option.getD_some] at hb
    rw [Array.getElem?_eq_getElem h1, hb]
  · rw [Array.getD_eq_getD_getElem?, Array.getElem?_eq_none h1] at hb
    cases hb

theorem rv_undef {X : Nat → Prop} : RV X A ι w (.tup []) undef := ⟨#[], rfl, RL.nil _⟩
theorem rv_tup0 {X : Nat → Prop} {v : Value} (h : RV X A ι w (.tup []) v) : v = undef := by
  obtain ⟨vs, rfl, hl⟩ := h
  have : vs = #[] := by
    have := hl.1
    simp at this
    exact Array.eq_empty_of_size_eq_zero this.symm
  rw [this]; rfl
theorem yielded_none {X : Nat → Prop} {ops : Array Oper} {j g : Nat} (hj : (ops[j]?).bind (·.dst) = some g) (h : RV X A ι w (.tup []) (a.tmps.getD g undef)) : yielded ops a.tmps j = none := by
  have hb := rv_tup0 h
  unfold yielded
  rw [hj]
  simp only [Option.bind_some]
  rcases Nat.lt_or_ge g a.tmps.size with h1 | h1
  · simp only [Array.getD_eq_getD_getElem?, Array.getElem?_eq_getElem h1, Option.getD_some] at hb
    rw [Array.getElem?_eq_getElem h1, hb]
    rfl
  · rw [Array.getElem?_eq_none h1]

/-- one operation -/
theorem st_op {cx : Ctx} {call : FuncId → List AV → Heap → Res} {n0 : Nat} {ι0 : Nat → Nat} {w0 : World} {h0 : Heap} {nt : Nat} (hcall : CallsOK cx.P call) (hs : St X0 n0 ι0 w0 h0 nt t h a w) (hd : ∀ d, o.dst = some d → d < nt)
    (he : exec cx call o t h h.length = some e) {K : Act → World → Prop} {Q : Exit → Act → World → Prop} (hK : ∀ a' w', St X0 n0 ι0 w0 h0 nt (sett t o.dst e.v) (puth h e.wr ++ e.new) a' w' → K a' w') :
    o.wp cx.P a w K Q := by
  obtain ⟨ι, h1, h2, h3, h4, h5⟩ := hs
  have hok := ok_exec (t' := t) hcall h1 (fun d hd' => by rw [h5]; exact hd d hd') (fun k hk1 _ => by simp; exact hk1) (fun x _ => rv_op h1.fr x) (fun _ _ => rfl) he
  refine hok K Q fun A' ι' w' a' g1 g2 g3 g4 g5 => hK a' w' ⟨ι', ?_, ?_, ?_, g4.trans h4, g5.trans h5⟩
  all_goals
    have hA : A' = fun i => i < (puth h e.wr ++ e.new).length := by
      funext i
      apply propext
      rw [g3 i, List.length_append, puth_len]
      constructor
      · rintro (h | ⟨_, h⟩) <;> omega
      · intro h; omega
    have hu := hget_upd h e (fun p hp hs => (exec_wr he p hp).2 hs)
  · rw [hA, ← hu] at g1; exact g1
  · rw [hA, ← hu] at g2; exact h2.trans g2
  · rw [List.length_append, puth_len]; omega

theorem st_skip {n0 : Nat} {ι0 : Nat → Nat} {w0 : World} {h0 : Heap} {nt : Nat} (hs : St X0 n0 ι0 w0 h0 nt t h a w) (hd : ∀ d, o.dst = some d → d < nt) : St X0 n0 ι0 w0 h0 nt (sett t o.dst (.tup [])) h (a.put o.dst undef) w := by
  obtain ⟨ι, h1, h2, h3, h4, h5⟩ := hs
  exact ⟨ι, ⟨h1.hr, fun i => fr_put h1.fr rv_undef (fun d hd' => by rw [h5]; exact hd d hd') i⟩, h2, h3, (put_defers _ _).trans h4, (put_size _ _).trans h5⟩

theorem run_ops {cx : Ctx} {call : FuncId → List AV → Heap → Res} {n0 : Nat} {ι0 : Nat → Nat} {w0 : World} {h0 : Heap} {nt : Nat} {ops : Array Oper} {Q : Exit → Act → World → Prop} (hcall : CallsOK cx.P call) (hd : ∀ o ∈ ops, ∀ d, o.dst = some d → d < nt) :
    ∀ {n ds os t h es t' h'}, Run cx call n ds os t h es t' h' → ops.toList.drop n = os → (∀ j g, lookT ds j = some g → (ops[j]?).bind (·.dst) = some g) → ∀ {a w}, St X0 n0 ι0 w0 h0 nt t h a w → (∀ a' w', St X0 n0 ι0 w0 h0 nt t' h' a' w' → Q .normal a' w') →
      wpOps cx.P ops Q (List.range' n os.length) a w := by
  intro n ds os t h es t' h' hr
  have step : ∀ {n : Nat} {o : Oper} {os : List Oper} {ds : List (Nat × Tmp)}, ops.toList.drop n = o :: os → (∀ j g, lookT ds j = some g → (ops[j]?).bind (·.dst) = some g) →
      ops[n]? = some o ∧ o ∈ ops ∧ ops.toList.drop (n + 1) = os ∧ (∀ j g, lookT (sets ds n o.dst) j = some g → (ops[j]?).bind (·.dst) = some g) := fun {n o os ds} hos hds => by
    have hn : n < ops.toList.length := by
      rcases Nat.lt_or_ge n ops.toList.length with h | h
      · exact h
      · rw [List.drop_eq_nil_of_le h] at hos; cases hos
    rw [List.drop_eq_getElem_cons hn] at hos
    simp only [List.cons.injEq] at hos
    obtain ⟨ho, hos⟩ := hos
    have hno : ops[n]? = some o := by rw [← Array.getElem?_toList, List.getElem?_eq_getElem hn, ho]
    refine ⟨hno, by rw [← ho]; exact Array.mem_toList_iff.1 (List.getElem_mem hn), hos, fun j g hj => ?_⟩
    cases hdst : o.dst with
    | none => rw [hdst] at hj; exact hds j g hj
    | some d =>
      rw [hdst] at hj
      simp only [sets, lookT] at hj
      split at hj
      · rename_i hnj
        subst hnj
        cases hj
        rw [hno]; exact hdst
      · exact hds j g hj
  induction hr with
  | nil n ds t h => intro _ _ a w hs hK; exact hK a w hs
  | @plain n ds o os t h es t' h' e hg hex hr ih =>
    intro hos hds a w hs hK
    obtain ⟨hno, hmem, hos', hds'⟩ := step hos hds
    rw [List.length_cons, List.range'_succ, wpOps_cons]
    unfold wpOp
    rw [hno]
    simp only [Region.wanted, hg, if_true]
    exact .inl <| st_op hcall hs (hd o hmem) hex fun a' w' hs' => ih hos' hds' hs' hK
  | @yes n ds o os t h es t' h' e j want g hg hl hb hex hr ih =>
    intro hos hds a w hs hK
    obtain ⟨hno, hmem, hos', hds'⟩ := step hos hds
    rw [List.length_cons, List.range'_succ, wpOps_cons]
    unfold wpOp
    rw [hno]
    have hy : yielded ops a.tmps j = some want := by
      obtain ⟨ι, h1, _⟩ := hs
      have := h1.fr g
      rw [hb] at this
      exact yielded_of (hds j g hl) this
    simp only [Region.wanted, hg, hy, beq_self_eq_true, if_true]
    exact .inl <| st_op hcall (hs.get (get_put hb)) (hd o hmem) hex fun a' w' hs' => ih hos' hds' hs' hK
  | @no n ds o os t h es t' h' j want g v hg hl hb hv hr ih =>
    intro hos hds a w hs hK
    obtain ⟨hno, hmem, hos', hds'⟩ := step hos hds
    rw [List.length_cons, List.range'_succ, wpOps_cons]
    unfold wpOp
    rw [hno]
    have hne : (yielded ops a.tmps j == some want) = false := by
      obtain ⟨ι, h1, _⟩ := hs
      have := h1.fr g
      rw [hb] at this
      rcases hv with rfl | rfl
      · rw [yielded_of (hds j g hl) this]; cases want <;> rfl
      · rw [yielded_none (hds j g hl) this]; rfl
    simp only [Region.wanted, hg, hne, Bool.false_eq_true, if_false]
    exact ih hos' hds' (st_skip (hs.get (get_put hb)) (hd o hmem)) hK
end
end Sh
