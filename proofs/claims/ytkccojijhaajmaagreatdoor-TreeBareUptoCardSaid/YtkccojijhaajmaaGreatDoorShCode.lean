/-
The text of a function.
-/
import Derived.Test.YtkccojijhaajmaaGreatDoorShRun
set_option linter.unusedSimpArgs false
set_option linter.unusedVariables false
set_option linter.unusedSectionVars false
set_option linter.unusedSimpArgs false
namespace Sh
open Go

section
variable {P : Program} {X X' X0 A A' : Nat → Prop} {ι ι' : Nat → Nat} {w : World} {H : Nat → Option Blk} {h : Heap} {t t' : Fr} {a : Act}

/-! ## New numbers -/
theorem range_idx {n : Nat} {r : List Nat} {i : Nat} (hi : i < n) : (List.range n ++ r)[i]? = some i := by
  rw [List.getElem?_append_left (by simpa using hi), List.getElem?_range hi]

theorem canon_St {n0 : Nat} {ι0 : Nat → Nat} {w0 : World} {h0 : Heap} {nt : Nat} (hs : St X0 n0 ι0 w0 h0 nt t h a w) (keep : List Nat) : St X0 n0 ι0 w0 h0 nt (canon n0 keep t h).1 (canon n0 keep t h).2 a w := by
  obtain ⟨ι, h1, h2, h3, h4, h5⟩ := hs
  obtain ⟨r, hr⟩ := reach_seen h (fuelR h) (firstRefs h n0 ++ (keep.map t.get).flatMap AV.refs) (List.range n0)
  have hnd := reach_nodup h (fuelR h) (firstRefs h n0 ++ (keep.map t.get).flatMap AV.refs) (List.range n0) List.nodup_range
  unfold canon
  dsimp only
  generalize hids : reach h (fuelR h) (firstRefs h n0 ++ (keep.map t.get).flatMap AV.refs) (List.range n0) = ids at hnd hr
  obtain ⟨s1, s2, s3, s4⟩ := sub_HR (Y := X0) (h := h) (ids := ids) h1.hr hnd (fun _ _ => rfl) (fun g hg => .inl hg) (fun i b _ hb => h1.hr.own i b hb trivial) (fun g hg => h1.hr.lt g hg)
  have hlen : (ids.map fun i => (hget h i).map (Blk.ren (idx ids))).length = ids.length := by simp
  refine ⟨ιC ι ids, ⟨by rw [hlen]; exact s1, fun i => ?_⟩, ⟨h2.grow, h2.keep, fun i hi => ?_, fun j b' hj hs => ?_⟩, ?_, h4, h5⟩
  · rw [hlen]
    have key : ∀ (l : List Nat), RV (XL X0 (ιC ι ids) (hget (ids.map fun i => (hget h i).map (Blk.ren (idx ids))))) (· < ids.length) (ιC ι ids) w (Fr.get (l.zip ((l.map t.get).map (AV.ren (idx ids)))) i) (a.tmps.getD i undef) := fun l => by
      induction l with
      | nil => trivial
      | cons k l ih =>
        simp only [List.map_cons, List.zip_cons_cons]
        show RV _ _ _ _ (if k = i then (t.get k).ren (idx ids) else Fr.get _ i) _
        split
        · rename_i hk
          subst hk
          exact (h1.fr k).ren s3 (.inl fun g _ => s2 g)
        · exact ih
    exact key keep
  · obtain ⟨g1, g2⟩ := h2.same i hi
    have hii : ids[i]? = some i := by rw [hr]; exact range_idx hi
    refine ⟨by rw [hlen]; exact (List.getElem?_eq_some_iff.1 hii).1, ?_⟩
    rw [ιC, getD_of hii]
    exact g2
  · obtain ⟨i, b, g1, g2, _⟩ := s4 j b' hj
    rw [ιC, getD_of g1]
    exact h2.live i b g2 trivial
  · rw [hlen, hr]; simp

/-! ## What a function returns -/
theorem HR.killAll : ∀ (l : List Nat) {h : Heap}, HR X0 A ι w (hget h) → HR X0 A ι w (hget (killAll h l)) ∧ (∀ i, i ∈ l → hget (killAll h l) i = none) ∧ (∀ i b, hget (killAll h l) i = some b → hget h i = some b) ∧ (killAll h l).length = h.length
  | [], h, hs => ⟨hs, by simp, fun _ _ h => h, rfl⟩
  | k :: l, h, hs => by
    have hk : hget (h.set k none) = Sh.kill (hget h) k := by
      funext i
      rw [hget_set h k i none (by simp)]
      unfold Sh.kill
      by_cases hik : k = i
      · subst hik; simp
      · rw [if_neg hik, if_neg (fun e => hik e.symm)]
    obtain ⟨i1, i2, i3, i4⟩ := HR.killAll l (h := h.set k none) (by rw [hk]; exact hs.kill k)
    refine ⟨i1, fun i hi => ?_, fun i b hb => ?_, by rw [show Sh.killAll h (k :: l) = Sh.killAll (h.set k none) l from rfl, i4]; simp⟩
    · rcases List.mem_cons.1 hi with rfl | hi
      · cases hb : hget (Sh.killAll (h.set i none) l) i with
        | none => exact hb
        | some b =>
          have := i3 i b hb
          rw [hk] at this
          exact absurd rfl (kill_some this).2
      · exact i2 i hi
    · have := i3 i b hb
      rw [hk] at this
      exact (kill_some this).1

theorem mapO_some {α β : Type} {g : α → Option β} : ∀ {l : List α} {r : List β}, mapO g l = some r → l.length = r.length ∧ ∀ (j : Nat) x, l[j]? = some x → ∃ y, r[j]? = some y ∧ g x = some y
  | [], r, h => by unfold mapO at h; cases h; exact ⟨rfl, by simp⟩
  | x :: l, r, h => by
    unfold mapO at h
    obtain ⟨y, h1, h2⟩ := bnd_some h
    obtain ⟨r', h3, h4⟩ := bnd_some h2
    cases h4
    obtain ⟨i1, i2⟩ := mapO_some h3
    refine ⟨by simp [i1], fun j x' hx => ?_⟩
    cases j with
    | zero => simp at hx; subst hx; exact ⟨y, rfl, h1⟩
    | succ j => obtain ⟨y', g1, g2⟩ := i2 j x' (by simpa using hx); exact ⟨y', by simpa using g1, g2⟩

def oneV : List Value → Value
  | [v] => v
  | vs => .tuple vs.toArray

def rvRun (tmps : Array Value) : ResultVar → Sem Value
  | .tmp t => pure (tmps.getD t undef)
  | .cell c t => do loadVar t (← asAddr (tmps.getD c undef))

theorem results_eq (fn : Func) (tmps : Array Value) : results fn tmps = (do let vs ← fn.results.mapM (rvRun tmps); pure (if h : vs.size = 1 then vs[0] else .tuple vs)) := by
  have : (fun rv : ResultVar => (match rv with | .tmp t => pure (tmps.getD t undef) | .cell c t => do loadVar t (← asAddr (tmps.getD c undef)) : Sem Value)) = rvRun tmps := by funext rv; cases rv <;> rfl
  rw [← this]
  rfl

theorem results1_sound {cx : Ctx} (hs : SR X0 A ι w (hget h) t a) {rv : ResultVar} {v : AV} (hr : results1 cx t h rv = some v) :
    ∃ u, (rvRun a.tmps rv).run cx.P w = .ok u w ∧ RV1 (XL X0 ι (hget h)) A ι w v u := by
  cases rv with
  | tmp i =>
    simp only [results1] at hr
    refine ⟨a.tmps.getD i undef, rfl, ?_⟩
    have hfr := hs.fr i
    cases hc : t.get i <;> rw [hc] at hr hfr <;> simp only [reduceCtorEq, Option.some.injEq] at hr
    all_goals (subst hr; exact hfr)
  | cell c T =>
    simp only [results1] at hr
    have hfr := hs.fr c
    cases hc : t.get c <;> rw [hc] at hr hfr <;> try (simp at hr; done)
    rename_i i o
    dsimp only at hr
    obtain ⟨b, hb, hl⟩ := bnd_some hr
    obtain ⟨ha, hp⟩ := rv_ptr hfr
    obtain ⟨u, h1, h2⟩ := run_load_of (w := w) (R := RC (XL X0 ι (hget h)) A ι w) (g := ι i) (g0 := 0) hl (fun j x hx => by rw [Nat.zero_add]; exact hs.hr.cellAt hb j x hx)
    refine ⟨u, ?_, ?_⟩
    · simp only [rvRun, hp]
      simpa [Instr.loadAt, Instr.sureAddr, asAddr] using h1
    · rcases h2 with ⟨r, rfl, _, vs, rfl, hR⟩ | ⟨_, hR⟩
      · exact ⟨vs, rfl, hR⟩
      · exact RV1.ofC hR

theorem results_run {fn : Func} {vs : List Value} {tmps : Array Value} (hl : fn.results.toList.length = vs.length)
    (h : ∀ (j : Nat) rv u, fn.results.toList[j]? = some rv → vs[j]? = some u → (rvRun tmps rv).run P w = .ok u w) :
    (results fn tmps).run P w = .ok (oneV vs) w := by
  have hm : ∀ (l : List ResultVar) (us : List Value), l.length = us.length → (∀ (j : Nat) rv u, l[j]? = some rv → us[j]? = some u → (rvRun tmps rv).run P w = .ok u w) →
      (l.mapM (rvRun tmps)).run P w = .ok us w := by
    intro l
    induction l with
    | nil => intro us hl _; cases us with | nil => simp | cons => simp at hl
    | cons rv l ih =>
      intro us hl hh
      cases us with
      | nil => simp at hl
      | cons u us =>
        have h0 := hh 0 rv u rfl rfl
        have h1 := ih us (by simpa using hl) (fun j rv u h1 h2 => hh (j + 1) rv u (by simpa using h1) (by simpa using h2))
        simp only [List.mapM_cons, Sem.run_bind, h0, Result.andThen_ok, h1, Sem.run_pure]
  have hrun := hm _ vs hl h
  rw [results_eq, Array.mapM_eq_mapM_toList]
  simp only [Sem.run_bind, Sem.run_map, hrun, Result.andThen_ok, Sem.run_pure]
  congr 1
  cases vs with
  | nil => simp [oneV]
  | cons v vs =>
    cases vs with
    | nil => simp [oneV]
    | cons v' vs => simp [oneV]

theorem RL.vals {R : AV → Value → Prop} {rs : List ResultVar} {vs : List AV} {f : ResultVar → Sem Value} {g : ResultVar → Option AV} (hm : mapO g rs = some vs) (h : ∀ rv v, g rv = some v → ∃ u, (f rv).run P w = .ok u w ∧ R v u) :
    ∃ us, RL R vs us ∧ rs.length = us.length ∧ ∀ (j : Nat) rv u, rs[j]? = some rv → us[j]? = some u → (f rv).run P w = .ok u w := by
  induction rs generalizing vs with
  | nil => unfold mapO at hm; cases hm; exact ⟨[], RL.nil _, rfl, by simp⟩
  | cons rv rs ih =>
    unfold mapO at hm
    obtain ⟨y, h1, h2⟩ := bnd_some hm
    obtain ⟨r', h3, h4⟩ := bnd_some h2
    cases h4
    obtain ⟨us, i1, i2, i3⟩ := ih h3
    obtain ⟨u, g1, g2⟩ := h rv y h1
    refine ⟨u :: us, RL.cons g2 i1, by simp [i2], fun j rv' u' hj hu => ?_⟩
    cases j with
    | zero => simp at hj hu; subst hj; subst hu; exact g1
    | succ j => exact i3 j rv' u' (by simpa using hj) (by simpa using hu)

/-- A function's end. -/
theorem finish_sound {cx : Ctx} {f : FuncId} {n0 : Nat} {ι0 : Nat → Nat} {w0 : World} {h0 : Heap} {nt : Nat} {fn : Func} {r : AV × Heap} (hs : St X0 n0 ι0 w0 h0 nt t h a w) (he : finish cx f n0 fn.results.toList t h = some r) :
    a.defers = [] ∧ ∃ v, (results fn a.tmps).run cx.P w = .ok v w ∧ ∃ ι', HR X0 (· < r.2.length) ι' w (hget r.2) ∧ RV (XL X0 ι' (hget r.2)) (· < r.2.length) ι' w r.1 v ∧ Chg (· < n0) ι0 w0 (hget h0) (· < r.2.length) ι' w (hget r.2) ∧ n0 ≤ r.2.length := by
  obtain ⟨ι, h1, h2, h3, h4, h5⟩ := hs
  refine ⟨h4, ?_⟩
  unfold finish at he
  obtain ⟨vs, hvs, he1⟩ := bnd_some he
  clear he
  obtain ⟨us, u1, u2, u3⟩ := RL.vals (P := cx.P) (w := w) (R := RV1 (XL X0 ι (hget h)) (· < h.length) ι w) (f := rvRun a.tmps) hvs (fun rv v hv => results1_sound h1 hv)
  refine ⟨_, results_run u2 u3, ?_⟩
  have hv : RV (XL X0 ι (hget h)) (· < h.length) ι w (oneOf vs) (oneV us) := by
    cases vs with
    | nil =>
      cases us with
      | nil => exact ⟨#[], rfl, RL.nil _⟩
      | cons => have := u1.1; simp at this
    | cons v vs =>
      cases us with
      | nil => have := u1.1; simp at this
      | cons u us =>
        cases vs with
        | nil =>
          cases us with
          | nil => exact RV.of1 u1.head
          | cons => have := u1.1; simp at this
        | cons v' vs =>
          cases us with
          | nil => have := u1.1; simp at this
          | cons u' us => exact ⟨_, rfl, by simpa using u1⟩
  generalize oneOf vs = av at hv he1
  generalize oneV us = uv at hv ⊢
  dsimp only at he1
  obtain ⟨q, hq, he2⟩ := bnd_some he1
  -- behind the deepening
  have hq' : HR X0 (· < q.2.length) ι w (hget q.2) ∧ RV (XL X0 ι (hget q.2)) (· < q.2.length) ι w q.1 uv ∧ Chg (· < n0) ι0 w0 (hget h0) (· < q.2.length) ι w (hget q.2) ∧ n0 ≤ q.2.length := by
    cases hm : (cx.mode f).res <;> rw [hm] at hq
    · obtain ⟨d, hd, hq1⟩ := bnd_some hq
      cases hq1
      obtain ⟨k1, k2, k3, k4⟩ := HR.killAll d.2 h1.hr
      have hXX : ∀ g, XL X0 ι (hget (killAll h d.2)) g → XL X0 ι (hget h) g := fun g hg => by
        rcases hg with hg | ⟨i, b, g1, g2, g3⟩
        · exact .inl hg
        · exact .inr ⟨i, b, k3 i b g1, g2, g3⟩
      dsimp only
      rw [k4]
      refine ⟨k1, deep_sound h1.hr hXX hd hv (fun _ _ => rfl) (fun i hi hsome hx => ?_), ⟨h2.grow, h2.keep, h2.same, fun i b hb hsb => h2.live i b (k3 i b hb) hsb⟩, h3⟩
      obtain ⟨b, hb⟩ := Option.isSome_iff_exists.1 hsome
      rcases hx with hx | ⟨j, bj, g1, _, g3⟩
      · exact h1.hr.own i b hb trivial hx
      · have := h1.hr.inj j i bj b (k3 j bj g1) hb trivial trivial g3
        subst this
        rw [k2 j hi] at g1
        cases g1
    · cases hq
      exact ⟨h1.hr, hv, h2, h3⟩
  obtain ⟨q1, q2, q3, q4⟩ := hq'
  obtain ⟨rr, hr⟩ := reach_seen q.2 (fuelR q.2) (firstRefs q.2 n0 ++ q.1.refs) (List.range n0)
  have hnd := reach_nodup q.2 (fuelR q.2) (firstRefs q.2 n0 ++ q.1.refs) (List.range n0) List.nodup_range
  generalize hids : reach q.2 (fuelR q.2) (firstRefs q.2 n0 ++ q.1.refs) (List.range n0) = ids at hnd hr he2
  have he3 := (Option.some.inj he2).symm
  subst he3
  obtain ⟨s1, s2, s3, s4⟩ := sub_HR (Y := X0) (h := q.2) (ids := ids) q1 hnd (fun _ _ => rfl) (fun g hg => .inl hg) (fun i b _ hb => q1.own i b hb trivial) (fun g hg => q1.lt g hg)
  have hlen : (ids.map fun i => (hget q.2 i).map (Blk.ren (idx ids))).length = ids.length := by simp
  dsimp only
  rw [hlen]
  refine ⟨ιC ι ids, s1, q2.ren s3 (.inl fun g _ => s2 g), ⟨q3.grow, q3.keep, fun i hi => ?_, fun j b' hj hsb => ?_⟩, by rw [hr]; simp⟩
  · obtain ⟨g1, g2⟩ := q3.same i hi
    have hii : ids[i]? = some i := by rw [hr]; exact range_idx hi
    refine ⟨(List.getElem?_eq_some_iff.1 hii).1, ?_⟩
    rw [ιC, getD_of hii]
    exact g2
  · obtain ⟨i, b, g1, g2, _⟩ := s4 j b' hj
    rw [ιC, getD_of g1]
    exact q3.live i b g2 trivial
end
end Sh
