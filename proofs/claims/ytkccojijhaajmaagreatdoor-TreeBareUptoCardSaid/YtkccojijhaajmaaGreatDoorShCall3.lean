/-
Calls: what comes back.
-/
import Derived.Test.YtkccojijhaajmaaGreatDoorShCall
set_option linter.unusedSimpArgs false
set_option linter.unusedVariables false
set_option linter.unusedSectionVars false
set_option linter.unusedSimpArgs false
namespace Sh
open Go

section
variable {P : Program} {X X' X0 A A' : Nat → Prop} {ι ι' : Nat → Nat} {w : World} {H : Nat → Option Blk} {h : Heap} {m : Nat → Option Nat}

theorem wrGet_append (a b : List (Nat × Option Blk)) (k : Nat) : wrGet (a ++ b) k = match wrGet b k with | some x => some x | none => wrGet a k := by
  induction a with
  | nil => simp only [List.nil_append, wrGet]; cases wrGet b k <;> rfl
  | cons p a ih =>
    obtain ⟨j, x⟩ := p
    simp only [List.cons_append, wrGet, ih]
    cases wrGet b k <;> rfl

theorem wrGet_kill (l : List Nat) (k : Nat) : wrGet (l.map fun i => (i, (none : Option Blk))) k = if k ∈ l then some none else none := by
  induction l with
  | nil => rfl
  | cons i l ih =>
    simp only [List.map_cons, wrGet, ih]
    by_cases h1 : k ∈ l
    · simp [h1]
    · by_cases h2 : i = k
      · subst h2; simp [h1]
      · simp [h1, h2, Ne.symm h2]

theorem wrGet_zip : ∀ (ids : List Nat) (hh : Heap) (k : Nat), ids.Nodup → ids.length ≤ hh.length →
    (∀ j : Nat, ids[j]? = some k → wrGet (zipWr ids hh) k = some (((hh : List (Option Blk))[j]?).getD none)) ∧ (k ∉ ids → wrGet (zipWr ids hh) k = none)
  | [], hh, k, _, _ => ⟨by simp, fun _ => by unfold zipWr; rfl⟩
  | i :: ids, [], k, _, hl => by simp at hl
  | i :: ids, b :: hh, k, hn, hl => by
    obtain ⟨ih1, ih2⟩ := wrGet_zip ids hh k (List.nodup_cons.1 hn).2 (by simpa using hl)
    simp only [zipWr, wrGet]
    refine ⟨fun j hj => ?_, fun hk => ?_⟩
    · cases j with
      | zero =>
        simp at hj
        subst hj
        rw [ih2 (List.nodup_cons.1 hn).1]
        simp
      | succ j =>
        simp only [List.getElem?_cons_succ] at hj
        rw [ih1 j hj]
        simp
    · simp only [List.mem_cons, not_or] at hk
      rw [ih2 hk.2]
      simp [Ne.symm hk.1]

/-- the effect of a call on the blocks -/
theorem upd_call {ids : List Nat} {base : Nat} {R : Heap} {v : AV} {rd K : List Nat} (hnd : ids.Nodup) (hl : ids.length ≤ R.length) (ren : Blk → Blk) (k : Nat) {b : Blk}
    (hb : upd H { v := v, rd := rd, wr := zipWr ids (R.map fun b => b.map ren) ++ K.map fun i => (i, none), new := (R.map fun b => b.map ren).drop ids.length } base k = some b) :
    (base ≤ k ∧ k < base + (R.length - ids.length) ∧ ∃ b0, hget R (ids.length + (k - base)) = some b0 ∧ b = ren b0) ∨
    (¬ (base ≤ k ∧ k < base + (R.length - ids.length)) ∧ ∃ j b0, ids[j]? = some k ∧ hget R j = some b0 ∧ b = ren b0) ∨
    (¬ (base ≤ k ∧ k < base + (R.length - ids.length)) ∧ k ∉ ids ∧ k ∉ K ∧ H k = some b) := by
  have hg : ∀ j, ((R.map fun b => b.map ren)[j]?).getD none = (hget R j).map ren := fun j => by
    unfold hget
    rw [List.getElem?_map]
    cases R[j]? <;> rfl
  simp only [upd, List.length_drop, List.length_map] at hb
  by_cases hr : base ≤ k ∧ k < base + (R.length - ids.length)
  · rw [if_pos hr, List.getElem?_drop, hg] at hb
    obtain ⟨b0, h1, h2⟩ := Option.map_eq_some_iff.1 hb
    exact .inl ⟨hr.1, hr.2, b0, h1, h2.symm⟩
  · rw [if_neg hr, wrGet_append, wrGet_kill] at hb
    obtain ⟨z1, z2⟩ := wrGet_zip ids (R.map fun b => b.map ren) k hnd (by simpa using hl)
    by_cases hk : k ∈ K
    · simp [hk] at hb
    · simp only [hk, if_false] at hb
      by_cases hi : k ∈ ids
      · obtain ⟨j, hj⟩ := List.mem_iff_getElem?.1 hi
        rw [z1 j hj] at hb
        simp only [hg] at hb
        obtain ⟨b0, h1, h2⟩ := Option.map_eq_some_iff.1 hb
        exact .inr (.inl ⟨hr, j, b0, hj, h1, h2.symm⟩)
      · rw [z2 hi] at hb
        exact .inr (.inr ⟨hr, hi, hk, hb⟩)

def ι3 (ι ι'' : Nat → Nat) (n base len : Nat) (k : Nat) : Nat := if base ≤ k ∧ k < base + len then ι'' (n + (k - base)) else ι k

/-- WHAT COMES BACK. -/
theorem back_HR {ids lent K : List Nat} {base : Nat} {R : Heap} {rv : AV} {rd : List Nat} {Hc : Nat → Option Blk} {ι'' : Nat → Nat} {w' : World} (hs : HR X0 A ι w H) (hnd : ids.Nodup) (hl : ids.length ≤ R.length)
    (hA : ∀ k, base ≤ k → k < base + (R.length - ids.length) → ¬ A k) (hids : ∀ i ∈ ids, A i)
    (hHc : ∀ j b', Hc j = some b' → ∃ i b, ids[j]? = some i ∧ H i = some b)
    (hs' : HR (XC X0 ι H ids lent) (· < R.length) ι'' w' (hget R)) (hc : Chg (· < ids.length) (ιC ι ids) w Hc (· < R.length) ι'' w' (hget R))
    (hD : K = lent ∨ (rv.hasD = false ∧ ∀ j b, hget R j = some b → b.c.any AV.isD = false)) :
    let e : Eff := { v := rv.ren (backId ids base), rd := rd, wr := zipWr ids (R.map fun b => b.map (Blk.ren (backId ids base))) ++ K.map fun i => (i, none), new := (R.map fun b => b.map (Blk.ren (backId ids base))).drop ids.length }
    let A3 : Nat → Prop := fun i => A i ∨ (base ≤ i ∧ i < base + e.new.length)
    let i3 := ι3 ι ι'' ids.length base (R.length - ids.length)
    HR X0 A3 i3 w' (upd H e base) ∧ Chg A ι w H A3 i3 w' (upd H e base) ∧ (∀ a u, RV (XL X0 ι H) A ι w a u → RV (XL X0 i3 (upd H e base)) A3 i3 w' a u) ∧
      (∀ u, RV (XL (XC X0 ι H ids lent) ι'' (hget R)) (· < R.length) ι'' w' rv u → RV (XL X0 i3 (upd H e base)) A3 i3 w' e.v u) := by
  intro e A3 i3
  have hnl : e.new.length = R.length - ids.length := by simp [e]
  have hcase := fun (k : Nat) (b : Blk) (hb : upd H e base k = some b) => upd_call (v := rv.ren (backId ids base)) (rd := rd) hnd hl (Blk.ren (backId ids base)) k hb
  -- links
  have hlink : ∀ i j, i < R.length → backId ids base i = some j → A3 j ∧ i3 j = ι'' i := fun i j hi hj => by
    unfold backId at hj
    cases hii : ids[i]? with
    | some k =>
      rw [hii] at hj
      have hj := Option.some.inj hj
      subst hj
      have hk := hids k (List.mem_of_getElem? hii)
      refine ⟨.inl hk, ?_⟩
      have hne : ¬ (base ≤ k ∧ k < base + (R.length - ids.length)) := fun hh => hA k hh.1 hh.2 hk
      have := (hc.same i ((List.getElem?_eq_some_iff.1 hii).1)).2
      rw [this, ιC, getD_of hii]
      simp only [i3, ι3, if_neg hne]
    | none =>
      rw [hii] at hj
      have hj := Option.some.inj hj
      subst hj
      have hge := List.getElem?_eq_none_iff.1 hii
      refine ⟨.inr ⟨by omega, by rw [hnl]; omega⟩, ?_⟩
      simp only [i3, ι3]
      rw [if_pos (by omega)]
      congr 1; omega
  -- where the blocks come from
  have hfrom : ∀ k b, upd H e base k = some b → (∃ j b0, hget R j = some b0 ∧ b = b0.ren (backId ids base) ∧ i3 k = ι'' j ∧ backId ids base j = some k ∧ A3 k) ∨ (k ∉ ids ∧ k ∉ K ∧ H k = some b ∧ i3 k = ι k) := fun k b hb => by
    rcases hcase k b hb with ⟨h1, h2, b0, h3, h4⟩ | ⟨h1, j, b0, h2, h3, h4⟩ | ⟨h1, h2, h3, h4⟩
    · left
      refine ⟨ids.length + (k - base), b0, h3, h4, by simp only [i3, ι3]; rw [if_pos ⟨h1, h2⟩], ?_, .inr ⟨h1, by rw [hnl]; exact h2⟩⟩
      unfold backId
      rw [List.getElem?_eq_none (by omega)]
      simp only [Option.some.injEq]; omega
    · left
      have hbk : backId ids base j = some k := by unfold backId; rw [h2]
      have hjl : j < R.length := Nat.lt_of_lt_of_le (List.getElem?_eq_some_iff.1 h2).1 hl
      obtain ⟨l1, l2⟩ := hlink j k hjl hbk
      exact ⟨j, b0, h3, h4, l2, hbk, l1⟩
    · right
      refine ⟨h2, h3, h4, ?_⟩
      simp only [i3, ι3, if_neg h1]
  have hRl : ∀ j b0, hget R j = some b0 → j < R.length := fun j b0 h => hs'.num j b0 h
  -- XL inclusions
  have hF3 : ∀ g, g < w.heap.size → XL X0 i3 (upd H e base) g → XL X0 ι H g := fun g hg hx => by
    rcases hx with hx | ⟨k, b, hk, _, hkg⟩
    · exact .inl hx
    · rcases hfrom k b hk with ⟨j, b0, h1, _, h3, _⟩ | ⟨_, _, h3, h4⟩
      · rcases hc.live j b0 h1 trivial with h5 | ⟨i', b', h5, _, h6⟩
        · omega
        · obtain ⟨i, bi, h7, h8⟩ := hHc i' b' h5
          refine .inr ⟨i, bi, h8, trivial, ?_⟩
          rw [← hkg, h3, ← h6, ιC, getD_of h7]
      · exact .inr ⟨k, b, h3, trivial, by rw [← hkg, h4]⟩
  have hF2 : K = lent → ∀ g, XL X0 i3 (upd H e base) g → XL (XC X0 ι H ids lent) ι'' (hget R) g := fun hKl g hx => by
    rcases hx with hx | ⟨k, b, hk, _, hkg⟩
    · exact .inl (.inl hx)
    · rcases hfrom k b hk with ⟨j, b0, h1, _, h3, _⟩ | ⟨h1, h2, h3, h4⟩
      · exact .inr ⟨j, b0, h1, trivial, by rw [← hkg, h3]⟩
      · exact .inl (.inr ⟨k, b, h3, by rw [← hkg, h4], h1, by rw [← hKl]; exact h2⟩)
  -- blocks of others stand
  have hother : ∀ k b, k ∉ ids → H k = some b → w'.heap[ι k]? = w.heap[ι k]? := fun k b hk hb => hc.keep (ι k) (hs.lt_size hb trivial) fun j b' hj _ e => by
    obtain ⟨i, bi, h1, h2⟩ := hHc j b' hj
    rw [ιC, getD_of h1] at e
    have := hs.inj i k bi b h2 hb trivial trivial e
    subst this
    exact hk (List.mem_of_getElem? h1)
  have hkeep : ∀ g, g < w.heap.size → ¬ XL X0 ι H g → w'.heap[g]? = w.heap[g]? := fun g hg hx => hc.keep g hg fun j b' hj _ e => by
    obtain ⟨i, bi, h1, h2⟩ := hHc j b' hj
    rw [ιC, getD_of h1] at e
    exact hx (.inr ⟨i, bi, h2, trivial, e⟩)
  have hA3 : ∀ i, A i → A3 i ∧ i3 i = ι i := fun i hi => ⟨.inl hi, by
    simp only [i3, ι3]
    rw [if_neg (fun hh => hA i hh.1 hh.2 hi)]⟩
  have hmono : ∀ {a u}, RC (XL X0 ι H) A ι w a u → RC (XL X0 i3 (upd H e base)) A3 i3 w' a u := fun hr => hr.mono (fun g hg => hF3 g hg) hkeep hc.grow hA3
  have hsep : ∀ k b j b0, k ∉ ids → H k = some b → hget R j = some b0 → ι k ≠ ι'' j := fun k b j b0 hk hb hj e => by
    rcases hc.live j b0 hj trivial with h5 | ⟨i', b', h5, _, h6⟩
    · have := hs.lt_size hb trivial; omega
    · obtain ⟨i, bi, h7, h8⟩ := hHc i' b' h5
      rw [ιC, getD_of h7] at h6
      have := hs.inj i k bi b h8 hb trivial trivial (h6.trans e.symm)
      subst this
      exact hk (List.mem_of_getElem? h7)
  have hlk : ∀ i j, (fun x => x < R.length) i → backId ids base i = some j → A3 j ∧ i3 j = ι'' i := hlink
  refine ⟨⟨fun k b hk _ => ?_, fun k1 k2 b1 b2 hk1 hk2 _ _ e => ?_, fun k b hk _ => ?_, fun k b hk hlf => ?_, fun k b hk => ?_, fun k b T hk ht => ?_, fun g hg => Nat.lt_of_lt_of_le (hs.lt g hg) hc.grow.size⟩,
    ⟨hc.grow, fun g hg hx => hc.keep g hg fun j b' hj _ e => by
      obtain ⟨i, bi, h1, h2⟩ := hHc j b' hj
      rw [ιC, getD_of h1] at e
      exact hx i bi h2 trivial e, hA3, fun k b hk _ => ?_⟩, fun a u hr => hr.mono (fun g hg => hF3 g hg) hkeep hc.grow hA3, fun u hr => ?_⟩
  · rcases hfrom k b hk with ⟨j, b0, h1, h2, h3, h4, h5⟩ | ⟨h1, h2, h3, h4⟩
    · obtain ⟨E, N, g1, g2, g3, g4, g5⟩ := hs'.blk j b0 h1 trivial
      obtain ⟨l1, l2, l3⟩ := Blk.ren_leaf b0 (backId ids base)
      rw [h3]
      subst h2
      refine ⟨E, N, g1, by rw [l3]; exact g2, fun ho => by rw [l3]; exact g3 (l2 ▸ ho), g4, fun k' a ha => ?_⟩
      have hXX : ∀ a ∈ b0.c, (∀ g, g < w'.heap.size → XL X0 i3 (upd H e base) g → XL (XC X0 ι H ids lent) ι'' (hget R) g) ∨ a.isD = false := fun a ha => by
        rcases hD with hKl | ⟨_, hd⟩
        · exact .inl fun g _ => hF2 hKl g
        · right
          have := hd j b0 h1
          rw [List.any_eq_false] at this
          simpa using this a ha
      unfold Blk.ren at ha
      cases hl : b0.leaf <;> rw [hl] at ha
      · simp only [List.getElem?_map, Option.map_eq_some_iff] at ha
        obtain ⟨a0, h3', rfl⟩ := ha
        obtain ⟨u, hu, hr⟩ := g5 k' a0 h3'
        exact ⟨u, hu, hr.ren hlk (hXX a0 (List.mem_of_getElem? h3'))⟩
      · obtain ⟨u, hu, hr⟩ := g5 k' a ha
        have hrd := hr.toRD (refs_mem (hs'.leaf j b0 h1 hl) (List.mem_of_getElem? ha))
        refine ⟨u, hu, .deep ?_⟩
        rcases hXX a (List.mem_of_getElem? ha) with hx | hd
        · exact hrd.mono hx fun _ _ _ => rfl
        · exact hrd.free hd
    · obtain ⟨E, N, g1, g2, g3, g4, g5⟩ := hs.blk k b h3 trivial
      rw [h4]
      have hst := hother k b h1 h3
      refine ⟨E, N, hc.grow.shape _ _ g1, g2, g3, fun j hj => by rw [frozen_of_block hst]; exact g4 j hj, fun j a ha => ?_⟩
      obtain ⟨u, hu, hr⟩ := g5 j a ha
      exact ⟨u, by rw [cell_of_block hst]; exact hu, hmono hr⟩
  · rcases hfrom k1 b1 hk1 with ⟨j1, c1, p1, _, p3, p4, _⟩ | ⟨p1, _, p3, p4⟩ <;> rcases hfrom k2 b2 hk2 with ⟨j2, c2, q1, _, q3, q4, _⟩ | ⟨q1, _, q3, q4⟩
    · rw [p3, q3] at e
      have := hs'.inj j1 j2 c1 c2 p1 q1 trivial trivial e
      subst this
      rw [p4] at q4
      exact Option.some.inj q4
    · rw [p3, q4] at e
      exact absurd e.symm (hsep k2 b2 j1 c1 q1 q3 p1)
    · rw [p4, q3] at e
      exact absurd e (hsep k1 b1 j2 c2 p1 p3 q1)
    · rw [p4, q4] at e
      exact hs.inj k1 k2 b1 b2 p3 q3 trivial trivial e
  · rcases hfrom k b hk with ⟨j, b0, h1, _, h3, _⟩ | ⟨_, _, h3, h4⟩
    · rw [h3]; exact fun hx => hs'.own j b0 h1 trivial (.inl hx)
    · rw [h4]; exact hs.own k b h3 trivial
  · rcases hfrom k b hk with ⟨j, b0, h1, h2, _⟩ | ⟨_, _, h3, _⟩
    · subst h2
      obtain ⟨l1, l2, l3⟩ := Blk.ren_leaf b0 (backId ids base)
      rw [l1] at hlf
      unfold Blk.ren
      rw [hlf]
      exact hs'.leaf j b0 h1 hlf
    · exact hs.leaf k b h3 hlf
  · rcases hfrom k b hk with ⟨j, b0, _, _, _, _, h5⟩ | ⟨_, _, h3, _⟩
    · exact h5
    · exact .inl (hs.num k b h3)
  · rcases hfrom k b hk with ⟨j, b0, h1, h2, h3, _⟩ | ⟨_, _, h3, h4⟩
    · subst h2
      rw [Blk.ren_ty] at ht
      rw [h3]
      exact hs'.typ j b0 T h1 ht
    · obtain ⟨N, hN⟩ := hs.typ k b T h3 ht
      rw [h4]
      exact ⟨N, hc.grow.shape _ _ hN⟩
  · rcases hfrom k b hk with ⟨j, b0, h1, _, h3, _⟩ | ⟨_, _, h3, h4⟩
    · rw [h3]
      rcases hc.live j b0 h1 trivial with h5 | ⟨i', b', h5, _, h6⟩
      · exact .inl h5
      · obtain ⟨i, bi, h7, h8⟩ := hHc i' b' h5
        exact .inr ⟨i, bi, h8, trivial, by rw [← h6, ιC, getD_of h7]⟩
    · exact .inr ⟨k, b, h3, trivial, h4.symm⟩
  · refine hr.ren hlk ?_
    rcases hD with hKl | ⟨hd, _⟩
    · exact .inl fun g _ => hF2 hKl g
    · exact .inr hd
end
end Sh
