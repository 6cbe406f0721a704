/-
An own slice of what names own slices, made one of what is only read.
-/
import Derived.Test.YtkccojijhaajmaaGreatDoorShCall4
set_option linter.unusedSimpArgs false
set_option linter.unusedVariables false
set_option linter.unusedSectionVars false
set_option linter.unusedSimpArgs false
namespace Sh
open Go

section
variable {P : Program} {X X' X0 A A' : Nat → Prop} {ι ι' : Nat → Nat} {w : World} {H : Nat → Option Blk} {h : Heap} {t t' : Fr} {a : Act} {base : Nat} {e : Eff} {o : Oper}

theorem deep1_facts : ∀ (n : Nat) (v : AV) (r : AV × List Nat), deep1 h n v = some r → r.1.ref = none ∧ ∀ i ∈ r.2, (hget h i).isSome = true := by
  have hA : ∀ (g : AV → Option (AV × List Nat)), (∀ v r, g v = some r → r.1.ref = none ∧ ∀ i ∈ r.2, (hget h i).isSome = true) → ∀ (c : List AV) (r : List AV × List Nat), deepA g c = some r → ∀ i ∈ r.2, (hget h i).isSome = true := by
    intro g hg c
    induction c with
    | nil => intro r hr; cases hr; simp
    | cons v c ih =>
      intro r hr
      unfold deepA at hr
      obtain ⟨x, h1, hr⟩ := bnd_some hr
      obtain ⟨y, h2, hr⟩ := bnd_some hr
      cases hr
      intro i hi
      rcases List.mem_append.1 hi with hi | hi
      · exact (hg v x h1).2 i hi
      · exact ih y h2 i hi
  have hO : ∀ v r, deepO v = some r → r.1.ref = none ∧ ∀ i ∈ r.2, (hget h i).isSome = true := by
    intro v r hr
    cases v <;> simp only [deepO, Option.some.injEq] at hr <;> first | (subst hr; exact ⟨rfl, by simp⟩) | cases hr
  intro n
  induction n with
  | zero => exact hO
  | succ n ih =>
    intro v r hr
    cases v with
    | lsl i o len cap es =>
      unfold deep1 at hr
      dsimp only at hr
      obtain ⟨b, hb, hr⟩ := bnd_some hr
      obtain ⟨c, hc, hr⟩ := bnd_some hr
      cases es with
      | zero => cases hr
      | succ es =>
        dsimp only at hr
        cases hl : b.leaf <;> rw [hl] at hr <;> dsimp only at hr
        · obtain ⟨q, hq, hr⟩ := bnd_some hr
          cases hk : ckOK (es + 1) q.1 <;> rw [hk] at hr
          · cases hr
          · cases hr
            refine ⟨rfl, fun j hj => ?_⟩
            rcases List.mem_cons.1 hj with rfl | hj
            · rw [hb]; rfl
            · exact hA _ ih c q hq j hj
        · cases hk : ckOK (es + 1) c <;> rw [hk] at hr
          · cases hr
          · cases hr
            refine ⟨rfl, fun j hj => ?_⟩
            rw [List.mem_singleton] at hj
            rw [hj, hb]; rfl
    | _ => (unfold deep1 at hr; exact hO _ r hr)

theorem deepL_facts {n : Nat} : ∀ (c : List AV) (r : List AV × List Nat), deepL h n c = some r → refs r.1 = [] ∧ ∀ i ∈ r.2, (hget h i).isSome = true
  | [], r, hr => by cases hr; exact ⟨rfl, by simp⟩
  | v :: c, r, hr => by
    unfold deepL deepA at hr
    obtain ⟨x, h1, hr⟩ := bnd_some hr
    obtain ⟨y, h2, hr⟩ := bnd_some hr
    cases hr
    obtain ⟨g1, g2⟩ := deep1_facts n v x h1
    obtain ⟨g3, g4⟩ := deepL_facts c y h2
    refine ⟨by simp only [refs, g1, g3], fun i hi => ?_⟩
    rcases List.mem_append.1 hi with hi | hi
    · exact g2 i hi
    · exact g4 i hi

/-- a block's cells, as what is only read -/
def frzH (H : Nat → Option Blk) (k : Nat) (b : Blk) (ids : List Nat) : Nat → Option Blk := fun i => if i = k then some b else if i ∈ ids then none else H i

theorem freeze {k : Nat} {c d : List AV} {ids : List Nat} {op lf : Bool} (hs : SR X0 A ι w H t a) (hk : H k = some ⟨c, op, lf, none⟩) (hd : deepL h 4 c = some (d, ids)) (hH : ∀ i ∈ ids, H i = hget h i) (hkn : k ∉ ids) :
    SR X0 A ι w (frzH H k ⟨d, op, true, none⟩ ids) t a := by
  have hsub : ∀ g, XL X0 ι (frzH H k ⟨d, op, true, none⟩ ids) g → XL X0 ι H g := fun g hg => by
    rcases hg with hg | ⟨i, b, h1, _, h2⟩
    · exact .inl hg
    · unfold frzH at h1
      split at h1
      · rename_i hik; subst hik; exact .inr ⟨i, _, hk, trivial, h2⟩
      · split at h1
        · cases h1
        · exact .inr ⟨i, b, h1, trivial, h2⟩
  obtain ⟨E, N, g1, g2, g3, g4, g5⟩ := hs.hr.blk k _ hk trivial
  obtain ⟨hrefs, hsome⟩ := deepL_facts c (d, ids) hd
  obtain ⟨us, hR, hrange⟩ := range_of (w := w) (R := RC (XL X0 ι H) A ι w) (g := ι k) (o := 0) (c := c) (fun j x hx => by
    obtain ⟨u, hu, hr⟩ := g5 j x hx
    exact ⟨u, by simpa using hu, hr⟩)
  have hRD := deepL_sound (X := XL X0 ι (frzH H k ⟨d, op, true, none⟩ ids)) hs.hr hsub 4 c us d ids hd hR hH (fun i hi hsm hx => by
    have hHi := hH i hi
    obtain ⟨b, hb⟩ := Option.isSome_iff_exists.1 hsm
    rw [hb] at hHi
    rcases hx with hx | ⟨j, bj, h1, _, h2⟩
    · exact hs.hr.own i b hHi trivial hx
    · unfold frzH at h1
      split at h1
      · rename_i hjk
        subst hjk
        have := hs.hr.inj j i _ _ hk hHi trivial trivial h2
        subst this
        exact hkn hi
      · split at h1
        · cases h1
        · rename_i hj
          have := hs.hr.inj j i _ _ h1 hHi trivial trivial h2
          subst this
          exact hj hi)
  refine ⟨⟨fun i b hb _ => ?_, fun i j bi bj hi hj _ _ e => ?_, fun i b hb _ => ?_, fun i b hb hl => ?_, fun i b hb => ?_, fun i b T hb ht => ?_, hs.hr.lt⟩, fun i => ?_⟩
  · unfold frzH at hb
    split at hb
    · rename_i hik
      subst hik
      cases hb
      have hlen : d.length = c.length := by rw [hRD.1, ← hR.1]
      refine ⟨E, N, g1, by show d.length ≤ N; rw [hlen]; exact g2, fun ho => by show d.length = N; rw [hlen]; exact g3 ho, g4, fun j x hx => ?_⟩
      obtain ⟨u, hu, hr⟩ := hRD.ex hx
      have hjl : j < us.length := (List.getElem?_eq_some_iff.1 hu).1
      refine ⟨u, ?_, .deep hr⟩
      have := hrange j u hu
      simpa using this
    · split at hb
      · cases hb
      · obtain ⟨E', N', a1, a2, a3, a4, a5⟩ := hs.hr.blk i b hb trivial
        refine ⟨E', N', a1, a2, a3, a4, fun j x hx => ?_⟩
        obtain ⟨u, hu, hr⟩ := a5 j x hx
        exact ⟨u, hu, hr.mono (fun g _ => hsub g) (fun _ _ _ => rfl) (Grow.refl _) fun _ hi => ⟨hi, rfl⟩⟩
  · have hin : ∀ i b, frzH H k ⟨d, op, true, none⟩ ids i = some b → ∃ b', H i = some b' := fun i b hb => by
      unfold frzH at hb
      split at hb
      · rename_i hik; subst hik; exact ⟨_, hk⟩
      · split at hb
        · cases hb
        · exact ⟨b, hb⟩
    obtain ⟨b1, h1⟩ := hin i bi hi
    obtain ⟨b2, h2⟩ := hin j bj hj
    exact hs.hr.inj i j _ _ h1 h2 trivial trivial e
  · unfold frzH at hb
    split at hb
    · rename_i hik; subst hik; exact hs.hr.own i _ hk trivial
    · split at hb
      · cases hb
      · exact hs.hr.own i b hb trivial
  · unfold frzH at hb
    split at hb
    · cases hb; exact hrefs
    · split at hb
      · cases hb
      · exact hs.hr.leaf i b hb hl
  · unfold frzH at hb
    split at hb
    · rename_i hik; subst hik; exact hs.hr.num i _ hk
    · split at hb
      · cases hb
      · exact hs.hr.num i b hb
  · unfold frzH at hb
    split at hb
    · cases hb; cases ht
    · split at hb
      · cases hb
      · exact hs.hr.typ i b T hb ht
  · exact (hs.fr i).mono (fun g _ => hsub g) (fun _ _ _ => rfl) (Grow.refl _) fun _ hi => ⟨hi, rfl⟩

theorem frz_cases (h : Heap) (e : Eff) : frz h e = e ∨ ∃ c d ids lf, e = { v := e.v, new := [some ⟨c, false, lf, none⟩] } ∧ deepL h 4 c = some (d, ids) ∧ frz h e = { v := e.v, rd := ids, wr := ids.map fun i => (i, none), new := [some ⟨d, false, true, none⟩] } := by
  unfold frz
  split
  · rename_i c lf h1 h2 h3
    cases hd : deepL h 4 c with
    | none => exact .inl rfl
    | some r =>
      refine .inr ⟨c, r.1, r.2, lf, ?_, by rw [hd], rfl⟩
      obtain ⟨v, rd, wr, nw⟩ := e
      simp only at h1 h2 h3
      subst h1 h2 h3
      rfl
  · exact .inl rfl

theorem ok_frz {e0 : Eff} (h0 : OK P X0 A ι w H t a o base e0) (hn : ¬ A base) (hrd : ∀ i ∈ (frz h e0).rd, H i = hget h i) (hA : ∀ i b, H i = some b → A i) : OK P X0 A ι w H t a o base (frz h e0) := by
  rcases frz_cases h e0 with hf | ⟨c, d, ids, lf, he0, hd, hf⟩
  · rw [hf]; exact h0
  · rw [hf] at hrd ⊢
    have hsome := (deepL_facts c (d, ids) hd).2
    have hbn : base ∉ ids := fun hb => by
      obtain ⟨b, hb'⟩ := Option.isSome_iff_exists.1 (hsome base hb)
      have := hrd base hb
      rw [hb'] at this
      exact hn (hA base b this)
    intro K Q hK
    refine h0 K Q fun A' ι' w' a' g1 g2 g3 g4 g5 => ?_
    have hu0 : ∀ i, upd H e0 base i = if i = base then some ⟨c, false, lf, none⟩ else H i := fun i => by
      rw [he0]
      unfold upd
      simp only [List.length_singleton, wrGet]
      by_cases hi : i = base
      · subst hi
        rw [if_pos ⟨Nat.le_refl _, by omega⟩, if_pos rfl]; simp
      · rw [if_neg (by omega), if_neg hi]
    have hu : upd H { v := e0.v, rd := ids, wr := ids.map fun i => (i, none), new := [some ⟨d, false, true, none⟩] } base = frzH (upd H e0 base) base ⟨d, false, true, none⟩ ids := by
      funext i
      unfold upd frzH
      simp only [List.length_singleton]
      by_cases hi : i = base
      · subst hi
        rw [if_pos ⟨Nat.le_refl _, by omega⟩, if_pos rfl]; simp
      · rw [if_neg (by omega), if_neg hi, wrGet_kill]
        by_cases hm : i ∈ ids
        · rw [if_pos hm, if_pos hm]
        · rw [if_neg hm, if_neg hm]
          have := hu0 i
          unfold upd at this
          rw [if_neg hi] at this
          exact this.symm
    have hfz := freeze (t := sett t o.dst e0.v) (a := a') (op := false) g1 (k := base) (by rw [hu0, if_pos rfl]) hd (fun i hi => by
      rw [hu0, if_neg (fun he : i = base => hbn (he ▸ hi))]; exact hrd i hi) hbn
    refine hK A' ι' w' a' (by rw [hu]; exact hfz) ⟨g2.grow, g2.keep, g2.same, fun i b hb hsl => ?_⟩ (fun i => by rw [g3 i]; rw [he0]; simp) g4 g5
    rw [hu] at hb
    unfold frzH at hb
    split at hb
    · rename_i hik
      subst hik
      exact g2.live i ⟨c, false, lf, none⟩ (by rw [hu0, if_pos rfl]) trivial
    · split at hb
      · cases hb
      · exact g2.live i b hb trivial
end
end Sh
