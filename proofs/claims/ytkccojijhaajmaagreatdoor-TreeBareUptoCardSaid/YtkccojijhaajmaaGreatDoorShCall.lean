/-
Calls: what is handed to a function, and what comes back.
-/
import Derived.Test.YtkccojijhaajmaaGreatDoorShOps12
set_option linter.unusedSimpArgs false
set_option linter.unusedVariables false
set_option linter.unusedSectionVars false
set_option linter.unusedSimpArgs false
namespace Sh
open Go

section
variable {P : Program} {X X' X0 A A' : Nat → Prop} {ι ι' : Nat → Nat} {w : World} {H : Nat → Option Blk} {h : Heap} {m : Nat → Option Nat}

/-! ## New names -/
theorem RC.ren {a : AV} {u : Value} (h : RC X A ι w a u) (hA : ∀ i j, A i → m i = some j → A' j ∧ ι' j = ι i) (hX : (∀ b, b < w.heap.size → X' b → X b) ∨ a.isD = false) : RC X' A' ι' w (a.ren1 m) u := by
  cases h with
  | deep h =>
    have hr : a.ren1 m = a := by cases h <;> rfl
    rw [hr]
    rcases hX with hX | hd
    · exact .deep (h.mono hX fun _ _ _ => rfl)
    · exact .deep (h.free hd)
  | ptr i o ha =>
    cases hm : m i with
    | none => simp only [AV.ren1, hm]; exact .deep (.top _ rfl)
    | some j =>
      simp only [AV.ren1, hm]
      obtain ⟨h1, h2⟩ := hA i j ha hm
      rw [← h2]
      exact .ptr j o h1
  | lsl i o n es cap ao c ha hc hn hs =>
    cases hm : m i with
    | none => simp only [AV.ren1, hm]; exact .deep (.top _ rfl)
    | some j =>
      simp only [AV.ren1, hm]
      obtain ⟨h1, h2⟩ := hA i j ha hm
      exact .lsl j o n es cap ao c h1 hc hn (by rw [h2]; exact hs)

theorem RL.map {R R' : AV → Value → Prop} {f : AV → AV} {c : List AV} {vs : List Value} (h : RL R c vs) (k : ∀ a u, a ∈ c → R a u → R' (f a) u) : RL R' (c.map f) vs :=
  ⟨by simpa using h.1, fun j a u ha hu => by
    simp only [List.getElem?_map, Option.map_eq_some_iff] at ha
    obtain ⟨x, hx, rfl⟩ := ha
    exact k x u (List.mem_of_getElem? hx) (h.2 j x u hx hu)⟩

theorem RV1.ren1 {a : AV} {u : Value} (h : RV1 X A ι w a u) (hne : ∀ c, a ≠ .agg c) (hA : ∀ i j, A i → m i = some j → A' j ∧ ι' j = ι i) (hX : (∀ b, b < w.heap.size → X' b → X b) ∨ a.isD = false) : RV1 X' A' ι' w (a.ren1 m) u := by
  cases a
  case agg c => exact absurd rfl (hne c)
  case top => trivial
  case tup => exact h.elim
  all_goals exact RV1.ofC (RC.ren (X := X) (A := A) (ι := ι) h hA hX)

theorem RV1.ren {a : AV} {u : Value} (h : RV1 X A ι w a u) (hA : ∀ i j, A i → m i = some j → A' j ∧ ι' j = ι i) (hX : (∀ b, b < w.heap.size → X' b → X b) ∨ a.hasD1 = false) : RV1 X' A' ι' w (a.renV m) u := by
  by_cases hag : ∃ c, a = .agg c
  · obtain ⟨c, rfl⟩ := hag
    obtain ⟨vs, hv, hl⟩ := h
    refine ⟨vs, hv, hl.map fun a u ha hr => hr.ren hA ?_⟩
    rcases hX with hX | hd
    · exact .inl hX
    · right
      cases hh : a.isD
      · rfl
      · have : c.any AV.isD = true := List.any_eq_true.2 ⟨a, ha, hh⟩
        rw [show c.any AV.isD = false from hd] at this
        cases this
  · have hne : ∀ c, a ≠ .agg c := fun c e => hag ⟨c, e⟩
    have := RV1.ren1 h hne hA (by
      rcases hX with hX | hd
      · exact .inl hX
      · right; cases a <;> first | exact hd | exact absurd rfl (hne _))
    cases a <;> first | exact this | exact absurd rfl (hne _)

theorem RV.ren {a : AV} {u : Value} (h : RV X A ι w a u) (hA : ∀ i j, A i → m i = some j → A' j ∧ ι' j = ι i) (hX : (∀ b, b < w.heap.size → X' b → X b) ∨ a.hasD = false) : RV X' A' ι' w (a.ren m) u := by
  cases a
  case tup c =>
    obtain ⟨vs, hv, hl⟩ := h
    refine ⟨vs, hv, hl.map fun a u ha hr => hr.ren hA ?_⟩
    rcases hX with hX | hd
    · exact .inl hX
    · right
      have hall : ∀ v ∈ c, v.hasD1 = false := by
        simpa [AV.hasD, List.any_eq_false] using hd
      exact hall a ha
  case agg c => exact RV.of1 (a := .agg _) (RV1.ren (a := .agg c) (X := X) (A := A) (ι := ι) h hA hX)
  case top => trivial
  all_goals exact RV.ofC (RC.ren (X := X) (A := A) (ι := ι) h hA hX)

/-! ## What is reached -/
theorem reach_nodup (h : Heap) : ∀ (n : Nat) (todo seen : List Nat), seen.Nodup → (reach h n todo seen).Nodup
  | _, [], _, hs => by unfold reach; exact hs
  | 0, _ :: _, _, hs => by unfold reach; exact hs
  | n + 1, i :: todo, seen, hs => by
    unfold reach
    cases hc : seen.contains i
    · cases hb : hget h i with
      | none => exact reach_nodup h n _ _ hs
      | some b =>
        refine reach_nodup h n _ _ ?_
        rw [List.nodup_append]
        refine ⟨hs, by simp, fun a ha b hb e => ?_⟩
        simp at hb
        subst hb; subst e
        have : seen.contains a = true := by simpa using ha
        rw [this] at hc; cases hc
    · exact reach_nodup h n _ _ hs

theorem reach_live (h : Heap) : ∀ (n : Nat) (todo seen : List Nat) (i : Nat), i ∈ reach h n todo seen → i ∈ seen ∨ (hget h i).isSome = true
  | _, [], _, _, hi => by unfold reach at hi; exact .inl hi
  | 0, _ :: _, _, _, hi => by unfold reach at hi; exact .inl hi
  | n + 1, i :: todo, seen, k, hi => by
    unfold reach at hi
    cases hc : seen.contains i <;> rw [hc] at hi
    · cases hb : hget h i with
      | none => rw [hb] at hi; exact reach_live h n _ _ k hi
      | some b =>
        rw [hb] at hi
        rcases reach_live h n _ _ k hi with h1 | h1
        · rcases List.mem_append.1 h1 with h1 | h1
          · exact .inl h1
          · simp at h1; subst h1; exact .inr (by simp [hb])
        · exact .inr h1
    · exact reach_live h n _ _ k hi

theorem reach_seen (h : Heap) : ∀ (n : Nat) (todo seen : List Nat), ∃ r, reach h n todo seen = seen ++ r
  | _, [], seen => ⟨[], by unfold reach; simp⟩
  | 0, _ :: _, seen => ⟨[], by unfold reach; simp⟩
  | n + 1, i :: todo, seen => by
    unfold reach
    cases hc : seen.contains i
    · cases hb : hget h i with
      | none => exact reach_seen h n _ _
      | some b =>
        obtain ⟨r, hr⟩ := reach_seen h n (todo ++ b.refs) (seen ++ [i])
        exact ⟨i :: r, by simp only []; rw [hr]; simp⟩
    · exact reach_seen h n _ _

theorem idx_some {l : List Nat} {i j : Nat} (h : idx l i = some j) : l[j]? = some i := by
  unfold idx at h
  rw [List.findIdx?_eq_some_iff_getElem] at h
  obtain ⟨hj, h1, _⟩ := h
  rw [List.getElem?_eq_getElem hj]
  simpa using h1

theorem nodup_get {l : List Nat} (h : l.Nodup) {i j k : Nat} (hi : l[i]? = some k) (hj : l[j]? = some k) : i = j := by
  obtain ⟨h1, h2⟩ := List.getElem?_eq_some_iff.1 hi
  obtain ⟨h3, h4⟩ := List.getElem?_eq_some_iff.1 hj
  exact (List.getElem_inj h).1 (h2.trans h4.symm)

/-! ## What is lent -/
theorem chunks_get {es : Nat} : ∀ (n : Nat) (c : List AV) (i : Nat), i < n → (chunks es n c)[i]? = some (.agg ((c.drop (i * es)).take es))
  | 0, _, _, h => by omega
  | n + 1, c, 0, _ => by simp [chunks]
  | n + 1, c, i + 1, h => by
    simp only [chunks, List.getElem?_cons_succ]
    rw [chunks_get n _ i (by omega), List.drop_drop]
    congr 4
    rw [Nat.add_mul]; omega

theorem chunks_len {es : Nat} : ∀ (n : Nat) (c : List AV), (chunks es n c).length = n
  | 0, _ => rfl
  | n + 1, c => by simp [chunks, chunks_len n]

theorem chunk_len {es n : Nat} {c : List AV} (h : c.length = n * es) : (chunk es n c).length = n := by
  unfold chunk
  split
  · omega
  · exact chunks_len n c

/-- a row of cells as a slice that is only read -/
theorem rd_dsl {g o es n cap : Nat} {c : List AV} {us : List Value} {ao : Option Addr} (hR : RL (RD X w) c us) (hr : w.rangeAt g o us) (hX : ¬ X g) (hc : c.length = n * es) (h0 : 0 < es) (hck : ckOK es c = true) (hn : n ≤ cap)
    (hao : n ≠ 0 → ao = some ⟨g, o, none⟩) : RD X w (.dsl (chunk es n c)) (.slice ao n cap) := by
  have hlen := chunk_len hc
  by_cases hn0 : n = 0
  · subst hn0
    have : chunk es 0 c = [] := List.length_eq_zero_iff.1 hlen
    rw [this]
    exact .emp ao cap
  · rw [hao hn0]
    have key : ∀ (i : Nat) (v : AV), (chunk es n c)[i]? = some v → ∃ d, v.cells = some d ∧ d.length = es ∧ ∀ j a, d[j]? = some a → c[i * es + j]? = some a := fun i v hv => by
      have hi : i < n := by rw [← hlen]; exact (List.getElem?_eq_some_iff.1 hv).1
      by_cases h1 : es = 1
      · subst h1
        obtain ⟨d, e1, e2, e3⟩ := elOK_cells (List.all_eq_true.1 (show esOK 1 c = true from hck) v (List.mem_of_getElem? (show c[i]? = some v from hv)))
        refine ⟨d, e1, e2, fun j a ha => ?_⟩
        rw [e3 rfl] at ha
        cases j with
        | zero => simp at ha; subst ha; simpa using (show c[i]? = some v from hv)
        | succ j => simp at ha
      · have hch : chunk es n c = chunks es n c := by unfold chunk; split <;> simp_all
        rw [hch, chunks_get n c i hi] at hv
        have hv := (Option.some.inj hv).symm
        subst hv
        have hle : i * es + es ≤ c.length := by
          rw [hc]
          have : (i + 1) * es ≤ n * es := Nat.mul_le_mul_right _ (by omega)
          rw [Nat.add_mul, Nat.one_mul] at this
          exact this
        refine ⟨_, rfl, by simp; omega, fun j a ha => ?_⟩
        rw [List.getElem?_take] at ha
        split at ha
        · simpa using ha
        · cases ha
    have := RD.dsl (X := X) (w := w) (chunk es n c) g o es cap (fun i j => us.getD (i * es + j) undef) hX h0 (fun e => hn0 (by rw [← hlen, e]; rfl)) (by rw [hlen]; exact hn)
      (fun i v hv => by obtain ⟨d, e1, e2, _⟩ := key i v hv; exact ⟨d, e1, e2⟩)
      (fun i v d j a hv hd ha => by
        obtain ⟨d', e1, e2, e3⟩ := key i v hv
        rw [hd] at e1
        cases e1
        obtain ⟨u, hu, _⟩ := hR.ex (e3 j a ha)
        have := hr _ _ hu
        rw [Nat.add_assoc]
        rw [this]
        simp [List.getD, hu])
      (fun i v d j a hv hd ha => by
        obtain ⟨d', e1, e2, e3⟩ := key i v hv
        rw [hd] at e1
        cases e1
        obtain ⟨u, hu, hr'⟩ := hR.ex (e3 j a ha)
        simpa [List.getD, hu] using hr')
    rwa [hlen] at this

mutual
theorem deep1_sound (hs : HR X0 A ι w H) (hXX : ∀ b, X b → XL X0 ι H b) : ∀ (n : Nat) (a : AV) (u : Value) (d : AV) (l : List Nat), deep1 h n a = some (d, l) → RC (XL X0 ι H) A ι w a u → (∀ i ∈ l, H i = hget h i) → (∀ i ∈ l, (hget h i).isSome = true → ¬ X (ι i)) → RD X w d u
  | n, .nils, u, d, l, he, hr, _, _ => by
    have he : some (AV.dsl [], []) = some (d, l) := by cases n <;> exact he
    cases he
    have := rv_nils (RV.ofC hr)
    subst this
    exact .emp _ _
  | n, .lsl i o len cap es, u, d, l, he, hr, hH, hX => by
    cases n with
    | zero => cases he
    | succ n =>
      unfold deep1 at he
      dsimp only at he
      obtain ⟨b, hb, he1⟩ := bnd_some he
      obtain ⟨c, hc, he2⟩ := bnd_some he1
      clear he he1
      cases es with
      | zero => cases he2
      | succ es =>
        dsimp only at he2
        obtain ⟨ao, cp, hv, ha, hcap, hnc, hsl⟩ := rv_lsl (RV.ofC hr)
        subst hv
        obtain ⟨g1, g2, g3, g4⟩ := getr_some hc
        cases hl : b.leaf <;> rw [hl] at he2
        · obtain ⟨⟨c', l'⟩, hd, he3⟩ := bnd_some he2
          dsimp only at he3
          cases hck : ckOK (es + 1) c' <;> rw [hck] at he3
          · cases he3
          · cases he3
            have hHb : H i = some b := by rw [hH i (by simp), hb]
            obtain ⟨us, hR, hrange⟩ := range_of (w := w) (R := RC (XL X0 ι H) A ι w) (g := ι i) (o := o) (c := c) (fun k x hx => by
              rw [g4 k] at hx
              split at hx
              · exact hs.cellAt hHb (o + k) x hx
              · cases hx)
            have hRD := deepL_sound hs hXX n c us c' l' hd hR (fun j hj => hH j (List.mem_cons_of_mem _ hj)) (fun j hj => hX j (List.mem_cons_of_mem _ hj))
            refine rd_dsl hRD hrange (hX i (by simp) (by rw [hb]; rfl)) (by rw [hRD.1, ← hR.1, g3]) (by omega) hck hnc (fun hn0 => ?_)
            rcases hsl with ⟨h0, _⟩ | ⟨o', rfl, ho', _⟩
            · omega
            · rw [ho' (by omega)]
        · dsimp only at he2
          cases hck : ckOK (es + 1) c <;> rw [hck] at he2
          · cases he2
          · cases he2
            have hHb : H i = some b := by rw [hH i (by simp), hb]
            obtain ⟨us, hR, hrange⟩ := range_of (w := w) (R := RC (XL X0 ι H) A ι w) (g := ι i) (o := o) (c := c) (fun k x hx => by
              rw [g4 k] at hx
              split at hx
              · exact hs.cellAt hHb (o + k) x hx
              · cases hx)
            have hRD : RL (RD X w) c us := hR.imp fun a u ha hr => (hr.toRD (refs_mem (hs.leaf i b hHb hl) (by rw [g2] at ha; exact List.mem_of_mem_drop (List.mem_of_mem_take ha)))).mono (fun g _ hg => hXX g hg) fun _ _ _ => rfl
            refine rd_dsl hRD hrange (hX i (by simp) (by rw [hb]; rfl)) g3 (by omega) hck hnc (fun hn0 => ?_)
            rcases hsl with ⟨h0, _⟩ | ⟨o', rfl, ho', _⟩
            · omega
            · rw [ho' (by omega)]
  | n, .ptr _ _, u, d, l, he, hr, _, _ => by cases n <;> cases he
  | n, .agg _, u, d, l, he, hr, _, _ => by cases n <;> cases he
  | n, .tup _, u, d, l, he, hr, _, _ => by cases n <;> cases he
  | n, .int _ _, u, d, l, he, hr, _, _ => by cases n <;> (cases he; exact (hr.toRD rfl).mono (fun g _ hg => hXX g hg) fun _ _ _ => rfl)
  | n, .bool _, u, d, l, he, hr, _, _ => by cases n <;> (cases he; exact (hr.toRD rfl).mono (fun g _ hg => hXX g hg) fun _ _ _ => rfl)
  | n, .str _, u, d, l, he, hr, _, _ => by cases n <;> (cases he; exact (hr.toRD rfl).mono (fun g _ hg => hXX g hg) fun _ _ _ => rfl)
  | n, .nilp, u, d, l, he, hr, _, _ => by cases n <;> (cases he; exact (hr.toRD rfl).mono (fun g _ hg => hXX g hg) fun _ _ _ => rfl)
  | n, .dsl _, u, d, l, he, hr, _, _ => by cases n <;> (cases he; exact (hr.toRD rfl).mono (fun g _ hg => hXX g hg) fun _ _ _ => rfl)
  | n, .addr _ _, u, d, l, he, hr, _, _ => by cases n <;> (cases he; exact (hr.toRD rfl).mono (fun g _ hg => hXX g hg) fun _ _ _ => rfl)
  | n, .top, u, d, l, he, hr, _, _ => by cases n <;> (cases he; exact (hr.toRD rfl).mono (fun g _ hg => hXX g hg) fun _ _ _ => rfl)

theorem deepL_sound (hs : HR X0 A ι w H) (hXX : ∀ b, X b → XL X0 ι H b) : ∀ (n : Nat) (c : List AV) (us : List Value) (d : List AV) (l : List Nat), deepL h n c = some (d, l) → RL (RC (XL X0 ι H) A ι w) c us → (∀ i ∈ l, H i = hget h i) → (∀ i ∈ l, (hget h i).isSome = true → ¬ X (ι i)) → RL (RD X w) d us
  | n, [], us, d, l, he, hr, _, _ => by
    unfold deepL deepA at he
    cases he
    cases us with
    | nil => exact RL.nil _
    | cons => have := hr.1; simp at this
  | n, v :: c, us, d, l, he, hr, hH, hX => by
    unfold deepL deepA at he
    obtain ⟨x, h1, he1⟩ := bnd_some he
    obtain ⟨y, h2, he2⟩ := bnd_some he1
    cases he2
    cases us with
    | nil => have := hr.1; simp at this
    | cons u us =>
      exact RL.cons (deep1_sound hs hXX n v u x.1 x.2 h1 hr.head (fun j hj => hH j (List.mem_append_left _ hj)) (fun j hj => hX j (List.mem_append_left _ hj)))
        (deepL_sound hs hXX n c us y.1 y.2 h2 hr.tail (fun j hj => hH j (List.mem_append_right _ hj)) (fun j hj => hX j (List.mem_append_right _ hj)))
end
end
end Sh
/-
Calls: the state that a function is handed.
-/
set_option linter.unusedSimpArgs false
namespace Sh
open Go

section
variable {P : Program} {X X' X0 A A' : Nat → Prop} {ι ι' : Nat → Nat} {w : World} {H : Nat → Option Blk} {h : Heap} {m : Nat → Option Nat}

theorem deepV_sound (hs : HR X0 A ι w H) (hXX : ∀ b, X b → XL X0 ι H b) {a : AV} {u : Value} {d : AV} {l : List Nat} (he : deepV h a = some (d, l)) (hr : RV1 (XL X0 ι H) A ι w a u) (hH : ∀ i ∈ l, H i = hget h i) (hX : ∀ i ∈ l, (hget h i).isSome = true → ¬ X (ι i)) :
    RV1 X A ι w d u := by
  by_cases hag : ∃ c, a = .agg c
  · obtain ⟨c, rfl⟩ := hag
    obtain ⟨r, h1, h2⟩ := bnd_some (show ((deepL h 4 c).bnd fun r => some (AV.agg r.1, r.2)) = some (d, l) from he)
    cases h2
    obtain ⟨vs, rfl, hl⟩ := hr
    exact ⟨vs, rfl, (deepL_sound hs hXX 4 c vs.toList r.1 r.2 h1 hl hH hX).imp fun _ _ _ h => .deep h⟩
  · have he' : deep1 h 4 a = some (d, l) := by cases a <;> first | exact he | exact absurd ⟨_, rfl⟩ hag
    by_cases ht : a = .top
    · subst ht
      have : d = .top := by cases he'; rfl
      subst this
      trivial
    · have hRC : RC (XL X0 ι H) A ι w a u := by
        cases a <;> first | exact hr | exact absurd rfl ht | exact absurd ⟨_, rfl⟩ hag | exact hr.elim
      exact RV1.ofC (.deep (deep1_sound hs hXX 4 a u d l he' hRC hH hX))

theorem deepVs_sound (hs : HR X0 A ι w H) (hXX : ∀ b, X b → XL X0 ι H b) : ∀ {c : List AV} {us : List Value} {d : List AV} {l : List Nat}, deepVs h c = some (d, l) → RL (RV1 (XL X0 ι H) A ι w) c us → (∀ i ∈ l, H i = hget h i) → (∀ i ∈ l, (hget h i).isSome = true → ¬ X (ι i)) → RL (RV1 X A ι w) d us
  | [], us, d, l, he, hr, _, _ => by
    unfold deepVs at he
    cases he
    cases us with
    | nil => exact RL.nil _
    | cons => have := hr.1; simp at this
  | v :: c, us, d, l, he, hr, hH, hX => by
    unfold deepVs at he
    obtain ⟨x, h1, he1⟩ := bnd_some he
    obtain ⟨y, h2, he2⟩ := bnd_some he1
    cases he2
    cases us with
    | nil => have := hr.1; simp at this
    | cons u us =>
      exact RL.cons (deepV_sound hs hXX h1 hr.head (fun j hj => hH j (List.mem_append_left _ hj)) (fun j hj => hX j (List.mem_append_left _ hj)))
        (deepVs_sound hs hXX h2 hr.tail (fun j hj => hH j (List.mem_append_right _ hj)) (fun j hj => hX j (List.mem_append_right _ hj)))

theorem deep_sound (hs : HR X0 A ι w H) (hXX : ∀ b, X b → XL X0 ι H b) {a : AV} {u : Value} {d : AV} {l : List Nat} (he : deep h a = some (d, l)) (hr : RV (XL X0 ι H) A ι w a u) (hH : ∀ i ∈ l, H i = hget h i) (hX : ∀ i ∈ l, (hget h i).isSome = true → ¬ X (ι i)) :
    RV X A ι w d u := by
  by_cases htp : ∃ c, a = .tup c
  · obtain ⟨c, rfl⟩ := htp
    obtain ⟨r, h1, h2⟩ := bnd_some (show ((deepVs h c).bnd fun r => some (AV.tup r.1, r.2)) = some (d, l) from he)
    cases h2
    obtain ⟨vs, rfl, hl⟩ := hr
    exact ⟨vs, rfl, deepVs_sound hs hXX h1 hl hH hX⟩
  · have he' : deepV h a = some (d, l) := by cases a <;> first | exact he | exact absurd ⟨_, rfl⟩ htp
    have hr' : RV1 (XL X0 ι H) A ι w a u := by cases a <;> first | exact hr | exact absurd ⟨_, rfl⟩ htp
    exact RV.of1 (deepV_sound hs hXX he' hr' hH hX)

/-- each argument as the callee takes it -/
theorem lend_sound (hs : HR X0 A ι w H) (hXX : ∀ b, X b → XL X0 ι H b) : ∀ {m : List Bool} {c : List AV} {us : List Value} {d : List AV} {l : List Nat}, lend h m c = some (d, l) → RL (RV (XL X0 ι H) A ι w) c us →
    (∀ i ∈ l, H i = hget h i) → (∀ i ∈ l, (hget h i).isSome = true → ¬ X (ι i)) → RL (fun a u => RV (XL X0 ι H) A ι w a u ∨ RV X A ι w a u) d us
  | m, [], us, d, l, he, hr, _, _ => by
    unfold lend at he
    cases he
    cases us with
    | nil => exact RL.nil _
    | cons => have := hr.1; simp at this
  | m, v :: c, us, d, l, he, hr, hH, hX => by
    cases us with
    | nil => have := hr.1; simp at this
    | cons u us =>
      have key : ∀ m', ((deep h v).bnd fun d => (lend h m' c).bnd fun a => some (d.1 :: a.1, d.2 ++ a.2)) = some (d, l) → RL (fun a u => RV (XL X0 ι H) A ι w a u ∨ RV X A ι w a u) d (u :: us) := fun m' he => by
        obtain ⟨x, h1, he1⟩ := bnd_some he
        obtain ⟨y, h2, he2⟩ := bnd_some he1
        cases he2
        exact RL.cons (.inr (deep_sound hs hXX h1 hr.head (fun j hj => hH j (List.mem_append_left _ hj)) (fun j hj => hX j (List.mem_append_left _ hj))))
          (lend_sound hs hXX h2 hr.tail (fun j hj => hH j (List.mem_append_right _ hj)) (fun j hj => hX j (List.mem_append_right _ hj)))
      cases m with
      | nil => exact key _ he
      | cons b m =>
        cases b with
        | false => exact key _ he
        | true =>
          unfold lend at he
          obtain ⟨x, h1, he1⟩ := bnd_some he
          cases he1
          exact RL.cons (.inl hr.head) (lend_sound hs hXX h1 hr.tail hH hX)

/-- A function that is entered. -/
def Enters (P : Program) (f : FuncId) : Prop := ∃ fn, P.funcs[f]? = some fn ∧ fn.body.isNone = false ∧ fn.name ≠ "runtime.NumGoroutine"

/-- A call: of a function with a text, or of one that the model answers. -/
def CallsX (P : Program) (f : FuncId) (vals : Array Value) (w : World) (R : Ending → World → Prop) : Prop :=
  (Enters P f ∧ Calls P f vals w R) ∨ ∃ v w', (callFunc f vals).run P w = .ok (.value v) w' ∧ R (.returned v) w'

/-- What a call of a function comes to. -/
def Sound1 (P : Program) (f : FuncId) (args : List AV) (h : Heap) (r : AV × Heap) : Prop :=
  ∀ (X0 : Nat → Prop) (ι : Nat → Nat) (w : World) (vals : Array Value), HR X0 (· < h.length) ι w (hget h) → RL (RV (XL X0 ι (hget h)) (· < h.length) ι w) args vals.toList →
    CallsX P f vals w fun e w' => match e with
      | .returned v => ∃ ι', HR X0 (· < r.2.length) ι' w' (hget r.2) ∧ RV (XL X0 ι' (hget r.2)) (· < r.2.length) ι' w' r.1 v ∧ Chg (· < h.length) ι w (hget h) (· < r.2.length) ι' w' (hget r.2) ∧ h.length ≤ r.2.length
      | .panicked _ => False
      | .outgrown => False

/-- blocks that a callee may not touch -/
def XC (X0 : Nat → Prop) (ι : Nat → Nat) (H : Nat → Option Blk) (ids lent : List Nat) (g : Nat) : Prop := X0 g ∨ ∃ i b, H i = some b ∧ ι i = g ∧ i ∉ ids ∧ i ∉ lent

def ιC (ι : Nat → Nat) (ids : List Nat) (j : Nat) : Nat := ι (ids.getD j 0)

theorem Blk.ren_leaf (b : Blk) (m : Nat → Option Nat) : (b.ren m).leaf = b.leaf ∧ (b.ren m).op = b.op ∧ (b.ren m).c.length = b.c.length := by
  unfold Blk.ren
  cases hl : b.leaf <;> simp [hl]

theorem Blk.ren_ty (b : Blk) (m : Nat → Option Nat) : (b.ren m).ty = b.ty := by
  unfold Blk.ren
  cases hl : b.leaf <;> simp [hl]

theorem getD_of {l : List Nat} {j k : Nat} (h : l[j]? = some k) : l.getD j 0 = k := by simp [List.getD, h]

/-- Some of the blocks, under new numbers. -/
theorem sub_HR {Y : Nat → Prop} {ids : List Nat} (hs : HR X0 A ι w H) (hnd : ids.Nodup) (hH : ∀ i ∈ ids, H i = hget h i) (hY : ∀ g, Y g → XL X0 ι H g) (hYo : ∀ i b, i ∈ ids → H i = some b → ¬ Y (ι i)) (hYl : ∀ g, Y g → g < w.heap.size) :
    HR Y (· < ids.length) (ιC ι ids) w (hget (ids.map fun i => (hget h i).map (Blk.ren (idx ids)))) ∧
    (∀ g, XL Y (ιC ι ids) (hget (ids.map fun i => (hget h i).map (Blk.ren (idx ids)))) g → XL X0 ι H g) ∧
    (∀ i j, A i → idx ids i = some j → j < ids.length ∧ ιC ι ids j = ι i) ∧
    (∀ j b', hget (ids.map fun i => (hget h i).map (Blk.ren (idx ids))) j = some b' → ∃ i b, ids[j]? = some i ∧ H i = some b ∧ b' = b.ren (idx ids)) := by
  have hget' : ∀ j b', hget (ids.map fun i => (hget h i).map (Blk.ren (idx ids))) j = some b' → ∃ i b, ids[j]? = some i ∧ H i = some b ∧ b' = b.ren (idx ids) := fun j b' hb => by
    unfold hget at hb
    rw [List.getElem?_map] at hb
    cases hi : ids[j]? with
    | none => simp [hi] at hb
    | some i =>
      rw [hi] at hb
      simp only [Option.map_some, Option.getD_some] at hb
      obtain ⟨b, h1, h2⟩ := Option.map_eq_some_iff.1 hb
      exact ⟨i, b, rfl, by rw [hH i (List.mem_of_getElem? hi)]; exact h1, h2.symm⟩
  have hX : ∀ g, XL Y (ιC ι ids) (hget (ids.map fun i => (hget h i).map (Blk.ren (idx ids)))) g → XL X0 ι H g := fun g hg => by
    rcases hg with hg | ⟨j, b', hj, _, e⟩
    · exact hY g hg
    · obtain ⟨i, b, h1, h2, _⟩ := hget' j b' hj
      refine .inr ⟨i, b, h2, trivial, ?_⟩
      rw [← e, ιC, getD_of h1]
  have hren : ∀ i j, A i → idx ids i = some j → j < ids.length ∧ ιC ι ids j = ι i := fun i j _ hij => by
    have := idx_some hij
    exact ⟨(List.getElem?_eq_some_iff.1 this).1, by rw [ιC, getD_of this]⟩
  refine ⟨⟨fun j b' hj _ => ?_, fun j k bj bk hj hk _ _ e => ?_, fun j b' hj _ => ?_, fun j b' hj hl => ?_, fun j b' hj => ?_, fun j b' T hj ht => ?_, fun g hg => ?_⟩, hX, hren, hget'⟩
  · obtain ⟨i, b, h1, h2, rfl⟩ := hget' j b' hj
    obtain ⟨E, N, g1, g2, g3, g4, g5⟩ := hs.blk i b h2 trivial
    have hι : ιC ι ids j = ι i := by rw [ιC, getD_of h1]
    obtain ⟨l1, l2, l3⟩ := Blk.ren_leaf b (idx ids)
    rw [hι]
    refine ⟨E, N, g1, by rw [l3]; exact g2, fun ho => by rw [l3]; exact g3 (l2 ▸ ho), g4, fun k a ha => ?_⟩
    unfold Blk.ren at ha
    cases hl : b.leaf <;> rw [hl] at ha
    · simp only [List.getElem?_map, Option.map_eq_some_iff] at ha
      obtain ⟨a0, h3, rfl⟩ := ha
      obtain ⟨u, hu, hr⟩ := g5 k a0 h3
      exact ⟨u, hu, hr.ren hren (.inl fun g _ => hX g)⟩
    · obtain ⟨u, hu, hr⟩ := g5 k a ha
      have := hr.toRD (refs_mem (hs.leaf i b h2 hl) (List.mem_of_getElem? ha))
      exact ⟨u, hu, .deep (this.mono (fun g _ => hX g) fun _ _ _ => rfl)⟩
  · obtain ⟨i, b, h1, h2, rfl⟩ := hget' j bj hj
    obtain ⟨i', b', h3, h4, rfl⟩ := hget' k bk hk
    rw [ιC, ιC, getD_of h1, getD_of h3] at e
    have := hs.inj i i' b b' h2 h4 trivial trivial e
    subst this
    exact nodup_get hnd h1 h3
  · obtain ⟨i, b, h1, h2, rfl⟩ := hget' j b' hj
    rw [ιC, getD_of h1]
    exact hYo i b (List.mem_of_getElem? h1) h2
  · obtain ⟨i, b, h1, h2, rfl⟩ := hget' j b' hj
    obtain ⟨l1, l2, l3⟩ := Blk.ren_leaf b (idx ids)
    rw [l1] at hl
    unfold Blk.ren
    rw [hl]
    exact hs.leaf i b h2 hl
  · obtain ⟨i, b, h1, h2, rfl⟩ := hget' j b' hj
    exact (List.getElem?_eq_some_iff.1 h1).1
  · obtain ⟨i, b, h1, h2, rfl⟩ := hget' j b' hj
    rw [Blk.ren_ty] at ht
    rw [ιC, getD_of h1]
    exact hs.typ i b T h2 ht
  · exact hYl g hg
/-- what the callee sees -/
theorem callee_HR {ids lent : List Nat} (hs : HR X0 A ι w H) (hnd : ids.Nodup) (hH : ∀ i ∈ ids, H i = hget h i) :
    HR (XC X0 ι H ids lent) (· < ids.length) (ιC ι ids) w (hget (ids.map fun i => (hget h i).map (Blk.ren (idx ids)))) ∧
    (∀ g, XL (XC X0 ι H ids lent) (ιC ι ids) (hget (ids.map fun i => (hget h i).map (Blk.ren (idx ids)))) g → XL X0 ι H g) ∧
    (∀ i j, A i → idx ids i = some j → j < ids.length ∧ ιC ι ids j = ι i) ∧
    (∀ j b', hget (ids.map fun i => (hget h i).map (Blk.ren (idx ids))) j = some b' → ∃ i b, ids[j]? = some i ∧ H i = some b ∧ b' = b.ren (idx ids)) := by
  refine sub_HR hs hnd hH (fun g hg => ?_) (fun i b hi hb hx => ?_) (fun g hg => ?_)
  · rcases hg with hg | ⟨i, b, h1, h2, _⟩
    · exact .inl hg
    · exact .inr ⟨i, b, h1, trivial, h2⟩
  · rcases hx with hx | ⟨i', bi, h3, h4, h5, _⟩
    · exact hs.own i b hb trivial hx
    · have := hs.inj i' i bi b h3 hb trivial trivial h4
      subst this
      exact h5 hi
  · rcases hg with hg | ⟨i, b, h1, h2, _⟩
    · exact hs.lt g hg
    · rw [← h2]; exact hs.lt_size h1 trivial
end
end Sh
