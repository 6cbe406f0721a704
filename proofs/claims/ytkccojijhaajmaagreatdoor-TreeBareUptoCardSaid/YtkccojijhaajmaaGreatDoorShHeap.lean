/-
How the live blocks stand after a block is made, written or given up.
-/
import Derived.Test.YtkccojijhaajmaaGreatDoorShRel
set_option linter.unusedSimpArgs false
set_option linter.unusedVariables false
set_option linter.unusedSectionVars false
namespace Sh
open Go

/-- From one state of memory to a later one: what isn't one's own stays, and what is one's own later is new or was one's own. -/
structure Chg (A : Nat → Prop) (ι : Nat → Nat) (w : World) (H : Nat → Option Blk) (A' : Nat → Prop) (ι' : Nat → Nat) (w' : World) (H' : Nat → Option Blk) : Prop where
  grow : Grow w w'
  keep : ∀ g, g < w.heap.size → (∀ i b, H i = some b → b.solid → ι i ≠ g) → w'.heap[g]? = w.heap[g]?
  same : ∀ i, A i → A' i ∧ ι' i = ι i
  live : ∀ i b, H' i = some b → b.solid → w.heap.size ≤ ι' i ∨ ∃ j bj, H j = some bj ∧ bj.solid ∧ ι j = ι' i

theorem Chg.refl (A ι w H) : Chg A ι w H A ι w H := ⟨Grow.refl _, fun _ _ _ => rfl, fun _ h => ⟨h, rfl⟩, fun i b h hs => .inr ⟨i, b, h, hs, rfl⟩⟩

theorem Chg.trans {A ι w H A' ι' w' H' A'' ι'' w'' H''} (h : Chg A ι w H A' ι' w' H') (k : Chg A' ι' w' H' A'' ι'' w'' H'') : Chg A ι w H A'' ι'' w'' H'' where
  grow := h.grow.trans k.grow
  keep := fun g hg hn => by
    rw [k.keep g (Nat.lt_of_lt_of_le hg h.grow.size) (fun i b hi hs e => ?_), h.keep g hg hn]
    rcases h.live i b hi hs with hl | ⟨j, bj, hj, hjs, hje⟩
    · omega
    · exact hn j bj hj hjs (hje.trans e)
  same := fun i hi => by
    obtain ⟨h1, h2⟩ := h.same i hi
    obtain ⟨h3, h4⟩ := k.same i h1
    exact ⟨h3, h4.trans h2⟩
  live := fun i b hi hs => by
    rcases k.live i b hi hs with hl | ⟨j, bj, hj, hjs, hje⟩
    · exact .inl (Nat.le_trans h.grow.size hl)
    · rcases h.live j bj hj hjs with hl | ⟨j', bj', hj', hjs', hje'⟩
      · exact .inl (by omega)
      · exact .inr ⟨j', bj', hj', hjs', hje'.trans hje⟩

section
variable {X0 A : Nat → Prop} {ι : Nat → Nat} {w : World} {H : Nat → Option Blk}

theorem HR.lt_size (h : HR X0 A ι w H) {i : Nat} {b : Blk} (hi : H i = some b) (hs : b.solid) : ι i < w.heap.size := by
  obtain ⟨E, N, h1, _⟩ := h.blk i b hi hs
  exact shape_lt h1

theorem HR.xl_lt (h : HR X0 A ι w H) (g : Nat) (hg : XL X0 ι H g) : g < w.heap.size := by
  rcases hg with hg | ⟨i, b, hi, hs, rfl⟩
  · exact h.lt g hg
  · exact h.lt_size hi hs

/-- a draw -/
theorem HR.drew (h : HR X0 A ι w H) : HR X0 A ι w.drew H where
  blk := fun i b hi hs => by
    obtain ⟨E, N, h1, h2, h3, h4, h5⟩ := h.blk i b hi hs
    exact ⟨E, N, h1, h2, h3, h4, fun j a ha => by
      obtain ⟨u, hu, hr⟩ := h5 j a ha
      exact ⟨u, hu, hr.mono (fun _ _ h => h) (fun _ _ _ => rfl) (Grow.drew w) (fun _ h => ⟨h, rfl⟩)⟩⟩
  inj := h.inj
  own := h.own
  leaf := h.leaf
  num := h.num
  typ := h.typ
  lt := h.lt

theorem Chg.drew (A ι) (w : World) (H) : Chg A ι w H A ι w.drew H := ⟨Grow.drew w, fun _ _ _ => rfl, fun _ h => ⟨h, rfl⟩, fun i b h hs => .inr ⟨i, b, h, hs, rfl⟩⟩

/-- the world has grown, and what is one's own and what is lived in stands -/
theorem HR.grow {w' : World} (h : HR X0 A ι w H) (hg : Grow w w') (hb : ∀ g, g < w.heap.size → w'.heap[g]? = w.heap[g]?) : HR X0 A ι w' H where
  blk := fun i b hi hs => by
    obtain ⟨E, N, h1, h2, h3, h4, h5⟩ := h.blk i b hi hs
    have hl := shape_lt h1
    refine ⟨E, N, hg.shape _ _ h1, h2, h3, fun j hj => by rw [frozen_of_block (hb _ hl)]; exact h4 j hj, fun j a ha => ?_⟩
    obtain ⟨u, hu, hr⟩ := h5 j a ha
    exact ⟨u, by rw [cell_of_block (hb _ hl)]; exact hu, hr.mono (fun _ _ h => h) (fun g hg' _ => hb g hg') hg (fun _ h => ⟨h, rfl⟩)⟩
  inj := h.inj
  own := h.own
  leaf := h.leaf
  num := h.num
  typ := fun i b T hi ht => by obtain ⟨N, hN⟩ := h.typ i b T hi ht; exact ⟨N, hg.shape _ _ hN⟩
  lt := fun g hX => Nat.lt_of_lt_of_le (h.lt g hX) hg.size

/-- A block is given up. -/
def kill (H : Nat → Option Blk) (i : Nat) : Nat → Option Blk := fun j => if j = i then none else H j

theorem xl_kill {X0 : Nat → Prop} {ι : Nat → Nat} {H : Nat → Option Blk} {i g : Nat} (h : XL X0 ι (kill H i) g) : XL X0 ι H g := by
  rcases h with h | ⟨j, b, hj, hs, e⟩
  · exact .inl h
  · simp only [kill] at hj
    split at hj
    · cases hj
    · exact .inr ⟨j, b, hj, hs, e⟩

theorem kill_some {H : Nat → Option Blk} {i j : Nat} {b : Blk} (h : kill H i j = some b) : H j = some b ∧ j ≠ i := by
  simp only [kill] at h
  split at h
  · cases h
  · exact ⟨h, by assumption⟩

theorem HR.kill (h : HR X0 A ι w H) (i : Nat) : HR X0 A ι w (kill H i) where
  blk := fun j b hj hs => by
    obtain ⟨hj, _⟩ := kill_some hj
    obtain ⟨E, N, h1, h2, h3, h4, h5⟩ := h.blk j b hj hs
    refine ⟨E, N, h1, h2, h3, h4, fun k a ha => ?_⟩
    obtain ⟨u, hu, hr⟩ := h5 k a ha
    exact ⟨u, hu, hr.mono (fun _ _ => xl_kill) (fun _ _ _ => rfl) (Grow.refl w) (fun _ h => ⟨h, rfl⟩)⟩
  inj := fun i j bi bj hi hj => h.inj i j bi bj (kill_some hi).1 (kill_some hj).1
  own := fun i b hi => h.own i b (kill_some hi).1
  leaf := fun i b hi => h.leaf i b (kill_some hi).1
  num := fun i b hi => h.num i b (kill_some hi).1
  typ := fun i b T hi => h.typ i b T (kill_some hi).1
  lt := h.lt

theorem Chg.kill (A ι w) (H : Nat → Option Blk) (i : Nat) : Chg A ι w H A ι w (kill H i) :=
  ⟨Grow.refl w, fun _ _ _ => rfl, fun _ h => ⟨h, rfl⟩, fun j b hj hs => .inr ⟨j, b, (kill_some hj).1, hs, rfl⟩⟩

/-- A block is laid under a new number. -/
def lay1 (H : Nat → Option Blk) (n : Nat) (b : Blk) : Nat → Option Blk := fun j => if j = n then some b else H j
def setN (ι : Nat → Nat) (n g : Nat) : Nat → Nat := fun j => if j = n then g else ι j
def addN (A : Nat → Prop) (n : Nat) : Nat → Prop := fun j => A j ∨ j = n

theorem setN_same (ι : Nat → Nat) (n g : Nat) : setN ι n g n = g := by simp [setN]
theorem setN_other (ι : Nat → Nat) {n g j : Nat} (h : j ≠ n) : setN ι n g j = ι j := by simp [setN, h]

/-- what a new block may hold: each cell stands for its abstract one -/
structure Fits (b : Blk) (C : Array Value) (fr : Nat × Nat) (R : AV → Value → Prop) : Prop where
  le : b.c.length ≤ C.size
  eq : b.op = false → b.c.length = C.size
  free : ∀ j, j < C.size → ¬ (fr.1 ≤ j ∧ j < fr.2)
  cell : ∀ (j : Nat) (a : AV), b.c[j]? = some a → ∃ u, C[j]? = some u ∧ R a u
  leaf : b.leaf = true → refs b.c = []

theorem xl_fresh {n g k : Nat} {b : Blk} (hg : g = w.heap.size) (hk : k < w.heap.size) (h : XL X0 (setN ι n g) (lay1 H n b) k) : XL X0 ι H k := by
  rcases h with h | ⟨i, bi, hi, hs, e⟩
  · exact .inl h
  · by_cases hin : i = n
    · subst hin; rw [setN_same] at e; omega
    · simp only [lay1, if_neg hin] at hi
      rw [setN_other _ hin] at e
      exact .inr ⟨i, bi, hi, hs, e⟩

/-- what stood in the state before stands with a new block -/
theorem RC.fresh {n : Nat} {b : Blk} {w' : World} {a : AV} {u : Value} (h : RC (XL X0 ι H) A ι w a u) (hn : ¬ A n) (hg : Grow w w') (hb : ∀ k, k < w.heap.size → w'.heap[k]? = w.heap[k]?) :
    RC (XL X0 (setN ι n w.heap.size) (lay1 H n b)) (addN A n) (setN ι n w.heap.size) w' a u :=
  h.mono (fun _ hk => xl_fresh rfl hk) (fun k hk _ => hb k hk) hg (fun i hi => ⟨.inl hi, setN_other _ (fun e => hn (e ▸ hi))⟩)

theorem RV.fresh {n : Nat} {b : Blk} {w' : World} {a : AV} {u : Value} (h : RV (XL X0 ι H) A ι w a u) (hn : ¬ A n) (hg : Grow w w') (hb : ∀ k, k < w.heap.size → w'.heap[k]? = w.heap[k]?) :
    RV (XL X0 (setN ι n w.heap.size) (lay1 H n b)) (addN A n) (setN ι n w.heap.size) w' a u :=
  h.mono (fun _ hk => xl_fresh rfl hk) (fun k hk _ => hb k hk) hg (fun i hi => ⟨.inl hi, setN_other _ (fun e => hn (e ▸ hi))⟩)

/-- A new block. -/
theorem HR.alloc {w' : World} {n : Nat} {b : Blk} {C : Array Value} {E : TypeId} {fr : Nat × Nat} (h : HR X0 A ι w H) (hn : ¬ A n) (hg : Grow w w')
    (hb : ∀ k, k < w.heap.size → w'.heap[k]? = w.heap[k]?) (hnew : w'.heap[w.heap.size]? = some (.cells C E fr)) (hf : Fits b C fr (RC (XL X0 ι H) A ι w)) (hty : ∀ T, b.ty = some T → T = E) :
    HR X0 (addN A n) (setN ι n w.heap.size) w' (lay1 H n b) ∧ Chg A ι w H (addN A n) (setN ι n w.heap.size) w' (lay1 H n b) := by
  refine ⟨⟨fun i bi hi hs => ?_, fun i j bi bj hi hj hsi hsj e => ?_, fun i bi hi hs => ?_, fun i bi hi => ?_, fun i bi hi => ?_, fun i bi T hi ht => ?_, fun g hX => Nat.lt_of_lt_of_le (h.lt g hX) hg.size⟩,
    ⟨hg, fun g hgl _ => hb g hgl, fun i hi => ⟨.inl hi, setN_other _ (fun e => hn (e ▸ hi))⟩, fun i bi hi hs => ?_⟩⟩
  · by_cases hin : i = n
    · subst hin
      simp only [lay1, if_pos, Option.some.injEq] at hi
      subst hi
      rw [setN_same]
      refine ⟨E, C.size, by simp [World.shape?, hnew], hf.le, hf.eq, fun j hj => ?_, fun j a ha => ?_⟩
      · have := hf.free j hj
        simp only [World.frozen?, hnew]
        simp only [Bool.and_eq_false_iff, decide_eq_false_iff_not]
        rcases Nat.lt_or_ge j fr.1 with h1 | h1
        · exact .inl (by omega)
        · exact .inr (by omega)
      · obtain ⟨u, hu, hr⟩ := hf.cell j a ha
        exact ⟨u, by simp [World.cell?, hnew, hu], hr.fresh hn hg hb⟩
    · simp only [lay1, if_neg hin] at hi
      obtain ⟨E', N, h1, h2, h3, h4, h5⟩ := h.blk i bi hi hs
      have hl := shape_lt h1
      rw [setN_other _ hin]
      refine ⟨E', N, hg.shape _ _ h1, h2, h3, fun j hj => by rw [frozen_of_block (hb _ hl)]; exact h4 j hj, fun j a ha => ?_⟩
      obtain ⟨u, hu, hr⟩ := h5 j a ha
      exact ⟨u, by rw [cell_of_block (hb _ hl)]; exact hu, hr.fresh hn hg hb⟩
  · by_cases hin : i = n <;> by_cases hjn : j = n
    · omega
    · exfalso
      subst hin
      simp only [lay1, if_neg hjn] at hj
      rw [setN_same, setN_other _ hjn] at e
      have := h.lt_size hj hsj
      omega
    · exfalso
      subst hjn
      simp only [lay1, if_neg hin] at hi
      rw [setN_same, setN_other _ hin] at e
      have := h.lt_size hi hsi
      omega
    · rw [setN_other _ hin, setN_other _ hjn] at e
      simp only [lay1, if_neg hin] at hi
      simp only [lay1, if_neg hjn] at hj
      exact h.inj i j bi bj hi hj hsi hsj e
  · by_cases hin : i = n
    · subst hin; rw [setN_same]; exact fun hx => absurd (h.lt _ hx) (by omega)
    · simp only [lay1, if_neg hin] at hi; rw [setN_other _ hin]; exact h.own i bi hi hs
  · by_cases hin : i = n
    · subst hin; simp only [lay1, if_pos, Option.some.injEq] at hi; subst hi; exact hf.leaf
    · simp only [lay1, if_neg hin] at hi; exact h.leaf i bi hi
  · by_cases hin : i = n
    · exact .inr hin
    · simp only [lay1, if_neg hin] at hi; exact .inl (h.num i bi hi)
  · by_cases hin : i = n
    · subst hin
      simp only [lay1, if_pos, Option.some.injEq] at hi
      subst hi
      rw [hty T ht, setN_same]
      exact ⟨C.size, by simp [World.shape?, hnew]⟩
    · simp only [lay1, if_neg hin] at hi
      obtain ⟨N, hN⟩ := h.typ i bi T hi ht
      rw [setN_other _ hin]
      exact ⟨N, hg.shape _ _ hN⟩
  · by_cases hin : i = n
    · subst hin; rw [setN_same]; exact .inl (Nat.le_refl _)
    · simp only [lay1, if_neg hin] at hi; rw [setN_other _ hin]; exact .inr ⟨i, bi, hi, hs, rfl⟩

/-- What a block that is written holds. -/
structure FitsAt (b : Blk) (w' : World) (g N : Nat) (R : AV → Value → Prop) : Prop where
  le : b.c.length ≤ N
  eq : b.op = false → b.c.length = N
  free : ∀ j, j < N → w'.frozen? ⟨g, j, none⟩ = false
  cell : ∀ (j : Nat) (a : AV), b.c[j]? = some a → ∃ u, w'.cell? ⟨g, j, none⟩ = some u ∧ R a u
  leaf : b.leaf = true → refs b.c = []

theorem xl_lay1 {i : Nat} {b0 b : Blk} (h0 : H i = some b0) (hs0 : b0.solid) {g : Nat} (h : XL X0 ι (lay1 H i b) g) : XL X0 ι H g := by
  rcases h with h | ⟨j, bj, hj, hsj, e⟩
  · exact .inl h
  · by_cases hji : j = i
    · subst hji; exact .inr ⟨j, b0, h0, hs0, e⟩
    · simp only [lay1, if_neg hji] at hj; exact .inr ⟨j, bj, hj, hsj, e⟩

/-- A live block is written. -/
theorem HR.write {w' : World} {i N : Nat} {b0 b : Blk} {E : TypeId} (h : HR X0 A ι w H) (h0 : H i = some b0) (hs0 : b0.solid) (hg : Grow w w')
    (hb : ∀ k, k < w.heap.size → k ≠ ι i → w'.heap[k]? = w.heap[k]?) (hsh : w'.shape? (ι i) = some (E, N)) (hf : FitsAt b w' (ι i) N (RC (XL X0 ι H) A ι w)) (hty : b.ty = b0.ty) :
    HR X0 A ι w' (lay1 H i b) ∧ Chg A ι w H A ι w' (lay1 H i b) ∧ (∀ a u, RV (XL X0 ι H) A ι w a u → RV (XL X0 ι (lay1 H i b)) A ι w' a u) := by
  have hne : ∀ k, k < w.heap.size → ¬ XL X0 ι H k → w'.heap[k]? = w.heap[k]? := fun k hk hx => hb k hk (fun e => hx (.inr ⟨i, b0, h0, hs0, e.symm⟩))
  have hRC : ∀ {a u}, RC (XL X0 ι H) A ι w a u → RC (XL X0 ι (lay1 H i b)) A ι w' a u := fun hr =>
    hr.mono (fun g _ => xl_lay1 h0 hs0) hne hg (fun _ h => ⟨h, rfl⟩)
  have ho : ∀ {j bj}, j ≠ i → lay1 H i b j = some bj → H j = some bj := fun {j bj} hji hj => by simpa only [lay1, if_neg hji] using hj
  refine ⟨⟨fun j bj hj hsj => ?_, fun j k bj bk hj hk hsj hsk e => ?_, fun j bj hj hsj => ?_, fun j bj hj => ?_, fun j bj hj => ?_, fun j bj T hj ht => ?_, fun g hX => Nat.lt_of_lt_of_le (h.lt g hX) hg.size⟩,
    ⟨hg, fun g hgl hn => hb g hgl (fun e => hn i b0 h0 hs0 e.symm), fun _ h => ⟨h, rfl⟩, fun j bj hj hsj => ?_⟩,
    fun a u hr => hr.mono (fun g _ => xl_lay1 h0 hs0) hne hg (fun _ h => ⟨h, rfl⟩)⟩
  · by_cases hji : j = i
    · subst hji
      simp only [lay1, if_pos, Option.some.injEq] at hj
      subst hj
      refine ⟨E, N, hsh, hf.le, hf.eq, hf.free, fun k a ha => ?_⟩
      obtain ⟨u, hu, hr⟩ := hf.cell k a ha
      exact ⟨u, hu, hRC hr⟩
    · have hj' := ho hji hj
      obtain ⟨E', N', h1, h2, h3, h4, h5⟩ := h.blk j bj hj' hsj
      have hl := shape_lt h1
      have hnj : ι j ≠ ι i := fun e => hji (h.inj j i bj b0 hj' h0 hsj hs0 e)
      refine ⟨E', N', hg.shape _ _ h1, h2, h3, fun k hk => by rw [frozen_of_block (hb _ hl hnj)]; exact h4 k hk, fun k a ha => ?_⟩
      obtain ⟨u, hu, hr⟩ := h5 k a ha
      exact ⟨u, by rw [cell_of_block (hb _ hl hnj)]; exact hu, hRC hr⟩
  · by_cases hji : j = i <;> by_cases hki : k = i
    · omega
    · subst hji; exact h.inj j k b0 bk h0 (ho hki hk) hs0 hsk e
    · subst hki; exact h.inj j k bj b0 (ho hji hj) h0 hsj hs0 e
    · exact h.inj j k bj bk (ho hji hj) (ho hki hk) hsj hsk e
  · by_cases hji : j = i
    · subst hji; exact h.own j b0 h0 hs0
    · exact h.own j bj (ho hji hj) hsj
  · by_cases hji : j = i
    · subst hji; simp only [lay1, if_pos, Option.some.injEq] at hj; subst hj; exact hf.leaf
    · exact h.leaf j bj (ho hji hj)
  · by_cases hji : j = i
    · subst hji; exact h.num j b0 h0
    · exact h.num j bj (ho hji hj)
  · by_cases hji : j = i
    · subst hji
      simp only [lay1, if_pos, Option.some.injEq] at hj
      subst hj
      obtain ⟨M, hM⟩ := h.typ j b0 T h0 (hty ▸ ht)
      exact ⟨M, hg.shape _ _ hM⟩
    · obtain ⟨M, hM⟩ := h.typ j bj T (ho hji hj) ht
      exact ⟨M, hg.shape _ _ hM⟩
  · by_cases hji : j = i
    · subst hji; exact .inr ⟨j, b0, h0, hs0, rfl⟩
    · exact .inr ⟨j, bj, ho hji hj, hsj, rfl⟩

theorem xl_move {i n g : Nat} {b0 b : Blk} (h0 : H i = some b0) (hs0 : b0.solid) (h : XL X0 (setN ι n (ι i)) (lay1 (Sh.kill H i) n b) g) : XL X0 ι H g := by
  rcases h with h | ⟨j, bj, hj, hsj, e⟩
  · exact .inl h
  · by_cases hjn : j = n
    · subst hjn; rw [setN_same] at e; exact .inr ⟨i, b0, h0, hs0, e⟩
    · simp only [lay1, if_neg hjn] at hj
      rw [setN_other _ hjn] at e
      exact .inr ⟨j, bj, (kill_some hj).1, hsj, e⟩

/-- A live block is written and gets a new number. -/
theorem HR.move {w' : World} {i n N : Nat} {b0 b : Blk} {E : TypeId} (h : HR X0 A ι w H) (hn : ¬ A n) (h0 : H i = some b0) (hs0 : b0.solid) (hg : Grow w w')
    (hb : ∀ k, k < w.heap.size → k ≠ ι i → w'.heap[k]? = w.heap[k]?) (hsh : w'.shape? (ι i) = some (E, N)) (hf : FitsAt b w' (ι i) N (RC (XL X0 ι H) A ι w)) (hty : ∀ T, b.ty = some T → b0.ty = some T) :
    HR X0 (addN A n) (setN ι n (ι i)) w' (lay1 (Sh.kill H i) n b) ∧ Chg A ι w H (addN A n) (setN ι n (ι i)) w' (lay1 (Sh.kill H i) n b) ∧
      (∀ a u, RV (XL X0 ι H) A ι w a u → RV (XL X0 (setN ι n (ι i)) (lay1 (Sh.kill H i) n b)) (addN A n) (setN ι n (ι i)) w' a u) := by
  have hne : ∀ k, k < w.heap.size → ¬ XL X0 ι H k → w'.heap[k]? = w.heap[k]? := fun k hk hx => hb k hk (fun e => hx (.inr ⟨i, b0, h0, hs0, e.symm⟩))
  have hA : ∀ j, A j → addN A n j ∧ setN ι n (ι i) j = ι j := fun j hj => ⟨.inl hj, setN_other _ (fun e => hn (e ▸ hj))⟩
  have hRC : ∀ {a u}, RC (XL X0 ι H) A ι w a u → RC (XL X0 (setN ι n (ι i)) (lay1 (Sh.kill H i) n b)) (addN A n) (setN ι n (ι i)) w' a u := fun hr =>
    hr.mono (fun g _ => xl_move h0 hs0) hne hg hA
  have ho : ∀ {j bj}, j ≠ n → lay1 (Sh.kill H i) n b j = some bj → H j = some bj ∧ j ≠ i := fun {j bj} hji hj => by
    simp only [lay1, if_neg hji] at hj; exact kill_some hj
  refine ⟨⟨fun j bj hj hsj => ?_, fun j k bj bk hj hk hsj hsk e => ?_, fun j bj hj hsj => ?_, fun j bj hj => ?_, fun j bj hj => ?_, fun j bj T hj ht => ?_, fun g hX => Nat.lt_of_lt_of_le (h.lt g hX) hg.size⟩,
    ⟨hg, fun g hgl hn => hb g hgl (fun e => hn i b0 h0 hs0 e.symm), hA, fun j bj hj hsj => ?_⟩,
    fun a u hr => hr.mono (fun g _ => xl_move h0 hs0) hne hg hA⟩
  · by_cases hji : j = n
    · subst hji
      simp only [lay1, if_pos, Option.some.injEq] at hj
      subst hj
      rw [setN_same]
      refine ⟨E, N, hsh, hf.le, hf.eq, hf.free, fun k a ha => ?_⟩
      obtain ⟨u, hu, hr⟩ := hf.cell k a ha
      exact ⟨u, hu, hRC hr⟩
    · obtain ⟨hj', hji'⟩ := ho hji hj
      obtain ⟨E', N', h1, h2, h3, h4, h5⟩ := h.blk j bj hj' hsj
      have hl := shape_lt h1
      have hnj : ι j ≠ ι i := fun e => hji' (h.inj j i bj b0 hj' h0 hsj hs0 e)
      rw [setN_other _ hji]
      refine ⟨E', N', hg.shape _ _ h1, h2, h3, fun k hk => by rw [frozen_of_block (hb _ hl hnj)]; exact h4 k hk, fun k a ha => ?_⟩
      obtain ⟨u, hu, hr⟩ := h5 k a ha
      exact ⟨u, by rw [cell_of_block (hb _ hl hnj)]; exact hu, hRC hr⟩
  · by_cases hji : j = n <;> by_cases hki : k = n
    · omega
    · subst hji
      obtain ⟨hk', hki'⟩ := ho hki hk
      rw [setN_same, setN_other _ hki] at e
      exact absurd (h.inj i k b0 bk h0 hk' hs0 hsk e).symm hki'
    · subst hki
      obtain ⟨hj', hji'⟩ := ho hji hj
      rw [setN_same, setN_other _ hji] at e
      exact absurd (h.inj j i bj b0 hj' h0 hsj hs0 e) hji'
    · rw [setN_other _ hji, setN_other _ hki] at e
      exact h.inj j k bj bk (ho hji hj).1 (ho hki hk).1 hsj hsk e
  · by_cases hji : j = n
    · subst hji; rw [setN_same]; exact h.own i b0 h0 hs0
    · rw [setN_other _ hji]; exact h.own j bj (ho hji hj).1 hsj
  · by_cases hji : j = n
    · subst hji; simp only [lay1, if_pos, Option.some.injEq] at hj; subst hj; exact hf.leaf
    · exact h.leaf j bj (ho hji hj).1
  · by_cases hji : j = n
    · exact .inr hji
    · exact .inl (h.num j bj (ho hji hj).1)
  · by_cases hji : j = n
    · subst hji
      simp only [lay1, if_pos, Option.some.injEq] at hj
      subst hj
      obtain ⟨M, hM⟩ := h.typ i b0 T h0 (hty T ht)
      rw [setN_same]
      exact ⟨M, hg.shape _ _ hM⟩
    · obtain ⟨M, hM⟩ := h.typ j bj T (ho hji hj).1 ht
      rw [setN_other _ hji]
      exact ⟨M, hg.shape _ _ hM⟩
  · by_cases hji : j = n
    · subst hji; rw [setN_same]; exact .inr ⟨i, b0, h0, hs0, rfl⟩
    · rw [setN_other _ hji]; exact .inr ⟨j, bj, (ho hji hj).1, hsj, rfl⟩
end
end Sh
