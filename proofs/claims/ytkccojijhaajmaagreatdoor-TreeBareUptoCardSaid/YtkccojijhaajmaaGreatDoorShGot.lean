/-
What a row reads at a type: which data it may be, and how much.
-/
import Derived.Test.YtkccojijhaajmaaGreatDoorShArg2
set_option linter.unusedSimpArgs false
set_option linter.unusedVariables false
set_option linter.unusedSectionVars false
set_option linter.unusedSimpArgs false
namespace Sh
open Go

mutual
/-- how much a reading holds -/
def bulkD {H : Type} : DataW H → Nat
  | .lit (.string b) => b.length + 1
  | .slice es sp => bulkA es + bulkA sp + 1
  | .agg ps => bulkA ps + 1
  | _ => 1
def bulkA {H : Type} : List (DataW H) → Nat
  | [] => 0
  | d :: r => bulkD d + bulkA r
end

/-- a struct's fields: their types and places -/
def fieldsOf (P : Program) (t : TypeId) : Option (List (TypeId × Nat)) := match P.underlying t with
  | some (.struct fs) => some (fs.toList.map fun f => (f.type, f.offset))
  | _ => none

def Each {H : Type} (R : TypeId × Nat → DataW H → Prop) : List (TypeId × Nat) → List (DataW H) → Prop
  | [], [] => True
  | p :: l, d :: r => R p d ∧ Each R l r
  | _, _ => False

theorem each_cons {H : Type} {R : TypeId × Nat → DataW H → Prop} {p l} {ds : List (DataW H)} (h : Each R (p :: l) ds) : ∃ d r, ds = d :: r ∧ R p d ∧ Each R l r := by
  cases ds with
  | nil => exact h.elim
  | cons d r => exact ⟨d, r, rfl, h.1, h.2⟩
theorem each_nil {H : Type} {R : TypeId × Nat → DataW H → Prop} {ds : List (DataW H)} (h : Each R [] ds) : ds = [] := by
  cases ds with
  | nil => rfl
  | cons d r => exact h.elim

def avcl {H : Type} (P : Program) (n : Nat) : List (TypeId × Nat) → Nat → List (DataW H) → Option (List AV)
  | [], _, [] => some []
  | f :: fs, o, d :: r => (avc P n f.1 d).bind fun c => if f.2 = o ∧ c.length = P.cellsOf f.1 then (avcl P n fs (o + P.cellsOf f.1) r).map fun cs => c ++ cs else none
  | _, _, _ => none

theorem avcf_eq {H : Type} (P : Program) (n : Nat) : ∀ (fs : List Field) (o : Nat) (ds : List (DataW H)), avcf P n fs o ds = avcl P n (fs.map fun f => (f.type, f.offset)) o ds
  | [], _, [] => by simp [avcf, avcl]
  | [], _, _ :: _ => by simp [avcf, avcl]
  | _ :: _, _, [] => by simp [avcf, avcl]
  | f :: fs, o, d :: r => by
    simp only [avcf, avcl, List.map_cons, avcf_eq P n fs]

section
variable {H : Type} {enc : TypeId × Value → H} {P : Program} {w : World} {base : Nat} {sp : Nat → Bool} {held : Bool} {n : Nat} {t : TypeId} {cs : List Value} {d : DataW H} {ps : List MemPlace}

theorem got_int {k : IntKind} (hu : P.underlying t = some (.int k)) (h : DataW.trod enc P w base sp held n t cs = some (d, ps)) :
    ∃ v, avc P n t d = some [.int k v] ∧ k.min ≤ v ∧ v ≤ k.max ∧ bulkD d = 1 := by
  cases n with
  | zero => simp [DataW.trod] at h
  | succ n =>
    unfold DataW.trod at h
    rw [hu] at h
    split at h <;> try (simp at *; done)
    rename_i k' k'' v hk
    simp only [Option.some.injEq, TypeDesc.int.injEq] at hk
    subst hk
    split at h
    · rename_i hw
      simp only [Option.some.injEq, Prod.mk.injEq] at h
      obtain ⟨rfl, rfl⟩ := h
      obtain ⟨rfl, hw⟩ := hw
      simp only [Lit.wf, Bool.and_eq_true, decide_eq_true_eq] at hw
      refine ⟨v, ?_, hw.1, hw.2, by simp [bulkD]⟩
      unfold avc
      rw [hu]
    · cases h

theorem got_bool (hu : P.underlying t = some .bool) (h : DataW.trod enc P w base sp held n t cs = some (d, ps)) :
    ∃ v, avc P n t d = some [.bool v] ∧ bulkD d = 1 := by
  cases n with
  | zero => simp [DataW.trod] at h
  | succ n =>
    unfold DataW.trod at h
    rw [hu] at h
    split at h <;> try (simp at *; done)
    rename_i v _
    simp only [Option.some.injEq, Prod.mk.injEq] at h
    obtain ⟨rfl, rfl⟩ := h
    refine ⟨v, ?_, by simp [bulkD]⟩
    unfold avc
    rw [hu]

theorem got_str (hu : P.underlying t = some .string) (h : DataW.trod enc P w base sp held n t cs = some (d, ps)) :
    ∃ s : List UInt8, avc P n t d = some [.str s] ∧ bulkD d = s.length + 1 := by
  cases n with
  | zero => simp [DataW.trod] at h
  | succ n =>
    unfold DataW.trod at h
    rw [hu] at h
    split at h <;> try (simp at *; done)
    rename_i v _
    split at h
    · simp only [Option.some.injEq, Prod.mk.injEq] at h
      obtain ⟨rfl, rfl⟩ := h
      refine ⟨v.data.toList, ?_, by simp [bulkD]⟩
      unfold avc
      rw [hu]
    · cases h

theorem avcs_of {X : Type} {cells : X → List AV} {es : Nat} {e : TypeId} (hes : 2 ≤ es) (hlen : ∀ x, (cells x).length = es) {Q : X → Prop} {B : X → Nat} {BL : List X → Nat} (h0 : BL [] = 0) (h1 : ∀ x l, BL (x :: l) = B x + BL l) :
    ∀ (ds : List (DataW H)), (∀ d ∈ ds, ∃ x, avc P n e d = some (cells x) ∧ Q x ∧ B x ≤ bulkD d) → ∃ l : List X, avcs P n es e ds = some (l.map cells) ∧ (∀ x ∈ l, Q x) ∧ BL l ≤ bulkA ds
  | [], _ => ⟨[], by simp [avcs], by simp, by rw [h0]; exact Nat.zero_le _⟩
  | d :: ds, h => by
    obtain ⟨x, hx, hq, hb⟩ := h d List.mem_cons_self
    obtain ⟨l, hl, hql, hbl⟩ := avcs_of hes hlen h0 h1 ds fun d hd => h d (List.mem_cons_of_mem _ hd)
    have hck : ckOK es (cells x) = true := by
      unfold ckOK
      split
      · omega
      · rfl
    refine ⟨x :: l, ?_, ?_, ?_⟩
    · rw [avcs, hx, Option.bind_some, if_pos ⟨hlen x, by omega, hck⟩, hl]
      rfl
    · intro y hy
      rcases List.mem_cons.1 hy with rfl | hy
      · exact hq
      · exact hql y hy
    · rw [h1, bulkA]; omega

theorem elemOf_agg {c : List AV} (h : 2 ≤ c.length) : elemOf c = .agg c := by
  unfold elemOf
  split
  · simp at h
  · rfl

/-- a slice of what takes two cells or more -/
theorem got_slice {X : Type} {cells : X → List AV} {av : X → AV} (hav : ∀ x, av x = .agg (cells x)) {es : Nat} {e : TypeId} (hu : P.underlying t = some (.slice e)) (hcs : P.cellsOf e = es) (hes : 2 ≤ es) (hlen : ∀ x, (cells x).length = es) {Q : X → Prop} {B : X → Nat} {BL : List X → Nat} (h0 : BL [] = 0) (h1 : ∀ x l, BL (x :: l) = B x + BL l)
    (he : ∀ m cs d ps, m < n → DataW.trod enc P w base sp held m e cs = some (d, ps) → ∃ x, avc P m e d = some (cells x) ∧ Q x ∧ B x ≤ bulkD d)
    (h : DataW.trod enc P w base sp held n t cs = some (d, ps)) :
    ∃ l : List X, avc P n t d = some [.dsl (l.map av)] ∧ (∀ x ∈ l, Q x) ∧ BL l + 1 ≤ bulkD d := by
  cases n with
  | zero => simp [DataW.trod] at h
  | succ n =>
    unfold DataW.trod at h
    rw [hu] at h
    split at h <;> try (simp at *; done)
    · simp only [Option.some.injEq, Prod.mk.injEq] at h
      obtain ⟨rfl, rfl⟩ := h
      refine ⟨[], ?_, by simp, by simp [h0, bulkD]⟩
      unfold avc
      rw [hu]
      rfl
    · rename_i e' a len cap hk
      simp only [Option.some.injEq, TypeDesc.slice.injEq] at hk
      subst hk
      dsimp only at h
      split at h
      · rw [Option.bind_eq_some_iff] at h
        obtain ⟨elems, g1, g2⟩ := h
        rw [Option.map_eq_some_iff] at g2
        obtain ⟨rest, _, g3⟩ := g2
        simp only [Prod.mk.injEq] at g3
        obtain ⟨rfl, rfl⟩ := g3
        obtain ⟨l2, g4⟩ := mapM_get g1
        have key : ∀ d ∈ elems.map (·.1), ∃ x, avc P n e d = some (cells x) ∧ Q x ∧ B x ≤ bulkD d := by
          intro d hd
          obtain ⟨y, hy, rfl⟩ := List.mem_map.1 hd
          obtain ⟨j, hj⟩ := List.getElem?_of_mem hy
          have hjl : j < (List.range len).length := by rw [l2]; exact (List.getElem?_eq_some_iff.1 hj).1
          obtain ⟨y', hy', hr⟩ := g4 j _ (List.getElem?_eq_getElem hjl)
          rw [hj] at hy'
          cases hy'
          rw [Option.bind_eq_some_iff] at hr
          obtain ⟨cs', _, hr⟩ := hr
          exact he n cs' y.1 y.2 (Nat.lt_succ_self _) hr
        obtain ⟨l, hl, hq, hb⟩ := avcs_of (n := n) hes hlen h0 h1 _ key
        refine ⟨l, ?_, hq, by simp only [bulkD]; omega⟩
        unfold avc
        rw [hu]
        have hmap : (l.map cells).map elemOf = l.map av := by
          rw [List.map_map]
          apply List.map_congr_left
          intro x _
          rw [hav]
          exact elemOf_agg (by rw [hlen]; omega)
        cases hel : elems.map (·.1) with
        | nil =>
          rw [hel] at hl
          simp only [avcs, Option.some.injEq] at hl
          have : l = [] := by simpa using hl.symm
          subst this
          rfl
        | cons d0 r =>
          rw [hel] at hl
          simp only [hcs, hl, Option.map_some, hmap]
      · cases h

theorem mapM_each {g : Field → Option (DataW H × List MemPlace)} {R : TypeId × Nat → DataW H → Prop} : ∀ {fs : List Field} {xs : List (DataW H × List MemPlace)}, (∀ f x, f ∈ fs → g f = some x → R (f.type, f.offset) x.1) → fs.mapM g = some xs → Each R (fs.map fun f => (f.type, f.offset)) (xs.map (·.1))
  | [], xs, _, h => by simp at h; subst h; trivial
  | f :: fs, xs, hR, h => by
    rw [List.mapM_cons] at h
    simp only [Option.bind_eq_bind, Option.bind_eq_some_iff, Option.pure_def, Option.some.injEq] at h
    obtain ⟨x, h1, r, h2, rfl⟩ := h
    exact ⟨hR f x List.mem_cons_self h1, mapM_each (fun f x hf => hR f x (List.mem_cons_of_mem _ hf)) h2⟩

theorem got_struct {l : List (TypeId × Nat)} (hf : fieldsOf P t = some l) (h : DataW.trod enc P w base sp held (n + 1) t cs = some (d, ps)) :
    ∃ ds, d = .agg ds ∧ Each (fun p d => ∃ cs ps, DataW.trod enc P w base sp held n p.1 cs = some (d, ps)) l ds := by
  unfold fieldsOf at hf
  split at hf
  · rename_i fs hu
    cases hf
    unfold DataW.trod at h
    rw [hu] at h
    split at h <;> try (simp at *; done)
    rename_i fs' _ _ hk
    simp only [Option.some.injEq, TypeDesc.struct.injEq] at hk
    subst hk
    split at h
    · rw [Option.map_eq_some_iff] at h
      obtain ⟨xs, h1, h2⟩ := h
      simp only [Prod.mk.injEq] at h2
      obtain ⟨rfl, rfl⟩ := h2
      exact ⟨_, rfl, mapM_each (R := fun p d => ∃ cs ps, DataW.trod enc P w base sp held n p.1 cs = some (d, ps)) (fun f x _ hx => ⟨_, _, hx⟩) h1⟩
    · cases h
  · cases hf

theorem avc_struct {l : List (TypeId × Nat)} (hf : fieldsOf P t = some l) (ds : List (DataW H)) : avc P (n + 1) t (.agg ds) = (avcl P n l 0 ds).bind fun c => if c.length = P.cellsOf t then some c else none := by
  unfold fieldsOf at hf
  split at hf
  · rename_i fs hu
    cases hf
    unfold avc
    rw [hu]
    simp only [avcf_eq]
  · cases hf
end
end Sh
