/-
Calls, as operations.
-/
import Derived.Test.YtkccojijhaajmaaGreatDoorShCall3
set_option linter.unusedSimpArgs false
set_option linter.unusedVariables false
set_option linter.unusedSectionVars false
set_option linter.unusedSimpArgs false
namespace Sh
open Go

section
variable {P : Program} {X X' X0 A A' : Nat → Prop} {ι ι' : Nat → Nat} {w : World} {H : Nat → Option Blk} {h : Heap} {t t' : Fr} {a : Act} {base : Nat} {e : Eff} {dst : Option Tmp} {ty : TypeId} {pos : String} {af : Array Edge} {gd : Option (Nat × Bool)}

theorem prep_some {m : Mode} {args : List AV} {p : Prep} (hp : prep m args h = some p) : ∃ a1, lend h m.live args = some (a1, p.lent) ∧ p.ids = reach h (fuelR h) (a1.flatMap AV.refs) [] ∧ (∀ k ∈ p.lent, k ∉ p.ids) ∧
    p.args = a1.map (AV.ren (idx p.ids)) ∧ p.heap = p.ids.map fun i => (hget h i).map (Blk.ren (idx p.ids)) := by
  unfold prep at hp
  obtain ⟨⟨a1, l⟩, h1, h2⟩ := bnd_some hp
  dsimp only at h2
  split at h2
  · cases h2
  · rename_i hno
    cases h2
    refine ⟨a1, h1, rfl, fun k hk hi => ?_, rfl, rfl⟩
    rw [List.any_eq_false] at hno
    exact hno k hk (by simpa using hi)

theorem back_some {p : Prep} {r : AV × Heap} (hb : back p base r = some e) : p.ids.length ≤ r.2.length ∧ ∃ K, (K = p.lent ∨ (r.1.hasD = false ∧ ∀ j b, hget r.2 j = some b → b.c.any AV.isD = false)) ∧ (∀ k ∈ K, k ∈ p.lent) ∧
    e = { v := r.1.ren (backId p.ids base), rd := p.ids ++ p.lent, wr := zipWr p.ids (r.2.map fun b => b.map (Blk.ren (backId p.ids base))) ++ K.map fun i => (i, none), new := (r.2.map fun b => b.map (Blk.ren (backId p.ids base))).drop p.ids.length } := by
  unfold back at hb
  split at hb
  · cases hb
  · rename_i hle
    have hle := of_decide_eq_true hle
    refine ⟨hle, ?_⟩
    have hb := (Option.some.inj hb).symm
    by_cases hl : p.lent = []
    · refine ⟨[], .inl hl.symm, by simp, ?_⟩
      rw [hb, hl]; rfl
    · cases hD : (r.1.hasD || r.2.any (fun b => b.any fun b => b.c.any AV.isD))
      · refine ⟨[], .inr ?_, by simp, ?_⟩
        · rw [Bool.or_eq_false_iff] at hD
          refine ⟨hD.1, fun j b hj => ?_⟩
          have h2 := hD.2
          rw [List.any_eq_false] at h2
          unfold hget at hj
          cases hjj : r.2[j]? with
          | none => simp [hjj] at hj
          | some ob =>
            rw [hjj] at hj
            simp only [Option.getD_some] at hj
            subst hj
            have := h2 _ (List.mem_of_getElem? hjj)
            simpa using this
        · rw [hb]
          cases hll : p.lent with
          | nil => exact absurd hll hl
          | cons x l => simp only [hD]; rfl
      · refine ⟨p.lent, .inl rfl, fun _ h => h, ?_⟩
        rw [hb]
        cases hll : p.lent with
        | nil => exact absurd hll hl
        | cons x l => simp only [hD]

theorem ok_call {f : FuncId} {args : Array Operand} {at_ : Array TypeId} {m : Mode} {p : Prep} {r : AV × Heap} (hs : SR X0 A ι w H t' a) (hd : ∀ d, dst = some d → d < a.tmps.size) (hn : ∀ k, base ≤ k → k < base + e.new.length → ¬ A k)
    (hxs : ∀ x ∈ args.toList, XR P X0 A ι w H a t x) (hrd : ∀ i ∈ e.rd, H i = hget h i) (hp : prep m (args.toList.map (opv t)) h = some p) (hcall : Sound1 P f p.args p.heap r) (hb : back p base r = some e) :
    OK P X0 A ι w H t' a ⟨dst, .call ⟨.value (.func f), args, at_⟩, ty, pos, af, gd⟩ base e := by
  obtain ⟨a1, hlend, hids, hdis, hpa, hph⟩ := prep_some hp
  obtain ⟨hle, K, hK, _, rfl⟩ := back_some hb
  have hnd : p.ids.Nodup := by rw [hids]; exact reach_nodup h _ _ _ List.nodup_nil
  have hHi : ∀ i ∈ p.ids, H i = hget h i := fun i hi => hrd i (List.mem_append_left _ hi)
  have hHl : ∀ i ∈ p.lent, H i = hget h i := fun i hi => hrd i (List.mem_append_right _ hi)
  have hliv : ∀ i ∈ p.ids, ∃ b, H i = some b := fun i hi => by
    rw [hHi i hi]
    rw [hids] at hi
    rcases reach_live h _ _ _ i hi with h1 | h1
    · simp at h1
    · exact Option.isSome_iff_exists.1 h1
  have hidA : ∀ i ∈ p.ids, A i := fun i hi => by
    obtain ⟨b, hb⟩ := hliv i hi
    exact hs.hr.num i b hb
  obtain ⟨c1, c2, c3, c4⟩ := callee_HR (lent := p.lent) hs.hr hnd hHi
  rw [← hph] at c1 c2 c4
  have hargs : RL (RV (XL X0 ι H) A ι w) (args.toList.map (opv t)) (args.map a.eval).toList := by
    refine ⟨by simp, fun j x u hx hu => ?_⟩
    simp only [List.getElem?_map, Option.map_eq_some_iff] at hx
    obtain ⟨y, hy, rfl⟩ := hx
    simp only [Array.toList_map, List.getElem?_map, hy, Option.map_some, Option.some.injEq] at hu
    subst hu
    exact hxs y (List.mem_of_getElem? hy)
  have hXX : ∀ g, XL (XC X0 ι H p.ids p.lent) (ιC ι p.ids) (hget p.heap) g → XL X0 ι H g := c2
  have hlentX : ∀ i ∈ p.lent, (hget h i).isSome = true → ¬ XL (XC X0 ι H p.ids p.lent) (ιC ι p.ids) (hget p.heap) (ι i) := fun i hi hsome hx => by
    obtain ⟨b, hb⟩ := Option.isSome_iff_exists.1 hsome
    have hHb : H i = some b := by rw [hHl i hi]; exact hb
    rcases hx with (hx | ⟨k, bk, h1, h2, h3, h4⟩) | ⟨j, b', hj, _, e⟩
    · exact hs.hr.own i b hHb trivial hx
    · have := hs.hr.inj k i bk b h1 hHb trivial trivial h2
      subst this
      exact h4 hi
    · obtain ⟨k, bk, h1, h2, _⟩ := c4 j b' hj
      rw [ιC, getD_of h1] at e
      have := hs.hr.inj k i bk b h2 hHb trivial trivial e
      subst this
      exact hdis k hi (List.mem_of_getElem? h1)
  have hl2 := lend_sound hs.hr hXX hlend hargs hHl hlentX
  have hvals : RL (RV (XL (XC X0 ι H p.ids p.lent) (ιC ι p.ids) (hget p.heap)) (· < p.heap.length) (ιC ι p.ids) w) p.args (args.map a.eval).toList := by
    have hpl : p.heap.length = p.ids.length := by rw [hph]; simp
    rw [hpa, hpl]
    refine hl2.map fun x u _ hr => ?_
    rcases hr with hr | hr
    · exact hr.ren c3 (.inl fun g _ => hXX g)
    · exact hr.ren c3 (.inl fun g _ => id)
  have hpl : p.heap.length = p.ids.length := by rw [hph]; simp
  have c1' : HR (XC X0 ι H p.ids p.lent) (· < p.heap.length) (ιC ι p.ids) w (hget p.heap) := by rw [hpl]; exact c1
  have hcalls := hcall (XC X0 ι H p.ids p.lent) (ιC ι p.ids) w (args.map a.eval) c1' hvals
  intro Kk Q hK'
  have hcont : ∀ v w', (∃ ι', HR (XC X0 ι H p.ids p.lent) (· < r.2.length) ι' w' (hget r.2) ∧ RV (XL (XC X0 ι H p.ids p.lent) ι' (hget r.2)) (· < r.2.length) ι' w' r.1 v ∧ Chg (· < p.heap.length) (ιC ι p.ids) w (hget p.heap) (· < r.2.length) ι' w' (hget r.2) ∧ p.heap.length ≤ r.2.length) → Kk (a.put dst v) w' := fun v w' ⟨ι'', r1, r2, r3, r4⟩ => by
    rw [hpl] at r3
    have hnl : ((r.2.map fun b => b.map (Blk.ren (backId p.ids base))).drop p.ids.length).length = r.2.length - p.ids.length := by simp
    have := back_HR (base := base) (rv := r.1) (rd := p.ids ++ p.lent) (K := K) hs.hr hnd hle (fun k h1 h2 => hn k h1 (by simp only [hnl]; exact h2)) hidA (fun j b' hj => by obtain ⟨i, b, g1, g2, _⟩ := c4 j b' hj; exact ⟨i, b, g1, g2⟩) r1 r3 hK
    obtain ⟨m1, m2, m3, m4⟩ := this
    refine hK' _ _ w' (a.put dst v) ⟨m1, fun j => ?_⟩ m2 (fun i => Iff.rfl) (put_defers _ _) (put_size _ _)
    exact fr_put (o := ⟨dst, .call ⟨.value (.func f), args, at_⟩, ty, pos, af, gd⟩) (fun j => m3 _ _ (hs.fr j)) (m4 v r2) hd j
  have hexec : ∀ nx, (callFunc f (args.map a.eval)).run P w = nx → (execOp a.eval (⟨dst, .call ⟨.value (.func f), args, at_⟩, ty, pos, af, gd⟩ : Oper)).run P w = nx := fun nx hnx => by
    simp [execOp, resolve, Act.eval, Deferred.ofValue, invoke]
    exact hnx
  unfold Oper.wp
  rcases hcalls with ⟨⟨fn, hf, hbody, hname⟩, hc⟩ | ⟨v, w', hrun, hR⟩
  · have hrun : (callFunc f (args.map a.eval)).run P w = .ok (.enter f (args.map a.eval)) w := by
      unfold callFunc
      simp only [Sem.run_bind, run_program, Result.andThen_ok, hf]
      rw [if_neg (by simpa using hname), if_neg (by simp [hbody])]
      rfl
    rw [hexec _ hrun, Oper.upon_enter]
    refine hc.mono fun en w' hen => ?_
    cases en with
    | returned v => exact hcont v w' hen
    | panicked => exact hen.elim
    | outgrown => exact hen.elim
  · rw [hexec _ hrun, Oper.upon_value]
    exact hcont v w' hR
end
end Sh
