/-
The operations, one by one: the greater and the smaller of two, slices built and made, conversions.
-/
import Derived.Test.YtkccojijhaajmaaGreatDoorShOps8
import Derived.Laws.OwnMore
import Derived.Laws.IdiomStrings
set_option linter.unusedSimpArgs false
set_option linter.unusedVariables false
set_option linter.unusedSectionVars false
set_option linter.unusedSimpArgs false
namespace Sh
open Go

section
variable {P : Program} {X0 A : Nat → Prop} {ι : Nat → Nat} {w : World} {H : Nat → Option Blk} {t t' : Fr} {h : Heap} {a : Act} {base : Nat} {e : Eff} {dst : Option Tmp} {ty : TypeId} {pos : String} {af : Array Edge} {gd : Option (Nat × Bool)}

theorem ok_max {x y : Operand} {at_ : Array TypeId} (hs : SR X0 A ι w H t' a) (hd : ∀ d, dst = some d → d < a.tmps.size) (hx : XR P X0 A ι w H a t x) (hy : XR P X0 A ι w H a t y)
    (he : (match [opv t x, opv t y] with
      | [.int k a, .int j b] => if k = j then Eff.of (.int k (if a < b then b else a)) else none
      | _ => none) = some e) : OK P X0 A ι w H t' a ⟨dst, .call ⟨.builtin .max, #[x, y], at_⟩, ty, pos, af, gd⟩ base e := by
  unfold XR at hx hy
  cases hx2 : opv t x <;> rw [hx2] at he hx <;> try (simp at he; done)
  cases hy2 : opv t y <;> rw [hy2] at he hy <;> try (simp at he; done)
  dsimp only at he
  split at he
  · rename_i hk
    subst hk
    rw [of_some he]
    have h1 := rv_int hx
    have h2 := rv_int hy
    exact ok_pure hs hd (by simp [execOp, resolve, invoke, builtin, Builtin.max_, Builtin.max2, h1, h2]) (RV.ofC (.deep (.int _ _)))
  · cases he

theorem ok_min {x y : Operand} {at_ : Array TypeId} (hs : SR X0 A ι w H t' a) (hd : ∀ d, dst = some d → d < a.tmps.size) (hx : XR P X0 A ι w H a t x) (hy : XR P X0 A ι w H a t y)
    (he : (match [opv t x, opv t y] with
      | [.int k a, .int j b] => if k = j then Eff.of (.int k (if b < a then b else a)) else none
      | _ => none) = some e) : OK P X0 A ι w H t' a ⟨dst, .call ⟨.builtin .min, #[x, y], at_⟩, ty, pos, af, gd⟩ base e := by
  unfold XR at hx hy
  cases hx2 : opv t x <;> rw [hx2] at he hx <;> try (simp at he; done)
  cases hy2 : opv t y <;> rw [hy2] at he hy <;> try (simp at he; done)
  dsimp only at he
  split at he
  · rename_i hk
    subst hk
    rw [of_some he]
    have h1 := rv_int hx
    have h2 := rv_int hy
    exact ok_pure hs hd (by simp [execOp, resolve, invoke, builtin, Builtin.min_, Builtin.min2, h1, h2]) (RV.ofC (.deep (.int _ _)))
  · cases he

/-- A NEW SLICE OF A NEW BLOCK. -/
theorem ok_newSlice {n c es : Nat} {cap : Option Nat} {b : Blk} {C : Array Value} {E : TypeId} {f : Nat × Nat} {w' : World} {o : Oper} (hs : SR X0 A ι w H t' a) (hd : ∀ d, o.dst = some d → d < a.tmps.size)
    (hn : ¬ A base) (hr : (execOp a.eval o).run P w = .ok (.value (.slice (some ⟨w.heap.size, 0, none⟩) n c)) w') (hg : Grow w w') (hb : ∀ k, k < w.heap.size → w'.heap[k]? = w.heap[k]?)
    (hnew : w'.heap[w.heap.size]? = some (.cells C E f)) (hf : Fits b C f (RC (XL X0 ι H) A ι w)) (hcap : ∀ k, cap = some k → c = k) (hnc : n ≤ c) (hfit : c * es ≤ C.size) (hfr : 0 < C.size ∨ f.1 = f.2) (hty : ∀ T, b.ty = some T → T = E) :
    OK P X0 A ι w H t' a o base { v := .lsl base 0 n cap es, new := [some b] } := by
  refine ok_new hs hd hn hr hg hb hnew hf hty (RV.ofC ?_)
  exact RC.lsl _ _ _ _ _ _ _ (.inr rfl) hcap hnc (.inr ⟨0, by rw [setN_same], fun _ => rfl, E, C.size, by rw [setN_same]; simp [World.shape?, hnew], by omega⟩)

theorem fillc_len {place : Nat → Option (Nat × Nat)} : ∀ {ps : List (Nat × AV)} {zc c : List AV}, fillc place zc ps = some c → c.length = zc.length
  | [], zc, c, h => by simp only [fillc, Option.some.injEq] at h; rw [h]
  | (i, v) :: r, zc, c, h => by
    simp only [fillc] at h
    obtain ⟨⟨off, size⟩, _, h1⟩ := bnd_some h
    obtain ⟨vc, _, h2⟩ := bnd_some h1
    dsimp only at h2
    split at h2
    · obtain ⟨c', h3, h4⟩ := bnd_some h2
      rw [fillc_len h4, (putr_some h3).2.2.1]
    · cases h2

theorem rl_get {R : AV → Value → Prop} {c : List AV} {vs : List Value} (h : RL R c vs) {j : Nat} {a : AV} (ha : c[j]? = some a) : ∃ u, vs[j]? = some u ∧ R a u := h.ex ha

theorem fits_rl {c : List AV} {C : Array Value} {R : AV → Value → Prop} {leaf : Bool} (h : RL R c C.toList) (hl : leaf = true → refs c = []) : Fits ⟨c, false, leaf, none⟩ C (0, 0) R :=
  ⟨by have := h.1; simp at this ⊢; omega, fun _ => by have := h.1; simpa using this, fun j _ hj => by simp at hj, fun j a ha => by obtain ⟨u, h1, h2⟩ := h.ex ha; exact ⟨u, by simpa using h1, h2⟩, hl⟩

theorem leaf_iff {c : List AV} (h : isLeaf c = true) : refs c = [] := by simpa [isLeaf] using h

theorem rl_replicate {R : AV → Value → Prop} {v : AV} {u : Value} (h : R v u) : ∀ n, RL R (List.replicate n v) (List.replicate n u)
  | 0 => RL.nil R
  | n + 1 => by rw [List.replicate_succ, List.replicate_succ]; exact RL.cons h (rl_replicate h n)

theorem made_flat (z : Array Value) : ∀ n, (madeCells z (n * z.size)).toList = (List.replicate n z.toList).flatten := by
  intro n
  induction n with
  | zero => simp [madeCells]
  | succ n ih =>
    rw [List.replicate_succ', List.flatten_append]
    have : (madeCells z ((n + 1) * z.size)).toList = (madeCells z (n * z.size)).toList ++ z.toList := by
      unfold madeCells
      rw [Nat.add_mul, Nat.one_mul]
      simp only [Array.toList_map, Array.toList_range, List.range_add, List.map_append, List.map_map]
      congr 1
      apply List.ext_getElem
      · simp
      · intro j h1 h2
        simp only [Array.length_toList] at h2
        simp [Nat.mod_eq_of_lt h2, getElem!_pos, h2]
    rw [this, ih]
    simp

theorem rl_flatten {R : AV → Value → Prop} {c : List AV} {z : List Value} (h : RL R c z) : ∀ n, RL R (List.replicate n c).flatten (List.replicate n z).flatten
  | 0 => RL.nil R
  | n + 1 => by rw [List.replicate_succ, List.replicate_succ, List.flatten_cons, List.flatten_cons]; exact h.append (rl_flatten h n)

theorem ok_makeSlice {T : TypeId} {x y : Operand} (hs : SR X0 A ι w H t' a) (hd : ∀ d, dst = some d → d < a.tmps.size) (hn : e.new ≠ [] → ¬ A base) (hx : XR P X0 A ι w H a t x) (hy : XR P X0 A ι w H a t y)
    (he : (match opv t x, opv t y with
    | .int .i64 l, .int .i64 c => match (lay P T).kind with
      | .slice => (lay P (lay P T).et).zero.bnd fun z => z.cells.bnd fun zc =>
        if 0 ≤ l ∧ l ≤ c ∧ c * (lay P T).eb ≤ 140737488355328 ∧ c ≤ 140737488355328 ∧ zc.length = (lay P T).es ∧ 0 < zc.length then
          some ({ v := .lsl base 0 l.toNat (some c.toNat) (lay P T).es, new := [some ⟨repc c.toNat zc, false, isLeaf zc, none⟩] } : Eff)
        else none
      | _ => none
    | _, _ => none) = some e) : OK P X0 A ι w H t' a ⟨dst, .makeSlice T x y, ty, pos, af, gd⟩ base e := by
  unfold XR at hx hy
  cases hx2 : opv t x <;> rw [hx2] at he hx <;> try (simp at he; done)
  rename_i kl l
  cases kl <;> try (simp at he; done)
  cases hy2 : opv t y <;> rw [hy2] at he hy <;> try (simp at he; done)
  rename_i kc c
  cases kc <;> try (simp at he; done)
  dsimp only at he
  split at he
  · rename_i hk
    obtain ⟨el, hu, hie, hes⟩ := lay_slice hk
    have het : (lay P T).et = el := by unfold lay; simp only [hu]
    have heb : (lay P T).eb = ((P.info? el).map (·.bytes)).getD 0 := by unfold lay; simp only [hu]
    rw [het, heb] at he
    obtain ⟨z0, hz0, he1⟩ := bnd_some he
    rw [lay_zero] at hz0
    obtain ⟨z, hz, rfl⟩ := Option.map_eq_some_iff.1 hz0
    obtain ⟨zc, hzc, he2⟩ := bnd_some he1
    clear he he1
    split at he2
    · rename_i hc
      obtain ⟨h0, hlc, hby, hc2, hzl, hpos⟩ := hc
      cases he2
      obtain ⟨i, hi⟩ := Option.isSome_iff_exists.1 hie
      simp only [hi, Option.bind_some, Option.map_some, Option.getD_some] at hz hby hes
      have hcells := (rv_ofVal (X := XL X0 ι H) (A := A) (ι := ι) (w := w) z).cells hzc
      have hzs : z.cells.size = i.size := by have := hcells.1; simp at this; omega
      have hrun := run_make (P := P) w T el i z hu hi hz .i64 .i64 l c h0 hlc (by rw [Int.mul_comm]; omega) (by omega)
      rw [← hzs] at hrun
      have hR : RL (RC (XL X0 ι H) A ι w) (repc c.toNat zc) (madeCells z.cells (c.toNat * z.cells.size)).toList := by
        rw [made_flat]
        have := rl_flatten hcells c.toNat
        unfold repc
        split
        · rename_i v
          simpa [List.flatten_replicate_singleton] using this
        · exact this
      refine ok_newSlice hs hd (hn (by simp)) (C := madeCells z.cells (c.toNat * z.cells.size)) (E := el) (f := (0, 0)) (c := c.toNat) (es := (lay P T).es) ?_ (Grow.alloc _ _) (alloc_old w _) (alloc_new w _) (fits_rl hR fun hl => ?_) (fun k hk => by simpa using hk) (by omega) ?_ (.inr rfl) (fun _ h => by cases h)
      · simp [execOp, rv_int hx, rv_int hy, hrun]
      · have hz0 := leaf_iff hl
        apply refs_nil_of
        intro v hv
        unfold repc at hv
        split at hv
        · rw [List.mem_replicate] at hv
          rw [hv.2]
          exact refs_mem hz0 (by simp)
        · rw [List.mem_flatten] at hv
          obtain ⟨l', hl', hv⟩ := hv
          rw [List.mem_replicate] at hl'
          rw [hl'.2] at hv
          exact refs_mem hz0 hv
      · rw [size_madeCells, hes, hzs]; exact Nat.le_refl _
    · cases he2
  · cases he

theorem ok_buildSlice {T : TypeId} {n : Nat} {ps : Array (Nat × Operand)} (hs : SR X0 A ι w H t' a) (hd : ∀ d, dst = some d → d < a.tmps.size) (hn : e.new ≠ [] → ¬ A base) (hx : ∀ p ∈ ps.toList, XR P X0 A ι w H a t p.2)
    (he : (match (lay P T).kind with
    | .slice => match (lay P T).es with
      | 0 => none
      | es => ((lay P (lay P T).et).zero.bnd fun z => z.cells.bnd fun zc => if zc.length ≠ 0 ∧ n * es ≤ 16777216 then (fillc (fun i => some (i * es, es)) (List.replicate (n * es) .top) (ps.toList.map fun p => (p.1, opv t p.2))).bnd fun c =>
          some ({ v := .lsl base 0 n (some n) es, new := [some ⟨c, false, isLeaf c, none⟩] } : Eff) else none)
    | _ => none) = some e) : OK P X0 A ι w H t' a ⟨dst, .buildSlice T n ps, ty, pos, af, gd⟩ base e := by
  cases hk : (lay P T).kind <;> rw [hk] at he <;> try (simp at he; done)
  dsimp only at he
  obtain ⟨el, hu, hie, hes⟩ := lay_slice hk
  have het : (lay P T).et = el := by unfold lay; simp only [hu]
  split at he
  · cases he
  · obtain ⟨z, hz, he1⟩ := bnd_some he
    obtain ⟨zc, hzc, he2⟩ := bnd_some he1
    clear he he1
    split at he2
    · rename_i hc
      obtain ⟨hz0, hsm⟩ := hc
      obtain ⟨c, hf, he3⟩ := bnd_some he2
      cases he3
      rw [het, lay_zero] at hz
      obtain ⟨z', hz', rfl⟩ := Option.map_eq_some_iff.1 hz
      obtain ⟨i, hi⟩ := Option.isSome_iff_exists.1 hie
      have hz2 : i.zero = some z' := by simpa [hi] using hz'
      have hsz : i.size = (lay P T).es := by rw [hes, hi]; rfl
      have hcells := (rv_ofVal (X := XL X0 ι H) (A := A) (ι := ι) (w := w) z').cells hzc
      have hzl : z'.cells.size ≠ 0 := by have := hcells.1; simp at this; omega
      have hparts := parts_rel (t := t) (a := a) (ps := ps) (X := XL X0 ι H) (A := A) (ι := ι) (w := w) hx
      have hlen : (ps.toList.map fun p => (p.1, opv t p.2)).length = ((ps.map fun (i, x) => (i, a.eval x)).toList).length := by simp
      have hbase : RL (RC (XL X0 ι H) A ι w) (List.replicate (n * (lay P T).es) .top) ((Array.range (n * (lay P T).es)).map (z'.cells[· % z'.cells.size]!)).toList := by
        refine ⟨by simp, fun j x u hx hu => ?_⟩
        rw [List.getElem?_replicate] at hx
        split at hx
        · cases hx
          rename_i hj
          refine .deep (.top _ ?_)
          simp only [Array.toList_map, List.getElem?_map, Array.toList_range, List.getElem?_range hj, Option.map_some, Option.some.injEq] at hu
          have hjm : j % z'.cells.size < z'.cells.size := Nat.mod_lt _ (by omega)
          rw [getElem!_pos z'.cells _ hjm] at hu
          have hzcl := hcells.1
          simp only [Array.length_toList] at hzcl
          obtain ⟨b, hb⟩ : ∃ b, zc[j % z'.cells.size]? = some b := ⟨_, List.getElem?_eq_getElem (by omega)⟩
          obtain ⟨u', h1, h2⟩ := hcells.ex hb
          simp only [Array.getElem?_toList, Array.getElem?_eq_getElem hjm, Option.some.injEq] at h1
          rw [← hu, h1]
          exact h2.one
        · cases hx
      obtain ⟨cs, hfill, hR⟩ := fill_of (X := XL X0 ι H) (A := A) (ι := ι) (w := w) _ _ _ _ c _ hlen hparts hbase hf
      have hcs : cs.size = n * (lay P T).es := by
        have h1 := hR.1
        have h2 := fillc_len hf
        simp at h1 h2
        omega
      refine ok_newSlice hs hd (hn (by simp)) (C := cs) (E := el) (f := (0, 0)) (c := n) (es := (lay P T).es) (w' := w.alloc (.cells cs el)) ?_ (Grow.alloc _ _) (alloc_old w _) (alloc_new w _) (fits_rl hR fun hl => leaf_iff hl) (fun k hk => by simpa using hk) (Nat.le_refl _) (by omega) (.inr rfl) (fun _ h => by cases h)
      have hsm' : ¬ (n * (lay P T).es > 2 ^ 24) := by simp; omega
      have hzr : (zeroValue el).run P w = .ok z' w := run_zeroValue hi hz2
      by_cases h00 : n * (lay P T).es = 0
      · have hnil : cs = #[] := Array.eq_empty_of_size_eq_zero (by omega)
        rw [h00] at hfill
        have hsz' := size_run (P := P) (w := w) hie
        rw [← hes] at hsz'
        simp only [Array.range_zero', Array.map_empty] at hfill
        simp only [execOp, Instr.buildSlice, Sem.run_bind, run_underlying hu, Result.andThen_ok, hsz', h00, Array.range_zero', Array.map_empty, hfill, newRow]
        simp
      · have hsz' := size_run (P := P) (w := w) hie
        rw [← hes] at hsz'
        simp only [execOp, Instr.buildSlice, Sem.run_bind, run_underlying hu, Result.andThen_ok, hsz', if_neg h00, if_neg hsm', hzr, Sem.run_pure, hfill, newRow]
        simp [hzr, hfill]
    · cases he2
end
end Sh
