/-
The operations, one by one: conversions, appends, copies.
-/
import Derived.Test.YtkccojijhaajmaaGreatDoorShOps9
import Derived.Deep.AppendSrc
set_option linter.unusedSimpArgs false
set_option linter.unusedVariables false
set_option linter.unusedSectionVars false
set_option linter.unusedSimpArgs false
namespace Sh
open Go

section
variable {P : Program} {X0 A : Nat → Prop} {ι : Nat → Nat} {w : World} {H : Nat → Option Blk} {t t' : Fr} {h : Heap} {a : Act} {base : Nat} {e : Eff} {dst : Option Tmp} {ty : TypeId} {pos : String} {af : Array Edge} {gd : Option (Nat × Bool)}

theorem bytesOf_cons {v : AV} {c : List AV} {l : List UInt8} (h : bytesOf (v :: c) = some l) : ∃ n l', v = .int .u8 n ∧ bytesOf c = some l' ∧ UInt8.ofNat n.toNat :: l' = l := by
  cases v
  case int k n =>
    cases k
    case u8 => obtain ⟨l', h1, h2⟩ := mpd_some (show ((bytesOf c).mpd fun l => UInt8.ofNat n.toNat :: l) = some l from h); exact ⟨n, l', rfl, h1, h2⟩
    all_goals cases h
  all_goals cases h

theorem bytesOf_some {X A : Nat → Prop} {ι : Nat → Nat} {w : World} : ∀ {c : List AV} {l : List UInt8} {vs : List Value}, bytesOf c = some l → RL (RC X A ι w) c vs →
    ∃ ns : List Int, vs = ns.map (Value.int .u8) ∧ l = ns.map fun n => UInt8.ofNat n.toNat
  | [], l, vs, h, hR => by
    have h : some [] = some l := h
    have h := Option.some.inj h
    have h1 := hR.1
    cases vs with
    | nil => exact ⟨[], rfl, by simp [← h]⟩
    | cons => simp at h1
  | v :: c, l, vs, h, hR => by
    cases vs with
    | nil => have := hR.1; simp at this
    | cons u vs =>
      obtain ⟨n, l', rfl, h1, rfl⟩ := bytesOf_cons h
      obtain ⟨ns, rfl, rfl⟩ := bytesOf_some h1 hR.tail
      have hu := rv_int (RV.ofC hR.head)
      subst hu
      exact ⟨n :: ns, rfl, rfl⟩

theorem fold_bytes : ∀ (ns : List Int) (r : ByteArray), ns.foldl (fun r n => r.push (UInt8.ofNat n.toNat)) r = ⟨r.data ++ (ns.map fun n => UInt8.ofNat n.toNat).toArray⟩
  | [], r => by simp
  | n :: ns, r => by
    rw [List.foldl_cons, fold_bytes ns]
    apply ByteArray.ext
    simp [ByteArray.push]

theorem u8_get (s : List UInt8) {j : Nat} {v : AV} (h : (s.map u8)[j]? = some v) : ∃ b, s[j]? = some b ∧ v = .int .u8 b.toNat := by
  simp only [List.getElem?_map, Option.map_eq_some_iff] at h
  obtain ⟨b, h1, h2⟩ := h
  exact ⟨b, h1, h2.symm⟩

theorem refs_u8 (s : List UInt8) : refs (s.map u8) = [] := refs_nil_of fun v hv => by
  simp only [List.mem_map] at hv
  obtain ⟨b, _, rfl⟩ := hv
  rfl

theorem bytes_string (l : List Int) : l.foldl (fun r n => r.push (UInt8.ofNat n.toNat)) ByteArray.empty = ⟨(l.map fun n => UInt8.ofNat n.toNat).toArray⟩ := by
  rw [fold_bytes]; simp

theorem rangeAt_append {g : Nat} : ∀ {us : List Value} {o : Nat} {vs : List Value}, w.rangeAt g o us → w.rangeAt g (o + us.length) vs → w.rangeAt g o (us ++ vs) := by
  intro us o vs h1 h2 j v hj
  rw [List.getElem?_append] at hj
  split at hj
  · exact h1 j v hj
  · rename_i hlt
    have := h2 _ v hj
    rwa [show o + us.length + (j - us.length) = o + j by omega] at this

theorem cellsOf_cons {es : Nat} {v : AV} {c xs : List AV} (h1 : v.cells = some c) (h2 : es = 1 → c = [v]) : cellsOf es (v :: xs) = c ++ cellsOf es xs := by
  unfold cellsOf
  split
  · rw [h2 rfl]; rfl
  · simp [h1]

theorem cellsOf_len {es : Nat} : ∀ {xs : List AV}, esOK es xs = true → (cellsOf es xs).length = xs.length * es
  | [], _ => by unfold cellsOf; split <;> simp
  | v :: xs, h => by
    simp only [esOK, List.all_cons, Bool.and_eq_true] at h
    obtain ⟨c, h1, h2, h3⟩ := elOK_cells h.1
    rw [cellsOf_cons h1 h3, List.length_append, cellsOf_len h.2, h2, List.length_cons, Nat.add_mul, Nat.one_mul, Nat.add_comm]

theorem dsl_row {R : AV → Value → Prop} {g es : Nat} : ∀ {xs : List AV} {o : Nat}, esOK es xs = true →
    (∀ (i : Nat) (v : AV) (c : List AV) (j : Nat) (a : AV), xs[i]? = some v → v.cells = some c → c[j]? = some a → ∃ u, w.cell? ⟨g, o + i * es + j, none⟩ = some u ∧ R a u) →
    ∃ vs, RL R (cellsOf es xs) vs ∧ w.rangeAt g o vs
  | [], o, _, _ => ⟨[], by unfold cellsOf; split <;> exact RL.nil _, by intro j v h; simp at h⟩
  | v :: xs, o, h, hc => by
    simp only [esOK, List.all_cons, Bool.and_eq_true] at h
    obtain ⟨c, h1, h2, h3⟩ := elOK_cells h.1
    obtain ⟨us, hR, hr⟩ := range_of (w := w) (R := R) (g := g) (o := o) (c := c) (fun j a ha => by simpa using hc 0 v c j a rfl h1 ha)
    obtain ⟨vs, hR2, hr2⟩ := dsl_row (R := R) (g := g) (es := es) (xs := xs) (o := o + es) h.2 (fun i v c j a hv hvc ha => by
      have := hc (i + 1) v c j a (by simpa using hv) hvc ha
      rwa [show o + (i + 1) * es + j = o + es + i * es + j by rw [Nat.add_mul]; omega] at this)
    refine ⟨us ++ vs, by rw [cellsOf_cons h1 h3]; exact hR.append hR2, rangeAt_append hr ?_⟩
    have : us.length = es := by rw [← hR.1, h2]
    rwa [this]

/-- the cells of what is only read -/
theorem dsl_src {X A : Nat → Prop} {es : Nat} {xs : List AV} {v : Value} (h : RV X A ι w (.dsl xs) v) (hes : esOK es xs = true) : ∃ ao cap, v = .slice ao xs.length cap ∧ xs.length ≤ cap ∧
    (xs ≠ [] → ∃ b o, ao = some ⟨b, o, none⟩ ∧ ¬ X b ∧ ∃ vs, RL (RD X w) (cellsOf es xs) vs ∧ w.rangeAt b o vs) := by
  obtain ⟨ao, cap, hv, hl, hne⟩ := rv_dsl h
  refine ⟨ao, cap, hv, hl, fun hx => ?_⟩
  obtain ⟨b, o, es', f, hao, h1, h2, h3, h4, h5⟩ := hne hx
  have hee : es' = es := by
    cases xs with
    | nil => exact absurd rfl hx
    | cons x0 xs =>
      obtain ⟨c, e1, e2⟩ := h3 0 x0 rfl
      obtain ⟨c', e3, e4⟩ := esOK_all hes (i := 0) (v := x0) rfl
      rw [e1] at e3
      cases e3
      omega
  subst hee
  obtain ⟨vs, g1, g2⟩ := dsl_row (w := w) (R := RD X w) hes (fun i v c j a hv hc ha => ⟨f i j, h4 i v c j a hv hc ha, h5 i v c j a hv hc ha⟩)
  exact ⟨b, o, hao, h1, vs, g1, g2⟩

theorem bytesOf_ok : ∀ {xs : List AV} {l : List UInt8}, bytesOf xs = some l → esOK 1 xs = true ∧ cellsOf 1 xs = xs
  | [], _, _ => ⟨rfl, rfl⟩
  | v :: xs, l, h => by
    obtain ⟨n, l', rfl, h1, _⟩ := bytesOf_cons h
    obtain ⟨h2, h3⟩ := bytesOf_ok h1
    exact ⟨by simp only [esOK, List.all_cons, elOK, beq_self_eq_true, Bool.true_and]; exact h2, rfl⟩

theorem ok_convert {src tgt : TypeId} {x : Operand} (hs : SR X0 A ι w H t' a) (hd : ∀ d, dst = some d → d < a.tmps.size) (hn : e.new ≠ [] → ¬ A base) (hx : XR P X0 A ι w H a t x) (hrd : ∀ i ∈ e.rd, H i = hget h i)
    (he : aconv P h base src tgt (opv t x) = some e) : OK P X0 A ι w H t' a ⟨dst, .convert src tgt x, ty, pos, af, gd⟩ base e := by
  unfold XR at hx
  unfold aconv at he
  cases hx2 : opv t x <;> rw [hx2] at he hx <;> try (simp at he; done)
  all_goals dsimp only at he
  case int k n =>
    split at he
    · rename_i d k' hus hu
      rw [of_some he]
      refine ok_pure hs hd (u := .int k' (k'.wrap n)) ?_ (RV.ofC (.deep (.int _ _)))
      have hi := rv_int hx
      simp [execOp, convert, run_underlying hus, run_underlying hu, hi, Conv.intToInt]
    · cases he
  case str s =>
    have hi := rv_str hx
    split at he
    · rename_i hus hu
      rw [of_some he]
      refine ok_pure hs hd (u := .string ⟨s.toArray⟩) ?_ (RV.ofC (.deep (.str' _)))
      simp [execOp, convert, run_underlying hus, run_underlying hu, hi]
    · rename_i el hus hu
      split at he
      · rename_i hel
        split at he
        · have hrun := run_bytes_of_string (P := P) w src tgt el ⟨s.toArray⟩ hus hu hel
          have hsz : (⟨s.toArray⟩ : ByteArray).size = s.length := by simp [ByteArray.size]
          rw [hsz] at hrun
          have hge := grownCap_ge w s.length 0 el
          generalize grownCap w s.length 0 el = cp at hrun hge
          have hdr : ∀ o, Grow w (w.drew.alloc o) := fun o => (Grow.drew w).trans (Grow.alloc _ _)
          cases s with
          | nil =>
            have he : Eff.of (.dsl []) = some e := he
            rw [of_some he]
            intro K Q hK
            unfold Oper.wp
            have hr : (execOp a.eval (⟨dst, .convert src tgt x, ty, pos, af, gd⟩ : Oper)).run P w = .ok (.value (.slice (some ⟨w.heap.size, 0, none⟩) 0 cp)) (w.drew.alloc (.cells (bytesRow ⟨(([] : List UInt8)).toArray⟩ cp) el ((bytesRow ⟨([] : List UInt8).toArray⟩ cp).size, (bytesRow ⟨([] : List UInt8).toArray⟩ cp).size + 1))) := by
              simp only [execOp, hi, Sem.run_bind, hrun, Result.andThen_ok, Sem.run_pure, List.length_nil]
            rw [hr, Oper.upon_value]
            have hb : ∀ k, k < w.heap.size → (w.drew.alloc (.cells (bytesRow ⟨(([] : List UInt8)).toArray⟩ cp) el ((bytesRow ⟨([] : List UInt8).toArray⟩ cp).size, (bytesRow ⟨([] : List UInt8).toArray⟩ cp).size + 1))).heap[k]? = w.heap[k]? := fun k hk => alloc_old w.drew _ k hk
            refine hK A ι _ _ ⟨by rw [upd_none]; exact hs.hr.grow (hdr _) hb, fun i => ?_⟩ (by
              rw [upd_none]
              exact ⟨hdr _, fun g hg _ => hb g hg, fun _ h => ⟨h, rfl⟩, fun i b h hs => .inr ⟨i, b, h, hs, rfl⟩⟩) (fun i => by simp; omega) (put_defers _ _) (put_size _ _)
            rw [upd_none]
            exact fr_put (fun i => (hs.fr i).mono (fun _ _ h => h) (fun g hg _ => hb g hg) (hdr _) (fun _ h => ⟨h, rfl⟩)) (RV.ofC (.deep (.emp _ _))) hd i
          | cons b0 s =>
            have he : some ({ v := .lsl base 0 (b0 :: s).length none 1, new := [some ⟨(b0 :: s).map u8, true, true, none⟩] } : Eff) = some e := he
            cases he
            have hrs : (bytesRow ⟨(b0 :: s).toArray⟩ cp).size = cp := by
              simp only [bytesRow, hsz]
              simp at hge ⊢
              omega
            have hlen : (b0 :: s).length = s.length + 1 := rfl
            refine ok_newSlice hs hd (hn (by simp)) (C := bytesRow ⟨(b0 :: s).toArray⟩ cp) (E := el) (f := (cp, cp + 1)) (c := cp) (es := 1) (w' := w.drew.alloc (.cells (bytesRow ⟨(b0 :: s).toArray⟩ cp) el (cp, cp + 1))) ?_ (hdr _) (fun k hk => alloc_old w.drew _ k hk) (alloc_new w.drew _)
              ⟨by rw [hrs]; simpa using hge, by simp, fun j hj => by rw [hrs] at hj; simp; omega, fun j v hv => ?_, fun _ => refs_u8 _⟩ (by simp) hge (by rw [hrs]; omega) (by rw [hrs]; left; omega) (fun _ h => by cases h)
            · have hrun' := hrun
              rw [hrs] at hrun'
              simp only [execOp, hi, Sem.run_bind, hrun', Result.andThen_ok, Sem.run_pure]
            · obtain ⟨b, hb, rfl⟩ := u8_get _ hv
              refine ⟨.int .u8 b.toNat, ?_, .deep (.int _ _)⟩
              have hj : j < (b0 :: s).length := (List.getElem?_eq_some_iff.1 hb).1
              simp only [bytesRow]
              rw [Array.getElem?_append_left (by simpa using hj)]
              rw [Array.getElem?_map, List.getElem?_toArray, hb]; rfl
        · cases he
      · cases he
    · cases he
  case nils =>
    split at he
    · rename_i el hus hu
      split at he
      · rename_i hel
        rw [of_some he]
        refine ok_pure hs hd (u := .string ⟨([] : List UInt8).toArray⟩) ?_ (RV.ofC (.deep (.str' _)))
        have hi := rv_nils hx
        simp only [execOp, hi, Sem.run_bind, run_convert_bytes_string w src tgt el none 0 0 hus hel hu]
        rfl
      · cases he
    · cases he
  case lsl i o n cap es =>
    split at he
    · rename_i el hus hu
      split at he
      · rename_i hel
        split at he
        · obtain ⟨b, hb, he1⟩ := bnd_some he
          obtain ⟨c, hc, he2⟩ := bnd_some he1
          obtain ⟨l, hl, he3⟩ := bnd_some he2
          cases he3
          have hH : H i = some b := by rw [hrd i (by simp), hb]
          obtain ⟨g1, g2, g3, g4⟩ := getr_some hc
          obtain ⟨vs, hR, hrange⟩ := range_of (w := w) (R := RC (XL X0 ι H) A ι w) (g := ι i) (o := o) (c := c) (fun j x hx => by
            rw [g4 j] at hx
            split at hx
            · exact hs.hr.cellAt hH (o + j) x hx
            · cases hx)
          obtain ⟨ns, rfl, rfl⟩ := bytesOf_some hl hR
          obtain ⟨ao, cp, hp, ha, hcap, hnc, hsl⟩ := rv_lsl hx
          have hnl : ns.length = n := by have := hR.1; simp at this; omega
          refine ok_pure hs hd (u := .string ⟨(ns.map fun n => UInt8.ofNat n.toNat).toArray⟩) ?_ (RV.ofC (.deep (.str' _)))
          simp only [execOp, hp, Sem.run_bind, run_convert_bytes_string w src tgt el ao n cp hus hel hu]
          rcases hsl with ⟨hc0, rfl⟩ | ⟨o', rfl, ho', _⟩
          · have : ns = [] := List.length_eq_zero_iff.1 (by omega)
            subst this
            rfl
          · have hld : (loadCells ⟨ι i, o', none⟩ n).run P w = .ok (ns.map (Value.int .u8)).toArray w := by
              have := run_loadCells_list (P := P) w ⟨ι i, o', none⟩ (ns.map (Value.int .u8)) (fun j v hv => by
                rw [Addr.add_mid]
                have hj : j < ns.length := by have := (List.getElem?_eq_some_iff.1 hv).1; simpa using this
                rw [ho' (by omega)]
                exact hrange j v hv)
              simpa [hnl] using this
            rw [run_bytesToString w _ n cp ns hld, bytes_string]
            simp
        · cases he
      · cases he
    · cases he
  case dsl xs =>
    split at he
    · rename_i el hus hu
      split at he
      · rename_i hel
        obtain ⟨l, hl, he3⟩ := bnd_some he
        rw [of_some he3]
        obtain ⟨k1, k2⟩ := bytesOf_ok hl
        obtain ⟨ao, cp, hp, hnc, hne⟩ := dsl_src hx k1
        refine ok_pure hs hd (u := .string ⟨l.toArray⟩) ?_ (RV.ofC (.deep (.str' _)))
        simp only [execOp, hp, Sem.run_bind, run_convert_bytes_string w src tgt el ao xs.length cp hus hel hu]
        by_cases hx0 : xs = []
        · subst hx0
          have hl : some [] = some l := hl
          cases hl
          cases ao with
          | none => rfl
          | some ad =>
            have hld : (loadCells ad 0).run P w = .ok (([] : List Int).map (Value.int .u8)).toArray w := rfl
            rw [List.length_nil, run_bytesToString w _ 0 cp [] hld, bytes_string]
            simp
        · obtain ⟨b, o, hao, h1, vs, hR, hrange⟩ := hne hx0
          subst hao
          rw [k2] at hR
          obtain ⟨ns, rfl, rfl⟩ := bytesOf_some (A := A) (ι := ι) hl (hR.imp fun a u _ h => RC.deep h)
          have hnl : ns.length = xs.length := by have := hR.1; simp at this; omega
          have hld : (loadCells ⟨b, o, none⟩ xs.length).run P w = .ok (ns.map (Value.int .u8)).toArray w := by
            have := run_loadCells_list (P := P) w ⟨b, o, none⟩ (ns.map (Value.int .u8)) (fun j v hv => by
              rw [Addr.add_mid]
              exact hrange j v hv)
            simpa [hnl] using this
          rw [run_bytesToString w _ _ cp ns hld, bytes_string]
          simp
      · cases he
    · cases he
end
end Sh
