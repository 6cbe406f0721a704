/-
The functions of ShPrim are sound where their walks are given.
-/
import Derived.Test.YtkccojijhaajmaaGreatDoorShPrim
set_option linter.unusedSimpArgs false
set_option linter.unusedVariables false
set_option linter.unusedSectionVars false
set_option maxRecDepth 100000
namespace Sh
open Go

theorem some_map_take {l : List AV} {n : Nat} {bs : List UInt8} (h : mapO byteOf (l.take n) = some bs) (hn : n ≤ l.length) :
    bs.length = n ∧ ∀ (j : Nat) (x : UInt8), bs[j]? = some x → l[j]? = some (u8 x) := by
  have key : ∀ (c : List AV) (bs : List UInt8), mapO byteOf c = some bs → bs.length = c.length ∧ ∀ (j : Nat) (x : UInt8), bs[j]? = some x → c[j]? = some (u8 x) := by
    intro c
    induction c with
    | nil => intro bs h; cases h; exact ⟨rfl, fun j x hx => by simp at hx⟩
    | cons a c ih =>
      intro bs h
      have h' : (byteOf a).bnd (fun b => (mapO byteOf c).bnd fun r => some (b :: r)) = some bs := h
      obtain ⟨b, hb, h1⟩ := bnd_some h'
      obtain ⟨r, hr, h2⟩ := bnd_some h1
      cases h2
      obtain ⟨e1, e2⟩ := ih r hr
      refine ⟨by simp [e1], fun j x hx => ?_⟩
      cases j with
      | zero =>
        simp only [List.getElem?_cons_zero, Option.some.injEq] at hx ⊢
        subst hx
        unfold byteOf at hb
        split at hb
        · split at hb
          · rename_i k hk
            cases hb
            simp only [u8, AV.int.injEq, true_and]
            have : k.toNat < 256 := by omega
            have e : (k.toNat.toUInt8).toNat = k.toNat := by simp [Nat.toUInt8, UInt8.toNat_ofNat']; omega
            rw [e]
            omega
          · cases hb
        · cases hb
      | succ j => exact e2 j x (by simpa using hx)
  obtain ⟨h1, h2⟩ := key _ _ h
  refine ⟨by rw [h1, List.length_take]; omega, fun j x hx => ?_⟩
  have := h2 j x hx
  rw [List.getElem?_take] at this
  split at this
  · exact this
  · cases this

theorem copyCheck_sound {P : Program} {f : FuncId} {T : TypeId} (he : Enters P f)
    (hu : ∀ b w, w.cell? ⟨b, 0, none⟩ = some (.pointer (some ⟨b, 0, none⟩)) → Calls P f #[.pointer (some ⟨b, 0, none⟩)] w fun e w' => e = .returned (.tuple #[]) ∧ w' = w)
    (hf : ∀ b w, w.cell? ⟨b, 0, none⟩ = some (.pointer none) → w.shape? b = some (T, 2) → w.frozen? ⟨b, 0, none⟩ = false →
      Calls P f #[.pointer (some ⟨b, 0, none⟩)] w fun e w' => e = .returned (.tuple #[]) ∧ w' = w.setCell ⟨b, 0, none⟩ (.pointer (some ⟨b, 0, none⟩)))
    (args : List AV) (h : Heap) (r : AV × Heap) (hr : copyCheckP T args h = some r) : Sound1 P f args h r := by
  intro X0 ι w vals hs ha
  unfold copyCheckP at hr
  split at hr
  · rename_i i
    have hv : vals = #[.pointer (some ⟨ι i, 0, none⟩)] := by
      obtain ⟨hl, hg⟩ := ha
      have h1 : vals.size = 1 := by simpa using hl.symm
      obtain ⟨v, rfl⟩ : ∃ v, vals = #[v] := by
        refine ⟨vals[0], ?_⟩
        apply Array.ext
        · simp [h1]
        · intro j hj1 hj2
          have : j = 0 := by omega
          subst this
          rfl
      have := hg 0 _ v rfl rfl
      have h2 : RC (XL X0 ι (hget h)) (· < h.length) ι w (.ptr i 0) v := this
      cases h2 with
      | deep h2 => cases h2
      | ptr => rfl
    subst hv
    split at hr
    · rename_i b T' hi
      split at hr
      · rename_i hT
        subst hT
        cases hr
        obtain ⟨E, N, h1, h2, h3, h4, h5⟩ := hs.blk i _ hi trivial
        obtain ⟨N', hN'⟩ := hs.typ i _ T' hi rfl
        have hN : N = 2 := (h3 rfl).symm
        subst hN
        have e1 : (E, 2) = (T', N') := Option.some.inj (h1.symm.trans hN')
        cases e1
        obtain ⟨u, hu0, hru⟩ := h5 0 .nilp rfl
        have hu' : u = .pointer none := by cases hru with | deep h => cases h; rfl
        subst hu'
        obtain ⟨u1, hu1, hru1⟩ := h5 1 b rfl
        have hfz := h4 0 (by omega)
        have hil : i < h.length := hget_lt (by rw [hi]; rfl)
        refine .inl ⟨he, (hf (ι i) w hu0 h1 hfz).mono ?_⟩
        rintro e w' ⟨rfl, rfl⟩
        have hF := fits_put (A := (· < h.length)) (X := XL X0 ι (hget h)) (vc := [.ptr i 0]) (us := [.pointer (some ⟨ι i, 0, none⟩)]) (o := 0) h2 h3 h1 h4 h5 rfl (RL.cons (.ptr i 0 hil) (RL.nil _)) (fun e => by cases e)
        obtain ⟨m1, m2, m3⟩ := hs.write hi trivial (Grow.setCells (ι i) [.pointer (some ⟨ι i, 0, none⟩)] 0 w) (fun k _ hk => setCells_block _ _ _ _ _ hk) ((Grow.setCells (ι i) _ 0 w).shape _ _ h1) hF rfl
        have hH : hget (h.set i (some ⟨[.ptr i 0, b], false, false, some T'⟩)) = lay1 (hget h) i ⟨[.ptr i 0, b], false, false, some T'⟩ := by
          funext k
          rw [hget_set h i k _ (fun _ => hil)]
          by_cases hk : k = i
          · subst hk; simp [lay1]
          · simp [lay1, hk, Ne.symm hk]
        rw [hH, List.length_set]
        exact ⟨ι, m1, ⟨#[], rfl, RL.nil _⟩, m2, Nat.le_refl _⟩
      · cases hr
    · rename_i j b op lf ty hi
      split at hr
      · rename_i hji
        subst hji
        cases hr
        obtain ⟨E, N, h1, h2, h3, h4, h5⟩ := hs.blk j _ hi trivial
        obtain ⟨u, hu0, hru⟩ := h5 0 _ rfl
        have hu' : u = .pointer (some ⟨ι j, 0, none⟩) := by cases hru with | deep h => cases h | ptr => rfl
        subst hu'
        refine .inl ⟨he, (hu (ι j) w hu0).mono ?_⟩
        rintro e w' ⟨rfl, rfl⟩
        exact ⟨ι, hs, ⟨#[], rfl, RL.nil _⟩, Chg.refl _ _ _ _, Nat.le_refl _⟩
      · cases hr
    · cases hr
  · cases hr

theorem bstring_sound {P : Program} {f : FuncId} {B : TypeId} (he : Enters P f)
    (hu : ∀ b w, w.cell? ⟨b, 1, none⟩ = some (.slice none 0 0) → Calls P f #[.pointer (some ⟨b, 0, none⟩)] w fun e w' => e = .returned (.string ⟨#[]⟩) ∧ w' = w.drew)
    (hf : ∀ (b g cap N : Nat) (l : List UInt8) (_ : l ≠ []) (w : World), w.cell? ⟨b, 1, none⟩ = some (.slice (some ⟨g, 0, none⟩) l.length cap) → l.length ≤ cap → w.shape? g = some (B, N) → l.length ≤ N →
      l.length ≤ 9223372036854775807 → (∀ (j : Nat) (x : UInt8), l[j]? = some x → w.cell? ⟨g, j, none⟩ = some (.int .u8 x.toNat)) →
      Calls P f #[.pointer (some ⟨b, 0, none⟩)] w fun e w' => e = .returned (.string ⟨l.toArray⟩) ∧ w' = w.drew.freeze ⟨g, 0, none⟩ l.length)
    (args : List AV) (h : Heap) (r : AV × Heap) (hr : bstringP B args h = some r) : Sound1 P f args h r := by
  intro X0 ι w vals hs ha
  unfold bstringP at hr
  split at hr
  · rename_i i
    have hv : vals = #[.pointer (some ⟨ι i, 0, none⟩)] := by
      obtain ⟨hl, hg⟩ := ha
      have h1 : vals.size = 1 := by simpa using hl.symm
      obtain ⟨v, rfl⟩ : ∃ v, vals = #[v] := by
        refine ⟨vals[0], ?_⟩
        apply Array.ext
        · simp [h1]
        · intro j hj1 hj2
          have : j = 0 := by omega
          subst this
          rfl
      have := hg 0 _ v rfl rfl
      have h2 : RC (XL X0 ι (hget h)) (· < h.length) ι w (.ptr i 0) v := this
      cases h2 with
      | deep h2 => cases h2
      | ptr => rfl
    subst hv
    split at hr
    · rename_i a op lf ty hi
      cases hr
      obtain ⟨E, N, h1, h2, h3, h4, h5⟩ := hs.blk i _ hi trivial
      obtain ⟨u, hu1, hru⟩ := h5 1 .nils rfl
      have hu' : u = .slice none 0 0 := by cases hru with | deep h => cases h; rfl
      subst hu'
      refine .inl ⟨he, (hu (ι i) w hu1).mono ?_⟩
      rintro e w' ⟨rfl, rfl⟩
      exact ⟨ι, hs.grow (Grow.drew w) (fun _ _ => rfl), .deep (.str ⟨#[]⟩), Chg.drew _ _ _ _, Nat.le_refl _⟩
    · rename_i a j n cp op lf ty hi
      split at hr
      · rename_i c op' lf' B' hj
        split at hr
        · rename_i hc
          obtain ⟨rfl, hn0, hn1, hn2⟩ := hc
          obtain ⟨l, hl, hr'⟩ := bnd_some hr
          cases hr'
          obtain ⟨hll, hlc⟩ := some_map_take hl hn2
          obtain ⟨E, N, h1, h2, h3, h4, h5⟩ := hs.blk i _ hi trivial
          obtain ⟨u, hu1, hru⟩ := h5 1 _ rfl
          obtain ⟨Ej, Nj, k1, k2, k3, k4, k5⟩ := hs.blk j _ hj trivial
          obtain ⟨Nj', hNj'⟩ := hs.typ j _ B' hj rfl
          have e1 : (Ej, Nj) = (B', Nj') := Option.some.inj (k1.symm.trans hNj')
          cases e1
          cases hru with
          | deep hd => cases hd
          | lsl _ _ _ _ _ ao cc hA hcap hnc hsl =>
            have hao : ao = some ⟨ι j, 0, none⟩ := by
              rcases hsl with ⟨h0, _⟩ | ⟨o', e1, e2, _⟩
              · omega
              · rw [e1, e2 (by omega)]
            subst hao
            subst hll
            have hl0 : l ≠ [] := by intro e; subst e; simp at hn0
            refine .inl ⟨he, (hf (ι i) (ι j) cc _ l hl0 w hu1 hnc k1 (Nat.le_trans hn2 k2) (by omega) (fun q x hx => ?_)).mono ?_⟩
            · obtain ⟨u', hu', hru'⟩ := k5 q _ (hlc q x hx)
              rw [hu']
              cases hru' with
              | deep hd => cases hd; rfl
            · rintro e w' ⟨rfl, rfl⟩
              have hjl : j < h.length := hget_lt (by rw [hj]; rfl)
              have hG : Grow w (w.drew.freeze ⟨ι j, 0, none⟩ l.length) := (Grow.drew w).trans (Grow.freeze _ _ _)
              obtain ⟨m1, m2⟩ := hs.retire hj hG (fun k _ hk => by rw [freeze_block _ _ _ _ hk]; rfl)
              have hH : hget (h.set j none) = kill (hget h) j := by
                funext k
                rw [hget_set h j k none (by simp)]
                by_cases hk : k = j
                · subst hk; simp [kill]
                · simp [kill, hk, Ne.symm hk]
              rw [hH, List.length_set]
              have hs : l = (⟨l.toArray⟩ : ByteArray).data.toList := by simp
              refine ⟨ι, m1, ?_, m2, Nat.le_refl _⟩
              show RC _ _ _ _ (.str l) _
              conv => arg 5; rw [hs]
              exact .deep (.str ⟨l.toArray⟩)
        · cases hr
      · cases hr
    · cases hr
  · cases hr

theorem indexByte_sound {P : Program} {f : FuncId} {fn : Func} (hf : P.funcs[f]? = some fn) (hname : (fn.name == "runtime.NumGoroutine") = false)
    (hb : fn.body.isNone = true) (hn : Extern.findNext fn = none) (he : Extern.find fn = some Extern.BytealgIndexByte.indexByte)
    (args : List AV) (h : Heap) (r : AV × Heap) (hr : indexByteP args h = some r) : Sound1 P f args h r := by
  intro X0 ι w vals hs ha
  unfold indexByteP at hr
  split at hr
  · rename_i l k
    cases hr
    obtain ⟨s, hv, hl⟩ : ∃ s : ByteArray, vals = #[.string s, .int .u8 k] ∧ l = s.data.toList := by
      obtain ⟨hl, hg⟩ := ha
      have h1 : vals.size = 2 := by simpa using hl.symm
      obtain ⟨v, v', rfl⟩ : ∃ v v', vals = #[v, v'] := by
        refine ⟨vals[0], vals[1], ?_⟩
        apply Array.ext
        · simp [h1]
        · intro j hj1 hj2
          have : j = 0 ∨ j = 1 := by simp at hj2; omega
          rcases this with rfl | rfl <;> rfl
      have h2 : RC (XL X0 ι (hget h)) (· < h.length) ι w (.str l) v := hg 0 _ v rfl rfl
      have h3 : RC (XL X0 ι (hget h)) (· < h.length) ι w (.int .u8 k) v' := hg 1 _ v' rfl rfl
      cases h2 with
      | deep h2 =>
        cases h3 with
        | deep h3 =>
          cases h2
          cases h3
          exact ⟨_, rfl, rfl⟩
    subst hv
    subst hl
    refine .inr ⟨_, w, ?_, ι, hs, .deep (.int _ _), Chg.refl _ _ _ _, Nat.le_refl _⟩
    rw [run_callFunc_extern hf hname hb hn he, Lib.run_indexByteString]
    rfl
  · cases hr
end Sh
