/-
The operations, one by one: structs, arrays and slices of parts; parts of values; indexes.
-/
import Derived.Test.YtkccojijhaajmaaGreatDoorShOps
set_option linter.unusedSimpArgs false
set_option linter.unusedVariables false
set_option linter.unusedSectionVars false
set_option linter.unusedSimpArgs false
namespace Sh
open Go

section
variable {P : Program} {X0 A : Nat → Prop} {ι : Nat → Nat} {w : World} {H : Nat → Option Blk} {t t' : Fr} {h : Heap} {a : Act} {base : Nat} {e : Eff} {dst : Option Tmp} {ty : TypeId} {pos : String} {af : Array Edge} {gd : Option (Nat × Bool)}

theorem run_zeroValue {T : TypeId} {i : TypeInfo} {z : Value} (hi : P.info? T = some i) (hz : i.zero = some z) : (zeroValue T).run P w = .ok z w := by
  simp [zeroValue, typeInfo, hi, hz]

theorem parts_rel {X : Nat → Prop} {ps : Array (Nat × Operand)} (hx : ∀ p ∈ ps.toList, RV X A ι w (opv t p.2) (a.eval p.2)) (j : Nat) (p : Nat × AV) (u : Nat × Value)
    (hp : (ps.toList.map fun p => (p.1, opv t p.2))[j]? = some p) (hu : ((ps.map fun (i, x) => (i, a.eval x)).toList)[j]? = some u) : p.1 = u.1 ∧ RV X A ι w p.2 u.2 := by
  simp only [Array.toList_map, List.getElem?_map, Option.map_eq_some_iff] at hp hu
  obtain ⟨q, hq, rfl⟩ := hp
  obtain ⟨q', hq', rfl⟩ := hu
  rw [hq] at hq'
  cases hq'
  exact ⟨rfl, hx q (List.mem_of_getElem? hq)⟩

theorem mapM_pure {α β : Type} (l : List α) (g : α → Sem β) (f : α → β) (hg : ∀ x ∈ l, (g x).run P w = .ok (f x) w) : (l.mapM g).run P w = .ok (l.map f) w := by
  induction l with
  | nil => simp
  | cons x l ih =>
    simp only [List.mapM_cons, Sem.run_bind, hg x (by simp), Result.andThen_ok, ih (fun y hy => hg y (by simp [hy])), List.map_cons, Sem.run_pure]

theorem ok_build {T : TypeId} {ps : Array (Nat × Operand)} (hs : SR X0 A ι w H t' a) (hd : ∀ d, dst = some d → d < a.tmps.size) (hx : ∀ p ∈ ps.toList, XR P X0 A ι w H a t p.2)
    (he : ((lay P T).zero.bnd fun z => z.cells.bnd fun zc => match (lay P T).kind with
    | .struct => (fillc (fun i => ((lay P T).offs[i]?).map fun d => (d.1, d.2.1)) zc (ps.toList.map fun p => (p.1, opv t p.2))).bnd fun c => Eff.of (.agg c)
    | .array => (fillc (fun i => some (i * (lay P T).es, (lay P T).es)) zc (ps.toList.map fun p => (p.1, opv t p.2))).bnd fun c => Eff.of (.agg c)
    | _ => none) = some e) : OK P X0 A ι w H t' a ⟨dst, .build T ps, ty, pos, af, gd⟩ base e := by
  obtain ⟨z, hz, he1⟩ := bnd_some he
  obtain ⟨zc, hzc, he2⟩ := bnd_some he1
  clear he he1
  rw [lay_zero] at hz
  obtain ⟨z', hz', rfl⟩ := Option.map_eq_some_iff.1 hz
  cases hi : P.info? T with
  | none => simp [hi] at hz'
  | some i =>
    have hz2 : i.zero = some z' := by simpa [hi] using hz'
    have hcells := (rv_ofVal (X := XL X0 ι H) (A := A) (ι := ι) (w := w) z').cells hzc
    have hparts := parts_rel (t := t) (a := a) (ps := ps) (X := XL X0 ι H) (A := A) (ι := ι) (w := w) hx
    have hlen : (ps.toList.map fun p => (p.1, opv t p.2)).length = ((ps.map fun (i, x) => (i, a.eval x)).toList).length := by simp
    cases hk : (lay P T).kind <;> rw [hk] at he2 <;> try (simp at he2; done)
    · obtain ⟨c, hf, he3⟩ := bnd_some he2
      rw [of_some he3]
      obtain ⟨fs, hu, hinfo, ho⟩ := lay_struct hk
      obtain ⟨cs, hfill, hR⟩ := fill_of (X := XL X0 ι H) (A := A) (ι := ι) (w := w) (fun i => ((lay P T).offs[i]?).map fun d => (d.1, d.2.1)) _ _ zc c z'.cells hlen hparts hcells hf
      refine ok_pure hs hd (u := .agg cs) ?_ ⟨cs, rfl, hR⟩
      have hm : (fs.mapM (fun f => do pure (f.offset, ← Go.sizeOf f.type) : Field → Sem (Nat × Nat))).run P w = .ok (((lay P T).offs.map fun d => (d.1, d.2.1)).toArray) w := by
        rw [Array.mapM_eq_mapM_toList]
        have := mapM_pure (P := P) (w := w) fs.toList (fun f => do pure (f.offset, ← Go.sizeOf f.type) : Field → Sem (Nat × Nat)) (fun f => (f.offset, ((P.info? f.type).map (·.size)).getD 0)) (fun f hf' => by
          obtain ⟨j, hj⟩ := Option.isSome_iff_exists.1 (hinfo f hf')
          simp [Go.sizeOf, typeInfo, hj])
        have ho' : ((lay P T).offs.map fun d => (d.1, d.2.1)) = fs.toList.map fun f => (f.offset, ((P.info? f.type).map (·.size)).getD 0) := by rw [ho, List.map_map]; rfl
        rw [← ho'] at this
        simp only [Sem.run_map, this, Result.andThen_ok]
      have hfill' : Instr.fill (fun x => ((lay P T).offs.map fun d => (d.1, d.2.1)).toArray[x]?) z'.cells (ps.map fun (i, x) => (i, a.eval x)).toList = some cs := by simpa using hfill
      simp only [execOp, Instr.build, Sem.run_bind, run_zeroValue hi hz2, Result.andThen_ok, run_underlying hu, hm, hfill']
      rfl
    · obtain ⟨c, hf, he3⟩ := bnd_some he2
      rw [of_some he3]
      obtain ⟨n, el, hu, hie, hn, hes, _⟩ := lay_array hk
      obtain ⟨j, hj⟩ := Option.isSome_iff_exists.1 hie
      obtain ⟨cs, hfill, hR⟩ := fill_of (X := XL X0 ι H) (A := A) (ι := ι) (w := w) _ _ _ zc c z'.cells hlen hparts hcells hf
      refine ok_pure hs hd (u := .agg cs) ?_ ⟨cs, rfl, hR⟩
      have hsz : (Go.sizeOf el).run P w = .ok (lay P T).es w := by rw [hes]; simp [Go.sizeOf, typeInfo, hj]
      simp only [execOp, Instr.build, Sem.run_bind, run_zeroValue hi hz2, Result.andThen_ok, run_underlying hu, hsz, hfill]
      rfl

theorem ok_extract {x : Operand} {i : Nat} (hs : SR X0 A ι w H t' a) (hd : ∀ d, dst = some d → d < a.tmps.size) (hx : XR P X0 A ι w H a t x)
    (he : (match opv t x with
    | .tup vs => (vs[i]?).bnd Eff.of
    | _ => none) = some e) : OK P X0 A ι w H t' a ⟨dst, .extract x i, ty, pos, af, gd⟩ base e := by
  unfold XR at hx
  cases hv : opv t x <;> rw [hv] at he hx <;> try (simp at he; done)
  obtain ⟨v, hvs, he2⟩ := bnd_some he
  rw [of_some he2]
  obtain ⟨vs, hu, hl⟩ := rv_tup hx
  obtain ⟨u, hu2, hR⟩ := hl.ex hvs
  exact ok_pure hs hd (u := u) (by simp at hu2; simp [execOp, hu, Instr.extract, hu2]) (RV.of1 hR)

/-- a part of a value's cells -/
theorem run_part_of {T : TypeId} {R : AV → Value → Prop} {o : Nat} {c : List AV} {v : AV} {cs : Array Value} (h : ldc (lay P T) c o = some v) (hl : RL R c cs.toList) :
    ∃ u, (part T cs o).run P w = .ok u w ∧ ((∃ r, v = .agg r ∧ ∃ vs, u = .agg vs ∧ RL R r vs.toList) ∨ R v u) := by
  unfold ldc at h
  by_cases hag : (lay P T).kind = .struct ∨ (lay P T).kind = .array
  · have h : (getr c o (lay P T).size).mpd .agg = some v := by rcases hag with hk | hk <;> rw [hk] at h <;> exact h
    obtain ⟨r, hr, rfl⟩ := mpd_some h
    obtain ⟨h1, h2, h3, h4⟩ := getr_some hr
    obtain ⟨d, hu, hrow⟩ := lay_row hag
    obtain ⟨i, hi⟩ := info_of_underlying hu
    have hsz : (lay P T).size = i.size := by rw [lay_size, hi]; rfl
    have hagg : (isAgg T).run P w = .ok true w := by
      unfold isAgg
      rw [Sem.run_bind, run_underlying hu w]
      cases d <;> simp_all
    refine ⟨.agg (cs.extract o (o + i.size)), by simp [part, hagg, Go.sizeOf, typeInfo, hi], .inl ⟨r, rfl, _, rfl, ?_⟩⟩
    rw [h2]
    have := (hl.drop o).take (lay P T).size
    rw [hsz] at this ⊢
    simpa [List.extract_eq_take_drop] using this
  · have h1 : (lay P T).kind ≠ .struct := fun e => hag (.inl e)
    have h2 : (lay P T).kind ≠ .array := fun e => hag (.inr e)
    have h3 : (lay P T).kind ≠ .bad := fun e => by rw [e] at h; simp at h
    have h : c[o]? = some v := by
      cases hk : (lay P T).kind <;> rw [hk] at h <;> first | exact h | exact absurd hk ‹_›
    obtain ⟨u, hu, hR⟩ := hl.ex h
    obtain ⟨d, hun, hrow⟩ := lay_cell h1 h2 h3
    have hagg : (isAgg T).run P w = .ok false w := by
      unfold isAgg
      rw [Sem.run_bind, run_underlying hun w]
      cases d <;> simp_all
    have hu' : cs[o]? = some u := by simpa using hu
    exact ⟨u, by simp [part, hagg, hu'], .inr hR⟩

theorem rv_part {X : Nat → Prop} {v : AV} {u : Value} (h : (∃ r, v = .agg r ∧ ∃ vs, u = .agg vs ∧ RL (RC X A ι w) r vs.toList) ∨ RC X A ι w v u) : RV X A ι w v u := by
  rcases h with ⟨r, rfl, vs, rfl, hl⟩ | hR
  · exact ⟨vs, rfl, hl⟩
  · exact RV.ofC hR

theorem ok_field {S : TypeId} {x : Operand} {f : Nat} (hs : SR X0 A ι w H t' a) (hd : ∀ d, dst = some d → d < a.tmps.size) (hx : XR P X0 A ι w H a t x)
    (he : (match opv t x with
    | .agg c => ((lay P S).offs[f]?).bnd fun d => (ldc (lay P d.2.2) c d.1).bnd Eff.of
    | _ => none) = some e) : OK P X0 A ι w H t' a ⟨dst, .field S x f, ty, pos, af, gd⟩ base e := by
  unfold XR at hx
  cases hv : opv t x <;> rw [hv] at he hx <;> try (simp at he; done)
  obtain ⟨d, hf, he2⟩ := bnd_some he
  obtain ⟨v, hl, he3⟩ := bnd_some he2
  rw [of_some he3]
  obtain ⟨vs, hu, hR⟩ := rv_agg hx
  obtain ⟨fs, h1, h2⟩ := lay_offs hf
  rw [h2] at hf
  simp only [List.getElem?_map, Option.map_eq_some_iff] at hf
  obtain ⟨fl, hfl, rfl⟩ := hf
  have hfl' : fs[f]? = some fl := by simpa using hfl
  obtain ⟨u, hrun, hcase⟩ := run_part_of (P := P) (w := w) hl hR
  exact ok_pure hs hd (u := u) (by simp [execOp, hu, Instr.field, run_underlying h1, hfl', asAgg, hrun]) (rv_part hcase)
end
end Sh
/-
The operations, one by one: indexes, slices of slices, lengths, numbers.
-/
set_option linter.unusedSimpArgs false
namespace Sh
open Go

section
variable {P : Program} {X0 A : Nat → Prop} {ι : Nat → Nat} {w : World} {H : Nat → Option Blk} {t t' : Fr} {h : Heap} {a : Act} {base : Nat} {e : Eff} {dst : Option Tmp} {ty : TypeId} {pos : String} {af : Array Edge} {gd : Option (Nat × Bool)}

theorem aidx_some {i : Int} {n k : Nat} (h : aidx i n = some k) : 0 ≤ i ∧ i < n ∧ i.toNat = k ∧ k < n := by
  unfold aidx at h
  split at h
  · rename_i hh; simp only [Option.some.injEq] at h; subst h; exact ⟨hh.1, hh.2, rfl, by omega⟩
  · simp at h

theorem abnd_some {i : Int} {n k : Nat} (h : abnd i n = some k) : 0 ≤ i ∧ i ≤ n ∧ i.toNat = k ∧ k ≤ n := by
  unfold abnd at h
  split at h
  · rename_i hh; simp only [Option.some.injEq] at h; subst h; exact ⟨hh.1, hh.2, rfl, by omega⟩
  · simp at h

/-- what is only read, at an index -/
theorem rv_dsl {X : Nat → Prop} {xs : List AV} {v : Value} (h : RV X A ι w (.dsl xs) v) : ∃ ao cap, v = .slice ao xs.length cap ∧ xs.length ≤ cap ∧ (xs ≠ [] → ∃ b o es, ∃ f : Nat → Nat → Value, ao = some ⟨b, o, none⟩ ∧ ¬ X b ∧ 0 < es ∧
    (∀ (i : Nat) (v : AV), xs[i]? = some v → ∃ c : List AV, v.cells = some c ∧ c.length = es) ∧
    (∀ (i : Nat) (v : AV) (c : List AV) (j : Nat) (a : AV), xs[i]? = some v → v.cells = some c → c[j]? = some a → w.cell? ⟨b, o + i * es + j, none⟩ = some (f i j)) ∧
    (∀ (i : Nat) (v : AV) (c : List AV) (j : Nat) (a : AV), xs[i]? = some v → v.cells = some c → c[j]? = some a → RD X w a (f i j))) := by
  have h : RC X A ι w (.dsl xs) v := h
  cases h with
  | deep h => cases h with
    | emp ao cap => exact ⟨ao, cap, rfl, Nat.zero_le _, fun h => absurd rfl h⟩
    | dsl _ b o es cap f h1 h2 h3 h7 h4 h5 h6 => exact ⟨_, cap, rfl, h7, fun _ => ⟨b, o, es, f, rfl, h1, h2, h4, h5, h6⟩⟩

theorem run_indexAt_slice {S el : TypeId} {i : Int} {n cap size : Nat} {ad : Addr} {k : IntKind} (hu : P.underlying S = some (.slice el)) (hsz : (Go.sizeOf el).run P w = .ok size w) (h0 : 0 ≤ i) (h1 : i < n) :
    (Instr.indexAt S (.slice (some ad) n cap) (.int k i)).run P w = .ok (.pointer (some (ad.add (i.toNat * size)))) w := by
  simp [Instr.indexAt, asIntOf, run_underlying hu, h0, h1, hsz]

theorem run_indexAt_array {S el : TypeId} {i : Int} {n size : Nat} {ad : Addr} {k : IntKind} (hu : P.underlying S = some (.array n el)) (hsz : (Go.sizeOf el).run P w = .ok size w) (h0 : 0 ≤ i) (h1 : i < n) :
    (Instr.indexAt S (.pointer (some ad)) (.int k i)).run P w = .ok (.pointer (some (ad.add (i.toNat * size)))) w := by
  simp [Instr.indexAt, asIntOf, run_underlying hu, h0, h1, hsz, Instr.sureAddr]

theorem size_run {el : TypeId} (h : (P.info? el).isSome = true) : (Go.sizeOf el).run P w = .ok (((P.info? el).map (·.size)).getD 0) w := by
  obtain ⟨j, hj⟩ := Option.isSome_iff_exists.1 h
  simp [Go.sizeOf, typeInfo, hj]

theorem ok_indexAddr {S : TypeId} {x ix : Operand} (hs : SR X0 A ι w H t' a) (hd : ∀ d, dst = some d → d < a.tmps.size) (hx : XR P X0 A ι w H a t x) (hix : XR P X0 A ι w H a t ix)
    (he : (match opv t ix with
    | .int _ i => (aindexAddr (lay P S) (opv t x) i).bnd Eff.of
    | _ => none) = some e) : OK P X0 A ι w H t' a ⟨dst, .indexAddr S x ix, ty, pos, af, gd⟩ base e := by
  unfold XR at hx hix
  cases hv : opv t ix <;> rw [hv] at he hix <;> try (simp at he; done)
  rename_i k i
  have hi := rv_int hix
  obtain ⟨v, hv2, he2⟩ := bnd_some he
  rw [of_some he2]
  clear he he2
  unfold aindexAddr at hv2
  cases hv3 : opv t x <;> rw [hv3] at hv2 hx <;> try (simp at hv2; done)
  · rename_i id off
    dsimp only at hv2
    split at hv2
    · rename_i hk
      obtain ⟨j, hj, rfl⟩ := mpd_some hv2
      obtain ⟨h0, h1, h2, h3⟩ := aidx_some hj
      obtain ⟨n, el, hu, hie, hn, hes, _⟩ := lay_array hk
      obtain ⟨ha, hp⟩ := rv_ptr hx
      refine ok_pure hs hd (u := .pointer (some ⟨ι id, off + j * (lay P S).es, none⟩)) ?_ (RV.ofC (.ptr _ _ ha))
      rw [hn] at h1
      have := run_indexAt_array (w := w) (k := k) (ad := ⟨ι id, off, none⟩) hu (size_run (w := w) hie) h0 h1
      rw [Addr.add_mid, h2, ← hes] at this
      simp [execOp, hi, hp, this]
    · simp at hv2
  · rename_i id off n cap es
    dsimp only at hv2
    split at hv2
    · rename_i hk
      obtain ⟨hk, hes0⟩ := hk
      obtain ⟨j, hj, rfl⟩ := mpd_some hv2
      obtain ⟨h0, h1, h2, h3⟩ := aidx_some hj
      obtain ⟨el, hu, hie, hes⟩ := lay_slice hk
      obtain ⟨ao, c, hp, ha, _, hnc, hcase⟩ := rv_lsl hx
      rcases hcase with hc | ⟨o', hao, ho', _⟩
      · omega
      · obtain rfl := ho' (by omega)
        subst hao
        refine ok_pure hs hd (u := .pointer (some ⟨ι id, o' + j * (lay P S).es, none⟩)) ?_ (RV.ofC (.ptr _ _ ha))
        have := run_indexAt_slice (w := w) (k := k) (ad := ⟨ι id, o', none⟩) (cap := c) hu (size_run (w := w) hie) h0 h1
        rw [Addr.add_mid, h2, ← hes] at this
        simp [execOp, hi, hp, this]
    · simp at hv2
  · rename_i xs
    dsimp only at hv2
    split at hv2
    · rename_i hk
      obtain ⟨j, hj, hv4⟩ := bnd_some hv2
      obtain ⟨y, hy, hv5⟩ := bnd_some hv4
      obtain ⟨c, hc, hv6⟩ := bnd_some hv5
      clear hv2 hv4 hv5
      split at hv6
      · rename_i hcl
        simp only [Option.some.injEq] at hv6
        subst hv6
        obtain ⟨h0, h1, h2, h3⟩ := aidx_some hj
        obtain ⟨el, hu, hie, hes⟩ := lay_slice hk
        obtain ⟨ao, cap, hp, _, hne⟩ := rv_dsl hx
        obtain ⟨b, o, es, f, rfl, g1, g2, g3, g4, g5⟩ := hne (by intro h; rw [h] at h3; simp at h3)
        obtain ⟨c', hc', hcl'⟩ := g3 j y hy
        rw [hc] at hc'
        cases hc'
        have hes2 : es = (lay P S).es := by omega
        refine ok_pure hs hd (u := .pointer (some ⟨b, o + j * (lay P S).es, none⟩)) ?_ ?_
        · have := run_indexAt_slice (w := w) (k := k) (ad := ⟨b, o, none⟩) (cap := cap) hu (size_run (w := w) hie) h0 h1
          rw [Addr.add_mid, h2, ← hes] at this
          simp [execOp, hi, hp, this]
        · rw [← hes2]
          have := RD.addr (X := XL X0 ι H) (w := w) c b (o + j * es) 0 (f j) g1 (by intro h; rw [h] at hcl'; simp at hcl'; omega) (fun k x hx => g4 j y c k x hy hc hx) (fun k x hx => g5 j y c k x hy hc hx)
          exact RV.ofC (.deep this)
      · simp at hv6
    · simp at hv2
  · rename_i c off
    dsimp only at hv2
    split at hv2
    · rename_i hk
      obtain ⟨j, hj, rfl⟩ := mpd_some hv2
      obtain ⟨h0, h1, h2, h3⟩ := aidx_some hj
      obtain ⟨n, el, hu, hie, hn, hes, _⟩ := lay_array hk
      obtain ⟨b, o, f, hp, g1, g2, g3, g4⟩ := rv_addr hx
      refine ok_pure hs hd (u := .pointer (some ⟨b, o + (off + j * (lay P S).es), none⟩)) ?_ (RV.ofC (.deep (.addr _ b o _ f g1 g2 g3 g4)))
      rw [hn] at h1
      have := run_indexAt_array (w := w) (k := k) (ad := ⟨b, o + off, none⟩) hu (size_run (w := w) hie) h0 h1
      rw [Addr.add_mid, h2, ← hes, Nat.add_assoc] at this
      simp [execOp, hi, hp, this]
    · simp at hv2

theorem str_get {s : List UInt8} {k : Nat} (h : k < s.length) : (⟨s.toArray⟩ : ByteArray)[k]? = s[k]? := by
  rw [List.getElem?_eq_getElem h]
  have hk : k < (⟨s.toArray⟩ : ByteArray).size := by simpa [ByteArray.size] using h
  rw [getElem?_pos (⟨s.toArray⟩ : ByteArray) k hk]
  rfl

theorem ok_index {S : TypeId} {x ix : Operand} (hs : SR X0 A ι w H t' a) (hd : ∀ d, dst = some d → d < a.tmps.size) (hx : XR P X0 A ι w H a t x) (hix : XR P X0 A ι w H a t ix)
    (he : (match opv t x, opv t ix with
    | .str s, .int _ i => if (lay P S).kind = .string then (aidx i s.length).bnd fun k => (s[k]?).bnd fun b => Eff.of (u8 b) else none
    | .agg c, .int _ i => if (lay P S).kind = .array then (aidx i (lay P S).n).bnd fun k => (ldc (lay P (lay P S).et) c (k * (lay P S).es)).bnd Eff.of else none
    | _, _ => none) = some e) : OK P X0 A ι w H t' a ⟨dst, .index S x ix, ty, pos, af, gd⟩ base e := by
  unfold XR at hx hix
  cases hv : opv t x <;> rw [hv] at he hx <;> try (simp at he; done)
  · rename_i s
    cases hv2 : opv t ix <;> rw [hv2] at he hix <;> try (simp at he; done)
    rename_i k i
    have hi := rv_int hix
    have hsv := rv_str hx
    dsimp only at he
    split at he
    · rename_i hk
      obtain ⟨j, hj, he2⟩ := bnd_some he
      obtain ⟨b, hb, he3⟩ := bnd_some he2
      rw [of_some he3]
      obtain ⟨h0, h1, h2, h3⟩ := aidx_some hj
      refine ok_pure hs hd (u := .int .u8 b.toNat) ?_ (RV.ofC (.deep (.int _ _)))
      have hg := str_get h3
      simp only [execOp, hi, hsv, Instr.index, asIntOf, Sem.run_bind, Sem.run_pure, Result.andThen_ok, run_underlying (lay_string hk), h0, if_true, h2, hg, hb]
    · simp at he
  · rename_i c
    cases hv2 : opv t ix <;> rw [hv2] at he hix <;> try (simp at he; done)
    rename_i k i
    have hi := rv_int hix
    obtain ⟨vs, hu, hR⟩ := rv_agg hx
    dsimp only at he
    split at he
    · rename_i hk
      obtain ⟨j, hj, he2⟩ := bnd_some he
      obtain ⟨v, hl, he3⟩ := bnd_some he2
      rw [of_some he3]
      obtain ⟨h0, h1, h2, h3⟩ := aidx_some hj
      obtain ⟨n, el, hun, hie, hn, hes, het⟩ := lay_array hk
      rw [het] at hl
      obtain ⟨u, hrun, hcase⟩ := run_part_of (P := P) (w := w) hl hR
      refine ok_pure hs hd (u := u) ?_ (rv_part hcase)
      rw [hn] at h1
      rw [hes] at hrun
      simp [execOp, hi, hu, Instr.index, asIntOf, run_underlying hun, h0, h1, h2, size_run (w := w) hie, hrun]
    · simp at he

theorem ok_len {x : Operand} {at_ : Array TypeId} (hs : SR X0 A ι w H t' a) (hd : ∀ d, dst = some d → d < a.tmps.size) (hx : XR P X0 A ι w H a t x) (hat : 0 < at_.size)
    (he : ((alen (lay P (at_.getD 0 0)) (opv t x)).bnd fun n => Eff.of (.int .i64 n)) = some e) : OK P X0 A ι w H t' a ⟨dst, .call ⟨.builtin .len, #[x], at_⟩, ty, pos, af, gd⟩ base e := by
  unfold XR at hx
  obtain ⟨n, hn, he2⟩ := bnd_some he
  rw [of_some he2]
  clear he he2
  have h0 : at_[0]? = some (at_.getD 0 0) := by rw [Array.getElem?_eq_getElem hat]; simp [Array.getD, hat]
  have key : ∀ n : Nat, (Builtin.len_ at_ ty #[a.eval x]).run P w = .ok (.int .i64 n) w → OK P X0 A ι w H t' a ⟨dst, .call ⟨.builtin .len, #[x], at_⟩, ty, pos, af, gd⟩ base { v := .int .i64 n } := fun n hr =>
    ok_pure hs hd (u := .int .i64 n) (by simp [execOp, resolve, invoke, builtin, hr]) (RV.ofC (.deep (.int _ _)))
  generalize at_.getD 0 0 = T at hn h0
  unfold alen at hn
  cases hv : opv t x <;> rw [hv] at hn hx <;> try (simp at hn; done)
  all_goals
    try dsimp only at hn
    split at hn
    · rename_i hk
      have hn' := Option.some.inj hn
      clear hn
      subst hn'
      refine key _ ?_
      first
        | (have hu := lay_string hk; have := rv_str hx; simp [Builtin.len_, h0, run_underlying hu, this, goInt]; done)
        | (have hu := lay_string hk; have := rv_str hx; simp [Builtin.len_, h0, run_underlying hu, this, goInt]; rfl)
        | (obtain ⟨el, hu, _⟩ := lay_slice hk; have := rv_nils hx; simp [Builtin.len_, h0, run_underlying hu, this, goInt]; done)
        | (obtain ⟨el, hu, _⟩ := lay_slice hk; obtain ⟨ao, c, hp, _⟩ := rv_lsl hx; simp [Builtin.len_, h0, run_underlying hu, hp, goInt]; done)
        | (obtain ⟨el, hu, _⟩ := lay_slice hk; obtain ⟨ao, c, hp, _⟩ := rv_dsl hx; simp [Builtin.len_, h0, run_underlying hu, hp, goInt]; done)
        | (obtain ⟨n, el, hu, _, hn, _⟩ := lay_array hk; simp [Builtin.len_, h0, run_underlying hu, goInt]; omega)
    · simp at hn
end
end Sh
/-
The operations, one by one: slices of slices, arithmetic, comparisons.
-/
set_option linter.unusedSimpArgs false
namespace Sh
open Go

section
variable {P : Program} {X0 A : Nat → Prop} {ι : Nat → Nat} {w : World} {H : Nat → Option Blk} {t t' : Fr} {h : Heap} {a : Act} {base : Nat} {e : Eff} {dst : Option Tmp} {ty : TypeId} {pos : String} {af : Array Edge} {gd : Option (Nat × Bool)}

theorem run_sliceBound {v : Value} {k : IntKind} {i : Int} {y n : Nat} {c : BoundsCode} (hv : v = .int k i) (h : abnd i y = some n) : (Instr.sliceBound v y c).run P w = .ok n w := by
  obtain ⟨h0, h1, h2, _⟩ := abnd_some h
  subst hv
  simp [Instr.sliceBound, asIntOf, h0, h1, h2]

theorem run_sliceBounds {lo hi : Option Value} {loI hiI : Option Int} {isS : Bool} {n m l u : Nat} (hlo : ∀ v, lo = some v → ∃ k i, v = .int k i ∧ loI = some i) (hlo0 : lo = none → loI = none)
    (hhi : ∀ v, hi = some v → ∃ k i, v = .int k i ∧ hiI = some i) (hhi0 : hi = none → hiI = none) (h : abnds loI hiI n m = some (l, u)) :
    (Instr.sliceBounds isS n m lo hi none).run P w = .ok (l, u, m) w := by
  unfold abnds at h
  obtain ⟨u', hu, h2⟩ := bnd_some h
  obtain ⟨l', hl, h3⟩ := mpd_some h2
  simp only [Prod.mk.injEq] at h3
  obtain ⟨rfl, rfl⟩ := h3
  have hh : (match hi with | some v => (Instr.sliceBound v m (if isS then .sliceAcap else .sliceAlen)).run P w | none => .ok n w) = .ok u' w := by
    cases hi with
    | none => rw [hhi0 rfl] at hu; simp at hu; simp [hu]
    | some v =>
      obtain ⟨k, i, hv, hi'⟩ := hhi v rfl
      rw [hi'] at hu
      exact run_sliceBound hv hu
  have hl' : (match lo with | some v => (Instr.sliceBound v u' .sliceB).run P w | none => .ok 0 w) = .ok l' w := by
    cases lo with
    | none => rw [hlo0 rfl] at hl; simp at hl; simp [hl]
    | some v =>
      obtain ⟨k, i, hv, hi'⟩ := hlo v rfl
      rw [hi'] at hl
      exact run_sliceBound hv hl
  cases hi <;> cases lo <;> simp_all [Instr.sliceBounds]

theorem abnds_le {lo hi : Option Int} {n m l u : Nat} (h : abnds lo hi n m = some (l, u)) (hnm : n ≤ m) : l ≤ u ∧ u ≤ m := by
  unfold abnds at h
  obtain ⟨u', hu, h2⟩ := bnd_some h
  obtain ⟨l', hl, h3⟩ := mpd_some h2
  simp only [Prod.mk.injEq] at h3
  obtain ⟨rfl, rfl⟩ := h3
  constructor
  · cases lo with
    | none => simp at hl; omega
    | some i => exact (abnd_some hl).2.2.2
  · cases hi with
    | none => simp at hu; omega
    | some i => exact (abnd_some hu).2.2.2

theorem optInt_of {lo : Option Operand} {loI : Option Int} (hx : ∀ x, lo = some x → XR P X0 A ι w H a t x) (h : optInt (lo.map (opv t)) = some loI) :
    (∀ v, lo.map a.eval = some v → ∃ k i, v = .int k i ∧ loI = some i) ∧ (lo.map a.eval = none → loI = none) := by
  cases lo with
  | none => simp [optInt] at h; subst h; simp
  | some x =>
    refine ⟨fun v hv => ?_, fun h => by simp at h⟩
    simp at hv
    subst hv
    have hr := hx x rfl
    unfold XR at hr
    cases hv : opv t x <;> simp [optInt, hv] at h
    rename_i k i
    subst h
    rw [hv] at hr
    exact ⟨k, i, rv_int hr, rfl⟩

theorem elOK_cells {es : Nat} {v : AV} (h : elOK es v = true) : ∃ c, v.cells = some c ∧ c.length = es ∧ (es = 1 → c = [v]) := by
  cases v <;> simp only [elOK, beq_iff_eq, Bool.and_eq_true, bne_iff_ne, reduceCtorEq, Bool.false_eq_true] at h
  case agg c => exact ⟨c, rfl, h.2, fun e => absurd e h.1⟩
  all_goals (subst h; exact ⟨_, rfl, rfl, fun _ => rfl⟩)

theorem esOK_all {es : Nat} {xs : List AV} (h : esOK es xs = true) {i : Nat} {v : AV} (hv : xs[i]? = some v) : ∃ c, v.cells = some c ∧ c.length = es := by
  obtain ⟨c, h1, h2, _⟩ := elOK_cells (List.all_eq_true.1 h v (List.mem_of_getElem? hv))
  exact ⟨c, h1, h2⟩

theorem abnds_wide {lo hi : Option Int} {n m c l u : Nat} (h : abnds lo hi n m = some (l, u)) (hm : m ≤ c) : abnds lo hi n c = some (l, u) := by
  unfold abnds at h ⊢
  cases hi with
  | none => exact h
  | some i =>
    obtain ⟨u', hu, h3⟩ := bnd_some h
    obtain ⟨g0, g1, g2, g3⟩ := abnd_some hu
    have hu2 : abnd i c = some u' := by unfold abnd; rw [if_pos ⟨g0, by omega⟩, g2]
    simp only [hu2]
    exact h3

theorem ok_slice {S : TypeId} {x : Operand} {lo hi : Option Operand} (hs : SR X0 A ι w H t' a) (hd : ∀ d, dst = some d → d < a.tmps.size) (hx : XR P X0 A ι w H a t x)
    (hlo : ∀ x, lo = some x → XR P X0 A ι w H a t x) (hhi : ∀ x, hi = some x → XR P X0 A ι w H a t x) (hrd : ∀ i ∈ e.rd, H i = hget h i)
    (he : ((optInt (lo.map (opv t))).bnd fun lo => (optInt (hi.map (opv t))).bnd fun hi => aslice h (lay P S) (opv t x) lo hi) = some e) :
    OK P X0 A ι w H t' a ⟨dst, .slice S x lo hi none, ty, pos, af, gd⟩ base e := by
  obtain ⟨loI, h1, he1⟩ := bnd_some he
  obtain ⟨hiI, h2, hv⟩ := bnd_some he1
  clear he he1
  obtain ⟨l1, l2⟩ := optInt_of hlo h1
  obtain ⟨u1, u2⟩ := optInt_of hhi h2
  have hb := fun (isS : Bool) (n m l u : Nat) (hh : abnds loI hiI n m = some (l, u)) => run_sliceBounds (P := P) (w := w) (isS := isS) l1 l2 u1 u2 hh
  unfold XR at hx
  unfold aslice at hv
  cases hx2 : opv t x <;> rw [hx2] at hv hx <;> try (simp at hv; done)
  all_goals dsimp only at hv
  · rename_i s
    split at hv
    · rename_i hk
      obtain ⟨⟨l, u⟩, hab, rfl⟩ := mpd_some hv
      have hsv := rv_str hx
      have hun := lay_string hk
      refine ok_pure hs hd (u := .string ⟨((s.take u).drop l).toArray⟩) ?_ (RV.ofC (.deep (.str' _)))
      have hrun := hb false s.length s.length l u hab
      have hle := abnds_le hab (Nat.le_refl _)
      have hext : (⟨s.toArray⟩ : ByteArray).extract l u = ⟨((s.take u).drop l).toArray⟩ := by
        apply ByteArray.ext
        simp [ByteArray.data_extract, List.extract_eq_take_drop, List.drop_take]
      have hsz : (⟨s.toArray⟩ : ByteArray).size = s.length := by simp [ByteArray.size]
      simp only [execOp, hsv, Instr.sliceAt, Instr.slice, Sem.run_bind, run_underlying hun, Result.andThen_ok, Option.map_none, Option.isSome_none, hsz, hrun, hext, Sem.run_pure, Bool.false_eq_true, if_false]
    · simp at hv
  · split at hv
    · rename_i hk
      obtain ⟨⟨l, u⟩, hab, rfl⟩ := mpd_some hv
      have hsv := rv_nils hx
      obtain ⟨el, hun, hie, hes⟩ := lay_slice hk
      have hle := abnds_le hab (Nat.le_refl _)
      have hl0 : l = 0 := by omega
      have hu0 : u = 0 := by omega
      subst hl0; subst hu0
      refine ok_pure hs hd (u := .slice none 0 0) ?_ (RV.ofC (.deep .nils))
      have hrun := hb true 0 0 0 0 hab
      simp [execOp, hsv, Instr.sliceAt, Instr.slice, run_underlying hun, hrun, size_run (w := w) hie]
    · simp at hv
  · rename_i id off
    obtain ⟨b, hbk, hv2⟩ := bnd_some hv
    clear hv
    split at hv2
    · rename_i hk
      obtain ⟨hk, hes0, hn0, hfit⟩ := hk
      obtain ⟨⟨l, u⟩, hab, rfl⟩ := mpd_some hv2
      obtain ⟨ha, hp⟩ := rv_ptr hx
      obtain ⟨n, el, hun, hie, hn, hes, _⟩ := lay_array hk
      rw [hn] at hab
      have hle := abnds_le hab (Nat.le_refl _)
      have hrun := hb false n n l u hab
      have hH : H id = some b := by rw [hrd id (by simp), hbk]
      refine ok_pure hs hd (u := .slice (some (if n - l = 0 then ⟨ι id, off, none⟩ else ⟨ι id, off + l * (lay P S).es, none⟩)) (u - l) (n - l)) ?_ ?_
      · have hsz := size_run (P := P) (w := w) hie
        rw [← hes] at hsz
        have hnl : (n = l) ↔ (n - l = 0) := by omega
        simp [execOp, hp, Instr.sliceAt, run_underlying hun, Instr.sureAddr, hrun, hsz, Addr.add_mid, hnl]
      · refine RV.ofC (.lsl _ _ _ _ _ _ _ ha (fun k hk => ?_) (by omega) ?_)
        · rw [hn] at hk; simpa using hk
        · have hsol : b.solid := trivial
          obtain ⟨E, N, g1, g2, _, g4, _⟩ := hs.hr.blk id b hH hsol
          rw [hn] at hfit hn0
          have h1 : (lay P S).es ≤ n * (lay P S).es := Nat.le_mul_of_pos_left _ (by omega)
          by_cases hnl : n - l = 0
          · exact .inr ⟨off, by rw [if_pos hnl], fun h => absurd hnl h, E, N, g1, by rw [hnl]; omega⟩
          · have h2 : (n - l) * (lay P S).es + l * (lay P S).es = n * (lay P S).es := by rw [← Nat.add_mul]; congr 1; omega
            have h3 : (lay P S).es ≤ (n - l) * (lay P S).es := Nat.le_mul_of_pos_left _ (by omega)
            exact .inr ⟨off + l * (lay P S).es, by rw [if_neg hnl], fun _ => rfl, E, N, g1, by omega⟩
    · simp at hv2
  · rename_i id off n cap es
    split at hv
    · rename_i hk
      obtain ⟨hk, hes0⟩ := hk
      obtain ⟨⟨l, u⟩, hab, rfl⟩ := mpd_some hv
      obtain ⟨el, hun, hie, hes⟩ := lay_slice hk
      obtain ⟨ao, c, hp, ha, hcap, hnc, hcase⟩ := rv_lsl hx
      have hm : cap.getD n ≤ c ∧ n ≤ cap.getD n := by
        cases cap with
        | none => simp; omega
        | some k => have := hcap k rfl; simp; omega
      have hle := abnds_le hab hm.2
      have hrun := hb true n c l u (abnds_wide hab hm.1)
      have hsz := size_run (P := P) (w := w) hie
      rw [← hes] at hsz
      refine ok_pure hs hd (u := .slice (if c = l then ao else ao.map (·.add (l * (lay P S).es))) (u - l) (c - l)) ?_ ?_
      · simp [execOp, hp, Instr.sliceAt, Instr.slice, run_underlying hun, hrun, hsz]
      · refine RV.ofC (.lsl _ _ _ _ _ _ _ ha (fun k hk => ?_) (by omega) ?_)
        · cases cap with
          | none => simp at hk
          | some m => have := hcap m rfl; simp at hk; omega
        · rcases hcase with ⟨hc, hao⟩ | ⟨o', hao, ho', E, N, g1, g2⟩
          · exact .inl ⟨by omega, by subst hao; simp⟩
          · subst hao
            by_cases hcl : c = l
            · exact .inr ⟨o', by rw [if_pos hcl], fun h => by omega, E, N, g1, by rw [hcl, Nat.sub_self]; omega⟩
            · have h2 : (c - l) * es + l * es = c * es := by rw [← Nat.add_mul]; congr 1; omega
              have hoo := ho' (by omega)
              subst hoo
              exact .inr ⟨o' + l * es, by rw [if_neg hcl]; simp [Addr.add_mid, hes0], fun _ => rfl, E, N, g1, by omega⟩
    · simp at hv
  · rename_i xs
    split at hv
    · rename_i hk
      obtain ⟨hk, hes0⟩ := hk
      obtain ⟨⟨l, u⟩, hab, rfl⟩ := mpd_some hv
      obtain ⟨el, hun, hie, hes⟩ := lay_slice hk
      obtain ⟨ao, c, hp, hlc, hne⟩ := rv_dsl hx
      have hle := abnds_le hab (Nat.le_refl _)
      have hrun := hb true xs.length c l u (abnds_wide hab hlc)
      have hsz := size_run (P := P) (w := w) hie
      rw [← hes] at hsz
      refine ok_pure hs hd (u := .slice (if c = l then ao else ao.map (·.add (l * (lay P S).es))) (u - l) (c - l)) ?_ ?_
      · simp [execOp, hp, Instr.sliceAt, Instr.slice, run_underlying hun, hrun, hsz]
      · by_cases hul : u = l
        · have : (xs.take u).drop l = [] := by rw [List.drop_eq_nil_iff]; simp; omega
          dsimp only
          rw [this, hul, Nat.sub_self]
          exact RV.ofC (.deep (.emp _ _))
        · have hx0 : xs ≠ [] := by intro h0; rw [h0] at hle; simp at hle; omega
          obtain ⟨b, o, es, f, rfl, g1, g2, g3, g4, g5⟩ := hne hx0
          have hesl : es = (lay P S).es := by
            obtain ⟨y, hy⟩ : ∃ y, xs[0]? = some y := ⟨_, List.getElem?_eq_getElem (by omega)⟩
            obtain ⟨c1, k1, k2⟩ := g3 0 y hy
            obtain ⟨c2, k3, k4⟩ := esOK_all hes0 hy
            rw [k1] at k3; cases k3; omega
          have hget : ∀ (i : Nat) (y : AV), ((xs.take u).drop l)[i]? = some y → xs[l + i]? = some y := fun i y hy => by
            rw [List.getElem?_drop, List.getElem?_take] at hy
            split at hy
            · exact hy
            · simp at hy
          have hlen : ((xs.take u).drop l).length = u - l := by simp; omega
          dsimp only
          rw [if_neg (by omega), Option.map_some, Addr.add_mid, ← hesl, ← hlen]
          have hmul : ∀ i, (l + i) * es = l * es + i * es := fun i => Nat.add_mul _ _ _
          exact RV.ofC (.deep (.dsl _ b (o + l * es) es (c - l) (fun i j => f (l + i) j) g1 g2 (by intro h0; rw [h0] at hlen; simp at hlen; omega) (by omega) (fun i y hy => g3 _ y (hget i y hy))
            (fun i y c j x hy hc hx => by have := g4 _ y c j x (hget i y hy) hc hx; rw [hmul] at this; rw [← this]; congr 2; omega) (fun i y c j x hy hc hx => g5 _ y c j x (hget i y hy) hc hx)))
    · simp at hv
end
end Sh
