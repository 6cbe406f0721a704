/-
What a row reads, as values of the interpreter.
-/
import Derived.Test.YtkccojijhaajmaaGreatDoorShRow
set_option linter.unusedSimpArgs false
set_option linter.unusedVariables false
set_option linter.unusedSectionVars false
set_option linter.unusedSimpArgs false
namespace Sh
open Go

/-- cells as one element of a slice -/
def elemOf (c : List AV) : AV := match c with
  | [v] => v
  | c => .agg c

mutual
/-- the cells of what is read at a type -/
def avc {H : Type} (P : Program) : Nat → TypeId → DataW H → Option (List AV)
  | 0, _, _ => none
  | n + 1, t, d => match P.underlying t, d with
    | some .bool, .lit (.bool b) => some [.bool b]
    | some (.int _), .lit (.int k v) => some [.int k v]
    | some .string, .lit (.string s) => some [.str s]
    | some (.slice _), .nil => some [.dsl []]
    | some (.pointer _), .nil => some [.nilp]
    | some (.slice e), .slice xs _ => match xs with
      | [] => some [.dsl []]
      | xs => (avcs P n (P.cellsOf e) e xs).map fun cs => [.dsl (cs.map elemOf)]
    | some (.struct fs), .agg xs => (avcf P n fs.toList 0 xs).bind fun c => if c.length = P.cellsOf t then some c else none
    | some (.array _ e), .agg xs => (avcs P n (P.cellsOf e) e xs).bind fun cs => if cs.flatten.length = P.cellsOf t then some cs.flatten else none
    | _, _ => none

/-- elements, each of so many cells -/
def avcs {H : Type} (P : Program) : Nat → Nat → TypeId → List (DataW H) → Option (List (List AV))
  | _, _, _, [] => some []
  | n, es, e, d :: r => (avc P n e d).bind fun c => if c.length = es ∧ 0 < es ∧ ckOK es c = true then (avcs P n es e r).map fun cs => c :: cs else none

/-- fields, one behind the other -/
def avcf {H : Type} (P : Program) : Nat → List Field → Nat → List (DataW H) → Option (List AV)
  | _, [], _, [] => some []
  | n, f :: fs, o, d :: r => (avc P n f.type d).bind fun c => if f.offset = o ∧ c.length = P.cellsOf f.type then (avcf P n fs (o + P.cellsOf f.type) r).map fun cs => c ++ cs else none
  | _, _, _, _ => none
end

section
variable {H : Type} {enc : TypeId × Value → H} {P : Program} {w : World}

theorem elemOf_cells {es : Nat} {c : List AV} (h1 : c.length = es) (h2 : ckOK es c = true) : (elemOf c).cells = some c := by
  unfold elemOf
  split
  · rename_i v
    have : es = 1 := by simpa using h1.symm
    subst this
    have hv : elOK 1 v = true := by
      have : esOK 1 [v] = true := h2
      simpa [esOK] using this
    obtain ⟨d, e1, _, e3⟩ := elOK_cells hv
    rw [e1, e3 rfl]
  · rfl

theorem mapM_get {α β : Type} {f : α → Option β} : ∀ {l : List α} {r : List β}, l.mapM f = some r → l.length = r.length ∧ ∀ (j : Nat) x, l[j]? = some x → ∃ y, r[j]? = some y ∧ f x = some y
  | [], r, h => by simp at h; subst h; exact ⟨rfl, by simp⟩
  | x :: l, r, h => by
    rw [List.mapM_cons] at h
    simp only [bind, Option.bind_eq_some_iff, pure, Option.some.injEq] at h
    obtain ⟨y, h1, r', h2, rfl⟩ := h
    obtain ⟨i1, i2⟩ := mapM_get h2
    refine ⟨by simp [i1], fun j x' hx => ?_⟩
    cases j with
    | zero => simp at hx; subst hx; exact ⟨y, rfl, h1⟩
    | succ j => obtain ⟨y', g1, g2⟩ := i2 j x' (by simpa using hx); exact ⟨y', by simpa using g1, g2⟩

theorem avcs_get {n es : Nat} {e : TypeId} : ∀ {xs : List (DataW H)} {cs : List (List AV)}, avcs P n es e xs = some cs → xs.length = cs.length ∧ ∀ (j : Nat) x, xs[j]? = some x → ∃ c, cs[j]? = some c ∧ avc P n e x = some c ∧ c.length = es ∧ 0 < es ∧ ckOK es c = true
  | [], cs, h => by simp [avcs] at h; subst h; exact ⟨rfl, by simp⟩
  | d :: r, cs, h => by
    unfold avcs at h
    rw [Option.bind_eq_some_iff] at h
    obtain ⟨c, h1, h2⟩ := h
    split at h2
    · rename_i hc
      rw [Option.map_eq_some_iff] at h2
      obtain ⟨cs', h3, rfl⟩ := h2
      obtain ⟨i1, i2⟩ := avcs_get h3
      refine ⟨by simp [i1], fun j x hx => ?_⟩
      cases j with
      | zero => simp at hx; subst hx; exact ⟨c, rfl, h1, hc.1, hc.2.1, hc.2.2⟩
      | succ j => obtain ⟨c', g1, g2⟩ := i2 j x (by simpa using hx); exact ⟨c', by simpa using g1, g2⟩
    · cases h2

theorem avcf_rel {m : Nat} {cs : List Value} {g : Field → Option (DataW H × List MemPlace)} (hg : ∀ f x c, g f = some x → avc P m f.type x.1 = some c → RL (RD (fun _ => False) w) c ((cs.drop f.offset).take (P.cellsOf f.type))) :
    ∀ (fs : List Field) (o : Nat) (xs : List (DataW H × List MemPlace)) (c : List AV), fs.mapM g = some xs → avcf P m fs o (xs.map (·.1)) = some c → RL (RD (fun _ => False) w) c ((cs.drop o).take c.length)
  | [], o, xs, c, h1, h2 => by
    simp at h1
    subst h1
    simp [avcf] at h2
    subst h2
    simpa using RL.nil _
  | f :: fs, o, xs, c, h1, h2 => by
    rw [List.mapM_cons] at h1
    simp only [bind, Option.bind_eq_some_iff, pure, Option.some.injEq] at h1
    obtain ⟨y, g1, r', g2, rfl⟩ := h1
    simp only [List.map_cons] at h2
    unfold avcf at h2
    rw [Option.bind_eq_some_iff] at h2
    obtain ⟨cf, e1, e2⟩ := h2
    split at e2
    · rename_i hc
      rw [Option.map_eq_some_iff] at e2
      obtain ⟨c', e3, rfl⟩ := e2
      have hf := hg f y cf g1 e1
      have hr := avcf_rel hg fs _ _ _ g2 e3
      rw [hc.1] at hf
      have := hf.append hr
      rw [List.length_append, List.take_add, hc.2]
      rw [List.drop_drop]
      exact this
    · cases e2

theorem avcs_rel {m es : Nat} {e : TypeId} {cs : List Value} {g : Nat → Option (DataW H × List MemPlace)} (hg : ∀ i x c, g i = some x → avc P m e x.1 = some c → RL (RD (fun _ => False) w) c ((cs.drop (i * es)).take es)) :
    ∀ (k i : Nat) (xs : List (DataW H × List MemPlace)) (css : List (List AV)), (List.range' i k).mapM g = some xs → avcs P m es e (xs.map (·.1)) = some css → RL (RD (fun _ => False) w) css.flatten ((cs.drop (i * es)).take css.flatten.length)
  | 0, i, xs, css, h1, h2 => by
    simp at h1
    subst h1
    simp [avcs] at h2
    subst h2
    simpa using RL.nil _
  | k + 1, i, xs, css, h1, h2 => by
    rw [List.range'_succ, List.mapM_cons] at h1
    simp only [bind, Option.bind_eq_some_iff, pure, Option.some.injEq] at h1
    obtain ⟨y, g1, r', g2, rfl⟩ := h1
    simp only [List.map_cons] at h2
    unfold avcs at h2
    rw [Option.bind_eq_some_iff] at h2
    obtain ⟨cf, e1, e2⟩ := h2
    split at e2
    · rename_i hc
      rw [Option.map_eq_some_iff] at e2
      obtain ⟨c', e3, rfl⟩ := e2
      have hf := hg i y cf g1 e1
      have hr := avcs_rel hg k (i + 1) _ _ g2 e3
      have := hf.append hr
      rw [List.flatten_cons, List.length_append, List.take_add, hc.1, List.drop_drop]
      rw [Nat.add_mul, Nat.one_mul] at this
      exact this
    · cases e2

theorem avc_sound {base : Nat} {sp : Nat → Bool} {held : Bool} : ∀ (m n : Nat) (t : TypeId) (d : DataW H) (cs : List Value) (ps : List MemPlace) (c : List AV), DataW.trod enc P w base sp held n t cs = some (d, ps) → avc P m t d = some c → RL (RD (fun _ => False) w) c cs := by
  intro m
  induction m with
  | zero => intro n t d cs ps c _ h; simp [avc] at h
  | succ m ih =>
    intro n t d cells ps c ht hc
    cases n with
    | zero => simp [DataW.trod] at ht
    | succ n =>
      unfold DataW.trod at ht
      unfold avc at hc
      split at ht
      case h_1 b hu =>
        simp only [Option.some.injEq, Prod.mk.injEq] at ht
        obtain ⟨rfl, rfl⟩ := ht
        rw [hu] at hc
        simp only [Option.some.injEq] at hc
        subst hc
        exact RL.cons (.bool b) (RL.nil _)
      case h_2 k k' v hu =>
        split at ht
        · simp only [Option.some.injEq, Prod.mk.injEq] at ht
          obtain ⟨rfl, rfl⟩ := ht
          rename_i hk
          rw [hu] at hc
          simp only [Option.some.injEq] at hc
          subst hc
          rw [hk.1]
          exact RL.cons (.int _ _) (RL.nil _)
        · cases ht
      case h_4 str hu =>
        split at ht
        · simp only [Option.some.injEq, Prod.mk.injEq] at ht
          obtain ⟨rfl, rfl⟩ := ht
          rw [hu] at hc
          simp only [Option.some.injEq] at hc
          subst hc
          exact RL.cons (.str _) (RL.nil _)
        · cases ht
      case h_5 hu =>
        simp only [Option.some.injEq, Prod.mk.injEq] at ht
        obtain ⟨rfl, rfl⟩ := ht
        rw [hu] at hc
        simp only [Option.some.injEq] at hc
        subst hc
        exact RL.cons .nilp (RL.nil _)
      case h_7 hu =>
        simp only [Option.some.injEq, Prod.mk.injEq] at ht
        obtain ⟨rfl, rfl⟩ := ht
        rw [hu] at hc
        simp only [Option.some.injEq] at hc
        subst hc
        exact RL.cons (.emp none 0) (RL.nil _)
      case h_8 e a len cap hu =>
        dsimp only at ht
        split at ht
        · rename_i hcond
          rw [Option.bind_eq_some_iff] at ht
          obtain ⟨elems, h1, h2⟩ := ht
          rw [Option.map_eq_some_iff] at h2
          obtain ⟨rest, _, h3⟩ := h2
          simp only [Prod.mk.injEq] at h3
          obtain ⟨rfl, rfl⟩ := h3
          rw [hu] at hc
          dsimp only at hc
          obtain ⟨l2, g2⟩ := mapM_get h1
          rw [List.length_range] at l2
          cases elems with
          | nil =>
            simp only [List.map_nil, Option.some.injEq] at hc
            subst hc
            have h0 : len = 0 := l2
            subst h0
            exact RL.cons (.emp _ _) (RL.nil _)
          | cons e0 elems =>
            simp only [List.map_cons] at hc
            rw [Option.map_eq_some_iff] at hc
            obtain ⟨css, hcs, rfl⟩ := hc
            obtain ⟨l1, g1⟩ := avcs_get hcs
            have hlen : css.length = len := by rw [← l1, l2]; simp
            have key : ∀ i, i < len → ∃ ci ca, w.cells? base (a.add (i * P.cellsOf e)) (P.cellsOf e) = some ci ∧ css[i]? = some ca ∧ RL (RD (fun _ => False) w) ca ci ∧ ca.length = P.cellsOf e ∧ 0 < P.cellsOf e ∧ ckOK (P.cellsOf e) ca = true := fun i hi => by
              obtain ⟨y, y1, y2⟩ := g2 i i (List.getElem?_range hi)
              rw [Option.bind_eq_some_iff] at y2
              obtain ⟨ci, z1, z2⟩ := y2
              have hxi : (e0.1 :: elems.map (·.1))[i]? = some y.1 := by
                have := congrArg (Option.map (·.1)) y1
                rw [← List.getElem?_map] at this
                simpa using this
              obtain ⟨ca, c1, c2, c3, c4, c5⟩ := g1 i y.1 hxi
              exact ⟨ci, ca, z1, c1, ih n e y.1 ci y.2 ca z2 c2, c3, c4, c5⟩
            have hcell : ∀ i, i < len → ∀ ci, w.cells? base (a.add (i * P.cellsOf e)) (P.cellsOf e) = some ci → ∀ (j : Nat) u, ci[j]? = some u → w.cell? ((a.add (i * P.cellsOf e)).add j) = some u := fun i hi ci hci j u hu => by
              unfold World.cells? at hci
              split at hci
              · obtain ⟨m1, m2⟩ := mapM_get hci
                have hj : j < P.cellsOf e := by
                  rw [List.length_range] at m1
                  rw [m1]; exact (List.getElem?_eq_some_iff.1 hu).1
                obtain ⟨v, v1, v2⟩ := m2 j j (List.getElem?_range hj)
                rw [hu] at v1
                cases v1
                exact v2
              · cases hci
            have hlp : 0 < len := by rw [l2]; simp
            obtain ⟨b, o, spt⟩ := a
            have hspot : spt = none := by
              obtain ⟨ci, ca, k1, k2, k3, k4, k5, _⟩ := key 0 hlp
              have hcl : 0 < ci.length := by rw [← k3.1, k4]; exact k5
              have := hcell 0 hlp ci k1 0 _ (List.getElem?_eq_getElem hcl)
              unfold World.cell? at this
              split at this
              · split at this
                · cases this
                · rename_i hsp
                  cases spt with
                  | none => rfl
                  | some x => exact absurd (by simp [Addr.add]) hsp
              · cases this
            subst hspot
            have hes : 0 < P.cellsOf e := by obtain ⟨_, _, _, _, _, _, k5, _⟩ := key 0 hlp; exact k5
            refine RL.cons ?_ (RL.nil _)
            have hmap : (css.map elemOf).length = len := by simp [hlen]
            have hget : ∀ (i : Nat) (v : AV), (css.map elemOf)[i]? = some v → ∃ ci ca, w.cells? base ((⟨b, o, none⟩ : Addr).add (i * P.cellsOf e)) (P.cellsOf e) = some ci ∧ v = elemOf ca ∧ v.cells = some ca ∧ RL (RD (fun _ => False) w) ca ci ∧ ca.length = P.cellsOf e ∧ i < len := fun i v hv => by
              have hi : i < len := by rw [← hmap]; exact (List.getElem?_eq_some_iff.1 hv).1
              obtain ⟨ci, ca, k1, k2, k3, k4, k5, k6⟩ := key i hi
              have hv' : v = elemOf ca := by
                rw [List.getElem?_map, k2] at hv
                exact (Option.some.inj hv).symm
              exact ⟨ci, ca, k1, hv', by rw [hv']; exact elemOf_cells k4 k6, k3, k4, hi⟩
            have hRD := RD.dsl (X := fun _ => False) (w := w) (css.map elemOf) b o (P.cellsOf e) cap (fun i j => ((w.cells? base ((⟨b, o, none⟩ : Addr).add (i * P.cellsOf e)) (P.cellsOf e)).getD []).getD j undef) (fun h => h) hes
              (fun h => by rw [h] at hmap; simp at hmap; omega) (by rw [hmap]; exact hcond.2.1)
              (fun i v hv => by obtain ⟨ci, ca, _, _, k3, _, k5, _⟩ := hget i v hv; exact ⟨ca, k3, k5⟩)
              (fun i v d j x hv hd hx => by
                obtain ⟨ci, ca, k1, _, k3, k4, _, k6⟩ := hget i v hv
                rw [hd] at k3
                cases k3
                obtain ⟨u, hu', _⟩ := k4.ex hx
                have := hcell i k6 ci k1 j u hu'
                rw [k1]
                simp only [Option.getD_some, List.getD, hu']
                rw [Addr.add_mid, Addr.add_mid] at this
                exact this)
              (fun i v d j x hv hd hx => by
                obtain ⟨ci, ca, k1, _, k3, k4, _, k6⟩ := hget i v hv
                rw [hd] at k3
                cases k3
                obtain ⟨u, hu', hr⟩ := k4.ex hx
                rw [k1]
                simp only [Option.getD_some, List.getD, hu']
                exact hr)
            rw [hmap] at hRD
            exact hRD
        · cases ht
      case h_9 cs fs hu =>
        rename_i cells0 x0
        split at ht
        · rw [Option.map_eq_some_iff] at ht
          obtain ⟨xs, h1, h2⟩ := ht
          simp only [Prod.mk.injEq] at h2
          obtain ⟨rfl, rfl⟩ := h2
          rw [hu] at hc
          dsimp only at hc
          rw [Option.bind_eq_some_iff] at hc
          obtain ⟨c', e1, e2⟩ := hc
          split at e2
          · rename_i hl hcl
            cases e2
            have := avcf_rel (P := P) (w := w) (m := m) (cs := cells0) (hg := ?hgf) fs.toList 0 xs c h1 e1
            case hgf => exact fun f x c hx hcx => ih n f.type x.1 _ x.2 c hx hcx
            rw [List.drop_zero, hcl, ← hl, List.take_length] at this
            exact this
          · cases e2
        · cases ht
      case h_10 cs k e hu =>
        rename_i cells0 x0
        split at ht
        · rw [Option.map_eq_some_iff] at ht
          obtain ⟨xs, h1, h2⟩ := ht
          simp only [Prod.mk.injEq] at h2
          obtain ⟨rfl, rfl⟩ := h2
          rw [hu] at hc
          dsimp only at hc
          rw [Option.bind_eq_some_iff] at hc
          obtain ⟨css, e1, e2⟩ := hc
          split at e2
          · rename_i hl hcl
            cases e2
            rw [List.range_eq_range'] at h1
            have := avcs_rel (P := P) (w := w) (m := m) (e := e) (es := P.cellsOf e) (cs := cells0) (hg := ?hgg) _ 0 xs css h1 e1
            case hgg => exact fun i x c hx hcx => ih n e x.1 _ x.2 c hx hcx
            rw [Nat.zero_mul, List.drop_zero, hcl, ← hl, List.take_length] at this
            exact this
          · cases e2
        · cases ht
      case h_3 hu =>
        split at ht
        · simp only [Option.some.injEq, Prod.mk.injEq] at ht
          obtain ⟨rfl, rfl⟩ := ht
          rw [hu] at hc; cases hc
        · cases ht
      case h_6 hu =>
        rw [Option.map_eq_some_iff] at ht
        obtain ⟨x, _, h2⟩ := ht
        simp only [Prod.mk.injEq] at h2
        obtain ⟨rfl, rfl⟩ := h2
        rw [hu] at hc; cases hc
      case h_11 hu =>
        rw [hu] at hc; cases d <;> cases hc
      case h_12 hu =>
        rw [hu] at hc; cases d <;> cases hc
      case h_13 hu =>
        rw [hu] at hc; cases d <;> cases hc
      case h_14 hu =>
        rw [hu] at hc; cases d <;> cases hc
      all_goals first
        | (rename_i hu; rw [hu] at hc; cases d <;> cases hc; done)
        | cases ht
end
end Sh
