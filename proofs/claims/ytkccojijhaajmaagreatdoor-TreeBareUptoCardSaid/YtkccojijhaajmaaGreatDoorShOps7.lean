/-
The operations, one by one: arithmetic, comparisons, slices of parts.
-/
import Derived.Test.YtkccojijhaajmaaGreatDoorShOps4
import Derived.Laws.StructEq
import Derived.ChangeKeysEq
set_option linter.unusedSimpArgs false
set_option linter.unusedVariables false
set_option linter.unusedSectionVars false
set_option linter.unusedSimpArgs false
namespace Sh
open Go

section
variable {P : Program} {X0 A : Nat → Prop} {ι : Nat → Nat} {w : World} {H : Nat → Option Blk} {t t' : Fr} {h : Heap} {a : Act} {base : Nat} {e : Eff} {dst : Option Tmp} {ty : TypeId} {pos : String} {af : Array Edge} {gd : Option (Nat × Bool)}

theorem aarith_run {op : BinOp} {k : IntKind} {x y : Int} {v : AV} (h : aarith op k x y = some v) (h1 : op ≠ .shl) (h2 : op ≠ .shr) (T : TypeId) :
    ∃ u, (binOp op T (.int k x) (.int k y)).run P w = .ok u w ∧ RD (fun _ => True) w v u := by
  cases op <;> simp only [aarith, reduceCtorEq, Option.some.injEq] at h
  case quo =>
    split at h
    · cases h
    · rename_i h0; cases h; exact ⟨_, by simp [binOp, Op.intDiv, h0], .int _ _⟩
  case rem =>
    split at h
    · cases h
    · rename_i h0; cases h; exact ⟨_, by simp [binOp, Op.intDiv, h0], .int _ _⟩
  case and => subst h; exact ⟨_, by simp only [binOp, Op.intBits, ne_eq, not_true_eq_false, if_false]; rfl, .int _ _⟩
  case or => subst h; exact ⟨_, by simp only [binOp, Op.intBits, ne_eq, not_true_eq_false, if_false]; rfl, .int _ _⟩
  case xor => subst h; exact ⟨_, by simp only [binOp, Op.intBits, ne_eq, not_true_eq_false, if_false]; rfl, .int _ _⟩
  case andNot => subst h; exact ⟨_, by simp only [binOp, Op.intBits, ne_eq, not_true_eq_false, if_false]; rfl, .int _ _⟩
  case add => subst h; exact ⟨_, by simp [binOp, Op.intArith], .int _ _⟩
  case sub => subst h; exact ⟨_, by simp [binOp, Op.intArith], .int _ _⟩
  case mul => subst h; exact ⟨_, by simp [binOp, Op.intArith], .int _ _⟩
  all_goals
    subst h
    exact ⟨_, by simp [binOp, Op.intCmp], .bool _⟩

theorem RD.any {X : Nat → Prop} {v : AV} {u : Value} (h : RD (fun _ => True) w v u) : RD X w v u := h.mono (fun _ _ _ => trivial) (fun _ _ h => absurd trivial h)

theorem ok_unOp {op : UnOp} {T : TypeId} {x : Operand} (hs : SR X0 A ι w H t' a) (hd : ∀ d, dst = some d → d < a.tmps.size) (hx : XR P X0 A ι w H a t x)
    (he : (aun op (opv t x)).bnd Eff.of = some e) : OK P X0 A ι w H t' a ⟨dst, .unOp op T x, ty, pos, af, gd⟩ base e := by
  obtain ⟨v, hv, he2⟩ := bnd_some he
  rw [of_some he2]
  unfold XR at hx
  unfold aun at hv
  cases hx2 : opv t x <;> rw [hx2] at hv hx <;> try (simp at hv; done)
  all_goals dsimp only at hv
  · have hi := rv_int hx
    cases op <;> simp only [reduceCtorEq] at hv
    · obtain ⟨u, hu, hr⟩ := aarith_run (P := P) (w := w) hv (by simp) (by simp) 0
      simp only [binOp, ne_eq, not_true_eq_false, if_false] at hu
      exact ok_pure hs hd (u := u) (by simp [execOp, hi, Op.unary, hu]) (RV.ofC (.deep hr.any))
    · obtain ⟨u, hu, hr⟩ := aarith_run (P := P) (w := w) hv (by simp) (by simp) 0
      simp only [binOp, ne_eq, not_true_eq_false, if_false] at hu
      exact ok_pure hs hd (u := u) (by simp [execOp, hi, Op.unary, hu]) (RV.ofC (.deep hr.any))
  · have hi := rv_bool hx
    cases op <;> simp only [reduceCtorEq, Option.some.injEq] at hv
    subst hv
    exact ok_pure hs hd (u := .bool _) (by simp [execOp, hi, Op.unary]) (RV.ofC (.deep (.bool _)))

theorem eqNe_some {op : BinOp} {b : Bool} {v : AV} (h : eqNe op b = some v) : (op = .eql ∧ v = .bool b) ∨ (op = .neq ∧ v = .bool (!b)) := by
  cases op <;> simp [eqNe] at h
  · exact .inl ⟨rfl, h.symm⟩
  · exact .inr ⟨rfl, h.symm⟩

theorem run_equal_of {op : BinOp} {T : TypeId} {x y : Value} {b : Bool} {v : AV} (h : eqNe op b = some v) (he : (Op.equal T x y).run P w = .ok b w)
    (hb : ∀ op, (op = .eql ∨ op = .neq) → (binOp op T x y).run P w = ((Op.equal T x y).run P w).andThen fun b w' => .ok (.bool (if op = .eql then b else !b)) w') :
    ∃ u, (binOp op T x y).run P w = .ok u w ∧ RD (fun _ => True) w v u := by
  rcases eqNe_some h with ⟨rfl, rfl⟩ | ⟨rfl, rfl⟩
  · exact ⟨_, by rw [hb _ (.inl rfl), he]; rfl, .bool _⟩
  · exact ⟨_, by rw [hb _ (.inr rfl), he]; rfl, .bool _⟩

/-! ### structs and arrays -/
theorem toList_mk (s : List UInt8) : (⟨s.toArray⟩ : ByteArray).toList = s := by rw [ByteArray.toList_eq]
theorem mpd_eq {α β : Type} (v : β) (k : β → α) : (some v).mpd k = some (k v) := rfl
theorem bnd_eq {α β : Type} (v : β) (k : β → Option α) : (some v).bnd k = k v := rfl
/-- a value whose cells these are, of a type of this kind -/
def Whole (P : Program) (T : TypeId) (v : AV) (c : List AV) : Prop :=
  match (lay P T).kind with
  | .struct | .array => v = .agg c
  | .bad => False
  | _ => c = [v]

theorem flat_kind {d : Nat} {T : TypeId} {l : List (Nat × CK)} (h : flat P d T = some l) :
    (∃ k, P.underlying T = some (.int k) ∧ l = [(1, .int)]) ∨ (P.underlying T = some .bool ∧ l = [(1, .bool)]) ∨ (P.underlying T = some .string ∧ l = [(1, .str)]) ∨
    (∃ fs d', d = d' + 1 ∧ P.underlying T = some (.struct fs) ∧ P.stoodInHeld T = false ∧ flatFs (flat P d') P fs.toList 0 = some l) ∨
    (∃ n e d' k, d = d' + 1 ∧ P.underlying T = some (.array n e) ∧ flat P d' e = some [(1, k)] ∧ (P.info? e).any (·.size == 1) = true ∧ l = [(n, k)]) := by
  cases d with
  | zero => simp [flat] at h
  | succ d =>
    unfold flat at h
    cases hu : P.underlying T with
    | none => simp [hu] at h
    | some kd =>
      rw [hu] at h
      cases kd <;> simp only [reduceCtorEq] at h
      case bool => exact .inr (.inl ⟨rfl, by simpa using h.symm⟩)
      case int k => exact .inl ⟨k, rfl, by simpa using h.symm⟩
      case string => exact .inr (.inr (.inl ⟨rfl, by simpa using h.symm⟩))
      case struct fs =>
        cases hst : P.stoodInHeld T <;> rw [hst] at h
        · exact .inr (.inr (.inr (.inl ⟨fs, d, rfl, rfl, rfl, h⟩)))
        · cases h
      case array n e =>
        split at h
        · rename_i k hk
          split at h
          · rename_i hi
            exact .inr (.inr (.inr (.inr ⟨n, e, d, k, rfl, rfl, hk, hi, by simpa using h.symm⟩)))
          · cases h
        · cases h

theorem flat_info {F : TypeId → Option (List (Nat × CK))} : ∀ (fs : List Field) (n : Nat) (l : List (Nat × CK)), flatFs F P fs n = some l → ∀ f ∈ fs, (P.info? f.type).isSome = true
  | [], _, _, _, f, hf => by simp at hf
  | g :: fs, n, l, h, f, hf => by
    unfold flatFs at h
    obtain ⟨lf, h1, h2⟩ := Option.bind_eq_some_iff.1 h
    split at h2
    · rename_i hc
      obtain ⟨_, _, _, h3⟩ := hc
      obtain ⟨r, h4, _⟩ := Option.map_eq_some_iff.1 h2
      rcases List.mem_cons.1 hf with rfl | hf
      · cases hi : P.info? f.type with
        | none => simp [hi] at h3
        | some i => rfl
      · exact flat_info fs _ _ h4 f hf
    · cases h2

/-- cells of a flat type as a whole value -/
theorem flat_whole {d : Nat} {T : TypeId} {l : List (Nat × CK)} {c : List AV} {o : Nat} (h : flat P d T = some l) (hs : (P.info? T).any (·.size == (l.map (·.1)).sum) = true) (hc : o + (l.map (·.1)).sum ≤ c.length) :
    ∃ v, ldc (lay P T) c o = some v ∧ Whole P T v ((c.drop o).take (l.map (·.1)).sum) := by
  have hsz : (lay P T).size = (l.map (·.1)).sum := by
    rw [lay_size]
    cases hi : P.info? T with
    | none => simp [hi] at hs
    | some i => simpa [hi] using hs
  rcases flat_kind h with ⟨k, hu, rfl⟩ | ⟨hu, rfl⟩ | ⟨hu, rfl⟩ | ⟨fs, d', rfl, hu, hst, hfs⟩ | ⟨n, e, d', k, rfl, hu, he, hi, rfl⟩
  case inr.inr.inr.inl =>
    have hk : (lay P T).kind = .struct := by
      unfold lay; simp only [hu]
      rw [List.all_eq_true.2 (fun f hf => flat_info _ _ _ hfs f hf)]
    refine ⟨.agg ((c.drop o).take (l.map (·.1)).sum), ?_, ?_⟩
    · simp only [ldc, hk, getr, hsz, if_pos hc, mpd_eq]
    · simp only [Whole, hk]
  case inr.inr.inr.inr =>
    have hk : (lay P T).kind = .array := by
      unfold lay; simp only [hu]
      cases hie : P.info? e with
      | none => simp [hie] at hi
      | some i => rfl
    refine ⟨.agg ((c.drop o).take ([(n, k)].map (·.1)).sum), ?_, ?_⟩
    · simp only [ldc, hk, getr, hsz, if_pos hc, mpd_eq]
    · simp only [Whole, hk]
  all_goals
    have hk : (lay P T).kind = .other ∨ (lay P T).kind = .bool ∨ (lay P T).kind = .string := by unfold lay; simp only [hu]; simp
    simp only [List.map_cons, List.map_nil, List.sum_cons, List.sum_nil] at hc
    have ho : o < c.length := by omega
    refine ⟨c[o], ?_, ?_⟩
    · rcases hk with hk | hk | hk <;> simp [ldc, hk, ho]
    · have : (c.drop o).take 1 = [c[o]] := by rw [List.drop_eq_getElem_cons ho]; rfl
      rcases hk with hk | hk | hk <;> simp [Whole, hk, this]

theorem aeqK_len {k : CK} : ∀ {x y : List AV} {c : Bool}, aeqK k x y = some c → x.length = y.length
  | [], [], _, _ => rfl
  | .int _ _ :: x, .int _ _ :: y, c, h => by
    unfold aeqK at h
    split at h
    · obtain ⟨d, h1, _⟩ := mpd_some h; simp [aeqK_len h1]
    · cases h
  | .str _ :: x, .str _ :: y, c, h => by
    unfold aeqK at h
    split at h
    · obtain ⟨d, h1, _⟩ := mpd_some h; simp [aeqK_len h1]
    · cases h
  | .bool _ :: x, .bool _ :: y, c, h => by
    unfold aeqK at h
    split at h
    · obtain ⟨d, h1, _⟩ := mpd_some h; simp [aeqK_len h1]
    · cases h

theorem aeqK_cons {k : CK} {a b : AV} {x y : List AV} {c : Bool} (h : aeqK k (a :: x) (b :: y) = some c) : ∃ c1 c2, aeqK k [a] [b] = some c1 ∧ aeqK k x y = some c2 ∧ c = (c1 && c2) := by
  cases a <;> cases b <;> simp only [aeqK, reduceCtorEq] at h
  all_goals
    split at h
    · rename_i hk
      obtain ⟨d, h1, rfl⟩ := mpd_some h
      refine ⟨_, d, ?_, h1, rfl⟩
      simp only [aeqK, if_pos hk, mpd_eq, Bool.and_true]
    · cases h

theorem aeqs_len : ∀ {l : List (Nat × CK)} {x y : List AV} {c : Bool}, aeqs l x y = some c → x.length = (l.map (·.1)).sum ∧ y.length = (l.map (·.1)).sum
  | [], [], [], _, _ => ⟨rfl, rfl⟩
  | p :: l, x, y, c, h => by
    unfold aeqs at h
    split at h
    · rename_i hl
      obtain ⟨c1, h1, h2⟩ := bnd_some h
      obtain ⟨c2, h3, _⟩ := mpd_some h2
      obtain ⟨g1, g2⟩ := aeqs_len h3
      simp only [List.length_drop] at g1 g2
      simp only [List.map_cons, List.sum_cons]
      omega
    · cases h

theorem aeqs_append : ∀ {l m : List (Nat × CK)} {x y : List AV} {c : Bool}, aeqs (l ++ m) x y = some c →
    ∃ c1 c2, aeqs l (x.take (l.map (·.1)).sum) (y.take (l.map (·.1)).sum) = some c1 ∧ aeqs m (x.drop (l.map (·.1)).sum) (y.drop (l.map (·.1)).sum) = some c2 ∧ c = (c1 && c2)
  | [], m, x, y, c, h => ⟨true, c, by simp [aeqs], by simpa using h, by simp⟩
  | p :: l, m, x, y, c, h => by
    rw [List.cons_append] at h
    unfold aeqs at h
    split at h
    · rename_i hl
      obtain ⟨c1, h1, h2⟩ := bnd_some h
      obtain ⟨c2, h3, rfl⟩ := mpd_some h2
      obtain ⟨d1, d2, k1, k2, rfl⟩ := aeqs_append h3
      refine ⟨c1 && d1, d2, ?_, ?_, by rw [Bool.and_assoc]⟩
      · unfold aeqs
        simp only [List.map_cons, List.sum_cons, List.take_take, List.length_take]
        rw [if_pos (by omega), Nat.min_eq_left (by omega), h1]
        simp only [bnd_eq]
        rw [List.drop_take, List.drop_take, Nat.add_sub_cancel_left, k1]
        simp only [mpd_eq]
      · simpa [List.drop_drop] using k2
    · cases h

/-- What '==' says of values of a flat type. -/
def EqL (P : Program) (d : Nat) (T : TypeId) (l : List (Nat × CK)) : Prop :=
  ∀ (X A : Nat → Prop) (ι : Nat → Nat) (w : World) (D : Nat) (vx vy : AV) (x y : List AV) (c : Bool) (u v : Value), Whole P T vx x → Whole P T vy y → aeqs l x y = some c →
    RV X A ι w vx u → RV X A ι w vy v → (Op.equalIn (D + d) T u v).run P w = .ok c w

theorem aeqs_one {K : CK} {vx vy : AV} {c : Bool} (hc : aeqs [(1, K)] [vx] [vy] = some c) : aeqK K [vx] [vy] = some c := by
  unfold aeqs at hc
  rw [if_pos (by simp)] at hc
  obtain ⟨c1, k1, k2⟩ := bnd_some hc
  obtain ⟨c2, k3, rfl⟩ := mpd_some k2
  simp only [List.drop_succ_cons, List.drop_zero, aeqs, Option.some.injEq] at k3
  rw [← k3, Bool.and_true]; exact k1

theorem eq_fields {d D : Nat} (IH : ∀ T l, flat P d T = some l → EqL P d T l) {X : Nat → Prop} {x y : List AV} {xs ys : Array Value} (hx : RL (RC X A ι w) x xs.toList) (hy : RL (RC X A ι w) y ys.toList) :
    ∀ (fs : List Field) (n : Nat) (l : List (Nat × CK)) (c : Bool), flatFs (flat P d) P fs n = some l → aeqs l (x.drop n) (y.drop n) = some c → (Op.eqFields (D + d) xs ys fs).run P w = .ok c w
  | [], n, l, c, h, hc => by
    simp only [flatFs, Option.some.injEq] at h
    subst h
    unfold aeqs at hc
    split at hc <;> simp_all [Op.eqFields]
  | f :: fs, n, l, c, h, hc => by
    unfold flatFs at h
    obtain ⟨lf, h1, h2⟩ := Option.bind_eq_some_iff.1 h
    split at h2
    · rename_i hcond
      obtain ⟨hnm, hoff, h0, hsz⟩ := hcond
      obtain ⟨r, h4, rfl⟩ := Option.map_eq_some_iff.1 h2
      obtain ⟨g1, g2⟩ := aeqs_len hc
      obtain ⟨c1, c2, k1, k2, rfl⟩ := aeqs_append hc
      simp only [List.map_append, List.sum_append, List.length_drop] at g1 g2
      · obtain ⟨vx, e1, e2⟩ := flat_whole (c := x) (o := n) h1 hsz (by omega)
        obtain ⟨vy, e3, e4⟩ := flat_whole (c := y) (o := n) h1 hsz (by omega)
        obtain ⟨u, p1, p2⟩ := run_part_of (w := w) e1 hx
        obtain ⟨v, p3, p4⟩ := run_part_of (w := w) e3 hy
        have hq := IH f.type lf h1 X A ι w D vx vy _ _ c1 u v e2 e4 k1 (rv_part p2) (rv_part p4)
        have hr := eq_fields (D := D) IH hx hy fs _ r c2 h4 (by simpa [List.drop_drop] using k2)
        rw [← hoff] at p1 p3
        simp only [Op.eqFields, hnm, ne_eq, not_false_eq_true, if_true, Sem.run_bind, p1, p3, hq, Result.andThen_ok]
        cases c1
        · simp
        · simpa using hr
    · cases h2

theorem eq_items {d D : Nat} {e : TypeId} {k : CK} {i : TypeInfo} (IH : EqL P d e [(1, k)]) (he : flat P d e = some [(1, k)]) (hi : P.info? e = some i) (hsz : i.size = 1) {X : Nat → Prop} {x y : List AV} {xs ys : Array Value}
    (hx : RL (RC X A ι w) x xs.toList) (hy : RL (RC X A ι w) y ys.toList) : ∀ (m n : Nat) (c : Bool), n + m = x.length → aeqK k (x.drop n) (y.drop n) = some c → (Op.eqItems (D + d) e 1 xs ys (List.range' n m)).run P w = .ok c w
  | 0, n, c, hn, hc => by
    have h1 : x.drop n = [] := List.drop_eq_nil_of_le (by omega)
    have h2 : y.drop n = [] := by have := aeqK_len hc; rw [h1] at this; exact List.length_eq_zero_iff.1 this.symm
    rw [h1, h2] at hc
    simp only [aeqK, Option.some.injEq] at hc
    subst hc
    simp [Op.eqItems]
  | m + 1, n, c, hn, hc => by
    have hl := aeqK_len hc
    simp only [List.length_drop] at hl
    have hn1 : n < x.length := by omega
    have hn2 : n < y.length := by omega
    rw [List.drop_eq_getElem_cons hn1, List.drop_eq_getElem_cons hn2] at hc
    obtain ⟨c1, c2, k1, k2, rfl⟩ := aeqK_cons hc
    have hs1 : (P.info? e).any (·.size == (([(1, k)] : List (Nat × CK)).map (·.1)).sum) = true := by simp [hi, hsz]
    obtain ⟨vx, e1, e2⟩ := flat_whole (c := x) (o := n) he hs1 (by simp; omega)
    obtain ⟨vy, e3, e4⟩ := flat_whole (c := y) (o := n) he hs1 (by simp; omega)
    obtain ⟨u, p1, p2⟩ := run_part_of (w := w) e1 hx
    obtain ⟨v, p3, p4⟩ := run_part_of (w := w) e3 hy
    have t1 : (x.drop n).take (([(1, k)] : List (Nat × CK)).map (·.1)).sum = [x[n]] := by rw [List.drop_eq_getElem_cons hn1]; rfl
    have t2 : (y.drop n).take (([(1, k)] : List (Nat × CK)).map (·.1)).sum = [y[n]] := by rw [List.drop_eq_getElem_cons hn2]; rfl
    rw [t1] at e2
    rw [t2] at e4
    have hq := IH X A ι w D vx vy _ _ c1 u v e2 e4 (by simp [aeqs, k1, bnd_eq, mpd_eq]) (rv_part p2) (rv_part p4)
    have hr := eq_items (D := D) IH he hi hsz hx hy m (n + 1) c2 (by omega) k2
    rw [List.range'_succ]
    simp only [Op.eqItems, Nat.mul_one, Sem.run_bind, p1, p3, hq, Result.andThen_ok]
    cases c1
    · simp
    · simpa using hr

theorem run_equal_flat : ∀ (d : Nat) (T : TypeId) (l : List (Nat × CK)), flat P d T = some l → EqL P d T l := by
  intro d
  induction d with
  | zero => intro T l h; simp [flat] at h
  | succ d ih =>
    intro T l h X A ι w D vx vy x y c u v hx hy hc hu hv
    rcases flat_kind h with ⟨k, hun, rfl⟩ | ⟨hun, rfl⟩ | ⟨hun, rfl⟩ | ⟨fs, d', hd, hun, hst, hfs⟩ | ⟨n, e, d', k, hd, hun, he, hi, rfl⟩
    case inr.inr.inr.inl =>
      have hd' : d' = d := by omega
      subst hd'
      have hk : (lay P T).kind = .struct := by
        unfold lay; simp only [hun]
        rw [List.all_eq_true.2 (fun f hf => flat_info _ _ _ hfs f hf)]
      simp only [Whole, hk] at hx hy
      subst hx; subst hy
      obtain ⟨us, rfl, h1⟩ := rv_agg hu
      obtain ⟨vs, rfl, h2⟩ := rv_agg hv
      have hf : P.fieldsOf T = fs := by simp [Program.fieldsOf, hun]
      rw [← Nat.add_assoc, run_equalIn_struct w (D + d') T us vs (by rw [hf]; exact hun) hst, hf]
      exact eq_fields ih h1 h2 fs.toList 0 l c hfs (by simpa using hc)
    case inr.inr.inr.inr =>
      have hd' : d' = d := by omega
      subst hd'
      have hk : (lay P T).kind = .array := by
        unfold lay; simp only [hun]
        cases hie : P.info? e with
        | none => simp [hie] at hi
        | some i => rfl
      simp only [Whole, hk] at hx hy
      subst hx; subst hy
      obtain ⟨us, rfl, h1⟩ := rv_agg hu
      obtain ⟨vs, rfl, h2⟩ := rv_agg hv
      cases hie : P.info? e with
      | none => simp [hie] at hi
      | some i =>
        have hsz : i.size = 1 := by simpa [hie] using hi
        have hce : P.cellsOf e = 1 := by simp [Program.cellsOf, hie, hsz]
        have hlen := aeqs_len hc
        simp only [List.map_cons, List.map_nil, List.sum_cons, List.sum_nil] at hlen
        have hq : aeqK k x y = some c := by
          unfold aeqs at hc
          rw [if_pos (by omega)] at hc
          obtain ⟨c1, k1, k2⟩ := bnd_some hc
          obtain ⟨c2, k3, rfl⟩ := mpd_some k2
          rw [List.take_of_length_le (by omega), List.take_of_length_le (by omega)] at k1
          rw [List.drop_of_length_le (by omega), List.drop_of_length_le (by omega)] at k3
          simp only [aeqs, Option.some.injEq] at k3
          rw [k1, ← k3, Bool.and_true]
        rw [← Nat.add_assoc, run_equalIn_array w (D + d') us vs hun hie, hce, List.range_eq_range']
        exact eq_items (ih e _ he) he hie hsz h1 h2 n 0 c (by omega) (by simpa using hq)
    all_goals
      have hk : (lay P T).kind = .other ∨ (lay P T).kind = .bool ∨ (lay P T).kind = .string := by unfold lay; simp only [hun]; simp
      have hx' : x = [vx] := by rcases hk with hk | hk | hk <;> simpa [Whole, hk] using hx
      have hy' : y = [vy] := by rcases hk with hk | hk | hk <;> simpa [Whole, hk] using hy
      subst hx'; subst hy'
      replace hc := aeqs_one hc
      cases vx <;> cases vy <;> simp only [aeqK, reduceCtorEq] at hc
      all_goals split at hc
      all_goals try (cases hc; done)
      all_goals (rename_i hkk; try simp at hkk)
      all_goals simp only [mpd_eq, Bool.and_true, Option.some.injEq] at hc
    · have e1 := rv_int hu; have e2 := rv_int hv; subst e1; subst e2
      subst hkk
      rw [← hc, ← Nat.add_assoc]
      exact run_equalIn_int w _ _ _ _ _ _ hun
    · have e1 := rv_bool hu; have e2 := rv_bool hv; subst e1; subst e2
      rw [← hc, ← Nat.add_assoc]
      exact run_equalIn_bool' w _ _ _ _ hun
    · have e1 := rv_str hu; have e2 := rv_str hv; subst e1; subst e2
      rw [← hc, ← Nat.add_assoc]
      rw [run_equalIn_string w _ _ _ _ hun, toList_mk, toList_mk]

/-! ### operators -/
theorem run_agg_eq {op : BinOp} {T : TypeId} {l : List (Nat × CK)} {X : Nat → Prop} {x y : List AV} {c : Bool} {v : AV} {us vs : Array Value} (hl : flatEq P T = some l) (hq : aeqs l x y = some c) (hop : eqNe op c = some v)
    (hk : (lay P T).kind = .struct ∨ (lay P T).kind = .array) (hx : RL (RC X A ι w) x us.toList) (hy : RL (RC X A ι w) y vs.toList) :
    (∀ px py, (eqGuard op T px py (.agg us) (.agg vs)).run P w = .ok () w) ∧ ∃ u, (binOp op T (.agg us) (.agg vs)).run P w = .ok u w ∧ RD (fun _ => True) w v u := by
  unfold flatEq at hl
  cases hg : P.eqGuardType P.depth T <;> rw [hg] at hl
  · have he := run_equal_flat 8 T l hl X A ι w 9992 (.agg x) (.agg y) x y c (.agg us) (.agg vs) (by unfold Whole; rcases hk with hk | hk <;> rw [hk]) (by unfold Whole; rcases hk with hk | hk <;> rw [hk]) hq ⟨us, rfl, hx⟩ ⟨vs, rfl, hy⟩
    refine ⟨fun px py => run_eqGuard_agg w op T px py us vs hg, ?_⟩
    rcases eqNe_some hop with ⟨rfl, rfl⟩ | ⟨rfl, rfl⟩
    · exact ⟨_, by rw [run_eql_struct, he]; rfl, .bool _⟩
    · exact ⟨_, by rw [run_neq_struct, he]; rfl, .bool _⟩
  · cases hl

theorem kind_of_flat {T : TypeId} {l : List (Nat × CK)} {d : Nat} (h : flat P d T = some l) (hr : (lay P T).kind = .other ∨ (lay P T).kind = .bool ∨ (lay P T).kind = .string → False) : (lay P T).kind = .struct ∨ (lay P T).kind = .array := by
  rcases flat_kind h with ⟨k, hun, rfl⟩ | ⟨hun, rfl⟩ | ⟨hun, rfl⟩ | ⟨fs, d', hd, hun, hst, hfs⟩ | ⟨n, e, d', k, hd, hun, he, hi, rfl⟩
  case inr.inr.inr.inl =>
    left
    unfold lay; simp only [hun]
    rw [List.all_eq_true.2 (fun f hf => flat_info _ _ _ hfs f hf)]
  case inr.inr.inr.inr =>
    right
    unfold lay; simp only [hun]
    cases hie : P.info? e with
    | none => simp [hie] at hi
    | some i => rfl
  all_goals exact (hr (by unfold lay; simp only [hun]; simp)).elim

end
end Sh
