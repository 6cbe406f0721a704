/-
Tools for evaluating the interpreter: loops on settled states, elements of lists, whole numbers that do not wrap.
-/
import Derived.Test.YtkccojijhaajmaaGreatDoorShClosed
import Derived.Test.YtkccojijhaajmaaGreatDoorShEv
set_option linter.unusedSimpArgs false
set_option linter.unusedVariables false
set_option linter.unusedSectionVars false
set_option linter.unusedSimpArgs false
namespace Sh
open Go


theorem acall_of {cx : Ctx} {f : FuncId} {fn : Func} {c : Code} (hp : cx.prim f = none) (hf : cx.P.funcs[f]? = some fn) (hb : fn.body = some c) (args : List AV) (h : Heap) :
    acall cx f args h = code cx f (acall cx) aloop h.length 0 c (frame0 args) h (fin cx f h.length fn.results.toList) := by
  rw [acall_eq, body_of cx f (acall cx) aloop hp hf hb]

/-- a loop's rounds from a settled state on -/
noncomputable def lpc (cx : Ctx) (f : FuncId) (b n0 : Nat) (c : Code) (s : Fr × Heap) (K : Kont) (_ : Tg c := {}) (_ : Tg K := {}) : Option (AV × Heap) :=
  code cx f (acall cx) aloop n0 b c s.1 s.2 (K.seq fun t h => aloop (fun t h K => code cx f (acall cx) aloop n0 b c t h K) n0 (cx.keep f b) t h K)

@[go_sem] theorem code_lpc (cx : Ctx) (f : FuncId) (b n0 : Nat) (c : Code) (t h K u v) :
    code cx f (acall cx) aloop n0 b (.loop c) t h K u v = lpc cx f b n0 c (canon n0 (cx.keep f b) t h) K := by
  show aloop _ _ _ _ _ _ = _
  rw [aloop_eq]; rfl

theorem lpc_eq (cx : Ctx) (f : FuncId) (b n0 : Nat) (c : Code) (s : Fr × Heap) (K : Kont) (u v) :
    lpc cx f b n0 c s K u v = code cx f (acall cx) aloop n0 b c s.1 s.2 (K.seq fun t h => lpc cx f b n0 c (canon n0 (cx.keep f b) t h) K) := by
  have e : (fun t h => aloop (fun t h K => code cx f (acall cx) aloop n0 b c t h K) n0 (cx.keep f b) t h K) = fun t h => lpc cx f b n0 c (canon n0 (cx.keep f b) t h) K := by
    funext t h
    rw [aloop_eq]; rfl
  show code cx f (acall cx) aloop n0 b c s.1 s.2 (K.seq fun t h => aloop (fun t h K => code cx f (acall cx) aloop n0 b c t h K) n0 (cx.keep f b) t h K) = _
  rw [e]

/-- what stands from a place on -/
theorem drop_cons {α : Type} {xs r : List α} {i : Nat} {x : α} (h : xs.drop i = x :: r) : xs[i]? = some x ∧ i < xs.length ∧ xs.drop (i + 1) = r := by
  have h1 : i < xs.length := by
    rcases Nat.lt_or_ge i xs.length with h' | h'
    · exact h'
    · rw [List.drop_of_length_le h'] at h; cases h
  rw [List.drop_eq_getElem_cons h1] at h
  cases h
  exact ⟨List.getElem?_eq_getElem h1, h1, rfl⟩
theorem drop_nil {α : Type} {xs : List α} {i : Nat} (h : xs.drop i = []) : xs.length ≤ i := by
  simpa using h

section
variable {cx : Ctx} {f : FuncId} {b n0 : Nat} {c : Code} {K : Kont} {u : Tg c} {v : Tg K}
/-- a loop, by a measure -/
theorem loop_ind {σ : Type} (m : σ → Nat) (S : σ → Fr × Heap) (I : σ → Prop) (R : σ → Option (AV × Heap))
    (step : ∀ s, I s → (∀ s', I s' → m s' < m s → lpc cx f b n0 c (S s') K u v = R s') → lpc cx f b n0 c (S s) K u v = R s) : ∀ s, I s → lpc cx f b n0 c (S s) K u v = R s := by
  have key : ∀ n s, m s < n → I s → lpc cx f b n0 c (S s) K u v = R s := by
    intro n
    induction n with
    | zero => intro s h; omega
    | succ n ih => intro s h hi; exact step s hi fun s' hi' h' => ih s' (by omega) hi'
  exact fun s hi => key (m s + 1) s (by omega) hi

/-- a loop over a list -/
theorem loop_list {α σ : Type} (xs : List α) (S : Int → σ → Fr × Heap) (I : Nat → σ → Prop) (R : List α → σ → Option (AV × Heap))
    (hend : ∀ (i : Nat) s, xs.length = i → I i s → lpc cx f b n0 c (S i s) K u v = R [] s)
    (hstep : ∀ (i : Nat) x r s, xs.drop i = x :: r → xs[i]? = some x → i < xs.length → x ∈ xs → I i s → (∀ s', I (i + 1) s' → lpc cx f b n0 c (S ((i : Int) + 1) s') K u v = R r s') → lpc cx f b n0 c (S i s) K u v = R (x :: r) s)
    (s0 : σ) (h0 : I 0 s0) : lpc cx f b n0 c (S 0 s0) K u v = R xs s0 := by
  have key : ∀ (post : List α) (i : Nat) s, i ≤ xs.length → xs.drop i = post → I i s → lpc cx f b n0 c (S i s) K u v = R post s := by
    intro post
    induction post with
    | nil => intro i s hi h hI; exact hend i s (by have := drop_nil h; omega) hI
    | cons x r ih =>
      intro i s _ h hI
      obtain ⟨h1, h2, h3⟩ := drop_cons h
      exact hstep i x r s h h1 h2 (List.mem_of_getElem? h1) hI fun s' hI' => ih (i + 1) s' (by omega) h3 hI'
  exact key xs 0 s0 (by omega) rfl h0
end

theorem wrap_i64 {n : Int} (h : -9223372036854775808 ≤ n ∧ n ≤ 9223372036854775807) : IntKind.i64.wrap n = n := by
  obtain ⟨h1, h2⟩ := h
  simp [IntKind.wrap, IntKind.signed, IntKind.bits]; omega
theorem lt_t {a b : Int} (h : a < b) : decide (a < b) = true := by simpa using h
theorem lt_f {a b : Int} (h : b ≤ a) : decide (a < b) = false := by simpa using h
theorem le_t {a b : Int} (h : a ≤ b) : decide (a ≤ b) = true := by simpa using h
theorem le_f {a b : Int} (h : b < a) : decide (a ≤ b) = false := by simpa using h
/-- a slice that is made by appending: nil as long as nothing is in it -/
def accV (id es : Nat) : Nat → AV
  | 0 => .nils
  | n + 1 => .lsl id 0 (n + 1) none es
def accB : Nat → List AV → List (Option Blk)
  | 0, _ => []
  | _ + 1, c => [some ⟨c, true, true, none⟩]
def LenIs (c : List AV) (n : Nat) : Prop := c.length = n
theorem lenIs_mk {c : List AV} {n : Nat} (h : c.length = n) : LenIs c n := h
theorem putr_all {c v : List AV} (h : c.length = v.length) : putr c 0 v = some v := by
  unfold putr
  rw [if_pos (by omega)]
  simp [h]
theorem u8_fold {n : Int} (h : 0 ≤ n ∧ n < 256) : AV.int .u8 n = u8 (UInt8.ofNat n.toNat) := by
  have : ((UInt8.ofNat n.toNat).toNat : Int) = n := by simp; omega
  unfold u8; rw [this]
@[go_sem] theorem bytesOf_map : ∀ (l : List UInt8), bytesOf (l.map u8) = some l
  | [] => rfl
  | c :: l => by
    rw [List.map_cons]
    show ((bytesOf (l.map u8)).mpd fun l => UInt8.ofNat ((c.toNat : Int)).toNat :: l) = _
    rw [bytesOf_map l]
    simp [Option.mpd, bindR]
@[go_sem] theorem bytesOf_nil : bytesOf [] = some [] := rfl
@[go_sem] theorem bytesOf_ucons (c : UInt8) (l : List AV) : bytesOf (u8 c :: l) = (bytesOf l).mpd fun l => c :: l := by
  show ((bytesOf l).mpd fun l => UInt8.ofNat ((c.toNat : Int)).toNat :: l) = _
  simp
@[go_sem] theorem bytesOf_cons1 (n : Int) (l : List AV) : bytesOf (.int .u8 n :: l) = (bytesOf l).mpd fun l => UInt8.ofNat n.toNat :: l := rfl
attribute [go_sem] refs_u8
@[go_sem] theorem deepA_u8 (h n) : ∀ (l : List UInt8), deepA (deep1 h n) (l.map u8) = some (l.map u8, [])
  | [] => rfl
  | c :: l => by
    rw [List.map_cons, deepA, deepA_u8 h n l]
    show ((deep1 h n (.int .u8 c.toNat)).bnd fun x => _) = _
    have : deep1 h n (.int .u8 c.toNat) = some (.int .u8 c.toNat, []) := by cases n <;> rfl
    rw [this]; rfl
theorem wrap_u8 {n : Int} (h : 0 ≤ n ∧ n ≤ 255) : IntKind.u8.wrap n = n := by
  obtain ⟨h1, h2⟩ := h
  simp [IntKind.wrap, IntKind.signed, IntKind.bits]; omega
theorem wrap_u64 {n : Int} (h : 0 ≤ n ∧ n ≤ 18446744073709551615) : IntKind.u64.wrap n = n := by
  obtain ⟨h1, h2⟩ := h
  simp [IntKind.wrap, IntKind.signed, IntKind.bits]; omega
theorem wrap_u32 {n : Int} (h : 0 ≤ n ∧ n ≤ 4294967295) : IntKind.u32.wrap n = n := by
  obtain ⟨h1, h2⟩ := h
  simp [IntKind.wrap, IntKind.signed, IntKind.bits]; omega
theorem ifN_le {α : Type} {a b : Nat} {x y : α} (h : a ≤ b) : (if a ≤ b then x else y) = x := if_pos h
theorem ifN_lt {α : Type} {a b : Nat} {x y : α} (h : a < b) : (if a < b then x else y) = x := if_pos h
theorem ifI_le {α : Type} {a b : Int} {x y : α} (h : a ≤ b) : (if a ≤ b then x else y) = x := if_pos h
theorem ifI_lt {α : Type} {a b : Int} {x y : α} (h : a < b) : (if a < b then x else y) = x := if_pos h
theorem if_and_split {α : Type} {p q : Prop} [Decidable p] [Decidable q] {x y : α} : (if p ∧ q then x else y) = if p then (if q then x else y) else y := by
  by_cases hp : p <;> by_cases hq : q <;> simp [hp, hq]
theorem ltN_t {a b : Nat} (h : a < b) : decide (a < b) = true := by simpa using h
theorem ltN_f {a b : Nat} (h : b ≤ a) : decide (a < b) = false := by simpa using h
theorem leN_t {a b : Nat} (h : a ≤ b) : decide (a ≤ b) = true := by simpa using h
theorem leN_f {a b : Nat} (h : b < a) : decide (a ≤ b) = false := by simpa using h
@[go_sem] theorem beqI_dec (a b : Int) : (a == b) = decide (a = b) := by rw [Bool.eq_iff_iff]; simp
@[go_sem] theorem bneI_dec (a b : Int) : (a != b) = !decide (a = b) := by rw [Bool.eq_iff_iff]; simp
@[go_sem] theorem beqN_dec (a b : Nat) : (a == b) = decide (a = b) := by rw [Bool.eq_iff_iff]; simp
@[go_sem] theorem bneN_dec (a b : Nat) : (a != b) = !decide (a = b) := by rw [Bool.eq_iff_iff]; simp
@[go_sem] theorem beqS_dec (a b : List UInt8) : (a == b) = decide (a = b) := by rw [Bool.eq_iff_iff]; simp
@[go_sem] theorem bneS_dec (a b : List UInt8) : (a != b) = !decide (a = b) := by rw [Bool.eq_iff_iff]; simp
theorem eqN_t {a b : Nat} (h : a = b) : decide (a = b) = true := by simpa using h
theorem eqN_f {a b : Nat} (h : ¬ a = b) : decide (a = b) = false := by simpa using h
theorem eqI_t {a b : Int} (h : a = b) : decide (a = b) = true := by simpa using h
theorem eqI_f {a b : Int} (h : ¬ a = b) : decide (a = b) = false := by simpa using h
theorem aidx_ok {n : Nat} {i : Int} (h : 0 ≤ i ∧ i < n) : aidx i n = some i.toNat := by unfold aidx; rw [if_pos h]
theorem abnd_ok {n : Nat} {i : Int} (h : 0 ≤ i ∧ i ≤ n) : abnd i n = some i.toNat := by unfold abnd; rw [if_pos h]
theorem tdiv_nn {a b : Int} (h : 0 ≤ a) : a.tdiv b = a / b := Int.tdiv_eq_ediv_of_nonneg h
theorem tmod_nn {a b : Int} (h : 0 ≤ a) : a.tmod b = a % b := Int.tmod_eq_emod_of_nonneg h
theorem getr_full {c : List AV} {n : Nat} (h : c.length = n) : getr c 0 n = some c := by
  unfold getr; rw [if_pos (by omega)]; rw [List.drop_zero, ← h, List.take_length]
theorem esOK_of {α : Type} {f : α → AV} {n : Nat} (h : ∀ x, elOK n (f x) = true) {l : List α} : esOK n (l.map f) = true := by
  unfold esOK; rw [List.all_map]; exact List.all_eq_true.2 fun x _ => h x
theorem cellsOf_of {α : Type} {f : α → AV} {g : α → List AV} {n : Nat} (hn : n ≠ 1) (h : ∀ x, f x = .agg (g x)) {l : List α} : cellsOf n (l.map f) = l.flatMap g := by
  have : cellsOf n (l.map f) = (l.map f).flatMap fun v => v.cells.getD [] := by
    unfold cellsOf; split
    · exact absurd rfl hn
    · rfl
  rw [this, List.flatMap_map]
  congr 1; funext x; simp [h, AV.cells]
theorem chunks_of {α : Type} {f : α → AV} {g : α → List AV} {n : Nat} (hg : ∀ x, (g x).length = n) (h : ∀ x, f x = .agg (g x)) : ∀ (l : List α), chunks n l.length (l.flatMap g) = l.map f
  | [] => rfl
  | x :: l => by
    rw [List.length_cons, chunks, List.flatMap_cons, List.take_append_of_le_length (by rw [hg]; omega), List.take_of_length_le (by rw [hg]; omega), List.drop_append_of_le_length (by rw [hg]; omega), List.drop_of_length_le (by rw [hg]; omega), List.nil_append, chunks_of hg h l, List.map_cons, h]
theorem chunk_of {α : Type} {f : α → AV} {g : α → List AV} {n m : Nat} (hn : n ≠ 1) {l : List α} (hm : m = l.length) (hg : ∀ x, (g x).length = n) (h : ∀ x, f x = .agg (g x)) : chunk n m (l.flatMap g) = l.map f := by
  unfold chunk; split
  · exact absurd rfl hn
  · rw [hm]; exact chunks_of hg h l
theorem refs_flat_of {α : Type} {g : α → List AV} (h : ∀ x, refs (g x) = []) : ∀ (l : List α), refs (l.flatMap g) = []
  | [] => rfl
  | x :: l => by rw [List.flatMap_cons, refs_append, h, refs_flat_of h l]; rfl
theorem len_flat_of {α : Type} {g : α → List AV} {n : Nat} (h : ∀ x, (g x).length = n) : ∀ (l : List α), (l.flatMap g).length = l.length * n
  | [] => by simp
  | x :: l => by rw [List.flatMap_cons, List.length_append, h, len_flat_of h l, List.length_cons, Nat.succ_mul]; omega
attribute [go_sem] refs_append
@[go_sem] theorem deep1_int (h n k i) : deep1 h n (.int k i) = some (.int k i, []) := by cases n <;> rfl
@[go_sem] theorem deep1_bool (h n b) : deep1 h n (.bool b) = some (.bool b, []) := by cases n <;> rfl
@[go_sem] theorem deep1_str (h n s) : deep1 h n (.str s) = some (.str s, []) := by cases n <;> rfl
@[go_sem] theorem deep1_dsl (h n x) : deep1 h n (.dsl x) = some (.dsl x, []) := by cases n <;> rfl
@[go_sem] theorem deep1_addr (h n c o) : deep1 h n (.addr c o) = some (.addr c o, []) := by cases n <;> rfl
@[go_sem] theorem deep1_nilp (h n) : deep1 h n .nilp = some (.nilp, []) := by cases n <;> rfl
@[go_sem] theorem deep1_nils (h n) : deep1 h n .nils = some (.dsl [], []) := by cases n <;> rfl
@[go_sem] theorem deep1_lsl (h n i o len cap es) : deep1 h (n + 1) (.lsl i o len cap es) = (hget h i).bnd fun b => (getr b.c o (len * es)).bnd fun c =>
      match es with
      | 0 => none
      | es + 1 => match b.leaf with
        | true => match ckOK (es + 1) c with
          | true => some (.dsl (chunk (es + 1) len c), [i])
          | false => none
        | false => (deepA (deep1 h n) c).bnd fun r => match ckOK (es + 1) r.1 with
          | true => some (.dsl (chunk (es + 1) len r.1), i :: r.2)
          | false => none := rfl
attribute [go_sem] strMax ifN_le ifN_lt ifI_le ifI_lt if_and_split tdiv_nn tmod_nn wrap_u8 wrap_u64 wrap_u32 ltN_t ltN_f leN_t leN_f eqN_t eqN_f  wrap_i64 lt_t lt_f le_t le_f eqI_t eqI_f  aidx_ok abnd_ok
end Sh
