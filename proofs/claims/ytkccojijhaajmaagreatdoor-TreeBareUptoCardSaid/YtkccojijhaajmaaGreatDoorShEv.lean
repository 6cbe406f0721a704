/- A part of the proof. -/
import Derived.Test.YtkccojijhaajmaaGreatDoorShAbs
import Derived.Attr
set_option linter.unusedSimpArgs false
set_option linter.unusedVariables false
set_option linter.unusedSectionVars false
set_option linter.unusedVariables false
namespace Sh
open Go
section
variable {α β : Type} (cx : Ctx) (f : FuncId) (call : FuncId → List AV → Heap → Res) (loop : (Fr → Heap → Kont → Option (AV × Heap)) → Nat → List Nat → Fr → Heap → Kont → Option (AV × Heap)) (n0 : Nat)
def opvs (t : Fr) (l : List (Nat × Operand)) : List (Nat × AV) := l.map fun p => (p.1, opv t p.2)
@[go_sem] theorem opvs_nil (t : Fr) : opvs t [] = [] := rfl
@[go_sem] theorem opvs_cons (t : Fr) (i : Nat) (o : Operand) (l) : opvs t ((i, o) :: l) = (i, opv t o) :: opvs t l := rfl
def placeS (l : List (Nat × Nat × Nat)) (i : Nat) : Option (Nat × Nat) := (l[i]?).map fun d => (d.1, d.2.1)
@[go_sem] theorem placeS_zero (a : Nat × Nat × Nat) (l) : placeS (a :: l) 0 = some (a.1, a.2.1) := rfl
@[go_sem] theorem placeS_succ (a : Nat × Nat × Nat) (l) (i : Nat) : placeS (a :: l) (i + 1) = placeS l i := rfl
def placeA (es i : Nat) : Option (Nat × Nat) := some (i * es, es)
@[go_sem] theorem placeA_eq (es i : Nat) : placeA es i = some (i * es, es) := rfl
def settle (h : Heap) (m : Nat → Option Nat) (l : List Nat) : Heap := l.map fun i => (hget h i).map (Blk.ren m)
@[go_sem] theorem settle_nil (h m) : settle h m [] = [] := rfl
@[go_sem] theorem settle_cons (h m i l) : settle h m (i :: l) = (hget h i).map (Blk.ren m) :: settle h m l := rfl
def renH (m : Nat → Option Nat) (h : Heap) : Heap := h.map fun b => b.map (Blk.ren m)
@[go_sem] theorem renH_nil (m) : renH m [] = [] := rfl
@[go_sem] theorem renH_cons (m b h) : renH m (b :: h) = b.map (Blk.ren m) :: renH m h := rfl
def gone (l : List Nat) : List (Nat × Option Blk) := l.map fun i => (i, none)
@[go_sem] theorem gone_nil : gone [] = [] := rfl
@[go_sem] theorem gone_cons (i l) : gone (i :: l) = (i, none) :: gone l := rfl
def anyD (h : Heap) : Bool := h.any fun b => b.any fun b => b.c.any AV.isD
@[go_sem] theorem anyD_nil : anyD [] = false := rfl
@[go_sem] theorem anyD_some (b h) : anyD (some b :: h) = (b.c.any AV.isD || anyD h) := rfl
@[go_sem] theorem anyD_none (h) : anyD (none :: h) = anyD h := rfl
def bref : Option Blk → List Nat
  | some b => b.refs
  | none => []
@[go_sem] theorem bref_some (b) : bref (some b) = b.refs := rfl
@[go_sem] theorem bref_none : bref none = [] := rfl
theorem firstRefs_bref (h n) : firstRefs h n = (List.range n).flatMap fun i => bref (hget h i) := by
  unfold firstRefs; congr 1
@[go_sem] theorem firstRefs_0 (h) : firstRefs h 0 = [] := by rw [firstRefs_bref]; simp [List.range_succ]
@[go_sem] theorem firstRefs_1 (h) : firstRefs h 1 = bref (hget h 0) := by rw [firstRefs_bref]; simp [List.range_succ]
@[go_sem] theorem firstRefs_2 (h) : firstRefs h 2 = bref (hget h 0) ++ (bref (hget h 1)) := by rw [firstRefs_bref]; simp [List.range_succ]
@[go_sem] theorem firstRefs_3 (h) : firstRefs h 3 = bref (hget h 0) ++ (bref (hget h 1) ++ (bref (hget h 2))) := by rw [firstRefs_bref]; simp [List.range_succ]
@[go_sem] theorem firstRefs_4 (h) : firstRefs h 4 = bref (hget h 0) ++ (bref (hget h 1) ++ (bref (hget h 2) ++ (bref (hget h 3)))) := by rw [firstRefs_bref]; simp [List.range_succ]
@[go_sem] theorem firstRefs_5 (h) : firstRefs h 5 = bref (hget h 0) ++ (bref (hget h 1) ++ (bref (hget h 2) ++ (bref (hget h 3) ++ (bref (hget h 4))))) := by rw [firstRefs_bref]; simp [List.range_succ]
@[go_sem] theorem firstRefs_6 (h) : firstRefs h 6 = bref (hget h 0) ++ (bref (hget h 1) ++ (bref (hget h 2) ++ (bref (hget h 3) ++ (bref (hget h 4) ++ (bref (hget h 5)))))) := by rw [firstRefs_bref]; simp [List.range_succ]
def canon2 (keep : List Nat) (vs : List AV) (h : Heap) (ids : List Nat) : Fr × Heap := (keep.zip (vs.map (AV.ren (idx ids))), settle h (idx ids) ids)
def canon1 (n : Nat) (keep : List Nat) (h : Heap) (vs : List AV) : Fr × Heap := canon2 keep vs h (reach h (fuelR h) (firstRefs h n ++ vs.flatMap AV.refs) (List.range n))
@[go_sem] theorem canon2_eq (keep vs h ids) : canon2 keep vs h ids = (keep.zip (vs.map (AV.ren (idx ids))), settle h (idx ids) ids) := rfl
@[go_sem] theorem canon1_eq (n keep h vs) : canon1 n keep h vs = canon2 keep vs h (reach h (fuelR h) (firstRefs h n ++ vs.flatMap AV.refs) (List.range n)) := rfl
@[go_sem] theorem canon_eq (n keep t h) : canon n keep t h = canon1 n keep h (keep.map t.get) := rfl
def prep1 (h : Heap) (a : List AV × List Nat) (ids : List Nat) : Option Prep :=
  match a.2.any ids.contains with
    | true => none
    | false => some { args := a.1.map (AV.ren (idx ids)), heap := settle h (idx ids) ids, ids := ids, lent := a.2 }
@[go_sem] theorem prep1_eq (h a b ids) : prep1 h (a, b) ids = match b.any ids.contains with
    | true => none
    | false => some { args := a.map (AV.ren (idx ids)), heap := settle h (idx ids) ids, ids := ids, lent := b } := rfl
@[go_sem] theorem prep_eq (m args h) : prep m args h = (lend h m.live args).bnd fun a => prep1 h a (reach h (fuelR h) (a.1.flatMap AV.refs) []) := rfl
@[go_sem] theorem back_eq (p base v hp) : back p base (v, hp) = match decide (p.ids.length ≤ hp.length) with
  | false => none
  | true => some { v := v.ren (backId p.ids base), rd := p.ids ++ p.lent, wr := zipWr p.ids (renH (backId p.ids base) hp) ++ (match p.lent with
      | [] => []
      | l => match v.hasD || anyD hp with
        | true => gone l
        | false => []), new := (renH (backId p.ids base) hp).drop p.ids.length } := rfl
def finish1 (v : AV) (h : Heap) (ids : List Nat) : Res := some (v.ren (idx ids), settle h (idx ids) ids)
@[go_sem] theorem finish1_eq (v h ids) : finish1 v h ids = some (v.ren (idx ids), settle h (idx ids) ids) := rfl
@[go_sem] theorem finish_eq (n rs t h) : finish cx f n rs t h =
  (mapO (results1 cx t h) rs).bnd fun vs =>
    (match (cx.mode f).res with
      | true => some (oneOf vs, h)
      | false => (deep h (oneOf vs)).bnd fun d => some (d.1, killAll h d.2)).bnd fun r =>
    finish1 r.1 r.2 (reach r.2 (fuelR r.2) (firstRefs r.2 n ++ r.1.refs) (List.range n)) := rfl
@[go_sem] theorem br_true (x y : Option α) (u v) : br true x y u v = x := rfl
@[go_sem] theorem br_false (x y : Option α) (u v) : br false x y u v = y := rfl
theorem ckR_ok {b : Bool} (x : Option α) (u) (h : b = true) : ckR b x u = x := by rw [h]; rfl
@[go_sem] theorem ckR_true (x : Option α) (u) : ckR true x u = x := rfl
def RegOK (ops : List Oper) (lg : List (Eff × Nat)) : Prop := regOK ops lg = true
theorem regOK_mk {ops : List Oper} {lg : List (Eff × Nat)} (h : regOK ops lg = true) : RegOK ops lg := h
@[go_sem] theorem ckR_reg {ops : List Oper} {lg : List (Eff × Nat)} (x : Option α) (u) (h : RegOK ops lg) : ckR (regOK ops lg) x u = x := ckR_ok x u h
@[go_sem] theorem bindR_some (v : β) (k : β → Option α) (u) : bindR (some v) k u = k v := rfl
@[go_sem] theorem bindR_none (k : β → Option α) (u) : bindR none k u = none := rfl
@[go_sem] theorem runOps_nil (n ds) (t : Fr) (h lg) (K : Fr → Heap → List (Eff × Nat) → Option α) (u v) : runOps cx call n ds [] t h lg K u v = K t h lg := by rw [runOps]
@[go_sem] theorem runOps_cons (n ds d op ty pos af os) (t : Fr) (h lg) (K : Fr → Heap → List (Eff × Nat) → Option α) (u v) :
    runOps cx call n ds (⟨d, op, ty, pos, af, none⟩ :: os) t h lg K u v =
      bindR (exec cx call ⟨d, op, ty, pos, af, none⟩ t h h.length) fun r => runOps cx call (n + 1) (sets ds n d) os (sett t d r.v) (puth h r.wr ++ r.new) ((r, h.length) :: lg) K := by rw [runOps]
@[go_sem] theorem runOps_guard (n ds d op ty pos af j want os) (t : Fr) (h lg) (K : Fr → Heap → List (Eff × Nat) → Option α) (u v) :
    runOps cx call n ds (⟨d, op, ty, pos, af, some (j, want)⟩ :: os) t h lg K u v =
      match lookT ds j with
      | some g => match t.get g with
        | .bool b => br (b == want)
            (bindR (exec cx call ⟨d, op, ty, pos, af, some (j, want)⟩ ((g, .bool want) :: t) h h.length) fun r => runOps cx call (n + 1) (sets ds n d) os (sett ((g, .bool want) :: t) d r.v) (puth h r.wr ++ r.new) ((r, h.length) :: lg) K)
            (runOps cx call (n + 1) (sets ds n d) os (sett ((g, .bool (!want)) :: t) d (.tup [])) h (({ v := .tup [] }, h.length) :: lg) K)
        | .tup [] => runOps cx call (n + 1) (sets ds n d) os (sett ((g, .tup []) :: t) d (.tup [])) h (({ v := .tup [] }, h.length) :: lg) K
        | _ => none
      | none => none := by rw [runOps]; rfl
@[go_sem] theorem code_skip (b t h K u v) : code cx f call loop n0 b .skip t h K u v = K .normal t h := rfl
@[go_sem] theorem code_seq (n a b t h K u v) : code cx f call loop n0 n (.seq a b) t h K u v = code cx f call loop n0 n a t h (K.seq fun t h => code cx f call loop n0 n b t h K) := rfl
@[go_sem] theorem code_region (b i) (ops : List Oper) (t h K u v) : code cx f call loop n0 b (.region i ops.toArray false) t h K u v = runOps cx call 0 [] ops t h [] fun t h _ => K .normal t h := rfl
@[go_sem] theorem code_draws (b i) (ops : List Oper) (t h K u v) : code cx f call loop n0 b (.region i ops.toArray true) t h K u v = runOps cx call 0 [] ops t h [] fun t h lg => ckR (regOK ops lg) (K .normal t h) := rfl
@[go_sem] theorem code_cond (n c a b t h K u v) : code cx f call loop n0 n (.cond c a b) t h K u v = match opv t c with
    | .bool v => br v (code cx f call loop n0 n a t h K) (code cx f call loop n0 n b t h K)
    | _ => none := rfl
@[go_sem] theorem code_block (n id c t h K u v) : code cx f call loop n0 n (.block id c) t h K u v = code cx f call loop n0 id c t h (K.block id) := rfl
theorem code_loop (n c t h K u v) : code cx f call loop n0 n (.loop c) t h K u v = loop (fun t h K => code cx f call loop n0 n c t h K) n0 (cx.keep f n) t h K := rfl
@[go_sem] theorem code_exit (n id t h K u v) : code cx f call loop n0 n (.exit id) t h K u v = K (.exit id) t h := rfl
@[go_sem] theorem code_ret (n t h K u v) : code cx f call loop n0 n .ret t h K u v = K .ret t h := rfl
@[go_sem] theorem seq_normal (next : Fr → Heap → Option (AV × Heap)) (K : Kont) (t h) : K.seq next .normal t h = next t h := rfl
@[go_sem] theorem seq_ret (next : Fr → Heap → Option (AV × Heap)) (K : Kont) (t h) : K.seq next .ret t h = K .ret t h := rfl
@[go_sem] theorem seq_exit (next : Fr → Heap → Option (AV × Heap)) (K : Kont) (i t h) : K.seq next (.exit i) t h = K (.exit i) t h := rfl
@[go_sem] theorem fin_normal (n rs t h) : fin cx f n rs .normal t h = finish cx f n rs t h := rfl
@[go_sem] theorem fin_ret (n rs t h) : fin cx f n rs .ret t h = finish cx f n rs t h := rfl
@[go_sem] theorem block_normal (i) (K : Kont) (t h) : K.block i .normal t h = K .normal t h := rfl
@[go_sem] theorem block_ret (i) (K : Kont) (t h) : K.block i .ret t h = K .ret t h := rfl
@[go_sem] theorem block_exit (i j) (K : Kont) (t h) : K.block i (.exit j) t h = if j = i then K .normal t h else K (.exit j) t h := rfl
@[go_sem] theorem ex_move (d x ty pos af g) (t : Fr) (h base) : exec cx call ⟨d, .move x, ty, pos, af, g⟩ t h base =
    Eff.of (opv t x) := rfl
@[go_sem] theorem ex_assign (d x ty pos af g) (t : Fr) (h base) : exec cx call ⟨d, .assign x, ty, pos, af, g⟩ t h base =
    Eff.of (opv t x) := rfl
@[go_sem] theorem ex_pick (d c a b ty pos af g) (t : Fr) (h base) : exec cx call ⟨d, .pick c a b, ty, pos, af, g⟩ t h base =
    match opv t c with
    | .bool true => Eff.of (opv t a)
    | .bool false => Eff.of (opv t b)
    | _ => none := rfl
@[go_sem] theorem ex_alloc (d T ty pos af g) (t : Fr) (h base) : exec cx call ⟨d, .alloc T, ty, pos, af, g⟩ t h base =
    (lay cx.P T).zero.bnd fun z => z.cells.bnd fun c => some { v := .ptr base 0, new := [some ⟨c, false, false, tagA (lay cx.P T).zero T⟩] } := rfl
@[go_sem] theorem ex_box (d u1 x ty pos af g) (t : Fr) (h base) : exec cx call ⟨d, .box u1 x, ty, pos, af, g⟩ t h base =
    (opv t x).cells.bnd fun c => some { v := .ptr base 0, new := [some ⟨c, false, false, none⟩] } := rfl
@[go_sem] theorem ex_nilCheck (d x ty pos af g) (t : Fr) (h base) : exec cx call ⟨d, .nilCheck x, ty, pos, af, g⟩ t h base =
    match opv t x with
    | .ptr i o => Eff.of (.ptr i o)
    | .addr c o => Eff.of (.addr c o)
    | _ => none := rfl
@[go_sem] theorem ex_fieldAddr (d S x f ty pos af g) (t : Fr) (h base) : exec cx call ⟨d, .fieldAddr S x f, ty, pos, af, g⟩ t h base =
    ((lay cx.P S).offs[f]?).bnd fun d => match d.2.1 with
    | 0 => none
    | _ + 1 => match opv t x with
      | .ptr i o => Eff.of (.ptr i (o + d.1))
      | .addr c o => Eff.of (.addr c (o + d.1))
      | _ => none := rfl
@[go_sem] theorem ex_load (d T a ty pos af g) (t : Fr) (h base) : exec cx call ⟨d, .load T a, ty, pos, af, g⟩ t h base =
    match opv t a with
    | .ptr i o => (hget h i).bnd fun b => (ldc (lay cx.P T) b.c o).bnd fun v => some { v := v, rd := [i] }
    | .addr c o => (ldc (lay cx.P T) c o).bnd Eff.of
    | _ => none := rfl
@[go_sem] theorem ex_store (d T a x ty pos af g) (t : Fr) (h base) : exec cx call ⟨d, .store T a x, ty, pos, af, g⟩ t h base =
    match opv t a with
    | .ptr i o => (hget h i).bnd fun b => (opv t x).cells.bnd fun vc =>
        match fits b.leaf vc with
        | true => if vc.length = (lay cx.P T).size ∧ vc.length ≠ 0 then (putr b.c o vc).bnd fun c => some { v := .top, rd := [i], wr := [(i, some { b with c := c })] } else none
        | false => none
    | _ => none := rfl
@[go_sem] theorem ex_build (d T ps ty pos af g) (t : Fr) (h base) : exec cx call ⟨d, .build T ps, ty, pos, af, g⟩ t h base =
    (lay cx.P T).zero.bnd fun z => z.cells.bnd fun zc => match (lay cx.P T).kind with
    | .struct => (fillc (placeS (lay cx.P T).offs) zc (opvs t ps.toList)).bnd fun c => Eff.of (.agg c)
    | .array => (fillc (placeA (lay cx.P T).es) zc (opvs t ps.toList)).bnd fun c => Eff.of (.agg c)
    | _ => none := rfl
def frz1 (v : AV) (c : List AV) (lf : Bool) (r : Option (List AV × List Nat)) : Eff := match r with
    | some r => { v := v, rd := r.2, wr := gone r.2, new := [some ⟨r.1, false, true, none⟩] }
    | none => { v := v, new := [some ⟨c, false, lf, none⟩] }
@[go_sem] theorem frz1_some (v c lf r) : frz1 v c lf (some r) = { v := v, rd := r.2, wr := gone r.2, new := [some ⟨r.1, false, true, none⟩] } := rfl
@[go_sem] theorem frz1_none (v c lf) : frz1 v c lf none = { v := v, new := [some ⟨c, false, lf, none⟩] } := rfl
@[go_sem] theorem frz_eq (h v c lf) : frz h { v := v, new := [some ⟨c, false, lf, none⟩] } = frz1 v c lf (deepL h 4 c) := by
  unfold frz frz1
  dsimp only
  cases deepL h 4 c <;> rfl
@[go_sem] theorem ex_buildSlice (d T n ps ty pos af g) (t : Fr) (h base) : exec cx call ⟨d, .buildSlice T n ps, ty, pos, af, g⟩ t h base =
    match (lay cx.P T).kind with
    | .slice => match (lay cx.P T).es with
      | 0 => none
      | es => ((lay cx.P (lay cx.P T).et).zero.bnd fun z => z.cells.bnd fun zc => if zc.length ≠ 0 ∧ n * es ≤ 16777216 then (fillc (placeA es) (List.replicate (n * es) .top) (opvs t ps.toList)).bnd fun c =>
          some (frz h { v := .lsl base 0 n (some n) es, new := [some ⟨c, false, isLeaf c, none⟩] }) else none)
    | _ => none := by
  show ((match (lay cx.P T).kind with
    | .slice => match (lay cx.P T).es with
      | 0 => none
      | es => ((lay cx.P (lay cx.P T).et).zero.bnd fun z => z.cells.bnd fun zc => if zc.length ≠ 0 ∧ n * es ≤ 16777216 then (fillc (placeA es) (List.replicate (n * es) .top) (opvs t ps.toList)).bnd fun c =>
          some { v := .lsl base 0 n (some n) es, new := [some ⟨c, false, isLeaf c, none⟩] } else none)
    | _ => none) : Option Eff).map (frz h) = _
  cases hk : (lay cx.P T).kind <;> try rfl
  cases he : (lay cx.P T).es with
  | zero => rfl
  | succ es =>
    dsimp only
    cases hz : (lay cx.P (lay cx.P T).et).zero with
    | none => rfl
    | some z =>
      simp only [Option.bnd, bindR, Option.bind_some]
      cases hc : z.cells with
      | none => rfl
      | some zc =>
        simp only [Option.bind_some]
        split
        · cases fillc (placeA (es + 1)) (List.replicate (n * (es + 1)) .top) (opvs t ps.toList) <;> rfl
        · rfl
@[go_sem] theorem ex_makeSlice (d T l c ty pos af g) (t : Fr) (h base) : exec cx call ⟨d, .makeSlice T l c, ty, pos, af, g⟩ t h base =
    match opv t l, opv t c with
    | .int .i64 l, .int .i64 c => match (lay cx.P T).kind with
      | .slice => (lay cx.P (lay cx.P T).et).zero.bnd fun z => z.cells.bnd fun zc =>
        if 0 ≤ l ∧ l ≤ c ∧ c * (lay cx.P T).eb ≤ 140737488355328 ∧ c ≤ 140737488355328 ∧ zc.length = (lay cx.P T).es ∧ 0 < zc.length then
          some { v := .lsl base 0 l.toNat (some c.toNat) (lay cx.P T).es, new := [some ⟨repc c.toNat zc, false, isLeaf zc, none⟩] }
        else none
      | _ => none
    | _, _ => none := rfl
@[go_sem] theorem ex_extract (d x i ty pos af g) (t : Fr) (h base) : exec cx call ⟨d, .extract x i, ty, pos, af, g⟩ t h base =
    match opv t x with
    | .tup vs => (vs[i]?).bnd Eff.of
    | _ => none := rfl
@[go_sem] theorem ex_field (d S x f ty pos af g) (t : Fr) (h base) : exec cx call ⟨d, .field S x f, ty, pos, af, g⟩ t h base =
    match opv t x with
    | .agg c => ((lay cx.P S).offs[f]?).bnd fun d => (ldc (lay cx.P d.2.2) c d.1).bnd Eff.of
    | _ => none := rfl
@[go_sem] theorem ex_index (d S x i ty pos af g) (t : Fr) (h base) : exec cx call ⟨d, .index S x i, ty, pos, af, g⟩ t h base =
    match opv t x, opv t i with
    | .str s, .int _ i => if (lay cx.P S).kind = .string then (aidx i s.length).bnd fun k => (s[k]?).bnd fun b => Eff.of (u8 b) else none
    | .agg c, .int _ i => if (lay cx.P S).kind = .array then (aidx i (lay cx.P S).n).bnd fun k => (ldc (lay cx.P (lay cx.P S).et) c (k * (lay cx.P S).es)).bnd Eff.of else none
    | _, _ => none := rfl
@[go_sem] theorem ex_indexAddr (d S x i ty pos af g) (t : Fr) (h base) : exec cx call ⟨d, .indexAddr S x i, ty, pos, af, g⟩ t h base =
    match opv t i with
    | .int _ i => (aindexAddr (lay cx.P S) (opv t x) i).bnd Eff.of
    | _ => none := rfl
@[go_sem] theorem ex_binOp (d op T x y u2 ty pos af g) (t : Fr) (h base) : exec cx call ⟨d, .binOp op T x y u2, ty, pos, af, g⟩ t h base =
    (abin (lay cx.P T) op (opv t x) (opv t y)).bnd Eff.of := rfl
@[go_sem] theorem ex_unOp (d op u1 x ty pos af g) (t : Fr) (h base) : exec cx call ⟨d, .unOp op u1 x, ty, pos, af, g⟩ t h base =
    (aun op (opv t x)).bnd Eff.of := rfl
@[go_sem] theorem ex_convert (d src dst x ty pos af g) (t : Fr) (h base) : exec cx call ⟨d, .convert src dst x, ty, pos, af, g⟩ t h base =
    aconv cx.P h base src dst (opv t x) := rfl
@[go_sem] theorem ex_slice (d S x lo hi ty pos af g) (t : Fr) (h base) : exec cx call ⟨d, .slice S x lo hi none, ty, pos, af, g⟩ t h base =
    (optInt (lo.map (opv t))).bnd fun lo => (optInt (hi.map (opv t))).bnd fun hi => aslice h (lay cx.P S) (opv t x) lo hi := rfl

@[go_sem] theorem ex_call (d f args at_ ty pos af g) (t : Fr) (h base) : exec cx call ⟨d, .call ⟨.value (.func f), args, at_⟩, ty, pos, af, g⟩ t h base =
    bindR (prep (cx.mode f) (args.toList.map (opv t)) h) fun p => bindR (call f p.args p.heap) fun r => back p base r := rfl
@[go_sem] theorem ex_len (d x T ty pos af g) (t : Fr) (h base) : exec cx call ⟨d, .call ⟨.builtin .len, #[x], #[T]⟩, ty, pos, af, g⟩ t h base =
    (alen (lay cx.P T) (opv t x)).bnd fun n => Eff.of (.int .i64 n) := rfl
@[go_sem] theorem ex_max (d x y at_ ty pos af g) (t : Fr) (h base) : exec cx call ⟨d, .call ⟨.builtin .max, #[x, y], at_⟩, ty, pos, af, g⟩ t h base =
    match [opv t x, opv t y] with
      | [.int k a, .int j b] => if k = j then Eff.of (.int k (if a < b then b else a)) else none
      | _ => none := rfl
@[go_sem] theorem ex_min (d x y at_ ty pos af g) (t : Fr) (h base) : exec cx call ⟨d, .call ⟨.builtin .min, #[x, y], at_⟩, ty, pos, af, g⟩ t h base =
    match [opv t x, opv t y] with
      | [.int k a, .int j b] => if k = j then Eff.of (.int k (if b < a then b else a)) else none
      | _ => none := rfl
@[go_sem] theorem ex_append (d s x T U ty pos af g) (t : Fr) (h base) : exec cx call ⟨d, .call ⟨.builtin .append, #[s, x], #[T, U]⟩, ty, pos, af, g⟩ t h base =
    match appOK (lay cx.P T) (lay cx.P U) (lay cx.P (lay cx.P T).et).zero with
          | true => aappend h base (lay cx.P T).es (lay cx.P T).eb (lay cx.P T).et (opv t s) (opv t x)
          | false => none := rfl
@[go_sem] theorem ex_copy (d d' s T U ty pos af g) (t : Fr) (h base) : exec cx call ⟨d, .call ⟨.builtin .copy, #[d', s], #[T, U]⟩, ty, pos, af, g⟩ t h base =
    match appOK (lay cx.P T) (lay cx.P U) (lay cx.P (lay cx.P T).et).zero with
          | true => acopy h (lay cx.P T).es (opv t d') (opv t s)
          | false => none := rfl
end
@[go_sem] theorem aconv_int (P h base src dst k n) : aconv P h base src dst (.int k n) = match P.underlying src, P.underlying dst with
    | some _, some (.int k) => Eff.of (.int k (k.wrap n))
    | _, _ => none := rfl
@[go_sem] theorem aconv_str (P h base src dst s) : aconv P h base src dst (.str s) = match P.underlying src, P.underlying dst with
    | some .string, some .string => Eff.of (.str s)
    | some .string, some (.slice e) => match P.underlying e with
      | some (.int .u8) => if (P.info? e).any (·.size == 1) then br s.isEmpty (Eff.of (.dsl [])) (some { v := .lsl base 0 s.length none 1, new := [some ⟨s.map u8, true, true, none⟩] }) else none
      | _ => none
    | _, _ => none := rfl
@[go_sem] theorem aconv_dsl (P h base src dst xs) : aconv P h base src dst (.dsl xs) = match P.underlying src, P.underlying dst with
    | some (.slice e), some .string => match P.underlying e with
      | some (.int .u8) => (bytesOf xs).bnd fun l => Eff.of (.str l)
      | _ => none
    | _, _ => none := rfl
@[go_sem] theorem aconv_nils (P h base src dst) : aconv P h base src dst .nils = match P.underlying src, P.underlying dst with
    | some (.slice e), some .string => match P.underlying e with
      | some (.int .u8) => Eff.of (.str [])
      | _ => none
    | _, _ => none := rfl
@[go_sem] theorem aconv_lsl (P h base src dst i o n cap es) : aconv P h base src dst (.lsl i o n cap es) = match P.underlying src, P.underlying dst with
    | some (.slice e), some .string => match P.underlying e with
      | some (.int .u8) => if es = 1 then (hget h i).bnd fun b => (getr b.c o n).bnd fun c => (bytesOf c).bnd fun l => some { v := .str l, rd := [i] } else none
      | _ => none
    | _, _ => none := rfl
@[go_sem] theorem esOK_nil (es) : esOK es [] = true := rfl
@[go_sem] theorem esOK_cons (es v xs) : esOK es (v :: xs) = (elOK es v && esOK es xs) := rfl
@[go_sem] theorem esOK_append (es xs ys) : esOK es (xs ++ ys) = (esOK es xs && esOK es ys) := by unfold esOK; rw [List.all_append]
@[go_sem] theorem esOK_u8 (l : List UInt8) : esOK 1 (l.map u8) = true := by
  unfold esOK
  rw [List.all_map]
  exact List.all_eq_true.2 fun _ _ => rfl
@[go_sem] theorem esOK_take {es xs} (n) (h : esOK es xs = true) : esOK es (xs.take n) = true := List.all_eq_true.2 fun v hv => List.all_eq_true.1 h v (List.mem_of_mem_take hv)
@[go_sem] theorem esOK_drop {es xs} (n) (h : esOK es xs = true) : esOK es (xs.drop n) = true := List.all_eq_true.2 fun v hv => List.all_eq_true.1 h v (List.mem_of_mem_drop hv)
@[go_sem] theorem elOK_int (es k n) : elOK es (.int k n) = (es == 1) := rfl
@[go_sem] theorem elOK_bool (es b) : elOK es (.bool b) = (es == 1) := rfl
@[go_sem] theorem elOK_str (es s) : elOK es (.str s) = (es == 1) := rfl
@[go_sem] theorem elOK_u8 (es b) : elOK es (u8 b) = (es == 1) := rfl
@[go_sem] theorem elOK_dsl (es b) : elOK es (.dsl b) = (es == 1) := rfl
@[go_sem] theorem elOK_agg (es c) : elOK es (.agg c) = (es != 1 && c.length == es) := rfl
@[go_sem] theorem take_map_len {α β : Type} (f : α → β) (l : List α) : (l.map f).take l.length = l.map f := List.take_of_length_le (by simp)
attribute [go_sem] List.isEmpty_nil List.isEmpty_cons List.length_map List.length_nil Nat.div_one List.contains_nil
@[go_sem] theorem deep1_zero (h v) : deep1 h 0 v = deepO v := rfl
attribute [go_sem] oneOf AV.renV AV.hasD1 Blk.refs ckOK appOK repc freshE tagA tagS keepT Option.bnd Option.mpd Fr.get opv ofVal oneC ofCell AV.cells hget ldc AV.ref refs AV.refs AV.ren AV.ren1 Blk.ren deepO deepA deepL deepV deepVs deep killAll mapO AV.isD AV.hasD Eff.of aarith eqNe abin aun alen aindexAddr abnds aslice fillc srcCells aappend acopy fits isLeaf lend backId zipWr sets lookT sett puth results1 frame0 optInt aeqK aeqs idx reach fuelR
@[go_sem] theorem chunk_one (n c) : chunk 1 n c = c := rfl
@[go_sem low] theorem chunk_def (es n c) (h : es ≠ 1) : chunk es n c = chunks es n c := by
  unfold chunk; split
  · exact absurd rfl h
  · rfl
@[go_sem] theorem chunks_zero (es c) : chunks es 0 c = [] := rfl
@[go_sem low] theorem chunks_succ (es n c) : chunks es (n + 1) c = .agg (c.take es) :: chunks es n (c.drop es) := rfl
@[go_sem] theorem cellsOf_one (xs) : cellsOf 1 xs = xs := rfl
@[go_sem low] theorem cellsOf_def (es xs) (h : es ≠ 1) : cellsOf es xs = xs.flatMap fun v => v.cells.getD [] := by
  unfold cellsOf; split
  · exact absurd rfl h
  · rfl
@[go_sem low] theorem getr_def (c : List AV) (off n : Nat) : getr c off n = if off + n ≤ c.length then some ((c.drop off).take n) else none := rfl
@[go_sem low] theorem putr_def (c : List AV) (off : Nat) (v : List AV) : putr c off v = if off + v.length ≤ c.length then some (c.take off ++ (v ++ c.drop (off + v.length))) else none := rfl
attribute [go_sem] List.map_cons List.map_nil List.append_nil List.nil_append List.cons_append List.getElem?_cons_zero List.getElem?_cons_succ List.getElem?_nil Option.getD_some Option.getD_none Option.bind_some Option.bind_none Option.map_some Option.map_none
  Bool.false_eq_true if_false if_true ite_true ite_false List.length_cons List.length_nil List.take_succ_cons List.take_zero List.drop_succ_cons List.drop_zero List.replicate_succ List.replicate_zero ne_eq not_true_eq_false not_false_eq_true
  List.set_cons_zero List.set_cons_succ List.set_nil and_self and_true true_and reduceCtorEq List.zip_cons_cons List.zip_nil_left List.zip_nil_right List.flatMap_cons List.flatMap_nil List.contains_cons List.contains_nil List.any_cons List.any_nil Bool.or_false Bool.false_or Bool.or_true Bool.true_or Bool.and_true Bool.true_and Bool.and_false Bool.false_and
  List.isEmpty_nil List.isEmpty_cons Bool.not_true Bool.not_false List.findIdx?_cons List.findIdx?_nil beq_self_eq_true Option.isSome_some List.all_cons List.all_nil List.range_zero List.tail_cons List.tail_nil List.toList_toArray List.size_toArray List.headD_cons decide_true decide_false List.foldl_cons List.foldl_nil
  beq_iff_eq decide_eq_true_eq Nat.reduceEqDiff
end Sh
