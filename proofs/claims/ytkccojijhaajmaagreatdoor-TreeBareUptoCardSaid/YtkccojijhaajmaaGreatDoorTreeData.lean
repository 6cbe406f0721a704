/-
The trees of sources as data, and their cells.
-/
import Derived.Test.YtkccojijhaajmaaGreatDoorShU
set_option linter.unusedSimpArgs false
set_option linter.unusedVariables false
set_option linter.unusedSectionVars false
set_option linter.unusedSimpArgs false
namespace Sh
open Go
structure Ref where
  name : List UInt8
  pos : Int
def Ref.cells (x : Ref) : List AV := [.str x.name, .int .i64 x.pos]
@[go_sem] def Ref.av (x : Ref) : AV := .agg x.cells
theorem Ref.cells_sub (x : Ref) : x.cells = [.str x.name, .int .i64 x.pos] := rfl
theorem Ref.cells_eq (x : Ref) : x.cells = [.str x.name, .int .i64 x.pos] := Ref.cells_sub x
@[go_sem] theorem Ref.cells_mk (name : List UInt8) (pos : Int) : (Ref.mk name pos).cells = [.str name, .int .i64 pos] := Ref.cells_eq _
@[go_sem] theorem Ref.cells_len (x : Ref) : x.cells.length = 2 := by rw [Ref.cells_eq]; rfl
@[go_sem] theorem Ref.cells_ne (x : Ref) : x.cells.isEmpty = false := by rw [Ref.cells_eq]; rfl
@[go_sem] theorem Ref.cells_0 (x : Ref) : x.cells[0]? = some (.str x.name) := by rw [Ref.cells_eq]; rfl
@[go_sem] theorem Ref.cells_1 (x : Ref) : x.cells[1]? = some (.int .i64 x.pos) := by rw [Ref.cells_eq]; rfl
@[go_sem] theorem Ref.getr_all (x : Ref) : getr x.cells 0 2 = some x.cells := getr_full x.cells_len
@[go_sem] theorem Ref.putr_cells (x : Ref) (o v) : putr x.cells o v = putr [.str x.name, .int .i64 x.pos] o v := by rw [Ref.cells_eq]
@[go_sem 2000] theorem Ref.putr_whole (x : Ref) (c) (h : LenIs c 2) : putr c 0 x.cells = some x.cells := putr_all (by rw [Ref.cells_len]; exact h)
@[go_sem 500] theorem Ref.putr_val (x : Ref) (c o) : putr c o x.cells = putr c o [.str x.name, .int .i64 x.pos] := by rw [Ref.cells_eq]
@[go_sem] theorem Ref.deepA_cells (x : Ref) (h n) : deepA (deep1 h n) x.cells = some (x.cells, []) := by rw [Ref.cells_eq]; simp only [deepA, deep1_int, deep1_str, deep1_bool, deep1_dsl, Option.bnd, bindR, Option.bind_some, List.append_nil]
@[go_sem] theorem Ref.refs_cells (x : Ref) : refs x.cells = [] := by rw [Ref.cells_eq]; rfl
@[go_sem] theorem Ref.ren_cells (x : Ref) (m) : x.cells.map (AV.ren1 m) = x.cells := by rw [Ref.cells_eq]; rfl
@[go_sem] theorem Ref.any_cells (x : Ref) : x.cells.any AV.isD = false := by rw [Ref.cells_eq]; rfl
@[go_sem] theorem Ref.esOK_map (l : List Ref) : esOK 2 (l.map Ref.av) = true := esOK_of fun x => by show elOK 2 (.agg x.cells) = true; rw [elOK_agg, Ref.cells_len]; rfl
@[go_sem] theorem Ref.cellsOf_map (l : List Ref) : cellsOf 2 (l.map Ref.av) = l.flatMap Ref.cells := cellsOf_of (by decide) fun _ => rfl
@[go_sem] theorem Ref.chunk_flat (l : List Ref) (m : Nat) (hm : m = l.length) : chunk 2 m (l.flatMap Ref.cells) = l.map Ref.av := chunk_of (by decide) hm Ref.cells_len fun _ => rfl
@[go_sem] theorem Ref.refs_flat (l : List Ref) : refs (l.flatMap Ref.cells) = [] := refs_flat_of Ref.refs_cells l
@[go_sem] theorem Ref.len_flat (l : List Ref) : (l.flatMap Ref.cells).length = l.length * 2 := len_flat_of Ref.cells_len l
@[go_sem] theorem Ref.getr_flat (l : List Ref) (m : Nat) (hm : m = l.length * 2) : getr (l.flatMap Ref.cells) 0 m = some (l.flatMap Ref.cells) := getr_full (by rw [Ref.len_flat, hm])
inductive Ex where
  | mk (op : List UInt8) (num : Int) (text : List UInt8) (pos : Int) (args : List Ex)
def Ex.op : Ex → List UInt8
  | .mk v _ _ _ _ => v
def Ex.num : Ex → Int
  | .mk _ v _ _ _ => v
def Ex.text : Ex → List UInt8
  | .mk _ _ v _ _ => v
def Ex.pos : Ex → Int
  | .mk _ _ _ v _ => v
def Ex.args : Ex → List Ex
  | .mk _ _ _ _ v => v
mutual
def Ex.cells : Ex → List AV
  | .mk op num text pos args => [.str op, .int .i64 num, .str text, .int .i64 pos, .dsl (Ex.avs args)]
def Ex.avs : List Ex → List AV
  | [] => []
  | e :: r => .agg e.cells :: Ex.avs r
end
@[go_sem] def Ex.av (x : Ex) : AV := .agg x.cells
theorem Ex.avs_map : ∀ l, Ex.avs l = l.map Ex.av
  | [] => by simp [Ex.avs]
  | e :: r => by rw [Ex.avs, Ex.avs_map r]; rfl
theorem Ex.eta (x : Ex) : x = .mk x.op x.num x.text x.pos x.args := by cases x; rfl
theorem Ex.cells_sub (x : Ex) : x.cells = [.str x.op, .int .i64 x.num, .str x.text, .int .i64 x.pos, .dsl (x.args.map Ex.av)] := by
  cases x; simp only [Ex.cells, Ex.avs_map, Ex.op, Ex.num, Ex.text, Ex.pos, Ex.args]
theorem Ex.cells_eq (x : Ex) : x.cells = [.str x.op, .int .i64 x.num, .str x.text, .int .i64 x.pos, .dsl (x.args.map Ex.av)] := Ex.cells_sub x
@[go_sem] theorem Ex.cells_mk (op : List UInt8) (num : Int) (text : List UInt8) (pos : Int) (args : List Ex) : (Ex.mk op num text pos args).cells = [.str op, .int .i64 num, .str text, .int .i64 pos, .dsl (args.map Ex.av)] := by rw [Ex.cells_eq]; rfl
@[go_sem] theorem Ex.cells_len (x : Ex) : x.cells.length = 5 := by rw [Ex.cells_eq]; rfl
@[go_sem] theorem Ex.cells_ne (x : Ex) : x.cells.isEmpty = false := by rw [Ex.cells_eq]; rfl
@[go_sem] theorem Ex.cells_0 (x : Ex) : x.cells[0]? = some (.str x.op) := by rw [Ex.cells_eq]; rfl
@[go_sem] theorem Ex.cells_1 (x : Ex) : x.cells[1]? = some (.int .i64 x.num) := by rw [Ex.cells_eq]; rfl
@[go_sem] theorem Ex.cells_2 (x : Ex) : x.cells[2]? = some (.str x.text) := by rw [Ex.cells_eq]; rfl
@[go_sem] theorem Ex.cells_3 (x : Ex) : x.cells[3]? = some (.int .i64 x.pos) := by rw [Ex.cells_eq]; rfl
@[go_sem] theorem Ex.cells_4 (x : Ex) : x.cells[4]? = some (.dsl (x.args.map Ex.av)) := by rw [Ex.cells_eq]; rfl
@[go_sem] theorem Ex.getr_all (x : Ex) : getr x.cells 0 5 = some x.cells := getr_full x.cells_len
@[go_sem] theorem Ex.putr_cells (x : Ex) (o v) : putr x.cells o v = putr [.str x.op, .int .i64 x.num, .str x.text, .int .i64 x.pos, .dsl (x.args.map Ex.av)] o v := by rw [Ex.cells_eq]
@[go_sem 2000] theorem Ex.putr_whole (x : Ex) (c) (h : LenIs c 5) : putr c 0 x.cells = some x.cells := putr_all (by rw [Ex.cells_len]; exact h)
@[go_sem 500] theorem Ex.putr_val (x : Ex) (c o) : putr c o x.cells = putr c o [.str x.op, .int .i64 x.num, .str x.text, .int .i64 x.pos, .dsl (x.args.map Ex.av)] := by rw [Ex.cells_eq]
@[go_sem] theorem Ex.deepA_cells (x : Ex) (h n) : deepA (deep1 h n) x.cells = some (x.cells, []) := by rw [Ex.cells_eq]; simp only [deepA, deep1_int, deep1_str, deep1_bool, deep1_dsl, Option.bnd, bindR, Option.bind_some, List.append_nil]
@[go_sem] theorem Ex.refs_cells (x : Ex) : refs x.cells = [] := by rw [Ex.cells_eq]; rfl
@[go_sem] theorem Ex.ren_cells (x : Ex) (m) : x.cells.map (AV.ren1 m) = x.cells := by rw [Ex.cells_eq]; rfl
@[go_sem] theorem Ex.any_cells (x : Ex) : x.cells.any AV.isD = true := by rw [Ex.cells_eq]; rfl
@[go_sem] theorem Ex.esOK_map (l : List Ex) : esOK 5 (l.map Ex.av) = true := esOK_of fun x => by show elOK 5 (.agg x.cells) = true; rw [elOK_agg, Ex.cells_len]; rfl
@[go_sem] theorem Ex.cellsOf_map (l : List Ex) : cellsOf 5 (l.map Ex.av) = l.flatMap Ex.cells := cellsOf_of (by decide) fun _ => rfl
@[go_sem] theorem Ex.chunk_flat (l : List Ex) (m : Nat) (hm : m = l.length) : chunk 5 m (l.flatMap Ex.cells) = l.map Ex.av := chunk_of (by decide) hm Ex.cells_len fun _ => rfl
@[go_sem] theorem Ex.refs_flat (l : List Ex) : refs (l.flatMap Ex.cells) = [] := refs_flat_of Ex.refs_cells l
@[go_sem] theorem Ex.len_flat (l : List Ex) : (l.flatMap Ex.cells).length = l.length * 5 := len_flat_of Ex.cells_len l
@[go_sem] theorem Ex.getr_flat (l : List Ex) (m : Nat) (hm : m = l.length * 5) : getr (l.flatMap Ex.cells) 0 m = some (l.flatMap Ex.cells) := getr_full (by rw [Ex.len_flat, hm])
structure Place where
  node : Ref
  delay : Ex
  flags : Ex
def Place.cells (x : Place) : List AV := (x.node.cells ++ (x.delay.cells ++ (x.flags.cells)))
@[go_sem] def Place.av (x : Place) : AV := .agg x.cells
theorem Place.cells_sub (x : Place) : x.cells = (x.node.cells ++ (x.delay.cells ++ (x.flags.cells))) := rfl
theorem Place.cells_eq (x : Place) : x.cells = [.str x.node.name, .int .i64 x.node.pos, .str x.delay.op, .int .i64 x.delay.num, .str x.delay.text, .int .i64 x.delay.pos, .dsl (x.delay.args.map Ex.av), .str x.flags.op, .int .i64 x.flags.num, .str x.flags.text, .int .i64 x.flags.pos, .dsl (x.flags.args.map Ex.av)] := by
  rw [Place.cells_sub]; simp only [Ex.cells_eq, Ref.cells_eq,  List.cons_append, List.nil_append, List.append_nil]
@[go_sem] theorem Place.cells_mk (node : Ref) (delay : Ex) (flags : Ex) : (Place.mk node delay flags).cells = [.str node.name, .int .i64 node.pos, .str delay.op, .int .i64 delay.num, .str delay.text, .int .i64 delay.pos, .dsl (delay.args.map Ex.av), .str flags.op, .int .i64 flags.num, .str flags.text, .int .i64 flags.pos, .dsl (flags.args.map Ex.av)] := Place.cells_eq _
@[go_sem] theorem Place.cells_len (x : Place) : x.cells.length = 12 := by rw [Place.cells_eq]; rfl
@[go_sem] theorem Place.cells_ne (x : Place) : x.cells.isEmpty = false := by rw [Place.cells_eq]; rfl
@[go_sem] theorem Place.cells_0 (x : Place) : x.cells[0]? = some (.str x.node.name) := by rw [Place.cells_eq]; rfl
@[go_sem] theorem Place.cells_1 (x : Place) : x.cells[1]? = some (.int .i64 x.node.pos) := by rw [Place.cells_eq]; rfl
@[go_sem] theorem Place.cells_2 (x : Place) : x.cells[2]? = some (.str x.delay.op) := by rw [Place.cells_eq]; rfl
@[go_sem] theorem Place.cells_3 (x : Place) : x.cells[3]? = some (.int .i64 x.delay.num) := by rw [Place.cells_eq]; rfl
@[go_sem] theorem Place.cells_4 (x : Place) : x.cells[4]? = some (.str x.delay.text) := by rw [Place.cells_eq]; rfl
@[go_sem] theorem Place.cells_5 (x : Place) : x.cells[5]? = some (.int .i64 x.delay.pos) := by rw [Place.cells_eq]; rfl
@[go_sem] theorem Place.cells_6 (x : Place) : x.cells[6]? = some (.dsl (x.delay.args.map Ex.av)) := by rw [Place.cells_eq]; rfl
@[go_sem] theorem Place.cells_7 (x : Place) : x.cells[7]? = some (.str x.flags.op) := by rw [Place.cells_eq]; rfl
@[go_sem] theorem Place.cells_8 (x : Place) : x.cells[8]? = some (.int .i64 x.flags.num) := by rw [Place.cells_eq]; rfl
@[go_sem] theorem Place.cells_9 (x : Place) : x.cells[9]? = some (.str x.flags.text) := by rw [Place.cells_eq]; rfl
@[go_sem] theorem Place.cells_10 (x : Place) : x.cells[10]? = some (.int .i64 x.flags.pos) := by rw [Place.cells_eq]; rfl
@[go_sem] theorem Place.cells_11 (x : Place) : x.cells[11]? = some (.dsl (x.flags.args.map Ex.av)) := by rw [Place.cells_eq]; rfl
@[go_sem] theorem Place.getr_node (x : Place) : getr x.cells 0 2 = some x.node.cells := by rw [Place.cells_eq, Ref.cells_eq]; rfl
@[go_sem] theorem Place.getr_delay (x : Place) : getr x.cells 2 5 = some x.delay.cells := by rw [Place.cells_eq, Ex.cells_eq]; rfl
@[go_sem] theorem Place.getr_flags (x : Place) : getr x.cells 7 5 = some x.flags.cells := by rw [Place.cells_eq, Ex.cells_eq]; rfl
@[go_sem] theorem Place.getr_all (x : Place) : getr x.cells 0 12 = some x.cells := getr_full x.cells_len
@[go_sem] theorem Place.putr_cells (x : Place) (o v) : putr x.cells o v = putr [.str x.node.name, .int .i64 x.node.pos, .str x.delay.op, .int .i64 x.delay.num, .str x.delay.text, .int .i64 x.delay.pos, .dsl (x.delay.args.map Ex.av), .str x.flags.op, .int .i64 x.flags.num, .str x.flags.text, .int .i64 x.flags.pos, .dsl (x.flags.args.map Ex.av)] o v := by rw [Place.cells_eq]
@[go_sem 2000] theorem Place.putr_whole (x : Place) (c) (h : LenIs c 12) : putr c 0 x.cells = some x.cells := putr_all (by rw [Place.cells_len]; exact h)
@[go_sem 500] theorem Place.putr_val (x : Place) (c o) : putr c o x.cells = putr c o [.str x.node.name, .int .i64 x.node.pos, .str x.delay.op, .int .i64 x.delay.num, .str x.delay.text, .int .i64 x.delay.pos, .dsl (x.delay.args.map Ex.av), .str x.flags.op, .int .i64 x.flags.num, .str x.flags.text, .int .i64 x.flags.pos, .dsl (x.flags.args.map Ex.av)] := by rw [Place.cells_eq]
@[go_sem] theorem Place.deepA_cells (x : Place) (h n) : deepA (deep1 h n) x.cells = some (x.cells, []) := by rw [Place.cells_eq]; simp only [deepA, deep1_int, deep1_str, deep1_bool, deep1_dsl, Option.bnd, bindR, Option.bind_some, List.append_nil]
@[go_sem] theorem Place.refs_cells (x : Place) : refs x.cells = [] := by rw [Place.cells_eq]; rfl
@[go_sem] theorem Place.ren_cells (x : Place) (m) : x.cells.map (AV.ren1 m) = x.cells := by rw [Place.cells_eq]; rfl
@[go_sem] theorem Place.any_cells (x : Place) : x.cells.any AV.isD = true := by rw [Place.cells_eq]; rfl
@[go_sem] theorem Place.esOK_map (l : List Place) : esOK 12 (l.map Place.av) = true := esOK_of fun x => by show elOK 12 (.agg x.cells) = true; rw [elOK_agg, Place.cells_len]; rfl
@[go_sem] theorem Place.cellsOf_map (l : List Place) : cellsOf 12 (l.map Place.av) = l.flatMap Place.cells := cellsOf_of (by decide) fun _ => rfl
@[go_sem] theorem Place.chunk_flat (l : List Place) (m : Nat) (hm : m = l.length) : chunk 12 m (l.flatMap Place.cells) = l.map Place.av := chunk_of (by decide) hm Place.cells_len fun _ => rfl
@[go_sem] theorem Place.refs_flat (l : List Place) : refs (l.flatMap Place.cells) = [] := refs_flat_of Place.refs_cells l
@[go_sem] theorem Place.len_flat (l : List Place) : (l.flatMap Place.cells).length = l.length * 12 := len_flat_of Place.cells_len l
@[go_sem] theorem Place.getr_flat (l : List Place) (m : Nat) (hm : m = l.length * 12) : getr (l.flatMap Place.cells) 0 m = some (l.flatMap Place.cells) := getr_full (by rw [Place.len_flat, hm])
structure Decl where
  kind : List UInt8
  name : Ref
  value : Ex
  places : List Place
def Decl.cells (x : Decl) : List AV := ([.str x.kind] ++ (x.name.cells ++ (x.value.cells ++ ([.dsl (x.places.map Place.av)]))))
@[go_sem] def Decl.av (x : Decl) : AV := .agg x.cells
theorem Decl.cells_sub (x : Decl) : x.cells = ([.str x.kind] ++ (x.name.cells ++ (x.value.cells ++ ([.dsl (x.places.map Place.av)])))) := rfl
theorem Decl.cells_eq (x : Decl) : x.cells = [.str x.kind, .str x.name.name, .int .i64 x.name.pos, .str x.value.op, .int .i64 x.value.num, .str x.value.text, .int .i64 x.value.pos, .dsl (x.value.args.map Ex.av), .dsl (x.places.map Place.av)] := by
  rw [Decl.cells_sub]; simp only [Ex.cells_eq, Ref.cells_eq,  List.cons_append, List.nil_append, List.append_nil]
@[go_sem] theorem Decl.cells_mk (kind : List UInt8) (name : Ref) (value : Ex) (places : List Place) : (Decl.mk kind name value places).cells = [.str kind, .str name.name, .int .i64 name.pos, .str value.op, .int .i64 value.num, .str value.text, .int .i64 value.pos, .dsl (value.args.map Ex.av), .dsl (places.map Place.av)] := Decl.cells_eq _
@[go_sem] theorem Decl.cells_len (x : Decl) : x.cells.length = 9 := by rw [Decl.cells_eq]; rfl
@[go_sem] theorem Decl.cells_ne (x : Decl) : x.cells.isEmpty = false := by rw [Decl.cells_eq]; rfl
@[go_sem] theorem Decl.cells_0 (x : Decl) : x.cells[0]? = some (.str x.kind) := by rw [Decl.cells_eq]; rfl
@[go_sem] theorem Decl.cells_1 (x : Decl) : x.cells[1]? = some (.str x.name.name) := by rw [Decl.cells_eq]; rfl
@[go_sem] theorem Decl.cells_2 (x : Decl) : x.cells[2]? = some (.int .i64 x.name.pos) := by rw [Decl.cells_eq]; rfl
@[go_sem] theorem Decl.cells_3 (x : Decl) : x.cells[3]? = some (.str x.value.op) := by rw [Decl.cells_eq]; rfl
@[go_sem] theorem Decl.cells_4 (x : Decl) : x.cells[4]? = some (.int .i64 x.value.num) := by rw [Decl.cells_eq]; rfl
@[go_sem] theorem Decl.cells_5 (x : Decl) : x.cells[5]? = some (.str x.value.text) := by rw [Decl.cells_eq]; rfl
@[go_sem] theorem Decl.cells_6 (x : Decl) : x.cells[6]? = some (.int .i64 x.value.pos) := by rw [Decl.cells_eq]; rfl
@[go_sem] theorem Decl.cells_7 (x : Decl) : x.cells[7]? = some (.dsl (x.value.args.map Ex.av)) := by rw [Decl.cells_eq]; rfl
@[go_sem] theorem Decl.cells_8 (x : Decl) : x.cells[8]? = some (.dsl (x.places.map Place.av)) := by rw [Decl.cells_eq]; rfl
@[go_sem] theorem Decl.getr_name (x : Decl) : getr x.cells 1 2 = some x.name.cells := by rw [Decl.cells_eq, Ref.cells_eq]; rfl
@[go_sem] theorem Decl.getr_value (x : Decl) : getr x.cells 3 5 = some x.value.cells := by rw [Decl.cells_eq, Ex.cells_eq]; rfl
@[go_sem] theorem Decl.getr_all (x : Decl) : getr x.cells 0 9 = some x.cells := getr_full x.cells_len
@[go_sem] theorem Decl.putr_cells (x : Decl) (o v) : putr x.cells o v = putr [.str x.kind, .str x.name.name, .int .i64 x.name.pos, .str x.value.op, .int .i64 x.value.num, .str x.value.text, .int .i64 x.value.pos, .dsl (x.value.args.map Ex.av), .dsl (x.places.map Place.av)] o v := by rw [Decl.cells_eq]
@[go_sem 2000] theorem Decl.putr_whole (x : Decl) (c) (h : LenIs c 9) : putr c 0 x.cells = some x.cells := putr_all (by rw [Decl.cells_len]; exact h)
@[go_sem 500] theorem Decl.putr_val (x : Decl) (c o) : putr c o x.cells = putr c o [.str x.kind, .str x.name.name, .int .i64 x.name.pos, .str x.value.op, .int .i64 x.value.num, .str x.value.text, .int .i64 x.value.pos, .dsl (x.value.args.map Ex.av), .dsl (x.places.map Place.av)] := by rw [Decl.cells_eq]
@[go_sem] theorem Decl.deepA_cells (x : Decl) (h n) : deepA (deep1 h n) x.cells = some (x.cells, []) := by rw [Decl.cells_eq]; simp only [deepA, deep1_int, deep1_str, deep1_bool, deep1_dsl, Option.bnd, bindR, Option.bind_some, List.append_nil]
@[go_sem] theorem Decl.refs_cells (x : Decl) : refs x.cells = [] := by rw [Decl.cells_eq]; rfl
@[go_sem] theorem Decl.ren_cells (x : Decl) (m) : x.cells.map (AV.ren1 m) = x.cells := by rw [Decl.cells_eq]; rfl
@[go_sem] theorem Decl.any_cells (x : Decl) : x.cells.any AV.isD = true := by rw [Decl.cells_eq]; rfl
@[go_sem] theorem Decl.esOK_map (l : List Decl) : esOK 9 (l.map Decl.av) = true := esOK_of fun x => by show elOK 9 (.agg x.cells) = true; rw [elOK_agg, Decl.cells_len]; rfl
@[go_sem] theorem Decl.cellsOf_map (l : List Decl) : cellsOf 9 (l.map Decl.av) = l.flatMap Decl.cells := cellsOf_of (by decide) fun _ => rfl
@[go_sem] theorem Decl.chunk_flat (l : List Decl) (m : Nat) (hm : m = l.length) : chunk 9 m (l.flatMap Decl.cells) = l.map Decl.av := chunk_of (by decide) hm Decl.cells_len fun _ => rfl
@[go_sem] theorem Decl.refs_flat (l : List Decl) : refs (l.flatMap Decl.cells) = [] := refs_flat_of Decl.refs_cells l
@[go_sem] theorem Decl.len_flat (l : List Decl) : (l.flatMap Decl.cells).length = l.length * 9 := len_flat_of Decl.cells_len l
@[go_sem] theorem Decl.getr_flat (l : List Decl) (m : Nat) (hm : m = l.length * 9) : getr (l.flatMap Decl.cells) 0 m = some (l.flatMap Decl.cells) := getr_full (by rw [Decl.len_flat, hm])
inductive Stmt where
  | mk (kind : List UInt8) (pos : Int) (name : Ref) (a : Ex) (b : Ex) (c : Ex) (routes : List Ref) (block : Ref) (tag : Ref) (body : List Stmt) (els : List Stmt)
def Stmt.kind : Stmt → List UInt8
  | .mk v _ _ _ _ _ _ _ _ _ _ => v
def Stmt.pos : Stmt → Int
  | .mk _ v _ _ _ _ _ _ _ _ _ => v
def Stmt.name : Stmt → Ref
  | .mk _ _ v _ _ _ _ _ _ _ _ => v
def Stmt.a : Stmt → Ex
  | .mk _ _ _ v _ _ _ _ _ _ _ => v
def Stmt.b : Stmt → Ex
  | .mk _ _ _ _ v _ _ _ _ _ _ => v
def Stmt.c : Stmt → Ex
  | .mk _ _ _ _ _ v _ _ _ _ _ => v
def Stmt.routes : Stmt → List Ref
  | .mk _ _ _ _ _ _ v _ _ _ _ => v
def Stmt.block : Stmt → Ref
  | .mk _ _ _ _ _ _ _ v _ _ _ => v
def Stmt.tag : Stmt → Ref
  | .mk _ _ _ _ _ _ _ _ v _ _ => v
def Stmt.body : Stmt → List Stmt
  | .mk _ _ _ _ _ _ _ _ _ v _ => v
def Stmt.els : Stmt → List Stmt
  | .mk _ _ _ _ _ _ _ _ _ _ v => v
mutual
def Stmt.cells : Stmt → List AV
  | .mk kind pos name a b c routes block tag body els => ([.str kind, .int .i64 pos] ++ (name.cells ++ (a.cells ++ (b.cells ++ (c.cells ++ ([.dsl (routes.map Ref.av)] ++ (block.cells ++ (tag.cells ++ ([.dsl (Stmt.avs body), .dsl (Stmt.avs els)])))))))))
def Stmt.avs : List Stmt → List AV
  | [] => []
  | e :: r => .agg e.cells :: Stmt.avs r
end
@[go_sem] def Stmt.av (x : Stmt) : AV := .agg x.cells
theorem Stmt.avs_map : ∀ l, Stmt.avs l = l.map Stmt.av
  | [] => by simp [Stmt.avs]
  | e :: r => by rw [Stmt.avs, Stmt.avs_map r]; rfl
theorem Stmt.eta (x : Stmt) : x = .mk x.kind x.pos x.name x.a x.b x.c x.routes x.block x.tag x.body x.els := by cases x; rfl
theorem Stmt.cells_sub (x : Stmt) : x.cells = ([.str x.kind, .int .i64 x.pos] ++ (x.name.cells ++ (x.a.cells ++ (x.b.cells ++ (x.c.cells ++ ([.dsl (x.routes.map Ref.av)] ++ (x.block.cells ++ (x.tag.cells ++ ([.dsl (x.body.map Stmt.av), .dsl (x.els.map Stmt.av)]))))))))) := by
  cases x; simp only [Stmt.cells, Stmt.avs_map, Stmt.kind, Stmt.pos, Stmt.name, Stmt.a, Stmt.b, Stmt.c, Stmt.routes, Stmt.block, Stmt.tag, Stmt.body, Stmt.els]
theorem Stmt.cells_eq (x : Stmt) : x.cells = [.str x.kind, .int .i64 x.pos, .str x.name.name, .int .i64 x.name.pos, .str x.a.op, .int .i64 x.a.num, .str x.a.text, .int .i64 x.a.pos, .dsl (x.a.args.map Ex.av), .str x.b.op, .int .i64 x.b.num, .str x.b.text, .int .i64 x.b.pos, .dsl (x.b.args.map Ex.av), .str x.c.op, .int .i64 x.c.num, .str x.c.text, .int .i64 x.c.pos, .dsl (x.c.args.map Ex.av), .dsl (x.routes.map Ref.av), .str x.block.name, .int .i64 x.block.pos, .str x.tag.name, .int .i64 x.tag.pos, .dsl (x.body.map Stmt.av), .dsl (x.els.map Stmt.av)] := by
  rw [Stmt.cells_sub]; simp only [Ex.cells_eq, Ref.cells_eq,  List.cons_append, List.nil_append, List.append_nil]
@[go_sem] theorem Stmt.cells_mk (kind : List UInt8) (pos : Int) (name : Ref) (a : Ex) (b : Ex) (c : Ex) (routes : List Ref) (block : Ref) (tag : Ref) (body : List Stmt) (els : List Stmt) : (Stmt.mk kind pos name a b c routes block tag body els).cells = [.str kind, .int .i64 pos, .str name.name, .int .i64 name.pos, .str a.op, .int .i64 a.num, .str a.text, .int .i64 a.pos, .dsl (a.args.map Ex.av), .str b.op, .int .i64 b.num, .str b.text, .int .i64 b.pos, .dsl (b.args.map Ex.av), .str c.op, .int .i64 c.num, .str c.text, .int .i64 c.pos, .dsl (c.args.map Ex.av), .dsl (routes.map Ref.av), .str block.name, .int .i64 block.pos, .str tag.name, .int .i64 tag.pos, .dsl (body.map Stmt.av), .dsl (els.map Stmt.av)] := by rw [Stmt.cells_eq]; rfl
@[go_sem] theorem Stmt.cells_len (x : Stmt) : x.cells.length = 26 := by rw [Stmt.cells_eq]; rfl
@[go_sem] theorem Stmt.cells_ne (x : Stmt) : x.cells.isEmpty = false := by rw [Stmt.cells_eq]; rfl
@[go_sem] theorem Stmt.cells_0 (x : Stmt) : x.cells[0]? = some (.str x.kind) := by rw [Stmt.cells_eq]; rfl
@[go_sem] theorem Stmt.cells_1 (x : Stmt) : x.cells[1]? = some (.int .i64 x.pos) := by rw [Stmt.cells_eq]; rfl
@[go_sem] theorem Stmt.cells_2 (x : Stmt) : x.cells[2]? = some (.str x.name.name) := by rw [Stmt.cells_eq]; rfl
@[go_sem] theorem Stmt.cells_3 (x : Stmt) : x.cells[3]? = some (.int .i64 x.name.pos) := by rw [Stmt.cells_eq]; rfl
@[go_sem] theorem Stmt.cells_4 (x : Stmt) : x.cells[4]? = some (.str x.a.op) := by rw [Stmt.cells_eq]; rfl
@[go_sem] theorem Stmt.cells_5 (x : Stmt) : x.cells[5]? = some (.int .i64 x.a.num) := by rw [Stmt.cells_eq]; rfl
@[go_sem] theorem Stmt.cells_6 (x : Stmt) : x.cells[6]? = some (.str x.a.text) := by rw [Stmt.cells_eq]; rfl
@[go_sem] theorem Stmt.cells_7 (x : Stmt) : x.cells[7]? = some (.int .i64 x.a.pos) := by rw [Stmt.cells_eq]; rfl
@[go_sem] theorem Stmt.cells_8 (x : Stmt) : x.cells[8]? = some (.dsl (x.a.args.map Ex.av)) := by rw [Stmt.cells_eq]; rfl
@[go_sem] theorem Stmt.cells_9 (x : Stmt) : x.cells[9]? = some (.str x.b.op) := by rw [Stmt.cells_eq]; rfl
@[go_sem] theorem Stmt.cells_10 (x : Stmt) : x.cells[10]? = some (.int .i64 x.b.num) := by rw [Stmt.cells_eq]; rfl
@[go_sem] theorem Stmt.cells_11 (x : Stmt) : x.cells[11]? = some (.str x.b.text) := by rw [Stmt.cells_eq]; rfl
@[go_sem] theorem Stmt.cells_12 (x : Stmt) : x.cells[12]? = some (.int .i64 x.b.pos) := by rw [Stmt.cells_eq]; rfl
@[go_sem] theorem Stmt.cells_13 (x : Stmt) : x.cells[13]? = some (.dsl (x.b.args.map Ex.av)) := by rw [Stmt.cells_eq]; rfl
@[go_sem] theorem Stmt.cells_14 (x : Stmt) : x.cells[14]? = some (.str x.c.op) := by rw [Stmt.cells_eq]; rfl
@[go_sem] theorem Stmt.cells_15 (x : Stmt) : x.cells[15]? = some (.int .i64 x.c.num) := by rw [Stmt.cells_eq]; rfl
@[go_sem] theorem Stmt.cells_16 (x : Stmt) : x.cells[16]? = some (.str x.c.text) := by rw [Stmt.cells_eq]; rfl
@[go_sem] theorem Stmt.cells_17 (x : Stmt) : x.cells[17]? = some (.int .i64 x.c.pos) := by rw [Stmt.cells_eq]; rfl
@[go_sem] theorem Stmt.cells_18 (x : Stmt) : x.cells[18]? = some (.dsl (x.c.args.map Ex.av)) := by rw [Stmt.cells_eq]; rfl
@[go_sem] theorem Stmt.cells_19 (x : Stmt) : x.cells[19]? = some (.dsl (x.routes.map Ref.av)) := by rw [Stmt.cells_eq]; rfl
@[go_sem] theorem Stmt.cells_20 (x : Stmt) : x.cells[20]? = some (.str x.block.name) := by rw [Stmt.cells_eq]; rfl
@[go_sem] theorem Stmt.cells_21 (x : Stmt) : x.cells[21]? = some (.int .i64 x.block.pos) := by rw [Stmt.cells_eq]; rfl
@[go_sem] theorem Stmt.cells_22 (x : Stmt) : x.cells[22]? = some (.str x.tag.name) := by rw [Stmt.cells_eq]; rfl
@[go_sem] theorem Stmt.cells_23 (x : Stmt) : x.cells[23]? = some (.int .i64 x.tag.pos) := by rw [Stmt.cells_eq]; rfl
@[go_sem] theorem Stmt.cells_24 (x : Stmt) : x.cells[24]? = some (.dsl (x.body.map Stmt.av)) := by rw [Stmt.cells_eq]; rfl
@[go_sem] theorem Stmt.cells_25 (x : Stmt) : x.cells[25]? = some (.dsl (x.els.map Stmt.av)) := by rw [Stmt.cells_eq]; rfl
@[go_sem] theorem Stmt.getr_name (x : Stmt) : getr x.cells 2 2 = some x.name.cells := by rw [Stmt.cells_eq, Ref.cells_eq]; rfl
@[go_sem] theorem Stmt.getr_a (x : Stmt) : getr x.cells 4 5 = some x.a.cells := by rw [Stmt.cells_eq, Ex.cells_eq]; rfl
@[go_sem] theorem Stmt.getr_b (x : Stmt) : getr x.cells 9 5 = some x.b.cells := by rw [Stmt.cells_eq, Ex.cells_eq]; rfl
@[go_sem] theorem Stmt.getr_c (x : Stmt) : getr x.cells 14 5 = some x.c.cells := by rw [Stmt.cells_eq, Ex.cells_eq]; rfl
@[go_sem] theorem Stmt.getr_block (x : Stmt) : getr x.cells 20 2 = some x.block.cells := by rw [Stmt.cells_eq, Ref.cells_eq]; rfl
@[go_sem] theorem Stmt.getr_tag (x : Stmt) : getr x.cells 22 2 = some x.tag.cells := by rw [Stmt.cells_eq, Ref.cells_eq]; rfl
@[go_sem] theorem Stmt.getr_all (x : Stmt) : getr x.cells 0 26 = some x.cells := getr_full x.cells_len
@[go_sem] theorem Stmt.putr_cells (x : Stmt) (o v) : putr x.cells o v = putr [.str x.kind, .int .i64 x.pos, .str x.name.name, .int .i64 x.name.pos, .str x.a.op, .int .i64 x.a.num, .str x.a.text, .int .i64 x.a.pos, .dsl (x.a.args.map Ex.av), .str x.b.op, .int .i64 x.b.num, .str x.b.text, .int .i64 x.b.pos, .dsl (x.b.args.map Ex.av), .str x.c.op, .int .i64 x.c.num, .str x.c.text, .int .i64 x.c.pos, .dsl (x.c.args.map Ex.av), .dsl (x.routes.map Ref.av), .str x.block.name, .int .i64 x.block.pos, .str x.tag.name, .int .i64 x.tag.pos, .dsl (x.body.map Stmt.av), .dsl (x.els.map Stmt.av)] o v := by rw [Stmt.cells_eq]
@[go_sem 2000] theorem Stmt.putr_whole (x : Stmt) (c) (h : LenIs c 26) : putr c 0 x.cells = some x.cells := putr_all (by rw [Stmt.cells_len]; exact h)
@[go_sem 500] theorem Stmt.putr_val (x : Stmt) (c o) : putr c o x.cells = putr c o [.str x.kind, .int .i64 x.pos, .str x.name.name, .int .i64 x.name.pos, .str x.a.op, .int .i64 x.a.num, .str x.a.text, .int .i64 x.a.pos, .dsl (x.a.args.map Ex.av), .str x.b.op, .int .i64 x.b.num, .str x.b.text, .int .i64 x.b.pos, .dsl (x.b.args.map Ex.av), .str x.c.op, .int .i64 x.c.num, .str x.c.text, .int .i64 x.c.pos, .dsl (x.c.args.map Ex.av), .dsl (x.routes.map Ref.av), .str x.block.name, .int .i64 x.block.pos, .str x.tag.name, .int .i64 x.tag.pos, .dsl (x.body.map Stmt.av), .dsl (x.els.map Stmt.av)] := by rw [Stmt.cells_eq]
@[go_sem] theorem Stmt.deepA_cells (x : Stmt) (h n) : deepA (deep1 h n) x.cells = some (x.cells, []) := by rw [Stmt.cells_eq]; simp only [deepA, deep1_int, deep1_str, deep1_bool, deep1_dsl, Option.bnd, bindR, Option.bind_some, List.append_nil]
@[go_sem] theorem Stmt.refs_cells (x : Stmt) : refs x.cells = [] := by rw [Stmt.cells_eq]; rfl
@[go_sem] theorem Stmt.ren_cells (x : Stmt) (m) : x.cells.map (AV.ren1 m) = x.cells := by rw [Stmt.cells_eq]; rfl
@[go_sem] theorem Stmt.any_cells (x : Stmt) : x.cells.any AV.isD = true := by rw [Stmt.cells_eq]; rfl
@[go_sem] theorem Stmt.esOK_map (l : List Stmt) : esOK 26 (l.map Stmt.av) = true := esOK_of fun x => by show elOK 26 (.agg x.cells) = true; rw [elOK_agg, Stmt.cells_len]; rfl
@[go_sem] theorem Stmt.cellsOf_map (l : List Stmt) : cellsOf 26 (l.map Stmt.av) = l.flatMap Stmt.cells := cellsOf_of (by decide) fun _ => rfl
@[go_sem] theorem Stmt.chunk_flat (l : List Stmt) (m : Nat) (hm : m = l.length) : chunk 26 m (l.flatMap Stmt.cells) = l.map Stmt.av := chunk_of (by decide) hm Stmt.cells_len fun _ => rfl
@[go_sem] theorem Stmt.refs_flat (l : List Stmt) : refs (l.flatMap Stmt.cells) = [] := refs_flat_of Stmt.refs_cells l
@[go_sem] theorem Stmt.len_flat (l : List Stmt) : (l.flatMap Stmt.cells).length = l.length * 26 := len_flat_of Stmt.cells_len l
@[go_sem] theorem Stmt.getr_flat (l : List Stmt) (m : Nat) (hm : m = l.length * 26) : getr (l.flatMap Stmt.cells) 0 m = some (l.flatMap Stmt.cells) := getr_full (by rw [Stmt.len_flat, hm])
structure Source where
  decls : List Decl
  body : List Stmt
def Source.cells (x : Source) : List AV := [.dsl (x.decls.map Decl.av), .dsl (x.body.map Stmt.av)]
@[go_sem] def Source.av (x : Source) : AV := .agg x.cells
theorem Source.cells_sub (x : Source) : x.cells = [.dsl (x.decls.map Decl.av), .dsl (x.body.map Stmt.av)] := rfl
theorem Source.cells_eq (x : Source) : x.cells = [.dsl (x.decls.map Decl.av), .dsl (x.body.map Stmt.av)] := Source.cells_sub x
@[go_sem] theorem Source.cells_mk (decls : List Decl) (body : List Stmt) : (Source.mk decls body).cells = [.dsl (decls.map Decl.av), .dsl (body.map Stmt.av)] := Source.cells_eq _
@[go_sem] theorem Source.cells_len (x : Source) : x.cells.length = 2 := by rw [Source.cells_eq]; rfl
@[go_sem] theorem Source.cells_ne (x : Source) : x.cells.isEmpty = false := by rw [Source.cells_eq]; rfl
@[go_sem] theorem Source.cells_0 (x : Source) : x.cells[0]? = some (.dsl (x.decls.map Decl.av)) := by rw [Source.cells_eq]; rfl
@[go_sem] theorem Source.cells_1 (x : Source) : x.cells[1]? = some (.dsl (x.body.map Stmt.av)) := by rw [Source.cells_eq]; rfl
@[go_sem] theorem Source.getr_all (x : Source) : getr x.cells 0 2 = some x.cells := getr_full x.cells_len
@[go_sem] theorem Source.putr_cells (x : Source) (o v) : putr x.cells o v = putr [.dsl (x.decls.map Decl.av), .dsl (x.body.map Stmt.av)] o v := by rw [Source.cells_eq]
@[go_sem 2000] theorem Source.putr_whole (x : Source) (c) (h : LenIs c 2) : putr c 0 x.cells = some x.cells := putr_all (by rw [Source.cells_len]; exact h)
@[go_sem 500] theorem Source.putr_val (x : Source) (c o) : putr c o x.cells = putr c o [.dsl (x.decls.map Decl.av), .dsl (x.body.map Stmt.av)] := by rw [Source.cells_eq]
@[go_sem] theorem Source.deepA_cells (x : Source) (h n) : deepA (deep1 h n) x.cells = some (x.cells, []) := by rw [Source.cells_eq]; simp only [deepA, deep1_int, deep1_str, deep1_bool, deep1_dsl, Option.bnd, bindR, Option.bind_some, List.append_nil]
@[go_sem] theorem Source.refs_cells (x : Source) : refs x.cells = [] := by rw [Source.cells_eq]; rfl
@[go_sem] theorem Source.ren_cells (x : Source) (m) : x.cells.map (AV.ren1 m) = x.cells := by rw [Source.cells_eq]; rfl
@[go_sem] theorem Source.any_cells (x : Source) : x.cells.any AV.isD = true := by rw [Source.cells_eq]; rfl
@[go_sem] theorem Source.esOK_map (l : List Source) : esOK 2 (l.map Source.av) = true := esOK_of fun x => by show elOK 2 (.agg x.cells) = true; rw [elOK_agg, Source.cells_len]; rfl
@[go_sem] theorem Source.cellsOf_map (l : List Source) : cellsOf 2 (l.map Source.av) = l.flatMap Source.cells := cellsOf_of (by decide) fun _ => rfl
@[go_sem] theorem Source.chunk_flat (l : List Source) (m : Nat) (hm : m = l.length) : chunk 2 m (l.flatMap Source.cells) = l.map Source.av := chunk_of (by decide) hm Source.cells_len fun _ => rfl
@[go_sem] theorem Source.refs_flat (l : List Source) : refs (l.flatMap Source.cells) = [] := refs_flat_of Source.refs_cells l
@[go_sem] theorem Source.len_flat (l : List Source) : (l.flatMap Source.cells).length = l.length * 2 := len_flat_of Source.cells_len l
@[go_sem] theorem Source.getr_flat (l : List Source) (m : Nat) (hm : m = l.length * 2) : getr (l.flatMap Source.cells) 0 m = some (l.flatMap Source.cells) := getr_full (by rw [Source.len_flat, hm])
structure Token where
  kind : Int
  text : List UInt8
  num : Int
  pos : Int
def Token.cells (x : Token) : List AV := [.int .i64 x.kind, .str x.text, .int .i64 x.num, .int .i64 x.pos]
@[go_sem] def Token.av (x : Token) : AV := .agg x.cells
theorem Token.cells_sub (x : Token) : x.cells = [.int .i64 x.kind, .str x.text, .int .i64 x.num, .int .i64 x.pos] := rfl
theorem Token.cells_eq (x : Token) : x.cells = [.int .i64 x.kind, .str x.text, .int .i64 x.num, .int .i64 x.pos] := Token.cells_sub x
@[go_sem] theorem Token.cells_mk (kind : Int) (text : List UInt8) (num : Int) (pos : Int) : (Token.mk kind text num pos).cells = [.int .i64 kind, .str text, .int .i64 num, .int .i64 pos] := Token.cells_eq _
@[go_sem] theorem Token.cells_len (x : Token) : x.cells.length = 4 := by rw [Token.cells_eq]; rfl
@[go_sem] theorem Token.cells_ne (x : Token) : x.cells.isEmpty = false := by rw [Token.cells_eq]; rfl
@[go_sem] theorem Token.cells_0 (x : Token) : x.cells[0]? = some (.int .i64 x.kind) := by rw [Token.cells_eq]; rfl
@[go_sem] theorem Token.cells_1 (x : Token) : x.cells[1]? = some (.str x.text) := by rw [Token.cells_eq]; rfl
@[go_sem] theorem Token.cells_2 (x : Token) : x.cells[2]? = some (.int .i64 x.num) := by rw [Token.cells_eq]; rfl
@[go_sem] theorem Token.cells_3 (x : Token) : x.cells[3]? = some (.int .i64 x.pos) := by rw [Token.cells_eq]; rfl
@[go_sem] theorem Token.getr_all (x : Token) : getr x.cells 0 4 = some x.cells := getr_full x.cells_len
@[go_sem] theorem Token.putr_cells (x : Token) (o v) : putr x.cells o v = putr [.int .i64 x.kind, .str x.text, .int .i64 x.num, .int .i64 x.pos] o v := by rw [Token.cells_eq]
@[go_sem 2000] theorem Token.putr_whole (x : Token) (c) (h : LenIs c 4) : putr c 0 x.cells = some x.cells := putr_all (by rw [Token.cells_len]; exact h)
@[go_sem 500] theorem Token.putr_val (x : Token) (c o) : putr c o x.cells = putr c o [.int .i64 x.kind, .str x.text, .int .i64 x.num, .int .i64 x.pos] := by rw [Token.cells_eq]
@[go_sem] theorem Token.deepA_cells (x : Token) (h n) : deepA (deep1 h n) x.cells = some (x.cells, []) := by rw [Token.cells_eq]; simp only [deepA, deep1_int, deep1_str, deep1_bool, deep1_dsl, Option.bnd, bindR, Option.bind_some, List.append_nil]
@[go_sem] theorem Token.refs_cells (x : Token) : refs x.cells = [] := by rw [Token.cells_eq]; rfl
@[go_sem] theorem Token.ren_cells (x : Token) (m) : x.cells.map (AV.ren1 m) = x.cells := by rw [Token.cells_eq]; rfl
@[go_sem] theorem Token.any_cells (x : Token) : x.cells.any AV.isD = false := by rw [Token.cells_eq]; rfl
@[go_sem] theorem Token.esOK_map (l : List Token) : esOK 4 (l.map Token.av) = true := esOK_of fun x => by show elOK 4 (.agg x.cells) = true; rw [elOK_agg, Token.cells_len]; rfl
@[go_sem] theorem Token.cellsOf_map (l : List Token) : cellsOf 4 (l.map Token.av) = l.flatMap Token.cells := cellsOf_of (by decide) fun _ => rfl
@[go_sem] theorem Token.chunk_flat (l : List Token) (m : Nat) (hm : m = l.length) : chunk 4 m (l.flatMap Token.cells) = l.map Token.av := chunk_of (by decide) hm Token.cells_len fun _ => rfl
@[go_sem] theorem Token.refs_flat (l : List Token) : refs (l.flatMap Token.cells) = [] := refs_flat_of Token.refs_cells l
@[go_sem] theorem Token.len_flat (l : List Token) : (l.flatMap Token.cells).length = l.length * 4 := len_flat_of Token.cells_len l
@[go_sem] theorem Token.getr_flat (l : List Token) (m : Nat) (hm : m = l.length * 4) : getr (l.flatMap Token.cells) 0 m = some (l.flatMap Token.cells) := getr_full (by rw [Token.len_flat, hm])
structure Fault where
  err : Int
  pos : Int
def Fault.cells (x : Fault) : List AV := [.int .i64 x.err, .int .i64 x.pos]
@[go_sem] def Fault.av (x : Fault) : AV := .agg x.cells
theorem Fault.cells_sub (x : Fault) : x.cells = [.int .i64 x.err, .int .i64 x.pos] := rfl
theorem Fault.cells_eq (x : Fault) : x.cells = [.int .i64 x.err, .int .i64 x.pos] := Fault.cells_sub x
@[go_sem] theorem Fault.cells_mk (err : Int) (pos : Int) : (Fault.mk err pos).cells = [.int .i64 err, .int .i64 pos] := Fault.cells_eq _
@[go_sem] theorem Fault.cells_len (x : Fault) : x.cells.length = 2 := by rw [Fault.cells_eq]; rfl
@[go_sem] theorem Fault.cells_ne (x : Fault) : x.cells.isEmpty = false := by rw [Fault.cells_eq]; rfl
@[go_sem] theorem Fault.cells_0 (x : Fault) : x.cells[0]? = some (.int .i64 x.err) := by rw [Fault.cells_eq]; rfl
@[go_sem] theorem Fault.cells_1 (x : Fault) : x.cells[1]? = some (.int .i64 x.pos) := by rw [Fault.cells_eq]; rfl
@[go_sem] theorem Fault.getr_all (x : Fault) : getr x.cells 0 2 = some x.cells := getr_full x.cells_len
@[go_sem] theorem Fault.putr_cells (x : Fault) (o v) : putr x.cells o v = putr [.int .i64 x.err, .int .i64 x.pos] o v := by rw [Fault.cells_eq]
@[go_sem 2000] theorem Fault.putr_whole (x : Fault) (c) (h : LenIs c 2) : putr c 0 x.cells = some x.cells := putr_all (by rw [Fault.cells_len]; exact h)
@[go_sem 500] theorem Fault.putr_val (x : Fault) (c o) : putr c o x.cells = putr c o [.int .i64 x.err, .int .i64 x.pos] := by rw [Fault.cells_eq]
@[go_sem] theorem Fault.deepA_cells (x : Fault) (h n) : deepA (deep1 h n) x.cells = some (x.cells, []) := by rw [Fault.cells_eq]; simp only [deepA, deep1_int, deep1_str, deep1_bool, deep1_dsl, Option.bnd, bindR, Option.bind_some, List.append_nil]
@[go_sem] theorem Fault.refs_cells (x : Fault) : refs x.cells = [] := by rw [Fault.cells_eq]; rfl
@[go_sem] theorem Fault.ren_cells (x : Fault) (m) : x.cells.map (AV.ren1 m) = x.cells := by rw [Fault.cells_eq]; rfl
@[go_sem] theorem Fault.any_cells (x : Fault) : x.cells.any AV.isD = false := by rw [Fault.cells_eq]; rfl
@[go_sem] theorem Fault.esOK_map (l : List Fault) : esOK 2 (l.map Fault.av) = true := esOK_of fun x => by show elOK 2 (.agg x.cells) = true; rw [elOK_agg, Fault.cells_len]; rfl
@[go_sem] theorem Fault.cellsOf_map (l : List Fault) : cellsOf 2 (l.map Fault.av) = l.flatMap Fault.cells := cellsOf_of (by decide) fun _ => rfl
@[go_sem] theorem Fault.chunk_flat (l : List Fault) (m : Nat) (hm : m = l.length) : chunk 2 m (l.flatMap Fault.cells) = l.map Fault.av := chunk_of (by decide) hm Fault.cells_len fun _ => rfl
@[go_sem] theorem Fault.refs_flat (l : List Fault) : refs (l.flatMap Fault.cells) = [] := refs_flat_of Fault.refs_cells l
@[go_sem] theorem Fault.len_flat (l : List Fault) : (l.flatMap Fault.cells).length = l.length * 2 := len_flat_of Fault.cells_len l
@[go_sem] theorem Fault.getr_flat (l : List Fault) (m : Nat) (hm : m = l.length * 2) : getr (l.flatMap Fault.cells) 0 m = some (l.flatMap Fault.cells) := getr_full (by rw [Fault.len_flat, hm])
end Sh
