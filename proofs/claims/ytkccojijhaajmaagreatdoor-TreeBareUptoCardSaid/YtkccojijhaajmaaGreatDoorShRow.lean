/-
From the interpreter to a row: what is read in a world that has only grown.
-/
import Derived.Test.YtkccojijhaajmaaGreatDoorShLim
import Derived.ChangeSame
set_option linter.unusedSimpArgs false
set_option linter.unusedVariables false
set_option linter.unusedSectionVars false
set_option linter.unusedSimpArgs false
namespace Sh
open Go

section
variable {H : Type} {enc : TypeId × Value → H} {P : Program} {w w' : World}

theorem mapM_le {α β : Type} {f g : α → Option β} : ∀ (l : List α), (∀ x, Le (f x) (g x)) → Le (l.mapM f) (l.mapM g)
  | [], _ => fun r hr => by simpa using hr
  | x :: l, h => fun r hr => by
    rw [List.mapM_cons] at hr ⊢
    simp only [bind, Option.bind_eq_some_iff, pure, Option.some.injEq] at hr ⊢
    obtain ⟨a, h1, b, h2, h3⟩ := hr
    exact ⟨a, h x a h1, b, mapM_le l h b h2, h3⟩

theorem bind_le {α β : Type} {x y : Option α} {f g : α → Option β} (h1 : Le x y) (h2 : ∀ a, Le (f a) (g a)) : Le (x.bind f) (y.bind g) := fun r hr => by
  rw [Option.bind_eq_some_iff] at hr ⊢
  obtain ⟨a, g1, g2⟩ := hr
  exact ⟨a, h1 a g1, h2 a r g2⟩

theorem map_le {α β : Type} {x y : Option α} {f : α → β} (h1 : Le x y) : Le (x.map f) (y.map f) := fun r hr => by
  rw [Option.map_eq_some_iff] at hr ⊢
  obtain ⟨a, g1, g2⟩ := hr
  exact ⟨a, h1 a g1, g2⟩

theorem cells_le (hb : ∀ g, g < w.heap.size → w'.heap[g]? = w.heap[g]?) (base : Nat) (a : Addr) (n : Nat) : Le (w.cells? base a n) (w'.cells? base a n) := by
  unfold World.cells?
  split
  · refine mapM_le _ fun i v hv => ?_
    have hl := World.block_lt_of_cell? w (a := a.add i) hv
    unfold World.cell? at hv ⊢
    rw [hb _ hl]
    exact hv
  · exact Le.refl _

theorem trod_le (hb : ∀ g, g < w.heap.size → w'.heap[g]? = w.heap[g]?) {base : Nat} {spare : Nat → Bool} {held : Bool} : ∀ (n : Nat) (t : TypeId) (cs : List Value), Le (DataW.trod enc P w base spare held n t cs) (DataW.trod enc P w' base spare held n t cs) := by
  intro n
  induction n with
  | zero => intro t cs r hr; simp [DataW.trod] at hr
  | succ n ih =>
    intro t cs
    unfold DataW.trod
    split
    case h_6 e a => exact map_le (bind_le (cells_le hb _ _ _) fun cs => ih _ cs)
    case h_8 e a len cap =>
      dsimp only
      split
      · refine bind_le (mapM_le _ fun i => bind_le (cells_le hb _ _ _) fun cs => ih _ cs) fun elems => map_le ?_
        split
        · exact mapM_le _ fun j => bind_le (cells_le hb _ _ _) fun cs => ih _ cs
        · exact Le.refl _
      · exact Le.refl _
    case h_9 fs cs =>
      split
      · exact map_le (mapM_le _ fun f => ih _ _)
      · exact Le.refl _
    case h_10 m e cs =>
      split
      · exact map_le (mapM_le _ fun f => ih _ _)
      · exact Le.refl _
    case h_12 =>
      split
      · exact Le.refl _
      · exact map_le (ih _ _)
      · exact Le.refl _
    case h_14 b _ =>
      rcases Nat.lt_or_ge b w.heap.size with hl | hl
      · rw [hb _ hl]
        split
        · split
          · refine bind_le (mapM_le _ fun x => bind_le (Le.refl _) fun key => ?_) fun _ => Le.refl _
            split
            · exact map_le (ih _ _)
            · exact Le.refl _
          · exact Le.refl _
        · exact Le.refl _
      · rw [Array.getElem?_eq_none hl]
        intro r hr
        cases hr
    all_goals exact Le.refl _

theorem trodAll_ext (hb : ∀ g, g < w.heap.size → w'.heap[g]? = w.heap[g]?) {base : Nat} {spare : Nat → Bool} {held : Bool} : ∀ {ts : List TypeId} {vs : List Value} {ds : List (DataW H)} {ps : List MemPlace},
    DataW.TrodAll enc P w base spare held ts vs ds ps → DataW.TrodAll enc P w' base spare held ts vs ds ps
  | [], [], [], _, h => h
  | _ :: _, _ :: _, _ :: _, _, ⟨p, q, ⟨n, h⟩, hs, e⟩ => ⟨p, q, ⟨n, trod_le hb n _ _ _ h⟩, trodAll_ext hb hs, e⟩

/-- A LAW's CALL: it returns what the interpreter says; no block that was there is turned. -/
theorem law_calls {cx : Ctx} (hcx : CtxOK cx) {f : FuncId} {fn : Func} {args : List AV} {b : Bool} {hh : Heap} (hr : acall cx f args [] = some (.bool b, hh)) (hf : cx.P.funcs[f]? = some fn) (hb : fn.body.isNone = false) {vals : Array Value}
    (hargs : RL (RV (fun _ => False) (fun _ => False) (fun _ => 0) w) args vals.toList) :
    Calls cx.P f vals w fun e w' => e = .returned (.bool b) ∧ Grow w w' ∧ ∀ g, g < w.heap.size → w'.heap[g]? = w.heap[g]? := by
  have hs := acall_sound hcx f args [] _ hr (fun _ => False) (fun _ => 0) w vals
    ⟨fun i b h => by simp [hget] at h, fun i j bi bj h => by simp [hget] at h, fun i b h => by simp [hget] at h, fun i b h => by simp [hget] at h, fun i b h => by simp [hget] at h, fun i b T h => by simp [hget] at h, fun g h => h.elim⟩
    (hargs.imp fun a u _ h => h.mono (fun g _ hx => by
      rcases hx with hx | ⟨i, b, h, _⟩
      · exact hx
      · simp [hget] at h) (fun _ _ _ => rfl) (Grow.refl w) (fun _ h => h.elim))
  have key : ∀ v w', (∃ ι', HR (fun _ => False) (· < hh.length) ι' w' (hget hh) ∧ RV (XL (fun _ => False) ι' (hget hh)) (· < hh.length) ι' w' (.bool b) v ∧ Chg (· < ([] : Heap).length) (fun _ => 0) w (hget []) (· < hh.length) ι' w' (hget hh) ∧ ([] : Heap).length ≤ hh.length) →
      Ending.returned v = .returned (.bool b) ∧ Grow w w' ∧ ∀ g, g < w.heap.size → w'.heap[g]? = w.heap[g]? := fun v w' ⟨ι', _, h2, h3, _⟩ => by
    refine ⟨by rw [rv_bool h2], h3.grow, fun g hg => h3.keep g hg fun i b h => by simp [hget] at h⟩
  rcases hs with ⟨_, hc⟩ | ⟨v, w', hrun, hR⟩
  · refine hc.mono fun e w' he => ?_
    cases e with
    | returned v => exact key v w' he
    | panicked => exact he.elim
    | outgrown => exact he.elim
  · exfalso
    obtain ⟨_, hname⟩ := hcx.dst f fn (fn.body.get (by cases hbb : fn.body <;> simp_all)) hf (by simp)
    have : (callFunc f vals).run cx.P w = .ok (.enter f vals) w := by
      unfold callFunc
      simp only [Sem.run_bind, run_program, Result.andThen_ok, hf]
      rw [if_neg (by simpa using hname), if_neg (by simp [hb])]
      rfl
    rw [this] at hrun
    cases hrun

theorem keptBut_of (hg : Grow w w') (hb : ∀ g, g < w.heap.size → w'.heap[g]? = w.heap[g]?) (may : MemPlace → Prop) : w.keptBut w' may := by
  refine ⟨hg.os, hg.output, fun i hi => ?_⟩
  rw [hb i hi]
  cases h : w.heap[i]? with
  | none => rfl
  | some o =>
    cases o <;> first | rfl | exact ⟨rfl, rfl, rfl, fun _ _ => rfl⟩ | exact .inr ⟨rfl, rfl⟩

/-- each place lies in a block that may be walked to its capacity -/
def SpOK (sp : Nat → Bool) (ps : List MemPlace) : Prop := ∀ p ∈ ps, sp p.block = true

theorem mapM_sp {α β : Type} {sp : Nat → Bool} {f g : α → Option (β × List MemPlace)} : ∀ (l : List α) (rs : List (β × List MemPlace)), (∀ x r, x ∈ l → f x = some r → SpOK sp r.2 → g x = some r) → l.mapM f = some rs → SpOK sp (rs.flatMap (·.2)) → l.mapM g = some rs
  | [], rs, _, h, _ => by simpa using h
  | x :: l, rs, h, hm, hs => by
    rw [List.mapM_cons] at hm ⊢
    simp only [bind, Option.bind_eq_some_iff, pure, Option.some.injEq] at hm ⊢
    obtain ⟨a, h1, b, h2, rfl⟩ := hm
    refine ⟨a, h x a (by simp) h1 (fun p hp => hs p ?_), b, mapM_sp l b (fun y r hy => h y r (List.mem_cons_of_mem _ hy)) h2 (fun p hp => hs p ?_), rfl⟩
    · simp [hp]
    · simp only [List.flatMap_cons, List.mem_append]; exact .inr hp

/-- types that hold only such types, and no slice of elements without cells -/
def Closes (P : Program) (S : TypeId → Bool) : Prop := ∀ t, S t = true → match P.underlying t with
  | some (.slice e) => P.cellsOf e ≠ 0 ∧ S e = true
  | some (.pointer e) => S e = true
  | some (.struct fs) => ∀ f ∈ fs.toList, S f.type = true
  | some (.array _ e) => S e = true
  | some (.map _ e) => S e = true
  | _ => True

theorem trod_sp {S : TypeId → Bool} (hz : Closes P S) {base : Nat} {sp : Nat → Bool} : ∀ (n : Nat) (t : TypeId) (cs : List Value) (r : DataW H × List MemPlace), S t = true →
    DataW.trod enc P w base (fun _ => true) true n t cs = some r → SpOK sp r.2 → DataW.trod enc P w base sp true n t cs = some r := by
  intro n
  induction n with
  | zero => intro t cs r hSt hr; simp [DataW.trod] at hr
  | succ n ih =>
    intro t cs r hSt hr hs
    have hcl := hz t hSt
    unfold DataW.trod at hr ⊢
    split at hr
    case h_6 hu =>
      rw [hu] at hcl
      rw [Option.map_eq_some_iff] at hr ⊢
      obtain ⟨x, h1, rfl⟩ := hr
      rw [Option.bind_eq_some_iff] at h1
      obtain ⟨c, h2, h3⟩ := h1
      exact ⟨x, by rw [Option.bind_eq_some_iff]; exact ⟨c, h2, ih _ _ _ hcl h3 (fun p hp => hs p (List.mem_append_right _ hp))⟩, rfl⟩
    case h_8 e a len cap hu =>
      rw [hu] at hcl
      dsimp only at hr ⊢
      split at hr
      · rename_i hc
        rw [if_pos hc]
        rw [Option.bind_eq_some_iff] at hr ⊢
        obtain ⟨elems, h1, h2⟩ := hr
        rw [Option.map_eq_some_iff] at h2
        obtain ⟨rest, h3, rfl⟩ := h2
        dsimp only at hs
        have hel : ∀ (f : Nat → Nat) i x, (Option.bind (w.cells? base (a.add (f i * P.cellsOf e)) (P.cellsOf e)) (DataW.trod enc P w base (fun _ => true) true n e)) = some x → SpOK sp x.2 → (Option.bind (w.cells? base (a.add (f i * P.cellsOf e)) (P.cellsOf e)) (DataW.trod enc P w base sp true n e)) = some x := fun f i x hx hsx => by
          rw [Option.bind_eq_some_iff] at hx ⊢
          obtain ⟨c, g1, g2⟩ := hx
          exact ⟨c, g1, ih _ _ _ hcl.2 g2 hsx⟩
        refine ⟨elems, mapM_sp _ _ (fun i x _ => hel id i x) h1 (fun p hp => hs p (List.mem_append_right _ (by rw [List.flatMap_append]; exact List.mem_append_left _ hp))), ?_⟩
        rw [Option.map_eq_some_iff]
        refine ⟨rest, ?_, rfl⟩
        simp only [if_true] at h3
        have hr2 := mapM_sp _ _ (fun j x _ => hel (fun j => len + j) j x) h3 (fun p hp => hs p (List.mem_append_right _ (by rw [List.flatMap_append]; exact List.mem_append_right _ hp)))
        by_cases hsp : sp a.block = true
        · rw [if_pos hsp]; exact hr2
        · rw [if_neg hsp]
          have h0 : (elems.length + rest.length) * P.cellsOf e = 0 := by
            rcases Nat.eq_zero_or_pos ((elems.length + rest.length) * P.cellsOf e) with h | h
            · exact h
            · exfalso
              refine hsp (hs (.cell a.block (a.off + 0)) (List.mem_append_left _ ?_))
              exact List.mem_map.2 ⟨0, List.mem_range.2 h, rfl⟩
          have h1 : elems.length + rest.length = 0 := by
            rcases Nat.mul_eq_zero.1 h0 with h | h
            · exact h
            · exact absurd h hcl.1
          have h2 : rest = [] := List.length_eq_zero_iff.1 (by omega)
          rw [h2]
      · cases hr
    case h_9 cs fs hu =>
      rw [hu] at hcl
      split at hr
      · rename_i hc
        rw [if_pos hc]
        rw [Option.map_eq_some_iff] at hr ⊢
        obtain ⟨x, h1, rfl⟩ := hr
        exact ⟨x, mapM_sp _ _ (fun f r hm hf hsf => ih _ _ _ (hcl f hm) hf hsf) h1 hs, rfl⟩
      · cases hr
    case h_10 hu =>
      rw [hu] at hcl
      split at hr
      · rename_i hc
        rw [if_pos hc]
        rw [Option.map_eq_some_iff] at hr ⊢
        obtain ⟨x, h1, rfl⟩ := hr
        exact ⟨x, mapM_sp _ _ (fun f r _ hf hsf => ih _ _ _ hcl hf hsf) h1 hs, rfl⟩
      · cases hr
    case h_12 => exact hr
    case h_14 k e b hu =>
      rw [hu] at hcl
      split at hr
      · rename_i es clock hes
        simp only [hes]
        split at hr
        · rename_i hc
          rw [if_pos hc]
          rw [Option.bind_eq_some_iff] at hr ⊢
          obtain ⟨entries, h1, h2⟩ := hr
          dsimp only at h2 ⊢
          split at h2
          · rename_i hri
            refine ⟨entries, mapM_sp _ _ (fun x r _ hx hsx => ?_) h1 (fun p hp => hs p ?_), by rw [if_pos hri]; exact h2⟩
            · rw [Option.bind_eq_some_iff] at hx ⊢
              obtain ⟨key, g1, g2⟩ := hx
              refine ⟨key, g1, ?_⟩
              split at g2
              · rename_i hfm
                rw [if_pos hfm]
                rw [Option.map_eq_some_iff] at g2 ⊢
                obtain ⟨y, g3, rfl⟩ := g2
                exact ⟨y, ih _ _ _ hcl g3 hsx, rfl⟩
              · cases g2
            · cases h2
              exact List.mem_cons_of_mem _ hp
          · cases h2
        · cases hr
      · cases hr
    all_goals first
      | exact hr
      | cases hr

theorem trodAll_sp {S : TypeId → Bool} (hz : Closes P S) {base : Nat} {sp : Nat → Bool} : ∀ {ts : List TypeId} {vs : List Value} {ds : List (DataW H)} {ps : List MemPlace},
    (∀ t ∈ ts, S t = true) → DataW.TrodAll enc P w base (fun _ => true) true ts vs ds ps → SpOK sp ps → DataW.TrodAll enc P w base sp true ts vs ds ps
  | [], [], [], _, _, h, _ => h
  | _ :: _, _ :: _, _ :: _, _, hS, ⟨p, q, ⟨n, h⟩, hs, e⟩, hsp => ⟨p, q, ⟨n, trod_sp hz n _ _ _ (hS _ (by simp)) h (fun x hx => hsp x (by rw [e]; exact List.mem_append_left _ hx))⟩,
      trodAll_sp hz (fun t ht => hS t (List.mem_cons_of_mem _ ht)) hs (fun x hx => hsp x (by rw [e]; exact List.mem_append_right _ hx)), e⟩

/-- A LAW's POST. -/
theorem post_law {S : TypeId → Bool} (hz : Closes P S) {f : Func} (hS : ∀ t ∈ f.params.toList, S t = true) {s : ChangeSpec} {apart fresh handsOn : Bool} {args : Array Value} {ds gs : List (DataW H)} {before : List MemPlace} {T : TypeId}
    (hW : DataW.Whole enc P f.params.toList s.vars apart w args.toList ds gs before) (hsv : s.vars = []) (hfn : s.fn H ds = { results := [.lit (.bool true)], args := ds }) (hrt : f.resultTypes = #[T]) (hT : P.underlying T = some .bool)
    (hg : Grow w w') (hb : ∀ g, g < w.heap.size → w'.heap[g]? = w.heap[g]?) : s.post enc P f apart fresh handsOn false w args (.bool true) w' := by
  have hW' := hW
  obtain ⟨p, q, hA, hV, rfl, hfz, hnd⟩ := hW
  rw [hsv] at hV
  have hgq : gs = [] ∧ q = [] := by
    cases gs with
    | nil => exact ⟨rfl, hV⟩
    | cons g gs => exact hV.elim
  obtain ⟨rfl, rfl⟩ := hgq
  have hlt : ∀ x ∈ p, x.block < w.heap.size := fun x hx => hW'.lt x (List.mem_append_left _ hx)
  refine ⟨ds, [], p ++ [], [], p, [], hW', ?_, ?_, ?_, keptBut_of hg hb _, fun h => by cases h⟩
  · rw [List.append_nil, hfn, hrt]
    exact ⟨[], [], ⟨1, by simp [DataW.trod, hT, Value.cells, Value.resultList]⟩, rfl, rfl⟩
  · rw [List.append_nil, hfn]
    exact trodAll_sp hz hS (trodAll_ext hb hA) (fun x hx => by simpa using hlt x hx)
  · rw [hsv, List.append_nil, hfn]
    rfl
end
end Sh
