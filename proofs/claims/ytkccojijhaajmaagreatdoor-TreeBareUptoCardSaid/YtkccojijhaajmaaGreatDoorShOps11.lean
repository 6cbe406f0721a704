/-
The operations, one by one: appends, copies.
-/
import Derived.Test.YtkccojijhaajmaaGreatDoorShOps10
import Derived.Room.FrozenHead
set_option linter.unusedSimpArgs false
set_option linter.unusedVariables false
set_option linter.unusedSectionVars false
set_option linter.unusedSimpArgs false
namespace Sh
open Go

section
variable {P : Program} {X0 A : Nat → Prop} {ι : Nat → Nat} {w : World} {H : Nat → Option Blk} {t t' : Fr} {h : Heap} {a : Act} {base : Nat} {e : Eff} {dst : Option Tmp} {ty : TypeId} {pos : String} {af : Array Edge} {gd : Option (Nat × Bool)}

theorem appOK_some (w : World) {T U : TypeId} (h : appOK (lay P T) (lay P U) (lay P (lay P T).et).zero = true) : ∃ el i z d, P.underlying T = some (.slice el) ∧ P.info? el = some i ∧ i.zero = some z ∧ z.cells.size = i.size ∧
    (lay P T).es = i.size ∧ (lay P T).eb = i.bytes ∧ 0 < i.bytes ∧ 0 < i.size ∧ P.underlying U = some d ∧ (∀ k, d ≠ .int k) ∧ ((∃ e', P.underlying U = some (.slice e')) ∨ P.underlying U = some .string) := by
  simp only [appOK, Bool.and_eq_true, decide_eq_true_eq, Bool.or_eq_true] at h
  obtain ⟨⟨⟨⟨h1, h2⟩, h3⟩, h4⟩, h5⟩ := h
  obtain ⟨el, hu, hie, hes⟩ := lay_slice h1
  have het : (lay P T).et = el := by unfold lay; simp only [hu]
  have heb : (lay P T).eb = ((P.info? el).map (·.bytes)).getD 0 := by unfold lay; simp only [hu]
  obtain ⟨i, hi⟩ := Option.isSome_iff_exists.1 hie
  rw [hi] at hes heb
  simp only [Option.map_some, Option.getD_some] at hes heb
  rw [het, lay_zero, hi] at h5
  simp only [Option.bind_some, Option.any_map] at h5
  obtain ⟨z, hz, h6⟩ : ∃ z, i.zero = some z ∧ ((ofVal z).cells.any fun c => c.length == (lay P T).es) = true := by
    cases hz : i.zero with
    | none => simp [hz] at h5
    | some z => exact ⟨z, rfl, by simpa [hz] using h5⟩
  have hzs : z.cells.size = i.size := by
    cases hc : (ofVal z).cells with
    | none => simp [hc] at h6
    | some c =>
      have := ((rv_ofVal (X := fun _ => False) (A := fun _ => False) (ι := id) (w := w) z).cells hc).1
      simp [hc] at h6 this
      omega
  refine ⟨el, i, z, ?_⟩
  rcases h4 with h4 | h4
  · obtain ⟨e', hu', _⟩ := lay_slice h4
    exact ⟨_, hu, hi, hz, hzs, hes, heb, by omega, by omega, hu', (fun k e => by cases e), .inl ⟨e', hu'⟩⟩
  · exact ⟨_, hu, hi, hz, hzs, hes, heb, by omega, by omega, lay_string h4, (fun k e => by cases e), .inr (lay_string h4)⟩

/-- a source of cells -/
structure SrcR (P : Program) (w : World) (H : Nat → Option Blk) (ι : Nat → Nat) (X A : Nat → Prop) (size : Nat) (tx : TypeId) (x : Value) (n : Nat) (c : List AV) (news : List Value) (rd : List Nat) : Prop where
  src : Src P size tx x n news w
  len : Builtin.lenOf x = Sem.pure n
  rel : RL (RC X A ι w) c news
  ref : refs c = []
  num : c.length = n * size
  pre : ∀ m, m ≤ n → (Builtin.firstCells size m x).run P w = .ok (news.take (m * size)).toArray w
  share : n = 0 ∨ (∃ s, x = .string s) ∨ ∃ b o k, x = .slice (some ⟨b, o, none⟩) n k ∧ Room.holdsV w ⟨b, o, none⟩ (n * size) = true ∧ ∀ i bl, i ∉ rd → H i = some bl → ι i ≠ b

theorem holdsV_range {g o n : Nat} {vs : List Value} (h : w.rangeAt g o vs) (hl : vs.length = n) (h0 : 0 < n) : Room.holdsV w ⟨g, o, none⟩ n = true := by
  refine holdsV_of_last (w := w) g o n h0 ?_ n (Nat.le_refl _)
  obtain ⟨u, hu⟩ : ∃ u, vs[n - 1]? = some u := ⟨_, List.getElem?_eq_getElem (by omega)⟩
  rw [h _ _ hu]
  rfl

theorem src_slice {size : Nat} {tx : TypeId} (hk : (∃ e', P.underlying tx = some (.slice e')) ∨ P.underlying tx = some .string) {b o : Nat} (n c : Nat) (news : List Value) (hl : news.length = n * size) (hr : w.rangeAt b o news)
    (h1 : ∀ u ∈ news, u.oneCell' = true) : Src P size tx (.slice (some ⟨b, o, none⟩) n c) n news w :=
  ⟨hk, fun _ => rfl, run_firstCells_some w size n ⟨b, o, none⟩ n c news hl (fun j u hu => by rw [Addr.add_mid]; exact hr j u hu),
    run_firstCells_some w.drew size n ⟨b, o, none⟩ n c news hl (fun j u hu => by rw [Addr.add_mid]; exact hr j u hu), hl, h1⟩

theorem src_pre {size b o n k : Nat} {news : List Value} (hl : news.length = n * size) (hr : w.rangeAt b o news) (m : Nat) (hm : m ≤ n) :
    (Builtin.firstCells size m (.slice (some ⟨b, o, none⟩) n k)).run P w = .ok (news.take (m * size)).toArray w :=
  run_firstCells_some w size m ⟨b, o, none⟩ n k (news.take (m * size)) (by rw [List.length_take, hl]; exact Nat.min_eq_left (Nat.mul_le_mul_right _ hm)) (fun j u hu => by
    rw [Addr.add_mid]
    rw [List.getElem?_take] at hu
    split at hu
    · exact hr j u hu
    · cases hu)

theorem src_of {size : Nat} {tx : TypeId} {x : AV} {xv : Value} {c : List AV} {rd : List Nat} (hs : HR X0 A ι w H) (hx : RV (XL X0 ι H) A ι w x xv) (hk : (∃ e', P.underlying tx = some (.slice e')) ∨ P.underlying tx = some .string)
    (hc : srcCells h size x = some (c, rd)) (h0 : 0 < size) (hrd : ∀ i ∈ rd, H i = hget h i) :
    ∃ n news, SrcR P w H ι (XL X0 ι H) A size tx xv n c news rd := by
  unfold srcCells at hc
  cases x <;> simp only [reduceCtorEq] at hc
  case str s =>
    split at hc
    · rename_i h1
      subst h1
      cases hc
      have hv := rv_str hx
      subst hv
      have hsz : (⟨s.toArray⟩ : ByteArray).size = s.length := by simp [ByteArray.size]
      refine ⟨s.length, byteCells ⟨s.toArray⟩, ⟨⟨hk, fun _ => by rw [← hsz]; rfl, by rw [← hsz]; exact firstCells_string _ w, by rw [← hsz]; exact firstCells_string _ w.drew, by rw [byteCells_length, hsz, Nat.mul_one], fun u hu => by obtain ⟨_, _, rfl⟩ := List.mem_map.1 hu; rfl⟩, by rw [← hsz]; rfl, ⟨by rw [byteCells_length, hsz]; simp, fun j a u ha hu => ?_⟩, refs_u8 s, by simp, fun m hm => ?_, .inr (.inl ⟨_, rfl⟩)⟩⟩
      · obtain ⟨b, hb, rfl⟩ := u8_get _ ha
        simp only [byteCells, List.getElem?_map, hb, Option.map_some, Option.some.injEq] at hu
        subst hu
        exact .deep (.int _ _)
      · simp only [Builtin.firstCells, Sem.run_pure, Nat.mul_one, byteCells]
        congr 1
        apply Array.ext'
        simp [List.extract_eq_take_drop, List.map_take]
    · cases hc
  case nils =>
    cases hc
    have hv := rv_nils hx
    subst hv
    exact ⟨0, [], ⟨⟨hk, fun _ => rfl, run_firstCells_none w size 0 0 0, run_firstCells_none w.drew size 0 0 0, by simp, by simp⟩, rfl, RL.nil _, rfl, by simp, fun m hm => by simpa using run_firstCells_none w size m 0 0, .inl rfl⟩⟩
  case dsl xs =>
    split at hc
    · rename_i hes
      cases hc
      obtain ⟨ao, cap, hv, hle, hne⟩ := dsl_src hx hes
      subst hv
      have hlen := cellsOf_len hes
      by_cases hx0 : xs = []
      · subst hx0
        have hnl : cellsOf size [] = [] := List.length_eq_zero_iff.1 (by simpa using hlen)
        refine ⟨0, [], ⟨⟨hk, fun _ => rfl, ?_, ?_, by simp, by simp⟩, rfl, by rw [hnl]; exact RL.nil _, by rw [hnl]; rfl, by rw [hnl]; simp, fun m hm => ?_, .inl rfl⟩⟩
        · cases ao with
          | none => exact run_firstCells_none w size 0 0 cap
          | some ad => exact run_firstCells_some w size 0 ad 0 cap [] (by simp) (by intro _ _ h'; simp at h')
        · cases ao with
          | none => exact run_firstCells_none w.drew size 0 0 cap
          | some ad => exact run_firstCells_some w.drew size 0 ad 0 cap [] (by simp) (by intro _ _ h'; simp at h')
        · obtain rfl : m = 0 := by omega
          cases ao with
          | none => simpa using run_firstCells_none w size 0 0 cap
          | some ad => simpa using run_firstCells_some w size 0 ad 0 cap [] (by simp) (by intro _ _ h'; simp at h')
      · obtain ⟨b, o, hao, hX, vs, hR, hrange⟩ := hne hx0
        subst hao
        have hvl : vs.length = xs.length * size := by rw [← hR.1, hlen]
        have hpos : 0 < xs.length * size := Nat.mul_pos (List.length_pos_iff.2 hx0) h0
        refine ⟨xs.length, vs, ⟨src_slice hk xs.length cap vs hvl hrange (fun u hu => ?_), rfl, hR.imp fun _ _ _ h => .deep h, refs_nil_of fun v hv => ?_, hlen, src_pre hvl hrange, .inr (.inr ⟨b, o, cap, rfl, holdsV_range hrange hvl hpos, fun i bl _ hi e => hX ?_⟩)⟩⟩
        · obtain ⟨j, hj⟩ := List.mem_iff_getElem?.1 hu
          have hjl : j < (cellsOf size xs).length := by rw [hR.1]; exact (List.getElem?_eq_some_iff.1 hj).1
          exact (hR.2 j _ u (List.getElem?_eq_getElem hjl) hj).one
        · obtain ⟨j, hj⟩ := List.mem_iff_getElem?.1 hv
          obtain ⟨u, _, hr⟩ := hR.ex hj
          cases hr <;> rfl
        · exact .inr ⟨i, bl, hi, trivial, e⟩
    · cases hc
  case lsl j o m cap es' =>
    split at hc
    · rename_i hes
      subst hes
      obtain ⟨b, hb, hc1⟩ := bnd_some hc
      obtain ⟨c', hg, hc2⟩ := bnd_some hc1
      cases hl : b.leaf <;> rw [hl] at hc2 <;> simp only [reduceCtorEq, Option.some.injEq, Prod.mk.injEq] at hc2
      obtain ⟨rfl, rfl⟩ := hc2
      have hH : H j = some b := by rw [hrd j (by simp), hb]
      obtain ⟨g1, g2, g3, g4⟩ := getr_some hg
      obtain ⟨ao, cp, hv, ha, hcap, hnc, hsl⟩ := rv_lsl hx
      subst hv
      obtain ⟨vs, hR, hrange⟩ := range_of (w := w) (R := RC (XL X0 ι H) A ι w) (g := ι j) (o := o) (c := c') (fun k x hx => by
        rw [g4 k] at hx
        split at hx
        · exact hs.cellAt hH (o + k) x hx
        · cases hx)
      have hvl : vs.length = m * es' := by rw [← hR.1, g3]
      have href : refs c' = [] := refs_nil_of fun v hv => by
        rw [g2] at hv
        exact refs_mem (hs.leaf j b hH hl) (List.mem_of_mem_drop (List.mem_of_mem_take hv))
      have hone : ∀ u ∈ vs, u.oneCell' = true := fun u hu => by
        obtain ⟨k, hk⟩ := List.mem_iff_getElem?.1 hu
        have hkl : k < c'.length := by rw [hR.1]; exact (List.getElem?_eq_some_iff.1 hk).1
        exact (hR.2 k _ u (List.getElem?_eq_getElem hkl) hk).one
      by_cases hm : m = 0
      · subst hm
        have hc0 : c' = [] := List.length_eq_zero_iff.1 (by simpa using g3)
        subst hc0
        refine ⟨0, [], ⟨⟨hk, fun _ => rfl, ?_, ?_, by simp, by simp⟩, rfl, RL.nil _, rfl, by simp, fun m hm => ?_, .inl rfl⟩⟩
        · cases ao with
          | none => exact run_firstCells_none w es' 0 0 cp
          | some ad => exact run_firstCells_some w es' 0 ad 0 cp [] (by simp) (by intro _ _ h'; simp at h')
        · cases ao with
          | none => exact run_firstCells_none w.drew es' 0 0 cp
          | some ad => exact run_firstCells_some w.drew es' 0 ad 0 cp [] (by simp) (by intro _ _ h'; simp at h')
        · obtain rfl : m = 0 := by omega
          cases ao with
          | none => simpa using run_firstCells_none w es' 0 0 cp
          | some ad => simpa using run_firstCells_some w es' 0 ad 0 cp [] (by simp) (by intro _ _ h'; simp at h')
      · rcases hsl with ⟨hc0, rfl⟩ | ⟨o', rfl, ho', E, N, h4, h5⟩
        · omega
        · obtain rfl := ho' (by omega)
          have hpos : 0 < m * es' := Nat.mul_pos (by omega) h0
          refine ⟨m, vs, ⟨src_slice hk m cp vs hvl hrange hone, rfl, hR, href, g3, src_pre hvl hrange, .inr (.inr ⟨ι j, o', cp, rfl, holdsV_range hrange hvl hpos, fun i bl hi hbl e => ?_⟩)⟩⟩
          have := hs.inj i j bl b hbl hH trivial trivial e
          subst this
          exact hi (by simp)
    · cases hc

theorem share_of {size sLen n : Nat} {tx : TypeId} {x : Value} {c : List AV} {news : List Value} {rd : List Nat} {X : Nat → Prop} (hs : SrcR P w H ι X A size tx x n c news rd) (hn : n ≠ 0) (ao : Option Addr)
    (hb : ∀ ad, ao = some ad → Room.holdsV w ad (sLen * size) = true ∧ w.frozen? (ad.add (sLen / 2 * size)) = false ∧ ∃ i bl, i ∉ rd ∧ H i = some bl ∧ ad.block = ι i) :
    (Builtin.mayShare size sLen n ao x).runT P w #[] = (.ok false w, #[]) := by
  rcases hs.share with h | ⟨s, rfl⟩ | ⟨b, o, k, rfl, h1, h2⟩
  · exact absurd h hn
  · exact runT_mayShare_string w size sLen n ao s fun ad had => by obtain ⟨g1, g2, _⟩ := hb ad had; exact ⟨g1, g2⟩
  · cases ao with
    | none =>
      simp [-Sem.runT_eq, Builtin.mayShare, Room.Sem.bind_def, Room.Sem.runT_bind, Room.runT_holdsCells', Room.Sem.runT_pure', h1]
    | some ad =>
      obtain ⟨g1, g2, i, bl, g3, g4, g5⟩ := hb ad rfl
      exact runT_mayShare_apart w size sLen n ad ⟨b, o, none⟩ k g1 g2 h1 (by rw [g5]; exact h2 i bl g3 g4)

theorem shape_cell {g N j : Nat} {E : TypeId} (h : w.shape? g = some (E, N)) (hj : j < N) : (w.cell? ⟨g, j, none⟩).isSome = true := by
  unfold World.shape? at h
  unfold World.cell?
  cases hb : w.heap[g]? with
  | none => simp [hb] at h
  | some o =>
    cases o <;> simp [hb] at h
    obtain ⟨_, rfl⟩ := h
    simp [hj]

/-- AN APPEND THAT FINDS ROOM. -/
theorem append_in {T U el : TypeId} {i : TypeInfo} (ht : P.underlying T = some (.slice el)) (hi : P.info? el = some i) {g o sLen sCap : Nat} {ao : Option Addr} (hsl : SlOK w g o sCap i.size ao)
    {X : Nat → Prop} {x : Value} {n : Nat} {c : List AV} {news : List Value} {rd : List Nat} (hs : SrcR P w H ι X A i.size U x n c news rd) (hroom : sLen + n ≤ sCap) (hfz : ao ≠ none → ∀ j E N, w.shape? g = some (E, N) → j < N → w.frozen? ⟨g, j, none⟩ = false) :
    (Builtin.append_ #[T, U] ty #[.slice ao sLen sCap, x]).run P w = .ok (.slice ao (sLen + n) sCap) (w.setCells g (o + sLen * i.size) news) := by
  have hnl := hs.src.newsLen
  rcases hsl with ⟨h0, rfl⟩ | ⟨o', rfl, ho', E, N, h4, h5⟩
  · have hn0 : n = 0 := by omega
    subst hn0
    have : news = [] := List.length_eq_zero_iff.1 (by simpa using hnl)
    subst this
    have hroom' : sLen ≤ sCap := hroom
    rcases hs.src.kind with ⟨e', hk⟩ | hk <;> simp [Builtin.append_, run_underlying ht, run_underlying hk, Go.sizeOf, typeInfo, hi, hs.src.len, hroom', hs.src.cells, World.setCells]
  · have hmul : sLen * i.size + n * i.size ≤ sCap * i.size := by rw [← Nat.add_mul]; exact Nat.mul_le_mul_right _ hroom
    have hrun := run_append_room_src (P := P) w T U ty el i ht hi g o' sLen sCap x n news hs.src hroom (fun j hj => shape_cell h4 (by omega)) (fun j hj => by
      exact hfz (by simp) _ E N h4 (by omega))
    by_cases hc0 : sCap = 0
    · have hn0 : n = 0 := by omega
      subst hn0
      have : news = [] := List.length_eq_zero_iff.1 (by simpa using hnl)
      subst this
      exact hrun
    · rw [ho' hc0] at hrun ⊢
      exact hrun

/-- AN APPEND THAT FINDS NONE. -/
theorem append_out {T U el : TypeId} {i : TypeInfo} {z : Value} (ht : P.underlying T = some (.slice el)) (hi : P.info? el = some i) (hz : i.zero = some z) (hzs : z.cells.size = i.size) (hb0 : 0 < i.bytes)
    {g o sLen sCap : Nat} {ao : Option Addr} (hsl : SlOK w g o sCap i.size ao) (hle : sLen ≤ sCap) {olds : List Value} (hol : olds.length = sLen * i.size) (hold : sLen ≠ 0 → w.rangeAt g o olds)
    {X : Nat → Prop} {x : Value} {n : Nat} {c : List AV} {news : List Value} {rd : List Nat} (hs : SrcR P w H ι X A i.size U x n c news rd)
    (hg : sCap < sLen + n) (hfit : (sLen + n) * i.bytes ≤ 140737488355328) :
    (∃ cp Z, sLen + n ≤ cp ∧ cp * i.size = ((olds ++ news).toArray ++ Z).size ∧ (Builtin.append_ #[T, U] ty #[.slice ao sLen sCap, x]).run P w = .ok (.slice (some ⟨w.heap.size, 0, none⟩) (sLen + n) cp) (w.drew.alloc (.cells ((olds ++ news).toArray ++ Z) el))) := by
  have hp : Builtin.nextslicecap (sLen + n) sCap * i.bytes ≤ 281474976710656 := growslice_fits hg hfit
  · have hnb : (sLen + n) * i.bytes ≤ 281474976710656 := Nat.le_trans (Nat.mul_le_mul_right _ (le_nextslicecap (by omega))) hp
    have h63 : ((sLen + n : Nat) : Int) ≤ 9223372036854775807 := by
      have : sLen + n ≤ (sLen + n) * i.bytes := Nat.le_mul_of_pos_right _ hb0
      omega
    have hfc : (Builtin.firstCells i.size sLen (.slice ao sLen sCap)).run P w.drew = .ok olds.toArray w.drew := by
      by_cases h0 : sLen = 0
      · subst h0
        have : olds = [] := List.length_eq_zero_iff.1 (by simpa using hol)
        subst this
        cases ao with
        | none => exact run_firstCells_none w.drew i.size 0 0 sCap
        | some ad => exact run_firstCells_some w.drew i.size 0 ad 0 sCap [] (by simp) (by intro _ _ h'; simp at h')
      · rcases hsl with ⟨h0', rfl⟩ | ⟨o', rfl, ho', _⟩
        · omega
        · obtain rfl := ho' (by omega)
          exact run_firstCells_some w.drew i.size sLen ⟨g, o', none⟩ sLen sCap olds hol (fun j u hu => by rw [Addr.add_mid]; exact hold h0 j u hu)
    refine ⟨grownCap w (sLen + n) sCap el, Builtin.zeroCells z.cells (grownCap w (sLen + n) sCap el - (sLen + n)), grownCap_ge w (sLen + n) sCap el, ?_, run_append_grow_src (P := P) w T U ty el i z ht hi hz ao sLen sCap olds hfc x n news hs.src hg h63 hp⟩
    have hge := grownCap_ge w (sLen + n) sCap el
    have hnl := hs.src.newsLen
    simp only [Builtin.zeroCells, Array.size_append, List.size_toArray, List.length_append, Array.size_map, Array.size_range, hzs, hol, hnl]
    rw [← Nat.add_mul, ← Nat.add_mul]
    congr 1; omega

/-- A block is given up besides. -/
theorem OK.kill {v : AV} {rd : List Nat} {i : Nat} {b : Blk} {o : Oper} (hi : i ≠ base) (hs : SR X0 A ι w H t' a)
    (h : SR X0 A ι w (Sh.kill H i) t' a → OK P X0 A ι w (Sh.kill H i) t' a o base { v := v, rd := rd, new := [some b] }) : OK P X0 A ι w H t' a o base { v := v, rd := rd, wr := [(i, none)], new := [some b] } := by
  intro K Q hK
  refine h ⟨hs.hr.kill i, fun j => (hs.fr j).mono (fun g _ => xl_kill) (fun _ _ _ => rfl) (Grow.refl w) (fun _ h => ⟨h, rfl⟩)⟩ K Q fun A' ι' w' a' h1 h2 h3 h4 h5 => ?_
  rw [upd_new] at h1 h2
  refine hK A' ι' w' a' (by rw [upd_move _ _ _ _ hi]; exact h1) (by rw [upd_move _ _ _ _ hi]; exact (Chg.kill A ι w H i).trans h2) h3 h4 h5

theorem refs_of_rd {X : Nat → Prop} {c : List AV} {vs : List Value} (h : RL (RD X w) c vs) : refs c = [] := refs_nil_of fun v hv => by
  obtain ⟨j, hj⟩ := List.mem_iff_getElem?.1 hv
  obtain ⟨u, _, hr⟩ := h.ex hj
  cases hr <;> rfl

/-- the room that an append makes -/
theorem ok_grown {T U el : TypeId} {x y : Operand} {n m cp es : Nat} {oldc c : List AV} {olds news : List Value} {Z : Array Value} {rd : List Nat} (hs : SR X0 A ι w H t' a) (hd : ∀ d, dst = some d → d < a.tmps.size) (hn : ¬ A base)
    (hrun : (Builtin.append_ #[T, U] ty #[a.eval x, a.eval y]).run P w = .ok (.slice (some ⟨w.heap.size, 0, none⟩) (n + m) cp) (w.drew.alloc (.cells ((olds ++ news).toArray ++ Z) el)))
    (h1 : n + m ≤ cp) (h2 : cp * es = ((olds ++ news).toArray ++ Z).size) (ho : RL (RC (XL X0 ι H) A ι w) oldc olds) (hc : RL (RC (XL X0 ι H) A ι w) c news) (hro : refs oldc = []) (hrc : refs c = []) {tg : Option TypeId} (htg : ∀ T, tg = some T → T = el) :
    OK P X0 A ι w H t' a ⟨dst, .call ⟨.builtin .append, #[x, y], #[T, U]⟩, ty, pos, af, gd⟩ base { v := .lsl base 0 (n + m) none es, rd := rd, new := [some ⟨oldc ++ c, true, true, tg⟩] } := by
  have hl := (ho.append hc).1
  refine ok_newSlice (cap := none) (es := es) hs hd hn (C := (olds ++ news).toArray ++ Z) (E := el) (f := (0, 0)) (c := cp) (w' := w.drew.alloc (.cells ((olds ++ news).toArray ++ Z) el)) ?_ ((Grow.drew w).trans (Grow.alloc _ _)) (fun k hk => alloc_old w.drew _ k hk) (alloc_new w.drew _)
    ⟨?_, by simp, fun j _ hj => by simp at hj, fun j v hv => ?_, fun _ => by rw [refs_append, hro, hrc]; rfl⟩ (by simp) h1 (Nat.le_of_eq h2) (.inr rfl) htg
  · simp [execOp, resolve, invoke, builtin, hrun]
  · simp at hl ⊢; omega
  · obtain ⟨u, hu, hr⟩ := (ho.append hc).ex hv
    refine ⟨u, ?_, hr⟩
    have : j < (olds ++ news).toArray.size := by simpa using (List.getElem?_eq_some_iff.1 hu).1
    rw [Array.getElem?_append_left this]
    simpa using hu

theorem keepT_some {et : TypeId} {o : Option TypeId} {T : TypeId} (h : keepT et o = some T) : T = et ∧ o = some T := by
  unfold keepT at h; split at h
  · split at h
    · rename_i he; cases h; exact ⟨he, rfl⟩
    · cases h
  · cases h
theorem tagS_some {eb et T : Nat} (h : tagS eb et = some T) : T = et := by
  unfold tagS at h; split at h
  · cases h; rfl
  · cases h

theorem fresh_some {es eb n : Nat} {tg : Option TypeId} {c old : List AV} {rd : List Nat} {wr : List (Nat × Option Blk)} (h : freshE base es eb tg c old n rd wr = some e) : (n + c.length / es) * eb ≤ 140737488355328 ∧
    e = { v := .lsl base 0 (n + c.length / es) none es, rd := rd, wr := wr, new := [some ⟨old ++ c, true, true, tg⟩] } := by
  unfold freshE at h
  cases hd : decide ((n + c.length / es) * eb ≤ 140737488355328) <;> rw [hd] at h
  · cases h
  · exact ⟨of_decide_eq_true hd, (Option.some.inj h).symm⟩

theorem ok_append {T U : TypeId} {x y : Operand} (hs : SR X0 A ι w H t' a) (hd : ∀ d, dst = some d → d < a.tmps.size) (hn : e.new ≠ [] → ¬ A base) (hx : XR P X0 A ι w H a t x) (hy : XR P X0 A ι w H a t y) (hrd : ∀ i ∈ e.rd, H i = hget h i)
    (he : (match appOK (lay P T) (lay P U) (lay P (lay P T).et).zero with
          | true => aappend h base (lay P T).es (lay P T).eb (lay P T).et (opv t x) (opv t y)
          | false => none) = some e) : OK P X0 A ι w H t' a ⟨dst, .call ⟨.builtin .append, #[x, y], #[T, U]⟩, ty, pos, af, gd⟩ base e := by
  unfold XR at hx hy
  split at he
  case h_2 => cases he
  rename_i hok
  obtain ⟨el, i, z, d, ht, hi, hz, hzs, hes, heb, hb0, hs0, htx, hdi, hk⟩ := appOK_some w hok
  rw [hes, heb] at he
  have het : (lay P T).et = el := by unfold lay; simp only [ht]
  unfold aappend at he
  obtain ⟨⟨c, rd⟩, hsrc, he1⟩ := bnd_some he
  clear he
  dsimp only at he1
  cases hx2 : opv t x <;> rw [hx2] at he1 hx <;> try (simp at he1; done)
  case nils =>
    have hv := rv_nils hx
    dsimp only at he1
    cases c with
    | nil =>
      have he2 : some ({ v := .nils, rd := rd } : Eff) = some e := he1
      cases he2
      obtain ⟨n, news, hS⟩ := src_of hs.hr hy hk hsrc hs0 hrd
      have hn0 : n = 0 := by
        have := hS.num
        rcases Nat.mul_eq_zero.1 this.symm with h | h
        · exact h
        · omega
      subst hn0
      have : news = [] := List.length_eq_zero_iff.1 (by simpa using hS.src.newsLen)
      subst this
      have hrun := append_in (P := P) (ty := ty) ht hi (g := 0) (o := 0) (sLen := 0) (sCap := 0) (ao := none) (.inl ⟨rfl, rfl⟩) hS (Nat.le_refl _) (fun h => absurd rfl h)
      refine ok_pure hs hd (u := .slice none 0 0) ?_ (RV.ofC (.deep .nils))
      simp only [World.setCells, Nat.add_zero] at hrun
      simp [execOp, resolve, invoke, builtin, hv, hrun]
    | cons c0 c =>
      obtain ⟨hfit, he2⟩ := fresh_some (show freshE base i.size i.bytes (tagS i.bytes (lay P T).et) (c0 :: c) [] 0 rd [] = some e from he1)
      subst he2
      obtain ⟨n, news, hS⟩ := src_of hs.hr hy hk hsrc hs0 hrd
      have hn0 : 0 < n := by
        have := hS.num
        rcases Nat.eq_zero_or_pos n with h | h
        · rw [h] at this; simp at this
        · exact h
      rw [hS.num, Nat.mul_div_cancel _ hs0] at hfit ⊢
      rcases append_out (P := P) (ty := ty) ht hi hz hzs hb0 (g := 0) (o := 0) (sLen := 0) (sCap := 0) (ao := none) (.inl ⟨rfl, rfl⟩) (Nat.le_refl _) (olds := []) (by simp) (fun h => absurd rfl h) hS (by omega) hfit with ⟨cp, Z, h1, h2, hrun⟩
      · exact ok_grown hs hd (hn (by simp)) (by rw [hv]; exact hrun) h1 h2 (RL.nil _) hS.rel rfl hS.ref (fun T' h => (tagS_some h).trans het)
  case lsl k o n cap es' =>
    dsimp only at he1
    split at he1
    case isFalse => cases he1
    rename_i hes'
    subst hes'
    obtain ⟨b, hb, he2⟩ := bnd_some he1
    clear he1
    cases hlf : b.leaf <;> rw [hlf] at he2
    · simp at he2
    obtain ⟨ao, cp, hv, ha, hcap, hnc, hsl⟩ := rv_lsl hx
    cases cap with
    | some cap =>
      have hcp : cp = cap := hcap cap rfl
      subst hcp
      dsimp only at he2
      by_cases hroom : n + c.length / i.size ≤ cp
      · rw [decide_eq_true hroom] at he2
        obtain ⟨c', hp, he3⟩ := bnd_some (show ((putr b.c (o + n * i.size) c).bnd fun c' => some ({ v := .lsl k o (n + c.length / i.size) (some cp) i.size, rd := k :: rd, wr := [(k, some ⟨c', b.op, true, b.ty⟩)] } : Eff)) = some e from he2)
        cases he3
        obtain ⟨m, news, hS⟩ := src_of hs.hr hy hk hsrc hs0 (fun j hj => hrd j (List.mem_cons_of_mem _ hj))
        rw [hS.num, Nat.mul_div_cancel _ hs0] at hroom ⊢
        have hH : H k = some b := by rw [hrd k (by simp), hb]
        obtain ⟨E, N, h1, h2, h3, h4, h5⟩ := hs.hr.blk k b hH trivial
        have hrun := append_in (P := P) (ty := ty) ht hi hsl hS hroom (fun _ j E' N' hsh hj => h4 j (by rw [h1] at hsh; cases hsh; exact hj))
        have hbe : ({ b with c := c' } : Blk) = ⟨c', b.op, true, b.ty⟩ := by rw [← hlf]
        refine ok_write hs hd (u := .slice ao (n + m) cp) (x := .value (.slice ao (n + m) cp)) (by simp [execOp, resolve, invoke, builtin, hv, hrun]) (.inl rfl) hH trivial (Grow.setCells _ _ _ _) (fun j _ hj => setCells_block _ _ _ _ _ hj)
          ((Grow.setCells _ _ _ w).shape _ _ h1) (hbe ▸ fits_put h2 h3 h1 h4 h5 hp hS.rel fun hl => refs_put hp (hs.hr.leaf k b hH hl) hS.ref) rfl (RV.ofC (.lsl _ _ _ _ _ _ _ ha (fun k hk => by simpa using hk) hroom hsl))
      · rw [decide_eq_false hroom] at he2
        have he3 : (match rd.contains k with | true => none | false => (getr b.c o (n * i.size)).bnd fun old => freshE base i.size i.bytes (keepT (lay P T).et b.ty) c old n (k :: rd) []) = some e := he2
        cases hct : rd.contains k <;> rw [hct] at he3
        · obtain ⟨old, hold, he4⟩ := bnd_some he3
          obtain ⟨hfit, he5⟩ := fresh_some he4
          subst he5
          obtain ⟨m, news, hS⟩ := src_of hs.hr hy hk hsrc hs0 (fun j hj => hrd j (List.mem_cons_of_mem _ hj))
          rw [hS.num, Nat.mul_div_cancel _ hs0] at hroom hfit ⊢
          have hH : H k = some b := by rw [hrd k (by simp), hb]
          obtain ⟨g1, g2, g3, g4⟩ := getr_some hold
          obtain ⟨olds, hoR, horng⟩ := range_of (w := w) (R := RC (XL X0 ι H) A ι w) (g := ι k) (o := o) (c := old) (fun j x hx => by
            rw [g4 j] at hx
            split at hx
            · exact hs.hr.cellAt hH (o + j) x hx
            · cases hx)
          have hro : refs old = [] := refs_nil_of fun v hv => by
            rw [g2] at hv
            exact refs_mem (hs.hr.leaf k b hH hlf) (List.mem_of_mem_drop (List.mem_of_mem_take hv))
          have hnk : k ∉ rd := by simpa using hct
          rcases append_out (P := P) (ty := ty) ht hi hz hzs hb0 hsl hnc (olds := olds) (by rw [← hoR.1, g3]) (fun _ => horng) hS (by omega) hfit with ⟨cp', Z, h1, h2, hrun⟩
          · exact ok_grown hs hd (hn (by simp)) (by rw [hv]; exact hrun) h1 h2 hoR hS.rel hro hS.ref (fun T' h => (keepT_some h).1.trans het)
        · cases he3
    | none =>
      dsimp only at he2
      have he3 : (match b.op && (o == 0) && (b.c.length == n * i.size) && !(rd.contains k) with | true => freshE base i.size i.bytes (keepT (lay P T).et b.ty) c b.c n (k :: rd) [(k, none)] | false => none) = some e := he2
      split at he3
      case h_2 => cases he3
      rename_i hcond
      simp only [Bool.and_eq_true, beq_iff_eq, Bool.not_eq_true'] at hcond
      obtain ⟨⟨⟨hop, rfl⟩, hbl⟩, hct⟩ := hcond
      obtain ⟨hfit, he5⟩ := fresh_some he3
      subst he5
      obtain ⟨m, news, hS⟩ := src_of hs.hr hy hk hsrc hs0 (fun j hj => hrd j (List.mem_cons_of_mem _ hj))
      have hH : H k = some b := by rw [hrd k (by simp), hb]
      have hnk : k ∉ rd := by simpa using hct
      obtain ⟨E, N, h1, h2, h3, h4, h5⟩ := hs.hr.blk k b hH trivial
      have hkb : k ≠ base := fun e => hn (by simp) (e ▸ hs.hr.num k b hH)
      have hro : refs b.c = [] := hs.hr.leaf k b hH hlf
      rw [hS.num, Nat.mul_div_cancel _ hs0] at hfit ⊢
      by_cases hroom : n + m ≤ cp
      · have hrun := append_in (P := P) (ty := ty) ht hi hsl hS hroom (fun _ j E' N' hsh hj => h4 j (by rw [h1] at hsh; cases hsh; exact hj))
        have hnl := hS.src.newsLen
        have hrl := hS.rel.1
        have hmul : n * i.size + m * i.size ≤ cp * i.size := by rw [← Nat.add_mul]; exact Nat.mul_le_mul_right _ hroom
        have hfitN : b.c.length + news.length ≤ N := by
          rcases hsl with ⟨h0, _⟩ | ⟨o', _, ho', E', N', h6, h7⟩
          · rw [h0] at hmul; simp at hmul; omega
          · rw [h1] at h6
            simp only [Option.some.injEq, Prod.mk.injEq] at h6
            obtain ⟨_, rfl⟩ := h6
            omega
        have hF : FitsAt ⟨b.c ++ c, true, true, keepT (lay P T).et b.ty⟩ (w.setCells (ι k) (0 + n * i.size) news) (ι k) N (RC (XL X0 ι H) A ι w) := by
          refine ⟨by simp; omega, by simp, fun j hj => by rw [World.frozen?_setCells]; exact h4 j hj, fun j v hv => ?_, fun _ => by rw [refs_append, hro, hS.ref]; rfl⟩
          simp only [Nat.zero_add]
          simp only [List.getElem?_append] at hv
          split at hv
          · obtain ⟨u, hu, hR⟩ := h5 j v hv
            exact ⟨u, by rw [World.cell?_setCells_out (ι k) news (n * i.size) w _ (fun _ _ => .inl (by simp; omega))]; exact hu, hR⟩
          · rename_i hlt
            obtain ⟨u, hu, hR⟩ := hS.rel.ex hv
            have hj : j - b.c.length < news.length := (List.getElem?_eq_some_iff.1 hu).1
            refine ⟨u, ?_, hR⟩
            have := World.cell?_setCells_in (ι k) news (n * i.size) w (fun j hj => shape_cell h1 (by omega)) (j - b.c.length) hj
            rw [show n * i.size + (j - b.c.length) = j by omega] at this
            rw [this, ← List.getElem?_eq_getElem hj, hu]
        obtain ⟨m1, m2, m3⟩ := hs.hr.move (hn (by simp)) hH trivial (Grow.setCells (ι k) news (0 + n * i.size) w) (fun j _ hj => setCells_block _ _ _ _ _ hj) ((Grow.setCells (ι k) news (0 + n * i.size) w).shape _ _ h1) hF (fun T h => (keepT_some h).2)
        intro K Q hK
        unfold Oper.wp
        have hr : (execOp a.eval (⟨dst, .call ⟨.builtin .append, #[x, y], #[T, U]⟩, ty, pos, af, gd⟩ : Oper)).run P w = .ok (.value (.slice ao (n + m) cp)) (w.setCells (ι k) (0 + n * i.size) news) := by
          simp [execOp, resolve, invoke, builtin, hv, hrun]
        rw [hr, Oper.upon_value]
        refine hK _ _ _ _ ⟨by rw [upd_move _ _ _ _ hkb]; exact m1, fun j => ?_⟩ (by rw [upd_move _ _ _ _ hkb]; exact m2) (fun i => by simp only [addN, List.length_cons, List.length_nil]; constructor <;> (intro h; rcases h with h | h <;> first | exact .inl h | exact .inr (by omega))) (put_defers _ _) (put_size _ _)
        rw [upd_move _ _ _ _ hkb]
        refine fr_put (fun j => m3 _ _ (hs.fr j)) (RV.ofC (.lsl _ _ _ _ _ _ _ (.inr rfl) (by simp) hroom ?_)) hd j
        rw [setN_same]
        exact hsl.grow (Grow.setCells (ι k) news (0 + n * i.size) w)
      · obtain ⟨olds, hoR, horng⟩ := range_of (w := w) (R := RC (XL X0 ι H) A ι w) (g := ι k) (o := 0) (c := b.c) (fun j x hx => by rw [Nat.zero_add]; exact h5 j x hx)
        rcases append_out (P := P) (ty := ty) ht hi hz hzs hb0 hsl hnc (olds := olds) (by rw [← hoR.1, hbl]) (fun _ => horng) hS (by omega) hfit with ⟨cp', Z, g1, g2, hrun⟩
        · refine OK.kill hkb hs fun hs' => ?_
          have hmono : ∀ {a u}, RC (XL X0 ι H) A ι w a u → RC (XL X0 ι (kill H k)) A ι w a u := fun h => h.mono (fun _ _ => xl_kill) (fun _ _ _ => rfl) (Grow.refl w) (fun _ h => ⟨h, rfl⟩)
          exact ok_grown hs' hd (hn (by simp)) (by rw [hv]; exact hrun) g1 g2 (hoR.imp fun _ _ _ h => hmono h) (hS.rel.imp fun _ _ _ h => hmono h) hro hS.ref (fun T' h => (keepT_some h).1.trans het)

theorem ok_copy {T U : TypeId} {x y : Operand} (hs : SR X0 A ι w H t' a) (hd : ∀ d, dst = some d → d < a.tmps.size) (hx : XR P X0 A ι w H a t x) (hy : XR P X0 A ι w H a t y) (hrd : ∀ i ∈ e.rd, H i = hget h i)
    (he : (match appOK (lay P T) (lay P U) (lay P (lay P T).et).zero with
          | true => acopy h (lay P T).es (opv t x) (opv t y)
          | false => none) = some e) : OK P X0 A ι w H t' a ⟨dst, .call ⟨.builtin .copy, #[x, y], #[T, U]⟩, ty, pos, af, gd⟩ base e := by
  unfold XR at hx hy
  split at he
  case h_2 => cases he
  rename_i hok
  obtain ⟨el, i, z, d, ht, hi, hz, hzs, hes, heb, hb0, hs0, htx, hdi, hk⟩ := appOK_some w hok
  rw [hes] at he
  unfold acopy at he
  cases hx2 : opv t x <;> rw [hx2] at he hx <;> try (simp at he; done)
  case nils =>
    have hv := rv_nils hx
    obtain ⟨⟨c, rd⟩, hsrc, he1⟩ := bnd_some he
    cases he1
    obtain ⟨m, news, hS⟩ := src_of hs.hr hy hk hsrc hs0 hrd
    refine ok_pure hs hd (u := .int .i64 0) ?_ (RV.ofC (.deep (.int _ _)))
    have hp := hS.pre 0 (Nat.zero_le _)
    simp [execOp, resolve, invoke, builtin, hv, Builtin.copy_, run_underlying ht, hS.src.len, Go.sizeOf, typeInfo, hi, hp, goInt]
  case lsl k o n cap es' =>
    dsimp only at he
    split at he
    case isFalse => cases he
    rename_i hes'
    subst hes'
    obtain ⟨⟨c, rd⟩, hsrc, he1⟩ := bnd_some he
    obtain ⟨b, hb, he2⟩ := bnd_some he1
    clear he he1
    dsimp only at he2
    split at he2
    case h_2 => cases he2
    rename_i hfit
    obtain ⟨c', hp, he3⟩ := bnd_some he2
    cases he3
    obtain ⟨ao, cp, hv, ha, hcap, hnc, hsl⟩ := rv_lsl hx
    obtain ⟨m, news, hS⟩ := src_of hs.hr hy hk hsrc hs0 (fun j hj => hrd j (List.mem_cons_of_mem _ hj))
    rw [hS.num, Nat.mul_div_cancel _ hs0] at hp ⊢
    have hH : H k = some b := by rw [hrd k (by simp), hb]
    obtain ⟨E, N, h1, h2, h3, h4, h5⟩ := hs.hr.blk k b hH trivial
    have hpre := hS.pre (min m n) (Nat.min_le_left _ _)
    have hnl := hS.src.newsLen
    have hRt := hS.rel.take (min m n * i.size)
    have hone : ∀ u ∈ news.take (min m n * i.size), u.oneCell' = true := fun u hu => hS.src.one u (List.mem_of_mem_take hu)
    obtain ⟨p1, _, _, _⟩ := putr_some hp
    have hlt : (news.take (min m n * i.size)).length = (c.take (min m n * i.size)).length := hRt.1.symm
    have hrun : (Builtin.copy_ #[T, U] ty #[.slice ao n cp, a.eval y]).run P w = .ok (goInt (min m n : Nat)) (w.setCells (ι k) o (news.take (min m n * i.size))) := by
      rcases hsl with ⟨h0, rfl⟩ | ⟨o', rfl, ho', E', N', h6, h7⟩
      · have hn0 : n = 0 := by omega
        subst hn0
        simp only [Nat.min_zero, Nat.zero_mul, List.take_zero] at hpre ⊢
        simp [Builtin.copy_, run_underlying ht, hS.src.len, Go.sizeOf, typeInfo, hi, hpre, World.setCells]
      · rw [h1] at h6
        simp only [Option.some.injEq, Prod.mk.injEq] at h6
        obtain ⟨_, rfl⟩ := h6
        have hst := run_storeCells_cells (P := P) (ι k) o' (news.take (min m n * i.size)) 0 w (fun j hj => by
            by_cases hc0 : cp = 0
            · have hn0 : n = 0 := by omega
              subst hn0
              simp at hj
            · rw [ho' hc0]; exact shape_cell h1 (by omega)) (fun j hj => by
            by_cases hc0 : cp = 0
            · have hn0 : n = 0 := by omega
              subst hn0
              simp at hj
            · rw [ho' hc0]; exact h4 _ (by omega)) hone
        simp only [Nat.add_zero] at hst
        have hoo : w.setCells (ι k) o' (news.take (min m n * i.size)) = w.setCells (ι k) o (news.take (min m n * i.size)) := by
          by_cases hc0 : cp = 0
          · have hn0 : n = 0 := by omega
            subst hn0
            simp [World.setCells]
          · rw [ho' hc0]
        rw [← hoo]
        simp [Builtin.copy_, run_underlying ht, hS.src.len, Go.sizeOf, typeInfo, hi, hpre, hst]
    refine ok_write hs hd (u := .int .i64 (min m n : Nat)) (x := .value (.int .i64 (min m n : Nat))) (by simp [execOp, resolve, invoke, builtin, hv, hrun, goInt]) (.inl rfl) hH trivial (Grow.setCells _ _ _ _) (fun j _ hj => setCells_block _ _ _ _ _ hj)
      ((Grow.setCells _ _ _ w).shape _ _ h1) (fits_put h2 h3 h1 h4 h5 hp hRt fun hl => ?_) rfl (RV.ofC (.deep (.int _ _)))
    refine refs_put hp (hs.hr.leaf k b hH hl) (refs_nil_of fun v hv => refs_mem hS.ref (List.mem_of_mem_take hv))
end
end Sh
