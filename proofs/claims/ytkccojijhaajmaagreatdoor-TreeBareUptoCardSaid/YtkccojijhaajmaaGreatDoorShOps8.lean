/-
The operations, one by one: operators, the greater and the smaller of two.
-/
import Derived.Test.YtkccojijhaajmaaGreatDoorShOps7
set_option linter.unusedSimpArgs false
set_option linter.unusedVariables false
set_option linter.unusedSectionVars false
set_option linter.unusedSimpArgs false
namespace Sh
open Go

section
variable {P : Program} {X0 A : Nat → Prop} {ι : Nat → Nat} {w : World} {H : Nat → Option Blk} {t t' : Fr} {h : Heap} {a : Act} {base : Nat} {e : Eff} {dst : Option Tmp} {ty : TypeId} {pos : String} {af : Array Edge} {gd : Option (Nat × Bool)}

theorem lay_bool {T : TypeId} (h : (lay P T).kind = .bool) : P.underlying T = some .bool := by
  unfold lay at h; dsimp only at h
  cases hu : P.underlying T with
  | none => simp [hu] at h
  | some d =>
    cases d <;> simp only [hu] at h ⊢ <;> try (simp at h; done)
    · split at h <;> cases h
    · split at h <;> cases h
    · split at h <;> cases h
theorem lay_ptr {T : TypeId} (h : (lay P T).kind = .ptr) : ∃ e, P.underlying T = some (.pointer e) := by
  unfold lay at h; dsimp only at h
  cases hu : P.underlying T with
  | none => simp [hu] at h
  | some d =>
    cases d <;> simp only [hu] at h ⊢ <;> try (simp at h; done)
    · exact ⟨_, rfl⟩
    · split at h <;> cases h
    · split at h <;> cases h
    · split at h <;> cases h

theorem guard_slice {op : BinOp} {T : TypeId} {x y : Operand} {ao : Option Addr} {n c : Nat} {v : Value} : (eqGuard op T x y (.slice ao n c) v).run P w = .ok () w := by
  cases op <;> simp [eqGuard]

theorem run_eqNe {op : BinOp} {T : TypeId} {x y : Value} {b : Bool} {v : AV} (h : eqNe op b = some v) (he : ∀ d, (Op.equalIn (d + 1) T x y).run P w = .ok b w)
    (h1 : binOp .eql T x y = (do pure (.bool (← Op.equal T x y)))) (h2 : binOp .neq T x y = (do pure (.bool (!(← Op.equal T x y))))) :
    ∃ u, (binOp op T x y).run P w = .ok u w ∧ RD (fun _ => True) w v u := by
  have he' : (Op.equal T x y).run P w = .ok b w := he 9999
  rcases eqNe_some h with ⟨rfl, rfl⟩ | ⟨rfl, rfl⟩
  · exact ⟨_, by rw [h1, Sem.run_bind, he']; rfl, .bool _⟩
  · exact ⟨_, by rw [h2, Sem.run_bind, he']; rfl, .bool _⟩

theorem ok_binOp {op : BinOp} {T : TypeId} {x y : Operand} {z : TypeId} (hs : SR X0 A ι w H t' a) (hd : ∀ d, dst = some d → d < a.tmps.size) (hx : XR P X0 A ι w H a t x) (hy : XR P X0 A ι w H a t y)
    (he : (abin (lay P T) op (opv t x) (opv t y)).bnd Eff.of = some e) : OK P X0 A ι w H t' a ⟨dst, .binOp op T x y z, ty, pos, af, gd⟩ base e := by
  obtain ⟨v, hv, he2⟩ := bnd_some he
  rw [of_some he2]
  suffices hh : (eqGuard op T x y (a.eval x) (a.eval y)).run P w = .ok () w ∧ ∃ u, (binOp op T (a.eval x) (a.eval y)).run P w = .ok u w ∧ RD (fun _ => True) w v u by
    obtain ⟨h1, u, h2, h3⟩ := hh
    refine ok_pure hs hd (u := u) ?_ (RV.ofC (.deep h3.any))
    simp [execOp, h1, h2]
  unfold XR at hx hy
  unfold abin at hv
  cases hx2 : opv t x <;> rw [hx2] at hv hx <;> cases hy2 : opv t y <;> rw [hy2] at hv hy <;> try (simp at hv; done)
  case int.int k n j m =>
    rw [rv_int hx, rv_int hy]
    refine ⟨by rw [eqGuard_at_int]; rfl, ?_⟩
    cases op
    case shl =>
      dsimp only at hv
      split at hv
      · cases hv
      · rename_i hm
        cases hv
        exact ⟨_, by simp [binOp, Op.shift, hm], .int _ _⟩
    case shr =>
      dsimp only at hv
      split at hv
      · cases hv
      · rename_i hm
        cases hv
        exact ⟨_, by simp [binOp, Op.shift, hm], .int _ _⟩
    all_goals
      dsimp only at hv
      split at hv
      · rename_i hkj
        subst hkj
        exact aarith_run hv (by simp) (by simp) T
      · cases hv
  case str.str s r =>
    rw [rv_str hx, rv_str hy]
    refine ⟨by rw [eqGuard_at_string]; rfl, ?_⟩
    cases op <;> simp only [reduceCtorEq] at hv
    case add =>
      split at hv
      · rename_i hlen
        cases hv
        refine ⟨.string ⟨(s ++ r).toArray⟩, ?_, RD.str' _⟩
        have hsz : ∀ s : List UInt8, (⟨s.toArray⟩ : ByteArray).size = s.length := fun s => by simp [ByteArray.size]
        have hno : ¬ ((((⟨s.toArray⟩ : ByteArray).size + (⟨r.toArray⟩ : ByteArray).size : Nat) : Int) > IntKind.i64.max) := by
          rw [hsz, hsz]
          have : IntKind.i64.max = 9223372036854775807 := by decide
          rw [this]
          unfold strMax at hlen
          omega
        have happ : (⟨s.toArray⟩ : ByteArray) ++ ⟨r.toArray⟩ = ⟨(s ++ r).toArray⟩ := by
          apply ByteArray.ext; simp
        rw [binOp_string_add]
        simp only [Op.stringOp, if_neg hno, happ, Sem.run_pure]
      · cases hv
    case eql =>
      cases hv
      exact ⟨_, by rw [binOp_string_eql, toList_mk, toList_mk]; rfl, .bool _⟩
    case neq =>
      cases hv
      exact ⟨_, by rw [binOp_string_neq, toList_mk, toList_mk]; rfl, .bool _⟩
  case bool.bool p q =>
    rw [rv_bool hx, rv_bool hy]
    refine ⟨by rw [eqGuard_at_bool]; rfl, ?_⟩
    dsimp only at hv
    split at hv
    · rename_i hk
      have hu := lay_bool hk
      exact run_eqNe hv (fun d => run_equalIn_bool' w d T p q hu) rfl rfl
    · cases hv
  case agg.agg c c' =>
    obtain ⟨l, h1, hv2⟩ := bnd_some hv
    obtain ⟨b, h2, h3⟩ := bnd_some hv2
    obtain ⟨us, e1, r1⟩ := rv_agg hx
    obtain ⟨vs, e2, r2⟩ := rv_agg hy
    rw [e1, e2]
    have hk : (lay P T).kind = .struct ∨ (lay P T).kind = .array := by
      unfold lay at h1 ⊢; dsimp only at h1 ⊢
      split at h1 <;> simp only [reduceCtorEq] at h1
      · rename_i fs hu
        have := hu
        unfold flatEq at h1
        split at h1
        · cases h1
        · rcases flat_kind h1 with ⟨k, hun, rfl⟩ | ⟨hun, rfl⟩ | ⟨hun, rfl⟩ | ⟨fs', d', hd, hun, hst, hfs⟩ | ⟨n, e, d', k, hd, hun, he, hi, rfl⟩
          all_goals rw [hu] at hun
          all_goals simp only [Option.some.injEq, reduceCtorEq, TypeDesc.struct.injEq] at hun
          subst hun
          left
          rw [List.all_eq_true.2 (fun f hf => flat_info _ _ _ hfs f hf)]
      · rename_i n el hu
        unfold flatEq at h1
        split at h1
        · cases h1
        · rcases flat_kind h1 with ⟨k, hun, rfl⟩ | ⟨hun, rfl⟩ | ⟨hun, rfl⟩ | ⟨fs', d', hd, hun, hst, hfs⟩ | ⟨n', e', d', k, hd, hun, he, hi, rfl⟩
          all_goals rw [hu] at hun
          all_goals simp only [Option.some.injEq, reduceCtorEq, TypeDesc.array.injEq] at hun
          obtain ⟨rfl, rfl⟩ := hun
          right
          cases hie : P.info? el with
          | none => simp [hie] at hi
          | some i => rfl
    have hfl : flatEq P T = some l := by
      rw [← h1]; unfold lay; rcases hk with hk | hk
      · obtain ⟨fs, hu, _⟩ := lay_struct hk; simp only [hu]
      · obtain ⟨n, el, hu, _⟩ := lay_array hk; simp only [hu]
    obtain ⟨g1, g2⟩ := run_agg_eq (w := w) hfl h2 h3 hk r1 r2
    exact ⟨g1 x y, g2⟩
  case nilp.nilp =>
    rw [rv_nilp hx, rv_nilp hy]
    refine ⟨by rw [eqGuard_at_pointer]; rfl, ?_⟩
    dsimp only at hv
    split at hv
    · rename_i hk
      obtain ⟨el, hu⟩ := lay_ptr hk
      exact run_eqNe hv (fun d => by simp [Op.equalIn, run_underlying hu]) rfl rfl
    · cases hv
  case nils.nils =>
    rw [rv_nils hx, rv_nils hy]
    dsimp only at hv
    split at hv
    · rename_i hk
      obtain ⟨el, hu, _⟩ := lay_slice hk
      refine ⟨guard_slice, ?_⟩
      exact run_eqNe hv (fun d => by simp [Op.equalIn, run_underlying hu]) rfl rfl
    · cases hv
  case ptr.nilp i o =>
    obtain ⟨ha, hp⟩ := rv_ptr hx
    rw [hp, rv_nilp hy]
    refine ⟨by rw [eqGuard_at_pointer]; rfl, ?_⟩
    dsimp only at hv
    split at hv
    · rename_i hk
      obtain ⟨el, hu⟩ := lay_ptr hk
      exact run_eqNe hv (fun d => by simp [Op.equalIn, run_underlying hu]) rfl rfl
    · cases hv
  case dsl.nils xs =>
    obtain ⟨ao, cap, hp, _, hne⟩ := rv_dsl hx
    cases xs with
    | nil => simp at hv
    | cons x0 xs =>
      obtain ⟨b, o, es, f, hao, _⟩ := hne (by simp)
      subst hao
      rw [hp, rv_nils hy]
      dsimp only at hv
      split at hv
      · rename_i hk
        obtain ⟨el, hu, _⟩ := lay_slice hk
        refine ⟨guard_slice, ?_⟩
        exact run_eqNe hv (fun d => by simp [Op.equalIn, run_underlying hu]) rfl rfl
      · cases hv

end
end Sh
