/-
  Part of a proof: laws over values.
-/
import Derived.Test.YtcbmbafopahijabGreatDoorV1
set_option linter.unusedVariables false
set_option linter.unusedSimpArgs false
namespace Go.Proofs.Trees
open Go Go.VL Go.RowKit
/-! ### The text of a value -/
theorem S_vtext : ∀ (v : Vl), v.txt.length ≤ 900000 → FSpec Tryz.prog n_impl_val_text [v.iav] [] (Det (.v (.string (mk v.txt))))
  | .u, h => by refine F_impl_val_text _ ((vl_has _).mpr trivial) ?_; simp [t_impl_val_text, Vl.iav, ↓zp, zs, hasK, Det, Vl.txt, Vl.toE, txE]
  | .el k, h => by refine F_impl_val_text _ ((vl_has _).mpr trivial) ?_; simp [t_impl_val_text, Vl.iav, ↓zp, zs, hasK, Det, Vl.txt, Vl.toE, txE]
  | .l v, h => by
    simp only [Vl.txt, Vl.toE, txE, txEs, List.length_cons, List.length_append, List.length_nil] at h
    refine F_impl_val_text _ ((vl_has _).mpr trivial) ?_
    have hb : (⟨(bytesOf [[.v (.int .u8 108)]]).toArray⟩ : ByteArray) = mk [108] := rfl
    have ha : allU8 [[.v (.int .u8 108)]] := allU8_one 108
    simp only [t_impl_val_text, Vl.iav, ↓zp, zs, hasK, vl_has, vl_nil, hb]
    refine ⟨by omega, fun h => by omega, fun _ => ⟨fun h => by omega, fun _ => ⟨fun h => by omega, fun _ => ⟨by omega, ha, by simp [size_mk], by rw [append_mk, size_mk, size_mk]; simp, by omega, ?_⟩⟩⟩⟩
    refine wp_det (S_vtext v (by simp only [Vl.txt]; omega)) ?_
    simp only [↓zp, zs, hasK, zt, Det, Vl.txt, Vl.toE, txE, txEs]
    refine ⟨by simp; omega, by simp; omega, by simp⟩
  | .r v, h => by
    simp only [Vl.txt, Vl.toE, txE, txEs, List.length_cons, List.length_append, List.length_nil] at h
    refine F_impl_val_text _ ((vl_has _).mpr trivial) ?_
    have hb : (⟨(bytesOf [[.v (.int .u8 114)]]).toArray⟩ : ByteArray) = mk [114] := rfl
    have ha : allU8 [[.v (.int .u8 114)]] := allU8_one 114
    simp only [t_impl_val_text, Vl.iav, ↓zp, zs, hasK, vl_has, vl_nil, hb]
    refine ⟨by omega, fun h => by omega, fun _ => ⟨fun h => by omega, fun _ => ⟨fun h => by omega, fun _ => ⟨by omega, ha, by simp [size_mk], by rw [append_mk, size_mk, size_mk]; simp, by omega, ?_⟩⟩⟩⟩
    refine wp_det (S_vtext v (by simp only [Vl.txt]; omega)) ?_
    simp only [↓zp, zs, hasK, zt, Det, Vl.txt, Vl.toE, txE, txEs]
    refine ⟨by simp; omega, by simp; omega, by simp⟩
  | .f v, h => by
    simp only [Vl.txt, Vl.toE, txE, txEs, List.length_cons, List.length_append, List.length_nil] at h
    refine F_impl_val_text _ ((vl_has _).mpr trivial) ?_
    have hb : (⟨(bytesOf [[.v (.int .u8 102)]]).toArray⟩ : ByteArray) = mk [102] := rfl
    have ha : allU8 [[.v (.int .u8 102)]] := allU8_one 102
    simp only [t_impl_val_text, Vl.iav, ↓zp, zs, hasK, vl_has, vl_nil, hb]
    refine ⟨by omega, fun h => by omega, fun _ => ⟨fun h => by omega, fun _ => ⟨fun h => by omega, fun _ => ⟨by omega, ha, by simp [size_mk], by rw [append_mk, size_mk, size_mk]; simp, by omega, ?_⟩⟩⟩⟩
    refine wp_det (S_vtext v (by simp only [Vl.txt]; omega)) ?_
    simp only [↓zp, zs, hasK, zt, Det, Vl.txt, Vl.toE, txE, txEs]
    refine ⟨by simp; omega, by simp; omega, by simp⟩
  | .p a b, h => by
    simp only [Vl.txt, Vl.toE, txE, txEs, List.length_cons, List.length_append, List.length_nil] at h
    refine F_impl_val_text _ ((vl_has _).mpr trivial) ?_
    simp only [t_impl_val_text, Vl.iav, ↓zp, zs, hasK, vl_has, vl_nil]
    refine ⟨by omega, fun h => by omega, fun _ => ⟨fun h => by omega, fun _ => ⟨fun _ => ⟨by omega, ?_⟩, fun h => absurd rfl h⟩⟩⟩
    refine wp_det (S_vtext a (by simp only [Vl.txt]; omega)) ?_
    simp only [↓zp, zs, hasK, zt, vl_has, Vl.txt]
    refine ⟨by simp; omega, by simp; omega, by omega, ?_⟩
    refine wp_det (S_vtext b (by simp only [Vl.txt]; omega)) ?_
    simp only [↓zp, zs, hasK, zt, Det, Vl.txt, Vl.toE, txE, txEs]
    refine ⟨by simp; omega, by simp; omega, by simp⟩
/-- A text, or none. -/
def optS : Option (List UInt8) → AV
  | some s => .tup [.v (.string (mk s)), .v (.bool true)]
  | none => .tup [.v (.string (mk [])), .v (.bool false)]
end Go.Proofs.Trees
