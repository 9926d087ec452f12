/-
  Part of a proof: laws over values.
-/
import Derived.Test.YtcbmbafopahijabGreatDoorQ3
set_option linter.unusedVariables false
set_option linter.unusedSimpArgs false
namespace Go.Proofs.Trees
open Go Go.VL
/-! ### Types -/
inductive Ty where
  | zero | one
  | name (s : List UInt8)
  | bound (up : Nat)
  | plus (a b : Ty)
  | times (a b : Ty)
  | rc (a : Ty)
def Ty.av : Ty → AV
  | .zero => .ptr [.v (.int .u8 48), .v (.string (mk [])), .v (.int .i64 0), .v (.pointer none), .v (.pointer none)]
  | .one => .ptr [.v (.int .u8 49), .v (.string (mk [])), .v (.int .i64 0), .v (.pointer none), .v (.pointer none)]
  | .name s => .ptr [.v (.int .u8 110), .v (.string (mk s)), .v (.int .i64 0), .v (.pointer none), .v (.pointer none)]
  | .bound up => .ptr [.v (.int .u8 98), .v (.string (mk [])), .v (.int .i64 (up : Int)), .v (.pointer none), .v (.pointer none)]
  | .plus a b => .ptr [.v (.int .u8 43), .v (.string (mk [])), .v (.int .i64 0), a.av, b.av]
  | .times a b => .ptr [.v (.int .u8 42), .v (.string (mk [])), .v (.int .i64 0), a.av, b.av]
  | .rc a => .ptr [.v (.int .u8 114), .v (.string (mk [])), .v (.int .i64 0), a.av, .v (.pointer none)]
theorem ty_has (t : Ty) : LK.has .ptr t.av = True := by cases t <;> simp [Ty.av, has_ptr]
theorem ty_nil (t : Ty) : t.av.isNil = false := by cases t <;> rfl
def optT : Option Ty → AV
  | some t => t.av
  | none => .v (.pointer none)
theorem optT_has (t : Option Ty) : LK.has .ptr (optT t) = True := by cases t <;> simp [optT, ty_has, has_nil]
def E.at : E → List UInt8
  | .atom s => s
  | .list _ => []
/-- The place of the last one, from the end. -/
def lastOf (s : List UInt8) (ar : List (List UInt8)) : Nat → Option Nat
  | 0 => none
  | i + 1 => if ar.getD i [] = s then some (ar.length - 1 - i) else lastOf s ar i
def tyOf : E → List (List UInt8) → Option Ty
  | .atom s, ar => if s = [48] then some .zero else if s = [49] then some .one else if isPar s = true then some (.name s) else if isLoo s = true then (match lastOf s ar ar.length with | some u => some (.bound u) | none => some (.name s)) else none
  | .list [x, a, b], ar =>
    if x.at = [43] then (match tyOf a ar, tyOf b ar with | some t, some u => some (.plus t u) | _, _ => none)
    else if x.at = [42] then (match tyOf a ar, tyOf b ar with | some t, some u => some (.times t u) | _, _ => none)
    else if x.at = [114, 101, 99] then (if isLoo a.at = true then (match tyOf b (ar ++ [a.at]) with | some t => some (.rc t) | none => none) else none)
    else none
  | .list _, _ => none
def strsAV (l : List (List UInt8)) : List (List AV) := l.map fun s => [.v (.string (mk s))]
def StrsA (a : AV) (l : List (List UInt8)) : Prop := LK.sl.has a ∧ a.elems = strsAV l
theorem StrsA.len {a : AV} {l : List (List UInt8)} (h : StrsA a l) : a.elems.length = l.length := by rw [h.2]; simp [strsAV]
theorem StrsA.idx {a : AV} {l : List (List UInt8)} (h : StrsA a l) {i : Nat} (hi : i < l.length) : a.elems.getD i [] = [.v (.string (mk (l.getD i [])))] := by
  rw [h.2]; simp [strsAV, List.getD_eq_getElem?_getD, hi]
theorem StrsA.of (l : List (List UInt8)) : StrsA (.sl (strsAV l)) l := ⟨(has_sl _).mpr trivial, rfl⟩
theorem StrsA.nil : StrsA (.v (.slice none 0 0)) [] := ⟨(has_slnil).mpr trivial, rfl⟩
theorem S_isCall (e : E) (w : List UInt8) : FSpec Tryz.prog n_impl_expr_isCall [e.iav, .v (.string (mk w)), .v (.int .i64 3)] [] (Det (.v (.bool (match e with | .list [x, _, _] => x.at == w | _ => false)))) := by
  refine F_impl_expr_isCall _ _ _ ((iav_has e).mpr trivial) ?_
  cases e with
  | atom s => simp only [t_impl_expr_isCall, E.iav, ↓zp, zs, hasK, zt, Det]; exact ⟨by omega, fun h => by omega, fun _ => trivial⟩
  | list l =>
    simp only [t_impl_expr_isCall, E.iav, ↓zp, zs, hasK, zt, Det, iavs_len]
    match l with
    | [] => exact ⟨by simp, fun h => by simp at h, fun _ => rfl⟩
    | [_] => exact ⟨by simp, fun h => by simp at h, fun _ => rfl⟩
    | [_, _] => exact ⟨by simp, fun h => by simp at h, fun _ => rfl⟩
    | [x, y, z] =>
      refine ⟨by simp, fun _ => ?_, fun h => by simp at h⟩
      cases x <;> simp [E.iavs, E.iav, has_ptr, isNil_ptr, deref_ptr, has_str, toStr_v, toList_mk, E.at]
    | _ :: _ :: _ :: _ :: l => exact ⟨by simp, fun h => by simp at h; omega, fun _ => rfl⟩
theorem LS_typeOf (e : E) (a : AV) (ar : List (List UInt8)) (ha : StrsA a ar) (hl : ar.length < 1000000) : ∀ (i : Nat), i ≤ ar.length → LS_impl_typeOf_1 [e.iav, a, .v (.int .i64 ((i : Int) - 1))] []
    (LBy (match lastOf e.at ar i with | some u => (2, [], [.cells [.v (.int .u8 98), .v (.string (mk [])), .v (.int .i64 (u : Int)), .v (.pointer none), .v (.pointer none)]]) | none => (1, [e.iav], [])))
  | 0, hi => by
    refine G_impl_typeOf_1 _ _ _ ?_
    simp only [r_impl_typeOf_1, ↓zp, zs, hasK, iav_has]
    exact ⟨ha.1, fun h => by omega, fun _ => rfl⟩
  | i + 1, hi => by
    have hlt : i < ar.length := by omega
    have e1 : ((i + 1 : Nat) : Int) - 1 = (i : Int) := by omega
    rw [e1]
    refine G_impl_typeOf_1 _ _ _ ?_
    have hd : e.iav.deref.headD .any = .v (.string (mk e.at)) := by cases e <;> rfl
    have hdl : 1 ≤ e.iav.deref.length := by cases e <;> simp [E.iav, deref_ptr]
    simp only [r_impl_typeOf_1, ↓zp, zs, hasK, zt, iav_has, iav_nil, ha.len, ha.idx hlt, hd, nil_mk]
    refine ⟨ha.1, fun _ => ⟨⟨ha.1, by omega, by omega⟩, by omega, hdl, fun h => ⟨ha.1, ?_⟩, fun h => ?_⟩, fun h => by omega⟩
    · simp only [lastOf, h, if_true, LBy]
      rw [wrap64 ((ar.length : Int) - 1) (by omega) (by omega), wrap64 _ (by omega) (by omega)]
      have : (ar.length : Int) - 1 - (i : Int) = ((ar.length - 1 - i : Nat) : Int) := by omega
      rw [this]
    · simp only [lastOf, h, if_false]
      rw [wrap64 _ (by omega) (by omega)]
      exact LS_typeOf e a ar ha hl i (by omega)
end Go.Proofs.Trees
