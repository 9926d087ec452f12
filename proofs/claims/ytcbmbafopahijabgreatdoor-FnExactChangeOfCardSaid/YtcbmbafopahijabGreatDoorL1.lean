/-
  Part of a proof: laws over values.
-/
import Derived.Test.YtcbmbafopahijabGreatDoorJ2
import Derived.Test.YtcbmbafopahijabGreatDoorL0
set_option linter.unusedVariables false
set_option linter.unusedSimpArgs false
namespace Go.Proofs.Trees
open Go Go.VL Go.RowKit
/-! ### Loop types and their parts, as the program has them -/
def rdLp (s : List UInt8) : Option Ty := match rdC s with
  | some (.rc a) => some a
  | _ => none
def optR : Option Ty → AV
  | some a => (Ty.rc a).av
  | none => nilp
theorem S_loopType (s : List UInt8) : FSpec Tryz.prog n_impl_loopType [.v (.string (mk s))] [] (Det (optR (rdLp s))) := by
  refine F_impl_loopType _ ?_
  unfold t_impl_loopType
  refine wp_det (S_closedType s) ?_
  cases h : rdC s with
  | none => simp [↓zp, zs, hasK, optT, optR, rdLp, h, Det]
  | some t => cases t <;> simp [↓zp, zs, hasK, optT, optR, rdLp, h, Det, Ty.av]
def lvOK (s v : List UInt8) : Option Vl := match rdLp s with
  | some _ => vOK s v 100
  | none => none
def lvT (s : List UInt8) : AV := match rdLp s with
  | some a => (Ty.rc a).av
  | none => nilp
theorem rdL_rdC {s : List UInt8} {a : Ty} (h : rdLp s = some a) : rdC s = some (.rc a) := by
  unfold rdLp at h
  split at h
  · rename_i e; cases h; exact e
  · cases h
theorem S_loopValue (s v : List UInt8) : FSpec Tryz.prog n_impl_loopValue [.v (.string (mk s)), .v (.string (mk v))] [] (Det (.tup [lvT s, optV (lvOK s v)])) := by
  refine F_impl_loopValue _ _ ?_
  unfold t_impl_loopValue
  refine wp_det (S_loopType s) ?_
  cases h : rdLp s with
  | none => simp [↓zp, zs, hasK, optR, lvT, lvOK, h, Det, optV]
  | some a =>
    simp only [↓zp, zs, hasK, optR, ty_has, ty_nil]
    refine ⟨fun h => (by cases h), fun _ => ?_⟩
    refine wp_det (S_valueOf s v 100) ?_
    rw [rdL_rdC h]
    simp [↓zp, zs, hasK, optT, optV_has, lvT, lvOK, h, Det, ty_has]
/-- What a loop type and a value of it are. -/
structure LV (s v : List UInt8) (w : Vl) (a : Ty) (x A B : E) : Prop where
  l : rdLp s = some a
  ce : rdCE s = some (.list [x, A, B])
  v : rdV v = some w
  ask : Ask (.list [x, A, B]) [] (.rc a)
  hx : x.at = [114, 101, 99]
  loo : isLoo A.at = true
  body : Ask B [.mk A.at (.list [x, A, B]) []] a
  vis : vis 100 w (.list [x, A, B], []) = true
theorem rec_shape {e : E} {env : List Fr} {a : Ty} (A : Ask e env (.rc a)) : ∃ x y z, e = .list [x, y, z] ∧ x.at = [114, 101, 99] ∧ isLoo y.at = true ∧ Ask z (.mk y.at (.list [x, y, z]) env :: env) a := by
  rcases ty_shapes A.ty rfl A.cl with ⟨_, h⟩ | ⟨_, h⟩ | ⟨s, _, h, _⟩ | ⟨x, y, z, t1, t2, _, _, h, _⟩ | ⟨x, y, z, t1, t2, _, _, h, _⟩ | ⟨x, y, z, t1, rfl, hx, h⟩
  · cases h
  · cases h
  · cases h
  · cases h
  · cases h
  · cases h
    obtain ⟨t1', he1, h1, f1, hw1⟩ := wf_enter A.wf A.ok hx A.ty A.cl
    cases he1
    obtain ⟨_, _, ok3, _⟩ := A.ok
    obtain ⟨_, hla, _, _⟩ := tyOf_rec_inv hx A.ty
    exact ⟨x, y, z, rfl, hx, hla, ok3, hw1, h1, f1⟩
theorem lvOK_some {s v : List UInt8} {w : Vl} (h : lvOK s v = some w) : ∃ a x A B, LV s v w a x A B := by
  unfold lvOK at h
  split at h
  · rename_i a hl
    obtain ⟨e, t, m, h1, h2, h3, h4, h5, h6, h7⟩ := vOK_some h
    rw [rdL_rdC hl] at h3
    cases h3
    obtain ⟨x, A, B, rfl, hx, hA, hB⟩ := rec_shape h4
    have : m = 100 := by omega
    subst this
    exact ⟨a, x, A, B, hl, h1, h2, h4, hx, hA, hB, h7⟩
  · cases h
theorem LV.bel {s v : List UInt8} {w : Vl} {a : Ty} {x A B : E} (h : LV s v w a x A B) : w.bel 100 := (rdV_ok h.v).2.1
theorem LV.nodes {s v : List UInt8} {w : Vl} {a : Ty} {x A B : E} (h : LV s v w a x A B) : w.nodes ≤ 200 := (rdV_ok h.v).2.2
theorem vis_rec {n : Nat} {v : Vl} {x A B : E} {env : List Fr} (hw : WF env) (hx : x.at = [114, 101, 99]) (h : vis n v (.list [x, A, B], env) = true) : ∃ w, v = .f w ∧ vis n w (B, .mk A.at (.list [x, A, B]) env :: env) = true := by
  have hd := hd_rec (x := x) (a := A) (b := B) hw
  cases v <;> simp [vis, hd, hx] at h ⊢
  exact h
theorem kids_vis {n : Nat} {v : Vl} {x A B : E} {env : List Fr} {a : Ty} (hA : Ask B (.mk A.at (.list [x, A, B]) env :: env) a) (hw : WF env) (hx : x.at = [114, 101, 99]) (h : vis n v (.list [x, A, B], env) = true) {k : Hl} (hk : k ∈ kids a v) : vis n k.2 (.list [x, A, B], env) = true := by
  obtain ⟨w, rfl, hv⟩ := vis_rec hw hx h
  exact vis_hole n w.nodes w (Nat.le_refl _) B _ a hA hv 0 _ rfl k hk
theorem S_loopHoles (n : Nat) (v : Vl) (x A B : E) (a : Ty) (hA : Ask B [.mk A.at (.list [x, A, B]) []] a) (hx : x.at = [114, 101, 99]) (hv : vis n v (.list [x, A, B], []) = true) (hl : v.nodes < 90000) : FSpec Tryz.prog n_impl_loopHoles [(Ty.rc a).av, v.iav] [] (Det (.sl (hAV (kids a v)))) := by
  obtain ⟨w, rfl, hw⟩ := vis_rec .nil hx hv
  refine F_impl_loopHoles _ _ ((ty_has _).mpr trivial) ((vl_has _).mpr trivial) ?_
  unfold t_impl_loopHoles
  refine wp_call (S_insideI a nilp [] .nil) (InR.ne a nilp []) ?_
  rintro r o ⟨⟨m, hm, rfl⟩, rfl⟩
  have he2 : EnvA (.ptr [.pid m [(Ty.rc a).av, nilp], nilp]) [m] := .cons hm .nil
  have hfr : LK.ptr.has (.pid m [(Ty.rc a).av, nilp]) := .inr (.inr ⟨_, _, rfl⟩)
  simp only [Ty.av] at he2 hfr
  simp only [↓zp, zs, hasK, hasL, ty_has, he2.has, hfr, Vl.iav, vl_has, Ty.av]
  repeat refine ⟨by omega, ?_⟩
  simp only [Vl.nodes] at hl
  have i2 := S_holesOf n w.nodes w (Nat.le_refl _) B _ a hA hw (by simp; omega) _ _ he2 (by simp) (.bd 0) [] _ (by have := TgA.bd (k := 0) (ids := [m]) (by simp) [(Ty.rc a).av, nilp] []; simpa only [List.getD_cons_zero, Ty.av] using this)
  unfold IHo at i2
  refine wp_det i2 ?_
  simp [↓zp, zs, hasK, Det, kids]
/-! The parts. -/
def intsAV (l : List Nat) : List (List AV) := l.map fun (k : Nat) => [.v (.int .i64 (k : Int))]
theorem intsAV_len (l : List Nat) : (intsAV l).length = l.length := by simp [intsAV]
theorem intsAV_one (l : List Nat) (k : Nat) : intsAV l ++ [[.v (.int .i64 (k : Int))]] = intsAV (l ++ [k]) := by simp [intsAV]
theorem allLen_ints (l : List Nat) : allLen 1 (intsAV l) := fun c hc => by
  obtain ⟨k, _, rfl⟩ := List.mem_map.1 hc; rfl
def plAV : List Nat → AV
  | [] => .v (.slice none 0 0)
  | k :: l => .sl (intsAV (k :: l))
theorem plAV_has (l : List Nat) : LK.has .sl (plAV l) = True := by cases l <;> simp [plAV, has_slnil, has_sl]
theorem plAV_el (l : List Nat) : (plAV l).elems = intsAV l := by cases l <;> rfl
theorem plAV_snoc (l : List Nat) (k : Nat) : plAV (l ++ [k]) = .sl (intsAV (l ++ [k])) := by cases l <;> rfl
def pAV (l : List Pt) : List (List AV) := l.map fun p => [p.1.iav, plAV p.2]
theorem pAV_len (l : List Pt) : (pAV l).length = l.length := by simp [pAV]
theorem pAV_one (out : List Pt) (p : Pt) : pAV out ++ [[p.1.iav, plAV p.2]] = pAV (out ++ [p]) := by simp [pAV]
theorem allLen1 (x : AV) : allLen 1 [[x]] := fun c hc => by simp at hc; rw [hc]; rfl
def tellR (a : Ty) (n : Nat) (q : Pt) : Prop := ∀ out : List Pt, out.length + q.1.nodes ≤ 600 → FSpec Tryz.prog n_impl_partsOf_1 [.agg [q.1.iav, plAV q.2], .ref 0 0, .ref 2 0, .cptr n_impl_partsOf_1 [some 0, some 2, none]] [.cells [.vec 1], .vec 2 (pAV out), .cells [(Ty.rc a).av]] (DetO .any [.cells [.vec 1], .vec 2 (pAV (tellN n a out q)), .cells [(Ty.rc a).av]])
theorem nsum_drop (l : List Hl) : nsum (l.drop 0) = nsum l := by rw [List.drop_zero]
end Go.Proofs.Trees
