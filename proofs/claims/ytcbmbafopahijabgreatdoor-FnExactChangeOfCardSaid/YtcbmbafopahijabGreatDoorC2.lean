/-
  Part of a proof: laws over values.
-/
import Derived.Test.YtcbmbafopahijabGreatDoorT1
import Derived.Test.YtcbmbafopahijabGreatDoorW1
set_option linter.unusedVariables false
set_option linter.unusedSimpArgs false
namespace Go.Proofs.Trees
open Go Go.VL Go.RowKit
/-! ### The value with a code -/
def back (n : Nat) : Ty → Nat → Vl
  | .name _, c => .el c
  | .plus a b, c => match cnt n a with | some x => if c < x then .l (back n a c) else .r (back n b (c - x)) | none => .u
  | .times a b, c => match cnt n b with | some y => .p (back n a (c / y)) (back n b (c % y)) | none => .u
  | _, _ => .u
theorem cnt_plus {n : Nat} {a b : Ty} {N : Nat} (h : cnt n (.plus a b) = some N) : ∃ x y, cnt n a = some x ∧ cnt n b = some y ∧ N = x + y := by
  simp only [cnt] at h
  split at h
  · rename_i x y hx hy
    unfold capC at h; split at h <;> cases h; exact ⟨x, y, hx, hy, rfl⟩
  · cases h
theorem cnt_times {n : Nat} {a b : Ty} {N : Nat} (h : cnt n (.times a b) = some N) : ∃ x y, cnt n a = some x ∧ cnt n b = some y ∧ N = x * y := by
  simp only [cnt] at h
  split at h
  · rename_i x y hx hy
    unfold capC at h; split at h <;> cases h; exact ⟨x, y, hx, hy, rfl⟩
  · cases h
theorem back_bel (n : Nat) : ∀ (t : Ty) (N c : Nat), cnt n t = some N → c < N → (back n t c).bel n
  | .zero, _, _, _, _ => trivial
  | .one, _, _, _, _ => trivial
  | .bound u, _, _, _, _ => trivial
  | .rc a, _, _, _, _ => trivial
  | .name s, N, c, h, hc => by cases h; exact hc
  | .plus a b, N, c, h, hc => by
    obtain ⟨x, y, hx, hy, rfl⟩ := cnt_plus h
    simp only [back, hx]
    split
    · exact back_bel n a x c hx (by assumption)
    · exact back_bel n b y (c - x) hy (by omega)
  | .times a b, N, c, h, hc => by
    obtain ⟨x, y, hx, hy, rfl⟩ := cnt_times h
    simp only [back, hy]
    have hy0 : 0 < y := Nat.pos_of_ne_zero (fun e => by subst e; simp at hc)
    exact ⟨back_bel n a x _ hx (Nat.div_lt_of_lt_mul (by rw [Nat.mul_comm]; exact hc)), back_bel n b y _ hy (Nat.mod_lt _ hy0)⟩
theorem bel_mono {m n : Nat} (h : m ≤ n) : ∀ v : Vl, v.bel m → v.bel n
  | .u, _ => trivial
  | .el k, hb => Nat.lt_of_lt_of_le hb h
  | .l v, hb => bel_mono h v hb
  | .r v, hb => bel_mono h v hb
  | .f v, hb => bel_mono h v hb
  | .p a b, hb => ⟨bel_mono h a hb.1, bel_mono h b hb.2⟩
theorem back_nodes (n : Nat) : ∀ (t : Ty) (c : Nat), (back n t c).nodes ≤ t.atoms
  | .zero, c => by simp [back, Vl.nodes, Ty.atoms]
  | .one, c => by simp [back, Vl.nodes, Ty.atoms]
  | .name s, c => by simp [back, Vl.nodes, Ty.atoms]
  | .bound u, c => by simp [back, Vl.nodes, Ty.atoms]
  | .rc a, c => by simp [back, Vl.nodes, Ty.atoms]; omega
  | .plus a b, c => by
    simp only [back, Ty.atoms]
    split
    · rename_i x hx
      split
      · have := back_nodes n a c; simp only [Vl.nodes]; omega
      · have := back_nodes n b (c - x); simp only [Vl.nodes]; omega
    · simp [Vl.nodes]; omega
  | .times a b, c => by
    simp only [back, Ty.atoms]
    split
    · rename_i y hy
      have := back_nodes n a (c / y)
      have := back_nodes n b (c % y)
      simp only [Vl.nodes]; omega
    · simp [Vl.nodes]; omega
theorem tdiv_nat (a b : Nat) : Int.tdiv (a : Int) (b : Int) = ((a / b : Nat) : Int) := (Int.ofNat_tdiv a b).symm
theorem tmod_nat (a b : Nat) : Int.tmod (a : Int) (b : Int) = ((a % b : Nat) : Int) := (Int.ofNat_tmod a b).symm
theorem allLen2 : ∀ l : List E, allLen 2 (E.scellss l)
  | [] => fun c hc => by cases hc
  | e :: l => fun c hc => by
    simp only [E.scellss, List.mem_cons] at hc
    rcases hc with rfl | hc
    · exact sc_len e
    · exact allLen2 l c hc
theorem S_l1List (w : List UInt8) (l : List E) (hl : l.length < 1000000) : FSpec Tryz.prog n_spec_l1List [.v (.string (mk w)), .sl (E.scellss l)] [] (Det (E.sav (.list (.atom w :: l)))) := by
  refine F_spec_l1List _ _ ((has_sl _).mpr trivial) ?_
  simp only [t_spec_l1List, ↓zp, zs, hasK, scellss_len, Det, E.sav, E.scells, E.scellss]
  exact ⟨⟨allLen2 l, by omega⟩, rfl⟩
theorem scs1 (a : E) : AV.sl [[.v (.string ((a.sav.cs.getD 0 .any).toStr)), a.sav.cs.getD 1 .any]] = .sl (E.scellss [a]) := by cases a <;> rfl
theorem scs2 (a b : E) : AV.sl [[.v (.string ((a.sav.cs.getD 0 .any).toStr)), a.sav.cs.getD 1 .any], [.v (.string ((b.sav.cs.getD 0 .any).toStr)), b.sav.cs.getD 1 .any]] = .sl (E.scellss [a, b]) := by cases a <;> cases b <;> rfl
/-- What both sides return. -/
def cvS (s : List UInt8) (n c : Int) : Option (List UInt8) := match rdP s, cntS s n with
  | some t, some N => if 0 ≤ c ∧ c < (N : Int) then (if (back n.toNat t c.toNat).nodes ≤ 200 then some (back n.toNat t c.toNat).txt else none) else none
  | _, _ => none
end Go.Proofs.Trees
