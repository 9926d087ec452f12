/-
  Part of a proof: laws over values.
-/
import Derived.Test.YtcbmbafopahijaaGreatDoorE2
set_option linter.unusedVariables false
set_option linter.unusedSimpArgs false
namespace Go.Proofs.Trees
open Go Go.VL Go.RowKit
/-! ### The reference's check -/
theorem envS_getD : ∀ (env : List Fr) (k : Nat) (f : Fr), env[k]? = some f → (envS env).getD (env.length - 1 - k) [] = f.cells
  | [], k, f, h => by cases h
  | g :: r, 0, f, h => by
    cases h
    have : (g :: r).length - 1 - 0 = (envS r).length := by simp [envS_len]
    rw [this, envS]; simp [List.getD_eq_getElem?_getD]
  | g :: r, k + 1, f, h => by
    have h' : r[k]? = some f := by simpa using h
    have hlt := (List.getElem?_eq_some_iff.1 h').1
    have e : (g :: r).length - 1 - (k + 1) = r.length - 1 - k := by simp; omega
    have := envS_getD r k f h'
    rw [e, envS, List.getD_eq_getElem?_getD, List.getElem?_append_left (by rw [envS_len]; omega), ← List.getD_eq_getElem?_getD]
    exact this
theorem fr_cells (f : Fr) : f.cells = [.v (.string (mk f.nm)), .v (.string (mk f.ex.at)), f.ex.sp, .sl (envS f.out)] := by cases f; rfl
theorem envS_allLen : ∀ env : List Fr, allLen 4 (envS env)
  | [] => fun c hc => by cases hc
  | f :: r => fun c hc => by
    simp only [envS, List.mem_append, List.mem_singleton] at hc
    rcases hc with hc | rfl
    · exact envS_allLen r c hc
    · rw [fr_cells]; rfl
theorem hasL_sp (s : ByteArray) (e : E) : hasL [.str, .sl] [.v (.string s), e.sp] 0 = True := by apply eq_true; simp [hasL, has_str, sp_has]
theorem hd_ask {e : E} {env : List Fr} {t : Ty} (A : Ask e env t) : ∃ e' o t', hd e env = (e', o) ∧ Ask e' o t' ∧ t'.isB = false ∧ hd e' o = (e', o) ∧ o.length ≤ env.length := by
  rcases ty_cases A.wf A.ty with ⟨hb, hh⟩ | ⟨u, f, rfl, hh, hu⟩
  · exact ⟨e, env, t, hd_none hh, A, hb, hd_none hh, Nat.le_refl _⟩
  · obtain ⟨x, a, b, t', hfe, hok, hx, ht', hf', hwf, hlt⟩ := findF_wf A.wf hh
    refine ⟨f.ex, f.out, t', hd_some hh, ⟨by rw [hfe]; exact hok, hwf, ht', hf'⟩, ?_, ?_, by omega⟩
    · obtain ⟨t1, _, _, rfl⟩ := tyOf_rec_inv hx (hfe ▸ ht'); rfl
    · rw [hfe]; exact hd_rec hwf
/-- The head of a value's text. -/
def vh : Vl → List UInt8
  | .l _ => [108]
  | .r _ => [114]
  | .f _ => [102]
  | .p _ _ => [112]
  | _ => []
theorem S_l1Head_vl (v : Vl) : FSpec Tryz.prog n_spec_l1Head [v.toE.sav] [] (Det (.v (.string (mk (vh v))))) := by
  cases v with
  | u => exact S_l1Head_atom _ _ ((has_slnil).mpr trivial) (by simp)
  | el k => exact S_l1Head_atom _ _ ((has_slnil).mpr trivial) (by simp)
  | l v => exact S_l1Head _ _
  | r v => exact S_l1Head _ _
  | f v => exact S_l1Head _ _
  | p v w => exact S_l1Head _ _
theorem elI_nil : elI [] = -1 := rfl
theorem elI_u : elI [117] = -1 := rfl
/-- What an atom of a value says. -/
theorem vat (v : Vl) (hv : v.bel 100) : v.toE.at = (match v with | .u => [117] | .el k => elS k | _ => []) ∧ elI v.toE.at = (match v with | .el k => (k : Int) | _ => -1) := by
  cases v with
  | el k => exact ⟨rfl, elI_of k hv⟩
  | u => exact ⟨rfl, rfl⟩
  | _ => exact ⟨rfl, rfl⟩
end Go.Proofs.Trees
