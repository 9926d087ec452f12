/-
  Part of a proof: laws over values.
-/
import Derived.Test.YtcbmbafopahijabGreatDoorH0
set_option linter.unusedVariables false
set_option linter.unusedSimpArgs false
namespace Go.Proofs.Trees
open Go Go.VL Go.RowKit
/-! ### Parts of a value -/
def kids (a : Ty) : Vl → List Hl
  | .f w => holes a (.bd 0) w
  | _ => []
theorem kids_nsum (a : Ty) (v : Vl) : nsum (kids a v) + 1 ≤ v.nodes := by
  cases v with
  | f w => have := holes_nsum a (.bd 0) w; simp only [kids, Vl.nodes]; omega
  | _ => simp only [kids, nsum, Vl.nodes, List.map_nil, List.sum_nil]; omega
theorem kids_sz {a : Ty} {v : Vl} {h : Hl} (hh : h ∈ kids a v) : h.2.nodes < v.nodes := by
  cases v with
  | f w => have := (holes_sz hh).1; simp only [Vl.nodes]; omega
  | _ => cases hh
theorem kids_bel {n : Nat} {a : Ty} {v : Vl} {h : Hl} (hv : v.bel n) (hh : h ∈ kids a v) : h.1.bel n ∧ h.2.bel n := by
  cases v with
  | f w => exact holes_bel n _ _ _ w h hv hh
  | _ => cases hh
abbrev Pt := Vl × List Nat
def subs (pl : List Nat) : List Hl → Nat → List Pt
  | [], _ => []
  | h :: l, i => (h.2, pl ++ [i]) :: subs pl l (i + 1)
theorem subs_len (pl : List Nat) : ∀ (l : List Hl) (i : Nat), (subs pl l i).length = l.length
  | [], _ => rfl
  | h :: l, i => by simp [subs, subs_len pl l (i + 1)]
theorem subs_mem {pl : List Nat} {q : Pt} : ∀ {l : List Hl} {i : Nat}, q ∈ subs pl l i → ∃ h, h ∈ l ∧ q.1 = h.2
  | [], _, hq => by cases hq
  | h :: l, i, hq => by
    rcases List.mem_cons.1 hq with rfl | hq
    · exact ⟨h, List.mem_cons_self, rfl⟩
    · obtain ⟨k, h1, h2⟩ := subs_mem hq
      exact ⟨k, List.mem_cons_of_mem _ h1, h2⟩
theorem subs_drop (pl : List Nat) (l : List Hl) {i : Nat} (hi : i < l.length) : subs pl (l.drop i) i = ((l[i]).2, pl ++ [i]) :: subs pl (l.drop (i + 1)) (i + 1) := by
  rw [List.drop_eq_getElem_cons hi, subs]
def partsN : Nat → Ty → Pt → List Pt
  | 0, _, _ => []
  | n + 1, a, p => p :: (subs p.2 (kids a p.1) 0).flatMap (partsN n a)
theorem flat_sum {f : Pt → List Pt} (hf : ∀ q, (f q).length ≤ q.1.nodes) (pl : List Nat) : ∀ (l : List Hl) (i : Nat), ((subs pl l i).flatMap f).length ≤ nsum l
  | [], i => by simp [subs]
  | h :: l, i => by
    have := flat_sum hf pl l (i + 1)
    have := hf (h.2, pl ++ [i])
    simp only [subs, List.flatMap_cons, List.length_append, nsum, List.map_cons, List.sum_cons] at *; omega
theorem partsN_len : ∀ (n : Nat) (a : Ty) (p : Pt), (partsN n a p).length ≤ p.1.nodes
  | 0, a, p => Nat.zero_le _
  | n + 1, a, p => by
    have := flat_sum (f := partsN n a) (fun q => partsN_len n a q) p.2 (kids a p.1) 0
    have := kids_nsum a p.1
    simp only [partsN, List.length_cons]; omega
/-- What a walk does to a list: all parts, or more than a hundred. -/
def Walk (f : List Pt → List Pt) (ps : List Pt) : Prop := ∀ out, (out.length + ps.length ≤ 100 → f out = out ++ ps) ∧ (100 < out.length + ps.length → 100 < (f out).length) ∧ out.length ≤ (f out).length ∧ (f out).length ≤ out.length + ps.length
theorem walk_fold {g : List Pt → Pt → List Pt} {ps : Pt → List Pt} : ∀ (qs : List Pt), (∀ q, q ∈ qs → Walk (fun o => g o q) (ps q)) → Walk (fun o => qs.foldl g o) (qs.flatMap ps)
  | [], _ => fun out => by simp
  | q :: qs, h => fun out => by
    have ih := walk_fold qs fun q hq => h q (List.mem_cons_of_mem _ hq)
    obtain ⟨a1, a2, a3, a4⟩ := h q List.mem_cons_self out
    obtain ⟨b1, b2, b3, b4⟩ := ih (g out q)
    simp only [List.foldl_cons, List.flatMap_cons, List.length_append] at *
    refine ⟨fun hle => ?_, fun hlt => ?_, by omega, by omega⟩
    · rw [a1 (by omega)] at b1 ⊢
      rw [b1 (by rw [List.length_append]; omega), List.append_assoc]
    · by_cases hq : out.length + (ps q).length ≤ 100
      · rw [a1 hq] at b2 ⊢
        exact b2 (by rw [List.length_append]; omega)
      · have := a2 (by omega); omega
def tellN : Nat → Ty → List Pt → Pt → List Pt
  | 0, _, out, _ => out
  | n + 1, a, out, p => if 100 < (out ++ [p]).length then out ++ [p] else (subs p.2 (kids a p.1) 0).foldl (tellN n a) (out ++ [p])
theorem tellN_ok : ∀ (n : Nat) (a : Ty) (p : Pt), p.1.nodes ≤ n → Walk (fun o => tellN n a o p) (partsN n a p)
  | 0, a, p, h => by have := nodes_pos p.1; omega
  | n + 1, a, p, h => fun out => by
    have hk := walk_fold (g := tellN n a) (ps := partsN n a) (subs p.2 (kids a p.1) 0) fun q hq => tellN_ok n a q (by
      obtain ⟨k, h1, h2⟩ := subs_mem hq
      have := kids_sz h1
      rw [h2]; omega)
    obtain ⟨b1, b2, b3, b4⟩ := hk (out ++ [p])
    simp only [tellN, partsN, List.length_cons, List.length_append, List.length_nil] at *
    split
    · refine ⟨fun hle => by omega, fun _ => by simp; omega, by simp, by simp⟩
    · refine ⟨fun hle => ?_, fun hlt => b2 (by omega), by omega, by omega⟩
      rw [b1 (by omega), List.append_assoc]; rfl
def specN : Nat → Ty → List Pt → Pt → List Pt
  | 0, _, out, _ => out
  | n + 1, a, out, p => (subs p.2 (kids a p.1) 0).foldl (fun o q => if o.length ≤ 100 then specN n a o q else o) (out ++ [p])
theorem specN_ok : ∀ (n : Nat) (a : Ty) (p : Pt), p.1.nodes ≤ n → Walk (fun o => specN n a o p) (partsN n a p)
  | 0, a, p, h => by have := nodes_pos p.1; omega
  | n + 1, a, p, h => fun out => by
    have hk := walk_fold (g := fun o q => if o.length ≤ 100 then specN n a o q else o) (ps := partsN n a) (subs p.2 (kids a p.1) 0) fun q hq => fun o => by
      obtain ⟨k, h1, h2⟩ := subs_mem hq
      have := kids_sz h1
      have hw := specN_ok n a q (by rw [h2]; omega) o
      have hpos : 0 < (partsN n a q).length := by
        cases n with
        | zero => have := nodes_pos k.2; omega
        | succ n => simp [partsN]
      simp only at hw ⊢
      split
      · exact hw
      · exact ⟨fun hle => by omega, fun _ => by omega, Nat.le_refl _, by omega⟩
    obtain ⟨b1, b2, b3, b4⟩ := hk (out ++ [p])
    simp only [specN, partsN, List.length_cons, List.length_append, List.length_nil] at *
    refine ⟨fun hle => ?_, fun hlt => b2 (by omega), by omega, by omega⟩
    rw [b1 (by omega), List.append_assoc]; rfl
/-- All parts. -/
def parts (a : Ty) (v : Vl) : List Pt := partsN v.nodes a (v, [])
theorem parts_tell (a : Ty) (v : Vl) : ((parts a v).length ≤ 100 → tellN v.nodes a [] (v, []) = parts a v) ∧ (100 < (parts a v).length → 100 < (tellN v.nodes a [] (v, [])).length) ∧ (tellN v.nodes a [] (v, [])).length ≤ v.nodes := by
  obtain ⟨h1, h2, _, h4⟩ := tellN_ok v.nodes a (v, []) (Nat.le_refl _) []
  have := partsN_len v.nodes a (v, [])
  simp only [List.length_nil, Nat.zero_add, List.nil_append] at h1 h2 h4 this
  exact ⟨h1, h2, Nat.le_trans h4 this⟩
theorem parts_spec (a : Ty) (v : Vl) : ((parts a v).length ≤ 100 → specN v.nodes a [] (v, []) = parts a v) ∧ (100 < (parts a v).length → 100 < (specN v.nodes a [] (v, [])).length) ∧ (specN v.nodes a [] (v, [])).length ≤ v.nodes := by
  obtain ⟨h1, h2, _, h4⟩ := specN_ok v.nodes a (v, []) (Nat.le_refl _) []
  have := partsN_len v.nodes a (v, [])
  simp only [List.length_nil, Nat.zero_add, List.nil_append] at h1 h2 h4 this
  exact ⟨h1, h2, Nat.le_trans h4 this⟩
end Go.Proofs.Trees
