/-
  Part of a proof: laws over values.
-/
import Derived.Test.YtcbmbafopahijabGreatDoorL1
import Derived.Test.YtcbmbafopahijabGreatDoorT1
set_option linter.unusedVariables false
set_option linter.unusedSimpArgs false
namespace Go.Proofs.Trees
open Go Go.VL Go.RowKit
/-! ### The parts, as they are told -/
def partsR (s v : List UInt8) : Option (List Pt) := match rdLp s, lvOK s v with
  | some a, some w => if (parts a w).length ≤ 100 then some (parts a w) else none
  | _, _ => none
theorem partsN_mem : ∀ (n : Nat) (a : Ty) (p q : Pt), q ∈ partsN n a p → q.1.nodes ≤ p.1.nodes ∧ (∀ m, p.1.bel m → q.1.bel m)
  | 0, a, p, q, h => by cases h
  | n + 1, a, p, q, h => by
    rcases List.mem_cons.1 h with rfl | h
    · exact ⟨Nat.le_refl _, fun m h => h⟩
    · obtain ⟨r, h1, h2⟩ := List.mem_flatMap.1 h
      obtain ⟨k, h3, h4⟩ := subs_mem h1
      obtain ⟨q1, q2⟩ := partsN_mem n a r q h2
      have := kids_sz h3
      rw [h4] at q1 q2
      exact ⟨by omega, fun m hm => q2 m (kids_bel hm h3).2⟩
theorem partsR_mem {s v : List UInt8} {l : List Pt} (h : partsR s v = some l) : l.length ≤ 100 ∧ ∀ q, q ∈ l → q.1.nodes ≤ 200 ∧ q.1.bel 100 ∧ q.1.txt.length ≤ 40000 := by
  unfold partsR at h
  split at h
  · rename_i a w ha hw
    obtain ⟨a', x, A, B, L⟩ := lvOK_some hw
    split at h
    · rename_i hl
      cases h
      refine ⟨hl, fun q hq => ?_⟩
      obtain ⟨h1, h2⟩ := partsN_mem _ _ _ _ hq
      have hb := h2 100 L.bel
      have hn := L.nodes
      have := txt_len q.1 hb
      simp only at h1
      exact ⟨by omega, hb, by omega⟩
    · cases h
  · cases h
theorem parts_depth : ∀ (n : Nat) (a : Ty) (p q : Pt), q ∈ partsN n a p → q.2.length ≤ p.2.length + n
  | 0, a, p, q, h => by cases h
  | n + 1, a, p, q, h => by
    rcases List.mem_cons.1 h with rfl | h
    · omega
    · obtain ⟨r, h1, h2⟩ := List.mem_flatMap.1 h
      have := parts_depth n a r q h2
      have hlen : ∀ (l : List Hl) (i : Nat), r ∈ subs p.2 l i → r.2.length = p.2.length + 1 := by
        intro l
        induction l with
        | nil => intro i hh; cases hh
        | cons k l ih =>
          intro i hh
          rcases List.mem_cons.1 hh with rfl | hh
          · simp
          · exact ih _ hh
      have := hlen _ _ h1
      omega
theorem partsR_depth {s v : List UInt8} {l : List Pt} (h : partsR s v = some l) : ∀ q, q ∈ l → q.2.length ≤ 200 := by
  unfold partsR at h
  split at h
  · rename_i a w ha hw
    obtain ⟨a', x, A, B, L⟩ := lvOK_some hw
    split at h
    · cases h
      intro q hq
      have := parts_depth _ _ _ _ hq
      have hn := L.nodes
      simp at this; omega
    · cases h
  · cases h
def PoR (f : List Pt → List (List AV)) (s v : List UInt8) : AV → List Ob → Prop := fun r o => o = [] ∧ ∃ x, LK.sl.has x ∧ r = .tup [x, .v (.bool (partsR s v).isSome)] ∧ ∀ l, partsR s v = some l → x = .sl (f l)
theorem PoR.ne (f : List Pt → List (List AV)) (s v : List UInt8) : ∃ r o, PoR f s v r o := by
  cases h : partsR s v with
  | none => exact ⟨_, _, rfl, .sl [], (has_sl _).mpr trivial, rfl, fun l hl => by rw [h] at hl; cases hl⟩
  | some l => exact ⟨_, _, rfl, .sl (f l), (has_sl _).mpr trivial, rfl, fun l' hl => by rw [h] at hl; cases hl; rfl⟩
/-- The longest place. -/
def deep : List Pt → Nat → Nat
  | [], d => d
  | p :: l, d => deep l (if p.2.length > d then p.2.length else d)
def depR (s v : List UInt8) : Int := match partsR s v with
  | some l => (deep l 0 : Nat)
  | none => -1
theorem pAV_get {l : List Pt} {i : Nat} (hi : i < l.length) : (pAV l).getD i [] = [(l[i]).1.iav, plAV (l[i]).2] := by simp [pAV, List.getD_eq_getElem?_getD, hi]
/-- The texts of the parts. -/
def ptxts (l : List Pt) : List (List UInt8) := l.map fun p => p.1.txt
def optL (f : List Pt → List (List AV)) (e : AV) : Option (List Pt) → AV
  | some l => .tup [.sl (f l), .v (.bool true)]
  | none => .tup [e, .v (.bool false)]
/-- The texts of all parts, none if that fails. -/
def ptx (s v : List UInt8) : List (List UInt8) := match partsR s v with
  | some l => ptxts l
  | none => []
theorem ptx_len (s v : List UInt8) : (ptx s v).length ≤ 1000 := by
  unfold ptx
  cases h : partsR s v with
  | none => simp
  | some l => have := (partsR_mem h).1; simp [ptxts]; omega
def placesAV (f : List Nat → AV) (l : List Pt) : List (List AV) := l.map fun p => [f p.2]
theorem placesAV_len (f : List Nat → AV) (l : List Pt) : (placesAV f l).length = l.length := by simp [placesAV]
theorem placesAV_one (f : List Nat → AV) (out : List Pt) (p : Pt) : placesAV f out ++ [[f p.2]] = placesAV f (out ++ [p]) := by simp [placesAV]
end Go.Proofs.Trees
