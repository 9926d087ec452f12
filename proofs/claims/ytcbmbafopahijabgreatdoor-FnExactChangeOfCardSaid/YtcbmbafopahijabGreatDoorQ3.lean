/-
  Part of a proof: laws over values.
-/
import Derived.Test.YtcbmbafopahijabGreatDoorQ2
import Derived.Test.YtcbmbafopahijabGreatDoorSh
set_option linter.unusedVariables false
set_option linter.unusedSimpArgs false
namespace Go.Proofs.Trees
open Go Go.VL Go.RowKit
theorem S_Contains1 (l : List UInt8) (c : UInt8) : FSpec Tryz.prog n_strings_Contains [.v (.string (mk l)), .v (.string (mk [c]))] [] (Det (.v (.bool (decide (0 ≤ Lib.indexByte l c))))) := by
  refine FSpec.lib (xs := [.string (mk l), .string (mk [c])]) ⟨fd_strings_Contains, by kernel_rfl, by kernel_rfl, by kernel_rfl⟩ fun w => ?_
  have := Any.strings_Contains_one Tryz.lays144 (mk l) c w
  refine Calls.mono this fun e w' ⟨h1, h2⟩ => ?_
  rw [h2]
  have hd : (mk l).data.toList = l := by simp [mk]
  exact ⟨by rw [h1, hd], Below.refl _ _⟩
theorem S_Trim (l cs : List UInt8) (hl : l.length ≤ 1000000) (hc : cs.length ≤ 1000) (ha : ∀ b, b ∈ cs → b.toNat < 128) : FSpec Tryz.prog n_strings_Trim [.v (.string (mk l)), .v (.string (mk cs))] [] (Det (.v (.string (mk (Lib.trimS l cs))))) := by
  refine FSpec.lib (xs := [.string (mk l), .string (mk cs)]) ⟨fd_strings_Trim, by kernel_rfl, by kernel_rfl, by kernel_rfl⟩ fun w => ?_
  have := Any.strings_Trim_laid Tryz.lays160 (by kernel_rfl) (mk l) (mk cs) w (by rw [size_mk]; omega) (by rw [size_mk]; omega) (fun j b hj => ha b (by
    have : (mk cs).data.toList = cs := by simp [mk]
    rw [this] at hj
    exact List.mem_of_getElem? hj))
  refine Calls.mono this fun e w' ⟨h1, h2⟩ => ⟨?_, h2⟩
  rw [h1]
  simp [mk]
theorem indexByte_mem : ∀ (l : List UInt8) (c : UInt8), (0 ≤ Lib.indexByte l c ↔ c ∈ l) ∧ -1 ≤ Lib.indexByte l c
  | [], c => by simp [Lib.indexByte]
  | b :: l, c => by
    obtain ⟨h1, h2⟩ := indexByte_mem l c
    unfold Lib.indexByte
    by_cases e : b = c
    · subst e; simp
    · have e' : (b == c) = false := by simp [e]
      rw [e']
      by_cases q : Lib.indexByte l c = -1
      · have : c ∉ l := fun h => by have := h1.2 h; omega
        simp [q, this, Ne.symm e]
      · have q' : (Lib.indexByte l c == -1) = false := by simp [q]
        simp only [q', Bool.false_eq_true, if_false, List.mem_cons]
        constructor
        · constructor
          · intro h; exact .inr (h1.1 (by omega))
          · intro h
            rcases h with h | h
            · exact absurd h.symm e
            · have := h1.2 h; omega
        · omega
theorem dropWhile_nil {p : UInt8 → Bool} : ∀ (l : List UInt8), l.dropWhile p = [] ↔ l.all p = true
  | [] => by simp
  | b :: l => by
    cases h : p b with
    | true => rw [List.dropWhile_cons_of_pos h, dropWhile_nil l]; simp [h]
    | false => rw [List.dropWhile_cons_of_neg (by rw [h]; simp)]; simp [h]
theorem trimS_nil (l cs : List UInt8) : Lib.trimS l cs = [] ↔ l.all (cs.contains ·) = true := by
  unfold Lib.trimS Lib.trimLeftS
  rw [dropWhile_nil]
  unfold Lib.trimRightS
  constructor
  · intro h
    by_cases hn : l.reverse.dropWhile (cs.contains ·) = []
    · rw [dropWhile_nil] at hn
      simpa using hn
    · exfalso
      rw [List.all_reverse] at h
      obtain ⟨b, r, e⟩ := List.exists_cons_of_ne_nil hn
      have h1 : cs.contains b = false := by
        have := List.head_dropWhile_not (p := (cs.contains ·)) (l := l.reverse) hn
        simp only [e, List.head_cons] at this
        exact this
      rw [e] at h
      simp only [List.all_cons, Bool.and_eq_true] at h
      rw [h1] at h; cases h.1
  · intro h
    have : l.reverse.dropWhile (cs.contains ·) = [] := by rw [dropWhile_nil]; simpa using h
    rw [this]; rfl
def dgs : List UInt8 := [48, 49, 50, 51, 52, 53, 54, 55, 56, 57]
theorem dgs_isDg (b : UInt8) : dgs.contains b = isDg b := by
  have : ∀ n : Fin 256, dgs.contains (UInt8.ofNat n.val) = isDg (UInt8.ofNat n.val) := by decide +kernel
  have := this ⟨b.toNat, b.toNat_lt⟩
  simpa using this
theorem S_isNamed (s ls : List UInt8) (lo hi : Nat) (hls : ∀ c : UInt8, c ∈ ls ↔ lo ≤ c.toNat ∧ c.toNat ≤ hi) : FSpec Tryz.prog n_impl_isNamed [.v (.string (mk s)), .v (.string (mk ls))] [] (Det (.v (.bool (named lo hi s)))) := by
  refine F_impl_isNamed _ _ ?_
  simp only [t_impl_isNamed, ↓zp, zs, hasK, zt, Det]
  cases s with
  | nil => exact ⟨fun h => by simp at h, fun _ => rfl⟩
  | cons c s =>
    have e1 : (List.take (Int.toNat 1) (c :: s)) = [c] := rfl
    have e2 : (List.take (s.length + 1) (c :: s)).drop (Int.toNat 1) = s := by simp
    simp only [List.length_cons, e1, e2]
    refine ⟨fun _ => ⟨fun h3 => ⟨by omega, ?_⟩, fun h3 => ?_⟩, fun h => by omega⟩
    · have hl : s.length ≤ 2 := by omega
      refine wp_det (S_Contains1 ls c) ?_
      simp only [↓zp, zs, hasK]
      have hi1 := (indexByte_mem ls c).1
      refine ⟨fun h => ⟨by omega, ?_⟩, fun h => ?_⟩
      · refine wp_det (S_Trim s dgs (by omega) (by decide) (by decide)) ?_
        simp only [↓zp, zs, hasK, zt]
        have hc := (hls c).1 (hi1.1 h)
        congr 2
        rw [Bool.eq_iff_iff, beq_iff_eq, trimS_nil]
        simp only [named, hl, hc, decide_true, Bool.true_and, and_self]
        have : (fun x => dgs.contains x) = isDg := funext dgs_isDg
        rw [this]
      · have hc : ¬ (lo ≤ c.toNat ∧ c.toNat ≤ hi) := fun h' => h (hi1.2 ((hls c).2 h'))
        simp only [named, hc, zf]
    · have hl : ¬ s.length ≤ 2 := by omega
      simp only [named, hl, zf]
theorem S_isParameter (s : List UInt8) : FSpec Tryz.prog n_impl_isParameter [.v (.string (mk s))] [] (Det (.v (.bool (isPar s)))) := by
  refine F_impl_isParameter _ ?_
  unfold t_impl_isParameter
  have h : ∀ n : Fin 256, (UInt8.ofNat n.val ∈ [(120 : UInt8), 121, 122]) ↔ 120 ≤ (UInt8.ofNat n.val).toNat ∧ (UInt8.ofNat n.val).toNat ≤ 122 := by decide +kernel
  refine wp_det (S_isNamed s [120, 121, 122] 120 122 fun c => by simpa using h ⟨c.toNat, c.toNat_lt⟩) ?_
  simp only [↓zp, zs, hasK, Det, isPar]
theorem S_isLoopName (s : List UInt8) : FSpec Tryz.prog n_impl_isLoopName [.v (.string (mk s))] [] (Det (.v (.bool (isLoo s)))) := by
  refine F_impl_isLoopName _ ?_
  unfold t_impl_isLoopName
  have h : ∀ n : Fin 256, (UInt8.ofNat n.val ∈ [(116 : UInt8)]) ↔ 116 ≤ (UInt8.ofNat n.val).toNat ∧ (UInt8.ofNat n.val).toNat ≤ 116 := by decide +kernel
  refine wp_det (S_isNamed s [116] 116 116 fun c => by simpa using h ⟨c.toNat, c.toNat_lt⟩) ?_
  simp only [↓zp, zs, hasK, Det, isLoo]
end Go.Proofs.Trees
