/-
  Part of a proof: laws over values.
-/
import Derived.Test.YtcbmbafopahijabGreatDoorL1
set_option linter.unusedVariables false
set_option linter.unusedSimpArgs false
namespace Go.Proofs.Trees
open Go Go.VL Go.RowKit
/-! ### Marks on lists of integers -/
def IntsA (a : AV) (l : List Nat) : Prop := LK.sl.has a ∧ a.elems = intsAV l
theorem IntsA.of (l : List Nat) : IntsA (.sl (intsAV l)) l := ⟨(has_sl _).mpr trivial, rfl⟩
theorem IntsA.nil : IntsA (.v (.slice none 0 0)) [] := ⟨(has_slnil).mpr trivial, rfl⟩
theorem IntsA.len {a : AV} {l : List Nat} (h : IntsA a l) : a.elems.length = l.length := by rw [h.2, intsAV_len]
theorem IntsA.idx {a : AV} {l : List Nat} (h : IntsA a l) {i : Nat} (hi : i < l.length) : a.elems.getD i [] = [.v (.int .i64 (l.getD i 0 : Nat))] := by
  rw [h.2]; simp [intsAV, List.getD_eq_getElem?_getD, hi]
def mki (k n : Nat) : List Nat := List.range' k n
theorem mki_len (k n : Nat) : (mki k n).length = n := by simp [mki]
theorem mki_succ (k n : Nat) : mki k (n + 1) = k :: mki (k + 1) n := by simp [mki, List.range'_succ]
theorem mki_get {k n i : Nat} (h : i < n) : (mki k n).getD i 0 = k + i := by simp [mki, List.getD_eq_getElem?_getD, h]
theorem intsAV_set {l : List Nat} {i : Nat} (hi : i < l.length) (s : Nat) : (intsAV l).set i (((intsAV l).getD i []).set 0 (.v (.int .i64 (s : Int)))) = intsAV (l.set i s) := by
  have : (intsAV l).getD i [] = [.v (.int .i64 ((l[i] : Nat) : Int))] := by simp [intsAV, List.getD_eq_getElem?_getD, hi]
  rw [this]; simp [intsAV, List.map_set]
theorem LS_markI : ∀ (m i k : Nat) (l : List Nat), i + m = l.length → l.length ≤ 1000000 → k + m ≤ 2000000 → LS_laws_markIntS_1 [.v (.int .i64 (k : Int)), .v (.int .i64 (i : Int))] [.vec 1 (intsAV l)] (LIs 1 [.v (.int .i64 ((k + m : Nat) : Int))] [.vec 1 (intsAV (l.take i ++ mki k m))])
  | 0, i, k, l, hi, hl, hk => by
    refine G_laws_markIntS_1 _ _ _ ?_
    simp only [r_laws_markIntS_1, ↓zp, zs, hasK, intsAV_len]
    refine ⟨fun h => by omega, fun _ => ?_⟩
    have : l.take i = l := List.take_of_length_le (by omega)
    simp [LIs, this, mki]
  | m + 1, i, k, l, hi, hl, hk => by
    have hlt : i < l.length := by omega
    refine G_laws_markIntS_1 _ _ _ ?_
    simp only [r_laws_markIntS_1, ↓zp, zs, hasK, intsAV_len, Int.toNat_natCast, intsAV_set hlt]
    refine ⟨fun _ => ?_, fun h => by omega⟩
    refine ⟨⟨by omega, by omega⟩, ⟨hlt, by omega⟩, ?_⟩
    have := LS_markI m (i + 1) (k + 1) (l.set i k) (by simp; omega) (by simpa using hl) (by omega)
    rw [wrap_succ i (by omega), wrap_succ k (by omega)]
    have e : (l.set i k).take (i + 1) ++ mki (k + 1) m = l.take i ++ mki k (m + 1) := by
      rw [mki_succ, List.take_succ_eq_append_getElem (by simpa using hlt), List.take_set_of_le (Nat.le_refl _)]; simp
    rw [e, show k + 1 + m = k + (m + 1) by omega] at this
    exact this
theorem S_markIntS (k : Nat) (l : List Nat) (hl : l.length ≤ 1000000) (hk : k ≤ 1000000) : FSpec Tryz.prog n_laws_markIntS [.vec 0, .v (.int .i64 (k : Int))] [.vec 1 (intsAV l)] (DetO (.v (.int .i64 ((k + l.length : Nat) : Int))) [.kvec 1 (intsAV (mki k l.length))]) := by
  refine F_laws_markIntS _ _ ?_
  unfold t_laws_markIntS
  have := LS_markI l.length 0 k l (by omega) hl (by omega)
  rw [List.take_zero, List.nil_append] at this
  refine wp_loop1 this ?_
  simp [↓zp, zs, hasK, DetO, Ob.es]
theorem LS_heldI (a : AV) (k n : Nat) (ha : IntsA a (mki k n)) (hn : n ≤ 1000000) (hk : k ≤ 1000000) : ∀ (m i : Nat), i + m = n → LS_laws_heldIntS_1 [a, .v (.int .i64 ((k + i : Nat) : Int)), .v (.int .i64 (i : Int))] [] (LIs 1 [.v (.int .i64 ((k + n : Nat) : Int))] [])
  | 0, i, hi => by
    refine G_laws_heldIntS_1 _ _ _ ?_
    simp only [r_laws_heldIntS_1, ↓zp, zs, hasK, ha.len, mki_len]
    refine ⟨ha.1, ha.1, fun h => by omega, fun _ => ?_⟩
    rw [show i = n by omega]; exact ⟨rfl, rfl, rfl⟩
  | m + 1, i, hi => by
    have hlt : i < n := by omega
    refine G_laws_heldIntS_1 _ _ _ ?_
    simp only [r_laws_heldIntS_1, ↓zp, zs, hasK, zt, ha.len, mki_len, ha.idx (show i < (mki k n).length by rw [mki_len]; exact hlt), mki_get hlt, Int.toNat_natCast]
    refine ⟨ha.1, ha.1, fun _ => ⟨⟨ha.1, by omega, by omega⟩, by omega, fun h => by simp at h, fun _ => ?_⟩, fun h => by omega⟩
    rw [wrap_succ i (by omega), wrap_succ (k + i) (by omega)]
    exact LS_heldI a k n ha hn hk m (i + 1) (by omega)
theorem S_heldIntS (a : AV) (k n : Nat) (ha : IntsA a (mki k n)) (hn : n ≤ 1000000) (hk : k ≤ 1000000) : FSpec Tryz.prog n_laws_heldIntS [a, .v (.int .i64 (k : Int))] [] (Det (.v (.int .i64 ((k + n : Nat) : Int)))) := by
  refine F_laws_heldIntS _ _ ha.1 ?_
  unfold t_laws_heldIntS
  have := LS_heldI a k n ha hn hk n 0 (by omega)
  refine wp_loop1 this ?_
  simp [↓zp, zs, hasK, Det]
theorem LS_eqInt (a b : AV) (l : List Nat) (ha : IntsA a l) (hb : IntsA b l) (hl : l.length ≤ 1000000) : ∀ (m i : Nat), i + m = l.length → LS_laws_eqIntS_1 [a, b, .v (.int .i64 (i : Int))] [] (LIs 1 [] [])
  | 0, i, hi => by
    refine G_laws_eqIntS_1 _ _ _ ?_
    simp only [r_laws_eqIntS_1, ↓zp, zs, hasK, ha.len]
    exact ⟨ha.1, hb.1, ha.1, fun h => by omega, fun _ => ⟨rfl, rfl, rfl⟩⟩
  | m + 1, i, hi => by
    have hlt : i < l.length := by omega
    refine G_laws_eqIntS_1 _ _ _ ?_
    simp only [r_laws_eqIntS_1, ↓zp, zs, hasK, zt, ha.len, hb.len, ha.idx hlt, hb.idx hlt, Int.toNat_natCast]
    refine ⟨ha.1, hb.1, ha.1, fun _ => ⟨⟨ha.1, by omega, by omega⟩, by omega, ⟨hb.1, by omega, by omega⟩, by omega, fun h => by simp at h, fun _ => ?_⟩, fun h => by omega⟩
    rw [wrap_succ i (by omega)]
    exact LS_eqInt a b l ha hb hl m (i + 1) (by omega)
theorem S_eqIntS (a b : AV) (l : List Nat) (ha : IntsA a l) (hb : IntsA b l) (hl : l.length ≤ 1000000) : FSpec Tryz.prog n_laws_eqIntS [a, b] [] (Det (.v (.bool true))) := by
  refine F_laws_eqIntS _ _ ha.1 hb.1 ?_
  simp only [t_laws_eqIntS, ↓zp, zs, hasK, ha.len, hb.len]
  refine ⟨ha.1, hb.1, fun h => by simp at h, fun _ => ?_⟩
  refine wp_loop1 (LS_eqInt a b l ha hb hl l.length 0 (by omega)) ?_
  simp [Det, ↓zp, zs, hasK]
end Go.Proofs.Trees
