/-
  Part of a proof: laws over values.
-/
import Derived.Test.YtcbmbafopahijaaGreatDoorV3
set_option linter.unusedVariables false
set_option linter.unusedSimpArgs false
namespace Go.Proofs.Trees
open Go Go.VL
/-! ### Marks -/
def dz (k : Nat) : List UInt8 := if k = 0 then [] else dd k
theorem dz_step {k : Nat} (h : 0 < k) (s : List UInt8) : dz (k / 10) ++ ([UInt8.ofNat (48 + k % 10)] ++ s) = dz k ++ s := by
  have e : dz k = dd k := if_neg (by omega)
  rw [e]
  by_cases hk : k < 10
  · have e2 : dz (k / 10) = [] := if_pos (by omega)
    rw [e2, dd_one hk, show k % 10 = k by omega]; rfl
  · have e2 : dz (k / 10) = dd (k / 10) := if_neg (by omega)
    rw [e2, dd_more hk, List.append_assoc]
def mtx (k : Nat) : List UInt8 := 109 :: (if k = 0 then [48] else dd k)
theorem LS_markText : ∀ (n k : Nat) (s : List UInt8), k < n → k < 1000000000 → s.length + k ≤ 2000000000 → LS_laws_markText_1 [.v (.int .i64 (k : Int)), .v (.string (mk s))] [] (LIs 1 [.v (.string (mk (dz k ++ s)))] [])
  | 0, k, s, h, _, _ => by omega
  | n + 1, k, s, h, hk, hs => by
    refine G_laws_markText_1 _ _ ?_
    simp only [r_laws_markText_1, ↓zp, zs, hasK]
    have e1 : IntKind.wrap .i64 (Int.tdiv (k : Int) 10) = ((k / 10 : Nat) : Int) := by
      rw [show Int.tdiv (k : Int) 10 = ((k / 10 : Nat) : Int) from (Int.ofNat_tdiv k 10).symm, wrap64 _ (by omega) (by omega)]
    have e2 : Int.tmod (k : Int) 10 = ((k % 10 : Nat) : Int) := (Int.ofNat_tmod k 10).symm
    rw [e1, e2, byte_of (k % 10) (by omega)]
    refine ⟨fun hp => ⟨by omega, allU8_one _, ?_, by omega, ?_⟩, fun hp => ?_⟩
    · rw [bytesOf_one]
      show (mk [_]).size + (mk s).size ≤ _
      rw [size_mk, size_mk]; simp; omega
    · rw [bytesOf_one]
      have := LS_markText n (k / 10) ([UInt8.ofNat (48 + k % 10)] ++ s) (by omega) (by omega) (by simp; omega)
      rw [dz_step (by omega)] at this
      show LS_laws_markText_1 [_, .v (.string (mk [_] ++ mk s))] [] _
      rw [append_mk]; exact this
    · have : k = 0 := by omega
      subst this
      simp [LIs, dz]
theorem dd_len' (k : Nat) : (dd k).length ≤ k + 1 := dd_len (k + 1) k (by omega)
theorem S_markText (k : Nat) (hk : k < 1000000000) : FSpec Tryz.prog n_laws_markText [.v (.int .i64 (k : Int))] [] (Det (.v (.string (mk (mtx k))))) := by
  refine F_laws_markText _ ?_
  simp only [t_laws_markText, ↓zp, zs, hasK, Det]
  refine ⟨fun h => ?_, fun h => ?_⟩
  · have : k = 0 := by omega
    subst this; rfl
  · refine wp_loop1 (LS_markText (k + 1) k [] (by omega) hk (by simp; omega)) ?_
    have hl := dd_len' k
    simp only [List.append_nil, dz, ↓zp, zs, hasK, zt, if_neg (show ¬ k = 0 by omega)]
    refine ⟨?_, ?_⟩
    · simp [size_mk]; omega
    · rw [mtx, if_neg (by omega)]; rfl
def mks (k n : Nat) : List (List UInt8) := (List.range' k n).map mtx
theorem mks_len (k n : Nat) : (mks k n).length = n := by simp [mks]
theorem mks_succ (k n : Nat) : mks k (n + 1) = mtx k :: mks (k + 1) n := by simp [mks, List.range'_succ]
theorem mks_get {k n i : Nat} (h : i < n) : (mks k n).getD i [] = mtx (k + i) := by simp [mks, List.getD_eq_getElem?_getD, h]
theorem strsAV_len (l : List (List UInt8)) : (strsAV l).length = l.length := by simp [strsAV]
theorem strsAV_set {l : List (List UInt8)} {i : Nat} (hi : i < l.length) (s : List UInt8) : (strsAV l).set i (((strsAV l).getD i []).set 0 (.v (.string (mk s)))) = strsAV (l.set i s) := by
  have : (strsAV l).getD i [] = [.v (.string (mk (l[i])))] := by simp [strsAV, List.getD_eq_getElem?_getD, hi]
  rw [this]; simp [strsAV, List.map_set]
theorem LS_mark : ∀ (m i k : Nat) (l : List (List UInt8)), i + m = l.length → l.length ≤ 1000000 → k + m ≤ 2000000 → LS_laws_markStringS_1 [.v (.int .i64 (k : Int)), .v (.int .i64 (i : Int))] [.vec 1 (strsAV l)] (LIs 1 [.v (.int .i64 ((k + m : Nat) : Int))] [.vec 1 (strsAV (l.take i ++ mks k m))])
  | 0, i, k, l, hi, hl, hk => by
    refine G_laws_markStringS_1 _ _ _ ?_
    simp only [r_laws_markStringS_1, ↓zp, zs, hasK, strsAV_len]
    refine ⟨fun h => by omega, fun _ => ?_⟩
    have : l.take i = l := List.take_of_length_le (by omega)
    simp [LIs, this, mks]
  | m + 1, i, k, l, hi, hl, hk => by
    have hlt : i < l.length := by omega
    refine G_laws_markStringS_1 _ _ _ ?_
    simp only [r_laws_markStringS_1, ↓zp, zs, hasK, strsAV_len]
    refine ⟨fun _ => ?_, fun h => by omega⟩
    refine wp_det (S_markText k (by omega)) ?_
    simp only [↓zp, zs, hasK, zt, Int.toNat_natCast, strsAV_set hlt]
    refine ⟨⟨by omega, by omega⟩, ⟨hlt, by omega⟩, ?_⟩
    have := LS_mark m (i + 1) (k + 1) (l.set i (mtx k)) (by simp; omega) (by simpa using hl) (by omega)
    rw [wrap_succ i (by omega), wrap_succ k (by omega)]
    have e : (l.set i (mtx k)).take (i + 1) ++ mks (k + 1) m = l.take i ++ mks k (m + 1) := by
      rw [mks_succ, List.take_succ_eq_append_getElem (by simpa using hlt), List.take_set_of_le (Nat.le_refl _)]; simp
    rw [e, show k + 1 + m = k + (m + 1) by omega] at this
    exact this
theorem S_markStringS (k : Nat) (l : List (List UInt8)) (hl : l.length ≤ 1000000) (hk : k ≤ 1000000) : FSpec Tryz.prog n_laws_markStringS [.vec 0, .v (.int .i64 (k : Int))] [.vec 1 (strsAV l)] (DetO (.v (.int .i64 ((k + l.length : Nat) : Int))) [.kvec 1 (strsAV (mks k l.length))]) := by
  refine F_laws_markStringS _ _ ?_
  unfold t_laws_markStringS
  have := LS_mark l.length 0 k l (by omega) hl (by omega)
  rw [List.take_zero, List.nil_append] at this
  refine wp_loop1 this ?_
  simp [↓zp, zs, hasK, DetO, Ob.es]
theorem LS_held (a : AV) (k n : Nat) (ha : StrsA a (mks k n)) (hn : n ≤ 1000000) (hk : k ≤ 1000000) : ∀ (m i : Nat), i + m = n → LS_laws_heldStringS_1 [a, .v (.int .i64 ((k + i : Nat) : Int)), .v (.int .i64 (i : Int))] [] (LIs 1 [.v (.int .i64 ((k + n : Nat) : Int))] [])
  | 0, i, hi => by
    refine G_laws_heldStringS_1 _ _ _ ?_
    simp only [r_laws_heldStringS_1, ↓zp, zs, hasK, ha.len, mks_len]
    refine ⟨ha.1, ha.1, fun h => by omega, fun _ => ?_⟩
    rw [show i = n by omega]; exact ⟨rfl, rfl, rfl⟩
  | m + 1, i, hi => by
    have hlt : i < n := by omega
    refine G_laws_heldStringS_1 _ _ _ ?_
    simp only [r_laws_heldStringS_1, ↓zp, zs, hasK, zt, ha.len, mks_len, ha.idx (show i < (mks k n).length by rw [mks_len]; exact hlt), mks_get hlt, Int.toNat_natCast]
    refine ⟨ha.1, ha.1, fun _ => ⟨⟨ha.1, by omega, by omega⟩, by omega, ?_⟩, fun h => by omega⟩
    refine wp_det (S_markText (k + i) (by omega)) ?_
    simp only [↓zp, zs, hasK, zt]
    refine ⟨fun h => by simp at h, fun _ => ?_⟩
    rw [wrap_succ i (by omega), wrap_succ (k + i) (by omega)]
    exact LS_held a k n ha hn hk m (i + 1) (by omega)
theorem S_heldStringS (a : AV) (k n : Nat) (ha : StrsA a (mks k n)) (hn : n ≤ 1000000) (hk : k ≤ 1000000) : FSpec Tryz.prog n_laws_heldStringS [a, .v (.int .i64 (k : Int))] [] (Det (.v (.int .i64 ((k + n : Nat) : Int)))) := by
  refine F_laws_heldStringS _ _ ha.1 ?_
  unfold t_laws_heldStringS
  have := LS_held a k n ha hn hk n 0 (by omega)
  refine wp_loop1 this ?_
  simp [↓zp, zs, hasK, Det]
theorem LS_eqStr (a b : AV) (l : List (List UInt8)) (ha : StrsA a l) (hb : StrsA b l) (hl : l.length ≤ 1000000) : ∀ (m i : Nat), i + m = l.length → LS_laws_eqStringS_1 [a, b, .v (.int .i64 (i : Int))] [] (LIs 1 [] [])
  | 0, i, hi => by
    refine G_laws_eqStringS_1 _ _ _ ?_
    simp only [r_laws_eqStringS_1, ↓zp, zs, hasK, ha.len]
    exact ⟨ha.1, hb.1, ha.1, fun h => by omega, fun _ => ⟨rfl, rfl, rfl⟩⟩
  | m + 1, i, hi => by
    have hlt : i < l.length := by omega
    refine G_laws_eqStringS_1 _ _ _ ?_
    simp only [r_laws_eqStringS_1, ↓zp, zs, hasK, zt, ha.len, hb.len, ha.idx hlt, hb.idx hlt, Int.toNat_natCast]
    refine ⟨ha.1, hb.1, ha.1, fun _ => ⟨⟨ha.1, by omega, by omega⟩, by omega, ⟨hb.1, by omega, by omega⟩, by omega, fun h => by simp at h, fun _ => ?_⟩, fun h => by omega⟩
    rw [wrap_succ i (by omega)]
    exact LS_eqStr a b l ha hb hl m (i + 1) (by omega)
/-- The same texts are told to be the same. -/
theorem S_eqStringS (a b : AV) (l : List (List UInt8)) (ha : StrsA a l) (hb : StrsA b l) (hl : l.length ≤ 1000000) : FSpec Tryz.prog n_laws_eqStringS [a, b] [] (Det (.v (.bool true))) := by
  refine F_laws_eqStringS _ _ ha.1 hb.1 ?_
  simp only [t_laws_eqStringS, ↓zp, zs, hasK, ha.len, hb.len]
  refine ⟨ha.1, hb.1, fun h => by simp at h, fun _ => ?_⟩
  refine wp_loop1 (LS_eqStr a b l ha hb hl l.length 0 (by omega)) ?_
  simp [Det, ↓zp, zs, hasK]
end Go.Proofs.Trees
