/-
  Part of a proof: laws over values.
-/
import Derived.Test.YtcbmbafopahijabGreatDoorQ1
set_option linter.unusedVariables false
set_option linter.unusedSimpArgs false
namespace Go.Proofs.Trees
open Go Go.VL
mutual
def E.sz : E → Nat
  | .atom _ => 1
  | .list l => 1 + E.szs l
def E.szs : List E → Nat
  | [] => 0
  | e :: l => e.sz + E.szs l
end
mutual
/-- No atom is empty. -/
def E.ok : E → Prop
  | .atom s => s ≠ []
  | .list l => E.oks l
def E.oks : List E → Prop
  | [] => True
  | e :: l => e.ok ∧ E.oks l
end
theorem szs_app (l r : List E) : E.szs (l ++ r) = E.szs l + E.szs r := by
  induction l with
  | nil => simp [E.szs]
  | cons e l ih => simp [E.szs, ih]; omega
theorem oks_app (l r : List E) : E.oks (l ++ r) ↔ E.oks l ∧ E.oks r := by
  induction l with
  | nil => simp [E.oks]
  | cons e l ih => simp [E.oks, ih, and_assoc]
theorem rdL_ok {f : List UInt8 → Option (E × List UInt8)} (hf : ∀ s e r, f s = some (e, r) → e.ok ∧ e.sz + r.length ≤ s.length) : ∀ (n : Nat) (s : List UInt8) (acc : List E) (e : E) (r : List UInt8), rdL f n s acc = some (e, r) → E.oks acc → e.ok ∧ e.sz + r.length ≤ s.length + 1 + E.szs acc
  | 0, s, acc, e, r, h, _ => by cases h
  | n + 1, s, acc, e, r, h, ha => by
    simp only [rdL] at h
    split at h
    · rename_i p c r' hs
      obtain ⟨h1, h2⟩ := hf _ _ _ hs
      simp only [List.length_cons] at h2
      split at h
      · cases h
        refine ⟨(oks_app _ _).2 ⟨ha, h1, trivial⟩, ?_⟩
        simp only [E.sz, szs_app, E.szs]; omega
      · split at h
        · have := rdL_ok hf n _ _ _ _ h ((oks_app _ _).2 ⟨ha, h1, trivial⟩)
          refine ⟨this.1, ?_⟩
          have h3 := this.2
          simp only [szs_app, E.szs] at h3; omega
        · cases h
    · cases h
theorem tw_len (s : List UInt8) : (s.takeWhile isA).length + (s.dropWhile isA).length = s.length := by
  have := congrArg List.length (List.takeWhile_append_dropWhile (p := isA) (l := s))
  simpa only [List.length_append] using this
theorem rd_ok : ∀ (k : Nat) (s : List UInt8) (e : E) (r : List UInt8), rd k s = some (e, r) → e.ok ∧ e.sz + r.length ≤ s.length
  | 0, s, e, r, h => by
    simp only [rd] at h
    split at h
    · cases h
    · rename_i hn; cases h
      have := tw_len s
      have : 0 < (s.takeWhile isA).length := List.length_pos_iff.2 hn
      exact ⟨hn, by simp only [E.sz]; omega⟩
  | k + 1, s, e, r, h => by
    simp only [rd] at h
    split at h
    · split at h
      · split at h
        · have := rdL_ok (rd_ok k) _ _ _ _ _ h trivial
          refine ⟨this.1, ?_⟩
          have h3 := this.2
          simp only [E.szs, List.length_cons] at h3 ⊢; omega
        · cases h
      · cases h
    · rename_i hn; cases h
      have := tw_len s
      have : 0 < (s.takeWhile isA).length := List.length_pos_iff.2 hn
      exact ⟨hn, by simp only [E.sz]; omega⟩
/-- The whole text. -/
def rdT (s : List UInt8) : Option E := if s.length > 8000 then none else match rd 300 s with | some (e, []) => some e | _ => none
theorem rdT_ok {s : List UInt8} {e : E} (h : rdT s = some e) : e.ok ∧ e.sz ≤ 8000 := by
  unfold rdT at h
  split at h
  · cases h
  · split at h
    · rename_i e' hr
      cases h
      have := rd_ok _ _ _ _ hr
      exact ⟨this.1, by have := this.2; simp at this; omega⟩
    · cases h
def optP : Option E → AV
  | some e => e.iav
  | none => .v (.pointer none)
theorem S_readText (s : List UInt8) : FSpec Tryz.prog n_impl_readText [.v (.string (mk s))] [] (Det (optP (rdT s))) := by
  refine F_impl_readText _ ?_
  simp only [t_impl_readText, ↓zp, zs, hasK, zt, Det, rdT]
  refine ⟨fun h => ?_, fun h => ?_⟩
  · rw [if_pos (by omega)]; simp [optP]
  · rw [if_neg (by omega)]
    refine wp_det (S_readExpr 300 (by omega) s (by omega)) ?_
    cases hr : rd 300 s with
    | none =>
      simp only [iRes, ↓zp, zs, hasK, zt, optP]
      refine ⟨fun _ => trivial, fun _ => trivial⟩
    | some q =>
      obtain ⟨e, r⟩ := q
      cases r with
      | nil => simp only [iRes, ↓zp, zs, hasK, zt, optP, iav_has]; simp
      | cons c r => simp only [iRes, ↓zp, zs, hasK, zt, optP, iav_has]; simp
/-! ### Names -/
def isDg (b : UInt8) : Bool := decide (48 ≤ b.toNat ∧ b.toNat ≤ 57)
def named (lo hi : Nat) : List UInt8 → Bool
  | [] => false
  | c :: r => decide (r.length ≤ 2) && decide (lo ≤ c.toNat ∧ c.toNat ≤ hi) && r.all isDg
def isPar (s : List UInt8) : Bool := named 120 122 s
def isLoo (s : List UInt8) : Bool := named 116 116 s
def inR (v lo hi : Int) : Bool := decide (lo ≤ v ∧ v ≤ hi)
theorem S_l6In (v lo hi : Int) : FSpec Tryz.prog n_spec_l6In [.v (.int .i64 v), .v (.int .i64 lo), .v (.int .i64 hi)] [] (Det (.v (.bool (inR v lo hi)))) := by
  refine F_spec_l6In _ _ _ ?_
  simp only [t_spec_l6In, ↓zp, zs, hasK, Det, inR]
  constructor <;> intro h <;> simp at h <;> simp [h]
  omega
theorem LS_l1Name (s : List UInt8) (hs : s.length ≤ 3) : ∀ (k i : Nat), i + k = s.length → LS_spec_l1Name_1 [.v (.string (mk s)), .v (.int .i64 (i : Int))] [] (LBy (if (s.drop i).all isDg = true then (1, [], []) else (2, [.v (.bool false)], [])))
  | 0, i, hi => by
    have hd : s.drop i = [] := List.drop_eq_nil_of_le (by omega)
    refine G_spec_l1Name_1 _ _ ?_
    simp only [r_spec_l1Name_1, ↓zp, zs, hasK, zt]
    exact ⟨fun h => by omega, fun _ => by simp [LBy, hd]⟩
  | k + 1, i, hi => by
    have hlt : i < s.length := by omega
    have e : s.drop i = s.getD i 0 :: s.drop (i + 1) := by
      rw [List.drop_eq_getElem_cons hlt]; simp [List.getD_eq_getElem?_getD, hlt]
    refine G_spec_l1Name_1 _ _ ?_
    simp only [r_spec_l1Name_1, ↓zp, zs, hasK, zt, bt_mk s i hlt, e, List.all_cons]
    generalize hb : s.getD i 0 = b
    refine ⟨fun _ => ⟨by omega, fun h => ?_, fun h => ⟨by omega, fun h2 => ?_, fun h2 => ?_⟩⟩, fun h => by omega⟩
    · have : isDg b = false := by simp [isDg]; omega
      simp only [this, zf, LBy]
    · have : isDg b = false := by simp [isDg]; omega
      simp only [this, zf, LBy]
    · have : isDg b = true := by simp [isDg]; omega
      rw [wrap_succ i (by omega), this, Bool.true_and]
      exact LS_l1Name s hs k (i + 1) (by omega)
theorem S_l1Name (s : List UInt8) (lo hi : Nat) : FSpec Tryz.prog n_spec_l1Name [.v (.string (mk s)), .v (.int .u8 (lo : Int)), .v (.int .u8 (hi : Int))] [] (Det (.v (.bool (named lo hi s)))) := by
  refine F_spec_l1Name _ _ _ ?_
  unfold t_spec_l1Name
  rw [size_mk]
  refine wp_det (S_l6In _ _ _) ?_
  simp only [↓zp, zs, hasK, zt, Det]
  refine ⟨fun h => ?_, fun h => ?_⟩
  · cases s with
    | nil => rfl
    | cons c s =>
      simp [inR] at h
      have : ¬ s.length ≤ 2 := by omega
      simp [named, this]
  · cases s with
    | nil => simp [inR] at h
    | cons c s =>
      simp [inR] at h
      have hl : s.length ≤ 2 := by omega
      have hb := bt_mk (c :: s) 0 (by simp)
      simp only [Int.ofNat_eq_natCast, Int.cast_ofNat_Int] at hb
      simp only [↓zp, zs, hasK, hb]
      refine ⟨by omega, fun h1 => ?_, fun h1 => ⟨by omega, fun h2 => ?_, fun h2 => ?_⟩⟩
      · have : ¬ lo ≤ c.toNat := by omega
        simp [named, this]
      · have : ¬ c.toNat ≤ hi := by omega
        simp [named, this]
      · refine wp_loopB (LS_l1Name (c :: s) (by simp; omega) s.length 1 (by simp; omega)) (fun ys o e => ?_) (fun ys o e => ?_)
        · split at e <;> cases e
          rename_i ha
          simp at ha
          simp only [↓zp, zs, hasK]
          simp [named, hl]
          exact ⟨⟨by omega, by omega⟩, fun x hx => by simpa using ha x hx⟩
        · split at e <;> cases e
          rename_i ha
          simp only [↓zp, zs, hasK]
          have : s.all isDg = false := by simpa using ha
          simp [named, this]
theorem S_l1Param (s : List UInt8) : FSpec Tryz.prog n_spec_l1Param [.v (.string (mk s))] [] (Det (.v (.bool (isPar s)))) := by
  refine F_spec_l1Param _ ?_
  unfold t_spec_l1Param
  refine wp_det (S_l1Name s 120 122) ?_
  simp only [↓zp, zs, hasK, Det, isPar]
theorem S_l1Loop (s : List UInt8) : FSpec Tryz.prog n_spec_l1Loop [.v (.string (mk s))] [] (Det (.v (.bool (isLoo s)))) := by
  refine F_spec_l1Loop _ ?_
  unfold t_spec_l1Loop
  refine wp_det (S_l1Name s 116 116) ?_
  simp only [↓zp, zs, hasK, Det, isLoo]
end Go.Proofs.Trees
