/-
  Part of a proof: laws over values.
-/
import Derived.Test.YtcbmbafopahijabGreatDoorV1
set_option linter.unusedVariables false
set_option linter.unusedSimpArgs false
namespace Go.Proofs.Trees
open Go Go.VL Go.RowKit
/-! ### Elements -/
def dgN : List UInt8 → Nat → Option Nat
  | [], n => some n
  | b :: r, n => if isDg b = true then dgN r (10 * n + (b.toNat - 48)) else none
/-- The number of an element. -/
def elNum (s : List UInt8) : Option Nat :=
  if s.length = 2 ∨ s.length = 3 then (if s.getD 0 0 = 101 ∧ ¬ (s.length = 3 ∧ s.getD 1 0 = 48) then dgN (s.drop 1) 0 else none) else none
def elI (s : List UInt8) : Int := match elNum s with | some k => (k : Int) | none => -1
theorem LS_l2Element (s : List UInt8) (hs : s.length ≤ 3) : ∀ (k i n : Nat), i + k = s.length → 1 ≤ i → (n + 1) * 10 ^ k ≤ 1000 → LS_spec_l2Element_1 [.v (.string (mk s)), .v (.int .i64 (n : Int)), .v (.int .i64 (i : Int))] []
    (LBy (match dgN (s.drop i) n with | some m => (1, [.v (.int .i64 (m : Int))], []) | none => (2, [.v (.int .i64 (-1))], [])))
  | 0, i, n, hi, h1, hn => by
    refine G_spec_l2Element_1 _ _ _ ?_
    have hd : s.drop i = [] := List.drop_eq_nil_of_le (by omega)
    simp only [r_spec_l2Element_1, ↓zp, zs, hasK, zt, hd, dgN]
    exact ⟨fun h => by omega, fun _ => by first | trivial | rfl⟩
  | k + 1, i, n, hi, h1, hn => by
    have hlt : i < s.length := by omega
    refine G_spec_l2Element_1 _ _ _ ?_
    rw [drop_cons hlt, dgN]
    simp only [r_spec_l2Element_1, ↓zp, zs, hasK, zt, bt_mk s i hlt]
    generalize s.getD i 0 = b
    have hb := b.toNat_lt
    refine ⟨fun _ => ⟨by omega, fun h48 => ?_, fun h48 => ⟨by omega, fun h57 => ?_, fun h57 => ⟨by omega, ?_⟩⟩⟩, fun h => by omega⟩
    · have : isDg b = false := by simp only [isDg, decide_eq_false_iff_not]; omega
      rw [this]; rfl
    · have : isDg b = false := by simp only [isDg, decide_eq_false_iff_not]; omega
      rw [this]; rfl
    · have : isDg b = true := by simp only [isDg, decide_eq_true_eq]; omega
      rw [if_pos this]
      have hk : k = 0 ∨ k = 1 := by omega
      have hn2 : n * 10 ≤ 1000 := by
        rcases hk with rfl | rfl <;> simp at hn <;> omega
      have e8 : IntKind.wrap .u8 ((b.toNat : Int) - 48) = ((b.toNat - 48 : Nat) : Int) := by
        have : b.toNat = 48 ∨ b.toNat = 49 ∨ b.toNat = 50 ∨ b.toNat = 51 ∨ b.toNat = 52 ∨ b.toNat = 53 ∨ b.toNat = 54 ∨ b.toNat = 55 ∨ b.toNat = 56 ∨ b.toNat = 57 := by omega
        rcases this with h | h | h | h | h | h | h | h | h | h <;> rw [h] <;> rfl
      rw [e8, wrap_succ i (by omega), wrap64 ((b.toNat - 48 : Nat) : Int) (by omega) (by omega), wrap64 (10 * (n : Int)) (by omega) (by omega), wrap64 _ (by omega) (by omega)]
      have e : (10 * (n : Int) + ((b.toNat - 48 : Nat) : Int)) = ((10 * n + (b.toNat - 48) : Nat) : Int) := by omega
      rw [e]
      exact LS_l2Element s hs k (i + 1) _ (by omega) (by omega) (by rcases hk with rfl | rfl <;> simp at hn ⊢ <;> omega)
theorem S_l2Element (s : List UInt8) : FSpec Tryz.prog n_spec_l2Element [.v (.string (mk s))] [] (Det (.v (.int .i64 (elI s)))) := by
  refine F_spec_l2Element _ ?_
  unfold t_spec_l2Element
  refine wp_det (S_l6In _ _ _) ?_
  simp only [↓zp, zs, hasK, zt, inR, Det]
  have hL : ∀ (Q : Nat → List AV → List Ob → Prop), (s.length = 2 ∨ s.length = 3) → s.getD 0 0 = 101 → ¬ (s.length = 3 ∧ s.getD 1 0 = 48) → (Q 0 [.v (.int .i64 (elI s))] []) →
      wpT Tryz.prog 49 (.loop C_spec_l2Element_1 L_spec_l2Element_1 [.v (.string (mk s)), .v (.int .i64 0), .v (.int .i64 1)] [] (fun y2 q2 => .need (LK.has (.int .i64) (y2.headD .any)) <| .done 0 [.v (.int .i64 ((y2.headD .any).toInt))] []) (fun y2 q2 => .need (LK.has (.int .i64) (y2.headD .any)) <| .done 0 [.v (.int .i64 ((y2.headD .any).toInt))] [])) Q := by
    intro Q hl h0 h1 hQ
    have e : elNum s = dgN (s.drop 1) 0 := by rw [elNum, if_pos hl, if_pos ⟨h0, h1⟩]
    refine wp_loopB (LS_l2Element s (by omega) (s.length - 1) 1 0 (by omega) (by omega) (by rcases hl with h | h <;> rw [h] <;> decide)) (fun ys o e' => ?_) (fun ys o e' => ?_)
    · cases hq : dgN (s.drop 1) 0 <;> rw [hq] at e' <;> cases e'
      rw [hq] at e
      simp only [elI, e] at hQ
      simp only [↓zp, zs, hasK]; exact hQ
    · cases hq : dgN (s.drop 1) 0 <;> rw [hq] at e' <;> cases e'
      rw [hq] at e
      simp only [elI, e] at hQ
      simp only [↓zp, zs, hasK]; exact hQ
  have hz : ∀ {i : Nat}, i < s.length → bt (mk s) (i : Int) = ((s.getD i 0).toNat : Int) := fun h => bt_mk s _ h
  refine ⟨fun h => ?_, fun h => ⟨?_, fun h0 => ?_, fun h0 => ⟨fun h3 => ⟨by omega, fun h1 => ?_, fun h1 => ?_⟩, fun h3 => ?_⟩⟩⟩
  · have h' : ¬ (2 ≤ (s.length : Int) ∧ (s.length : Int) ≤ 3) := by simpa using h
    rw [elI, elNum, if_neg (by omega)]
  · have h' : 2 ≤ (s.length : Int) ∧ (s.length : Int) ≤ 3 := by simpa using h
    omega
  · have h' : 2 ≤ (s.length : Int) ∧ (s.length : Int) ≤ 3 := by simpa using h
    have e0 := hz (i := 0) (by omega)
    simp only [Int.ofNat_eq_natCast, Int.cast_ofNat_Int] at e0
    rw [e0] at h0
    rw [elI, elNum, if_pos (by omega), if_neg]
    rintro ⟨e, _⟩
    rw [e] at h0; exact h0 rfl
  · have h' : 2 ≤ (s.length : Int) ∧ (s.length : Int) ≤ 3 := by simpa using h
    have e1 := hz (i := 1) (by omega)
    simp only [Int.ofNat_eq_natCast, Int.cast_ofNat_Int] at e1
    rw [e1] at h1
    rw [elI, elNum, if_pos (by omega), if_neg]
    rintro ⟨_, e⟩
    refine e ⟨by omega, ?_⟩
    rw [← UInt8.toNat_inj]; show (s.getD 1 0).toNat = 48; omega
  · have h' : 2 ≤ (s.length : Int) ∧ (s.length : Int) ≤ 3 := by simpa using h
    have e0 := hz (i := 0) (by omega)
    have e1 := hz (i := 1) (by omega)
    simp only [Int.ofNat_eq_natCast, Int.cast_ofNat_Int] at e0 e1
    rw [e0] at h0; rw [e1] at h1
    refine hL _ (by omega) ?_ ?_ ⟨rfl, rfl⟩
    · rw [← UInt8.toNat_inj]; show (s.getD 0 0).toNat = 101; omega
    · rintro ⟨_, e⟩; rw [e] at h1; exact h1 rfl
  · have h' : 2 ≤ (s.length : Int) ∧ (s.length : Int) ≤ 3 := by simpa using h
    have e0 := hz (i := 0) (by omega)
    simp only [Int.ofNat_eq_natCast, Int.cast_ofNat_Int] at e0
    rw [e0] at h0
    refine hL _ (by omega) ?_ ?_ ⟨rfl, rfl⟩
    · rw [← UInt8.toNat_inj]; show (s.getD 0 0).toNat = 101; omega
    · rintro ⟨e, _⟩; omega
theorem dgN_some : ∀ (l : List UInt8) (n : Nat), (dgN l n).isSome = l.all isDg
  | [], n => rfl
  | b :: l, n => by
    rw [dgN]
    cases hb : isDg b with
    | true => rw [if_pos rfl, dgN_some l]; simp [hb]
    | false => rw [if_neg (by simp)]; simp [hb]
theorem S_isElement (s : List UInt8) : FSpec Tryz.prog n_impl_isElement [.v (.string (mk s))] [] (Det (.v (.bool (elNum s).isSome))) := by
  refine F_impl_isElement _ ?_
  simp only [t_impl_isElement, ↓zp, zs, hasK, zt, Det]
  have hz : ∀ {i : Nat}, i < s.length → bt (mk s) (i : Int) = ((s.getD i 0).toNat : Int) := fun h => bt_mk s _ h
  refine ⟨fun h => ?_, fun h => ⟨fun h3 => ?_, fun h3 => ?_⟩⟩
  · rw [elNum, if_neg (by omega)]; rfl
  · rw [elNum, if_neg (by omega)]; rfl
  · have e0 := hz (i := 0) (by omega)
    have e1 := hz (i := 1) (by omega)
    simp only [Int.ofNat_eq_natCast, Int.cast_ofNat_Int] at e0 e1
    rw [e0, e1]
    have hx : s.drop (Int.toNat 1) = s.drop 1 := rfl
    refine ⟨by omega, fun h0 => ?_, fun h0 => ⟨by omega, ?_⟩⟩
    · rw [elNum, if_pos (by omega), if_neg]
      · rfl
      · rintro ⟨e, _⟩; rw [e] at h0; exact h0 rfl
    · rw [hx]
      refine wp_det (S_Trim (s.drop 1) dgs (by simp; omega) (by decide) (by decide)) ?_
      simp only [↓zp, zs, hasK, zt]
      have h101 : s.getD 0 0 = 101 := by rw [← UInt8.toNat_inj]; show (s.getD 0 0).toNat = 101; omega
      have hall : Lib.trimS (s.drop 1) dgs = [] ↔ (s.drop 1).all isDg = true := by
        rw [trimS_nil]
        have : (fun x => dgs.contains x) = isDg := funext dgs_isDg
        rw [this]
      refine ⟨fun ht => ?_, fun ht => ⟨fun h2 => ?_, fun h2 => ⟨by omega, ?_⟩⟩⟩
      · have : (s.drop 1).all isDg = false := by
          cases hq : (s.drop 1).all isDg with
          | false => rfl
          | true => exact absurd (hall.2 hq) ht
        rw [elNum, if_pos (by omega)]
        split
        · rw [dgN_some, this]
        · rfl
      · have hq := hall.1 ht
        rw [elNum, if_pos (by omega), if_pos ⟨h101, by omega⟩, dgN_some, hq]
      · have hq := hall.1 ht
        rw [elNum, if_pos (by omega)]
        by_cases h48 : s.getD 1 0 = 48
        · rw [if_neg (by rintro ⟨_, e⟩; exact e ⟨by omega, h48⟩), h48]; rfl
        · rw [if_pos ⟨h101, fun e => h48 e.2⟩, dgN_some, hq]
          have : ¬ ((s.getD 1 0).toNat : Int) = 48 := fun e => h48 (by rw [← UInt8.toNat_inj]; show (s.getD 1 0).toNat = 48; omega)
          rw [bne_iff_ne.2 this]
/-- An element is written as its number. -/
theorem elNum_elS {s : List UInt8} {k : Nat} (h : elNum s = some k) : s = elS k ∧ k < 100 := by
  have key1 : ∀ a : Fin 256, isDg (UInt8.ofNat a.val) = true → dgN [UInt8.ofNat a.val] 0 = some ((UInt8.ofNat a.val).toNat - 48) ∧ (UInt8.ofNat a.val).toNat - 48 < 10 ∧ [UInt8.ofNat a.val] = [UInt8.ofNat (48 + ((UInt8.ofNat a.val).toNat - 48))] := by decide +kernel
  unfold elNum at h
  split at h
  · rename_i hl
    split at h
    · rename_i hh
      obtain ⟨h0, h1⟩ := hh
      rcases hl with hl | hl
      · match s, hl with
        | [c, a], _ =>
          simp only [List.getD_cons_zero] at h0
          subst h0
          simp only [List.drop_succ_cons, List.drop_zero, dgN] at h
          split at h
          · rename_i ha
            have := key1 ⟨a.toNat, a.toNat_lt⟩ (by simpa using ha)
            simp only [UInt8.ofNat_toNat] at this
            cases h
            refine ⟨?_, by omega⟩
            rw [elS, dd_one (by omega)]
            simp only [Nat.mul_zero, Nat.zero_add]
            rw [← this.2.2]
          · cases h
      · match s, hl with
        | [c, a, b], _ =>
          simp only [List.getD_cons_zero, List.getD_cons_succ, List.length_cons, List.length_nil, true_and] at h0 h1
          subst h0
          simp only [List.drop_succ_cons, List.drop_zero, dgN] at h
          split at h
          · rename_i ha
            split at h
            · rename_i hb
              have k1 := key1 ⟨a.toNat, a.toNat_lt⟩ (by simpa using ha)
              have k2 := key1 ⟨b.toNat, b.toNat_lt⟩ (by simpa using hb)
              simp only [UInt8.ofNat_toNat] at k1 k2
              have ha' : 48 ≤ a.toNat ∧ a.toNat ≤ 57 := by simpa [isDg] using ha
              have hb' : 48 ≤ b.toNat ∧ b.toNat ≤ 57 := by simpa [isDg] using hb
              have h48 : a.toNat ≠ 48 := fun e => h1 (by rw [← UInt8.toNat_inj]; simpa using e)
              cases h
              simp only [Nat.mul_zero, Nat.zero_add]
              refine ⟨?_, by omega⟩
              rw [elS, dd_more (by omega), dd_one (by omega)]
              have e1 : (10 * (a.toNat - 48) + (b.toNat - 48)) / 10 = a.toNat - 48 := by omega
              have e2 : (10 * (a.toNat - 48) + (b.toNat - 48)) % 10 = b.toNat - 48 := by omega
              rw [e1, e2, ← k1.2.2, ← k2.2.2]; rfl
            · cases h
          · cases h
    · cases h
  · cases h
theorem elNum_of (k : Nat) (h : k < 100) : elNum (elS k) = some k := by
  have e : ∀ k, k < 100 → dd k = if k < 10 then [UInt8.ofNat (48 + k)] else [UInt8.ofNat (48 + k / 10), UInt8.ofNat (48 + k % 10)] := by
    intro k hk
    by_cases h1 : k < 10
    · rw [dd_one h1, if_pos h1]
    · rw [dd_more h1, dd_one (by omega), if_neg h1]; rfl
  have key : ∀ k : Fin 100, elNum (101 :: (if k.val < 10 then [UInt8.ofNat (48 + k.val)] else [UInt8.ofNat (48 + k.val / 10), UInt8.ofNat (48 + k.val % 10)])) = some k.val := by decide +kernel
  rw [elS, e k h]; exact key ⟨k, h⟩
theorem elI_of (k : Nat) (h : k < 100) : elI (elS k) = (k : Int) := by rw [elI, elNum_of k h]
/-! ### Values, read -/
def isV : E → Bool
  | .atom s => (s == [117]) || (elNum s).isSome
  | .list [x, a] => ((x.at == [108]) || (x.at == [114]) || (x.at == [102])) && isV a
  | .list [x, a, b] => (x.at == [112]) && (isV a && isV b)
  | .list _ => false
def vlOf : E → Option Vl
  | .atom s => if s = [117] then some .u else match elNum s with | some k => some (.el k) | none => none
  | .list [x, a] => match vlOf a with
    | none => none
    | some v => if x.at = [108] then some (.l v) else if x.at = [114] then some (.r v) else if x.at = [102] then some (.f v) else none
  | .list [x, a, b] => if x.at = [112] then (match vlOf a, vlOf b with | some v, some w => some (.p v w) | _, _ => none) else none
  | .list _ => none
theorem vlOf_isV : ∀ e : E, (vlOf e).isSome = isV e
  | .atom s => by
    simp only [vlOf, isV]
    by_cases h : s = [117]
    · simp [h]
    · rw [if_neg h]; cases elNum s <;> simp [h]
  | .list [] => rfl
  | .list [_] => rfl
  | .list [x, a] => by
    have ha := vlOf_isV a
    rw [vlOf, isV, ← ha]
    cases vlOf a with
    | none => simp
    | some v =>
      by_cases h1 : x.at = [108]
      · simp [h1]
      · by_cases h2 : x.at = [114]
        · simp [h2]
        · by_cases h3 : x.at = [102]
          · simp [h3]
          · simp [h1, h2, h3]
  | .list [x, a, b] => by
    have ha := vlOf_isV a
    have hb := vlOf_isV b
    rw [vlOf, isV, ← ha, ← hb]
    by_cases h1 : x.at = [112]
    · rw [if_pos h1, h1]; cases vlOf a <;> cases vlOf b <;> rfl
    · simp [h1]
  | .list (_ :: _ :: _ :: _ :: _) => rfl
theorem at_atom {x : E} {w : List UInt8} (h : x.at = w) (hw : w ≠ []) : x = .atom w := by
  cases x with
  | atom s => exact congrArg E.atom h
  | list l => exact absurd h.symm hw
theorem vlOf_toE : ∀ (e : E) (v : Vl), vlOf e = some v → v.toE = e ∧ v.bel 100
  | .atom s, v, h => by
    simp only [vlOf] at h
    split at h
    · rename_i h1; cases h; exact ⟨by rw [h1]; rfl, trivial⟩
    · split at h
      · rename_i k hk
        cases h
        obtain ⟨h1, h2⟩ := elNum_elS hk
        exact ⟨by rw [h1]; rfl, h2⟩
      · cases h
  | .list [], _, h => by cases h
  | .list [_], _, h => by cases h
  | .list (_ :: _ :: _ :: _ :: _), _, h => by cases h
  | .list [x, a], v, h => by
    rw [vlOf] at h
    split at h
    · cases h
    · rename_i w hw
      obtain ⟨h1, h2⟩ := vlOf_toE a w hw
      split at h
      · rename_i hx; cases h; rw [at_atom hx (by simp)]; exact ⟨by rw [Vl.toE, h1], h2⟩
      · split at h
        · rename_i hx; cases h; rw [at_atom hx (by simp)]; exact ⟨by rw [Vl.toE, h1], h2⟩
        · split at h
          · rename_i hx; cases h; rw [at_atom hx (by simp)]; exact ⟨by rw [Vl.toE, h1], h2⟩
          · cases h
  | .list [x, a, b], v, h => by
    rw [vlOf] at h
    split at h
    · rename_i hx
      split at h
      · rename_i w1 w2 hw1 hw2
        cases h
        obtain ⟨h1, h2⟩ := vlOf_toE a w1 hw1
        obtain ⟨h3, h4⟩ := vlOf_toE b w2 hw2
        rw [at_atom hx (by simp)]
        exact ⟨by rw [Vl.toE, h1, h3], h2, h4⟩
      · cases h
    · cases h
def isC (e : E) (w : List UInt8) (k : Nat) : Bool := match e with | .list (x :: l) => decide (l.length + 1 = k) && (x.at == w) | _ => false
theorem S_isCallN (e : E) (w : List UInt8) (k : Nat) (hk : 1 ≤ k) : FSpec Tryz.prog n_impl_expr_isCall [e.iav, .v (.string (mk w)), .v (.int .i64 (k : Int))] [] (Det (.v (.bool (isC e w k)))) := by
  refine F_impl_expr_isCall _ _ _ ((iav_has e).mpr trivial) ?_
  cases e with
  | atom s => simp only [t_impl_expr_isCall, E.iav, ↓zp, zs, hasK, zt, Det, isC]; exact ⟨by omega, fun h => by omega, fun _ => trivial⟩
  | list l =>
    simp only [t_impl_expr_isCall, E.iav, ↓zp, zs, hasK, zt, Det, iavs_len]
    cases l with
    | nil => exact ⟨by simp, fun h => by simp at h; omega, fun _ => rfl⟩
    | cons x l =>
      simp only [List.length_cons]
      refine ⟨by simp, fun h => ?_, fun h => ?_⟩
      · have : decide (l.length + 1 = k) = true := by rw [decide_eq_true_eq]; omega
        simp only [isC, this]
        cases x <;> simp [E.iavs, E.iav, has_ptr, isNil_ptr, deref_ptr, has_str, toStr_v, toList_mk, E.at]
      · have : decide (l.length + 1 = k) = false := by rw [decide_eq_false_iff_not]; omega
        simp only [isC, this]; rfl
def optV : Option Vl → AV
  | some v => v.iav
  | none => .v (.pointer none)
end Go.Proofs.Trees
