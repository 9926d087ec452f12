/-
  Part of a proof: laws over values.
-/
import Derived.Test.YtcbmbafopahijabGreatDoorV2
set_option linter.unusedVariables false
set_option linter.unusedSimpArgs false
namespace Go.Proofs.Trees
open Go Go.VL Go.RowKit
/-! ### Values, read by the program -/
theorem iavs_hd (x : E) (l : List E) : E.iavs (x :: l) = [x.iav] :: E.iavs l := rfl
theorem optV_has (v : Option Vl) : LK.has .ptr (optV v) = True := by cases v <;> simp [optV, vl_has, has_nil]
theorem S_valOf : ∀ (e : E), e.ok → FSpec Tryz.prog n_impl_valOf [e.iav] [] (Det (optV (vlOf e)))
  | .atom s, hok => by
    refine F_impl_valOf _ ((iav_has _).mpr trivial) ?_
    have hd := iav_at (.atom s)
    have hlen := iav_len (.atom s)
    simp only [E.at] at hd
    simp only [t_impl_valOf, ↓zp, zs, hasK, zt, Det, iav_has, iav_nil, hd, vlOf]
    refine ⟨hlen, fun h => ?_, fun h => ⟨hlen, ?_⟩⟩
    · rw [if_pos h]; rfl
    · rw [if_neg h]
      refine wp_det (S_isElement s) ?_
      simp only [↓zp, zs, hasK, zt]
      refine ⟨fun he => ⟨hlen, ?_⟩, fun he => ?_⟩
      · obtain ⟨k, hk⟩ := Option.isSome_iff_exists.1 he
        obtain ⟨h1, h2⟩ := elNum_elS hk
        rw [hk, h1]; rfl
      · have hn : elNum s = none := by cases hq : elNum s <;> simp [hq] at he ⊢
        rw [hn]
        refine wp_det (S_isCallN (.atom s) [108] 2 (by omega)) ?_
        simp only [isC, ↓zp, zs, hasK, zf]
        refine ⟨fun h => (by cases h), fun _ => wp_det (S_isCallN (.atom s) [114] 2 (by omega)) ?_⟩
        simp only [isC, ↓zp, zs, hasK, zf]
        refine ⟨fun h => (by cases h), fun _ => wp_det (S_isCallN (.atom s) [102] 2 (by omega)) ?_⟩
        simp only [isC, ↓zp, zs, hasK, zf]
        refine ⟨fun h => (by cases h), fun _ => wp_det (S_isCallN (.atom s) [112] 3 (by omega)) ?_⟩
        simp only [isC, ↓zp, zs, hasK, zf]
        exact ⟨fun h => (by cases h), fun _ => rfl⟩
  | .list l, hok => by
    refine F_impl_valOf _ ((iav_has _).mpr trivial) ?_
    have hd := iav_at (.list l)
    have hlen := iav_len (.list l)
    have hlen2 : ∀ {l : List E}, ((AV.v (.string (mk []))) :: [AV.sl (E.iavs l)]).length = 2 := rfl
    simp only [E.at] at hd
    have he : elNum [] = none := rfl
    simp only [t_impl_valOf, ↓zp, zs, hasK, zt, Det, iav_has, iav_nil, hd]
    refine ⟨hlen, fun h => (by cases h), fun h => ⟨hlen, ?_⟩⟩
    refine wp_det (S_isElement []) ?_
    rw [he]
    simp only [↓zp, zs, hasK, zt, zf, Option.isSome_none]
    refine ⟨fun h => (by cases h), fun _ => wp_det (S_isCallN (.list l) [108] 2 (by omega)) ?_⟩
    have hno : ∀ w : List UInt8, (∀ x a, l ≠ [x, a]) → isC (.list l) w 2 = false := by
      intro w h2
      match l, h2 with
      | [], _ => rfl
      | [x], _ => rfl
      | [x, a], h2 => exact absurd rfl (h2 x a)
      | x :: y :: z :: l, _ => simp [isC]
    match l, hok, hno, hlen with
    | [x, a], hok, hno, hlen =>
      clear hno
      obtain ⟨ok1, ok2, _⟩ := hok
      have e2 : ∀ w : List UInt8, isC (.list [x, a]) w 2 = (x.at == w) := fun w => rfl
      have e3 : isC (.list [x, a]) [112] 3 = false := rfl
      have hx := iav_at x
      have hxl := iav_len x
      rw [vlOf]
      simp only [e2, ↓zp, zs, hasK]
      refine ⟨fun h1 => ?_, fun h1 => wp_det (S_isCallN (.list [x, a]) [114] 2 (by omega)) ?_⟩
      · simp only [E.iav, E.iavs, toNat_one, ↓zp, zs, hasK, zt, iav_has, iav_nil]
        refine ⟨by omega, by omega, by omega, wp_det (S_valOf a ok2) ?_⟩
        cases hv : vlOf a with
        | none => simp only [optV, ↓zp, zs, hasK, optV_has]; exact ⟨fun _ => trivial, fun h => (by cases h)⟩
        | some v =>
          simp only [optV, ↓zp, zs, hasK, zt, vl_has, vl_nil, hx, h1, iav_has, iav_nil]
          refine ⟨fun h => (by cases h), fun _ => ⟨by omega, by omega, by omega, hxl, by simp, ?_⟩⟩
          rfl
      · simp only [e2, ↓zp, zs, hasK]
        refine ⟨fun h2 => ?_, fun h2 => wp_det (S_isCallN (.list [x, a]) [102] 2 (by omega)) ?_⟩
        · simp only [E.iav, E.iavs, toNat_one, ↓zp, zs, hasK, zt, iav_has, iav_nil]
          refine ⟨by omega, by omega, by omega, wp_det (S_valOf a ok2) ?_⟩
          cases hv : vlOf a with
          | none => simp only [optV, ↓zp, zs, hasK, optV_has]; exact ⟨fun _ => trivial, fun h => (by cases h)⟩
          | some v =>
            simp only [optV, ↓zp, zs, hasK, zt, vl_has, vl_nil, hx, h2, iav_has, iav_nil]
            refine ⟨fun h => (by cases h), fun _ => ⟨by omega, by omega, by omega, hxl, by simp, ?_⟩⟩
            rfl
        · simp only [e2, ↓zp, zs, hasK]
          refine ⟨fun h3 => ?_, fun h3 => wp_det (S_isCallN (.list [x, a]) [112] 3 (by omega)) ?_⟩
          · simp only [E.iav, E.iavs, toNat_one, ↓zp, zs, hasK, zt, iav_has, iav_nil]
            refine ⟨by omega, by omega, by omega, wp_det (S_valOf a ok2) ?_⟩
            cases hv : vlOf a with
            | none => simp only [optV, ↓zp, zs, hasK, optV_has]; exact ⟨fun _ => trivial, fun h => (by cases h)⟩
            | some v =>
              simp only [optV, ↓zp, zs, hasK, zt, vl_has, vl_nil, hx, h3, iav_has, iav_nil]
              refine ⟨fun h => (by cases h), fun _ => ⟨by omega, by omega, by omega, hxl, by simp, ?_⟩⟩
              rfl
          · rw [e3]
            simp only [↓zp, zs, hasK]
            refine ⟨fun h => (by cases h), fun _ => ?_⟩
            cases vlOf a with
            | none => rfl
            | some v => simp only [if_neg h1, if_neg h2, if_neg h3]; rfl
    | [x, a, b], hok, hno, hlen =>
      obtain ⟨ok1, ok2, ok3, _⟩ := hok
      have h2 := fun w => hno w (fun x a h => (by cases h))
      rw [h2]
      simp only [↓zp, zs, hasK]
      refine ⟨fun h => (by cases h), fun _ => wp_det (S_isCallN (.list [x, a, b]) [114] 2 (by omega)) ?_⟩
      rw [h2]
      simp only [↓zp, zs, hasK]
      refine ⟨fun h => (by cases h), fun _ => wp_det (S_isCallN (.list [x, a, b]) [102] 2 (by omega)) ?_⟩
      rw [h2]
      simp only [↓zp, zs, hasK]
      refine ⟨fun h => (by cases h), fun _ => wp_det (S_isCallN (.list [x, a, b]) [112] 3 (by omega)) ?_⟩
      have e3 : isC (.list [x, a, b]) [112] 3 = (x.at == [112]) := rfl
      rw [e3, vlOf]
      simp only [↓zp, zs, hasK]
      refine ⟨fun h1 => ?_, fun h1 => ?_⟩
      · rw [if_pos h1]
        simp only [E.iav, E.iavs, toNat_one, toNat_two, ↓zp, zs, hasK, zt, iav_has, iav_nil]
        refine ⟨by omega, by omega, by omega, wp_det (S_valOf a ok2) ?_⟩
        simp only [↓zp, zs, hasK, optV_has, iav_has]
        refine ⟨by omega, by omega, by omega, wp_det (S_valOf b ok3) ?_⟩
        cases hv : vlOf a with
        | none => cases hw : vlOf b <;> simp only [optV, ↓zp, zs, hasK, optV_has, vl_has] <;> exact ⟨fun _ => trivial, fun h => (by cases h)⟩
        | some v =>
          cases hw : vlOf b with
          | none =>
            simp only [optV, ↓zp, zs, hasK, optV_has, vl_has, vl_nil]
            exact ⟨fun h => (by cases h), fun _ => ⟨fun _ => trivial, fun h => (by cases h)⟩⟩
          | some w =>
            simp only [optV, ↓zp, zs, hasK, vl_has, vl_nil]
            refine ⟨fun h => (by cases h), fun _ => ⟨fun h => (by cases h), fun _ => ?_⟩⟩
            refine wp_det (S_pair _ _ ((vl_has _).mpr trivial) ((vl_has _).mpr trivial)) ?_
            simp only [↓zp, zs, hasK]; rfl
      · rw [if_neg h1]; rfl
    | [], hok, hno, hlen =>
      have h2 := fun w => hno w (fun x a h => (by cases h))
      have e3 : isC (.list []) [112] 3 = false := rfl
      rw [h2]
      simp only [↓zp, zs, hasK]
      refine ⟨fun h => (by cases h), fun _ => wp_det (S_isCallN (.list []) [114] 2 (by omega)) ?_⟩
      rw [h2]
      simp only [↓zp, zs, hasK]
      refine ⟨fun h => (by cases h), fun _ => wp_det (S_isCallN (.list []) [102] 2 (by omega)) ?_⟩
      rw [h2]
      simp only [↓zp, zs, hasK]
      refine ⟨fun h => (by cases h), fun _ => wp_det (S_isCallN (.list []) [112] 3 (by omega)) ?_⟩
      rw [e3]
      simp only [↓zp, zs, hasK]
      exact ⟨fun h => (by cases h), fun _ => rfl⟩
    | [x], hok, hno, hlen =>
      have h2 := fun w => hno w (fun x a h => (by cases h))
      have e3 : isC (.list [x]) [112] 3 = false := rfl
      rw [h2]
      simp only [↓zp, zs, hasK]
      refine ⟨fun h => (by cases h), fun _ => wp_det (S_isCallN (.list [x]) [114] 2 (by omega)) ?_⟩
      rw [h2]
      simp only [↓zp, zs, hasK]
      refine ⟨fun h => (by cases h), fun _ => wp_det (S_isCallN (.list [x]) [102] 2 (by omega)) ?_⟩
      rw [h2]
      simp only [↓zp, zs, hasK]
      refine ⟨fun h => (by cases h), fun _ => wp_det (S_isCallN (.list [x]) [112] 3 (by omega)) ?_⟩
      rw [e3]
      simp only [↓zp, zs, hasK]
      exact ⟨fun h => (by cases h), fun _ => rfl⟩
    | x :: y :: z :: w :: l, hok, hno, hlen =>
      have h2 := fun w => hno w (fun x a h => (by cases h))
      have e3 : isC (.list (x :: y :: z :: w :: l)) [112] 3 = false := by simp [isC]
      rw [h2]
      simp only [↓zp, zs, hasK]
      refine ⟨fun h => (by cases h), fun _ => wp_det (S_isCallN (.list (x :: y :: z :: w :: l)) [114] 2 (by omega)) ?_⟩
      rw [h2]
      simp only [↓zp, zs, hasK]
      refine ⟨fun h => (by cases h), fun _ => wp_det (S_isCallN (.list (x :: y :: z :: w :: l)) [102] 2 (by omega)) ?_⟩
      rw [h2]
      simp only [↓zp, zs, hasK]
      refine ⟨fun h => (by cases h), fun _ => wp_det (S_isCallN (.list (x :: y :: z :: w :: l)) [112] 3 (by omega)) ?_⟩
      rw [e3]
      simp only [↓zp, zs, hasK]
      exact ⟨fun h => (by cases h), fun _ => rfl⟩
/-- A text's value. -/
def rdV (s : List UInt8) : Option Vl := match rdT s with
  | none => none
  | some e => match vlOf e with
    | none => none
    | some v => if v.nodes > 200 then none else some v
theorem rdV_ok {s : List UInt8} {v : Vl} (h : rdV s = some v) : rdT s = some v.toE ∧ v.bel 100 ∧ v.nodes ≤ 200 := by
  unfold rdV at h
  split at h
  · cases h
  · rename_i e he
    split at h
    · cases h
    · rename_i w hw
      split at h
      · cases h
      · cases h
        obtain ⟨h1, h2⟩ := vlOf_toE e _ hw
        rw [h1]
        exact ⟨he, h2, by omega⟩
theorem vlOf_nodes {e : E} {v : Vl} (h : vlOf e = some v) : v.nodes ≤ e.sz := by
  obtain ⟨h1, _⟩ := vlOf_toE e v h
  rw [← toE_nd, h1]; exact nd_le e
theorem S_readValue (s : List UInt8) : FSpec Tryz.prog n_impl_readValue [.v (.string (mk s))] [] (Det (optV (rdV s))) := by
  refine F_impl_readValue _ ?_
  unfold t_impl_readValue
  refine wp_det (S_readText s) ?_
  unfold rdV
  cases he : rdT s with
  | none => simp only [optP, ↓zp, zs, hasK, Det, optV]; simp
  | some e =>
    obtain ⟨h1, h2⟩ := rdT_ok he
    simp only [optP, ↓zp, zs, hasK, iav_has, iav_nil]
    refine ⟨fun h => (by cases h), fun _ => ?_⟩
    refine wp_det (S_valOf e h1) ?_
    cases hv : vlOf e with
    | none => simp only [optV, ↓zp, zs, hasK, Det]; simp
    | some v =>
      have hn := vlOf_nodes hv
      simp only [optV, ↓zp, zs, hasK, vl_has, vl_nil]
      refine ⟨fun h => (by cases h), fun _ => ?_⟩
      refine wp_det (S_nodes v (by omega)) ?_
      simp only [↓zp, zs, hasK, Det]
      refine ⟨fun h => ?_, fun h => ?_⟩
      · rw [if_pos (by omega)]
      · rw [if_neg (by omega)]
/-! ### Values, read by the reference -/
theorem S_l2Shape : ∀ (e : E), e.ok → FSpec Tryz.prog n_spec_l2Shape [e.sav] [] (Det (.v (.bool (isV e))))
  | .atom s, hok => by
    refine F_spec_l2Shape _ _ ((has_slnil).mpr trivial) ?_
    have hne : s ≠ [] := hok
    simp only [t_spec_l2Shape, ↓zp, zs, hasK, zt, Det, isV]
    refine ⟨fun _ => ⟨fun h => ?_, fun h => ?_⟩, fun h => absurd h hne⟩
    · simp [h]
    · refine wp_det (S_l2Element s) ?_
      have h' : (s == [117]) = false := by simpa using h
      simp only [↓zp, zs, hasK, h', Bool.false_or]
      congr 2
      rw [elI]
      cases elNum s with
      | none => rfl
      | some k => simp
  | .list [], hok => by
    refine F_spec_l2Shape _ _ ((has_sl _).mpr trivial) ?_
    simp only [t_spec_l2Shape, ↓zp, zs, hasK, zt, Det, isV]
    refine ⟨fun h => absurd rfl h, fun _ => ?_⟩
    refine wp_det S_l1Head_nil ?_
    simp [↓zp, zs, hasK, zt]
  | .list [x], hok => by
    refine F_spec_l2Shape _ _ ((has_sl _).mpr trivial) ?_
    simp only [t_spec_l2Shape, ↓zp, zs, hasK, zt, Det, isV]
    refine ⟨fun h => absurd rfl h, fun _ => ?_⟩
    refine wp_det (S_l1Head x _) ?_
    simp [↓zp, zs, hasK, zt, E.scellss]
  | .list (x :: y :: z :: w :: l), hok => by
    refine F_spec_l2Shape _ _ ((has_sl _).mpr trivial) ?_
    simp only [t_spec_l2Shape, ↓zp, zs, hasK, zt, Det, isV]
    refine ⟨fun h => absurd rfl h, fun _ => ?_⟩
    refine wp_det (S_l1Head x _) ?_
    simp only [↓zp, zs, hasK, zt, E.scellss]
    refine ⟨fun _ => ⟨fun h => by omega, fun _ => trivial⟩, fun _ => ⟨fun _ => ⟨fun h => by omega, fun _ => trivial⟩, fun _ => ⟨fun _ => ⟨fun h => by omega, fun _ => trivial⟩, fun _ => ⟨fun _ => ⟨fun h => by omega, fun _ => trivial⟩, fun _ => trivial⟩⟩⟩⟩
  | .list [x, a], hok => by
    refine F_spec_l2Shape _ _ ((has_sl _).mpr trivial) ?_
    obtain ⟨ok1, ok2, _⟩ := hok
    simp only [t_spec_l2Shape, ↓zp, zs, hasK, zt, Det, isV]
    refine ⟨fun h => absurd rfl h, fun _ => ?_⟩
    refine wp_det (S_l1Head x _) ?_
    simp only [E.scellss, toNat_one, toNat_two, ↓zp, zs, hasK, zt, sc_agg, sc_len, sc_has, sc_hd, Nat.le_refl]
    refine ⟨fun h => ⟨fun _ => ⟨by omega, ?_⟩, fun h => by omega⟩, fun h1 => ⟨fun h => ⟨fun _ => ⟨by omega, ?_⟩, fun h => by omega⟩, fun h2 => ⟨fun h => ⟨fun _ => ⟨by omega, ?_⟩, fun h => by omega⟩, fun h3 => ⟨fun h => ⟨fun h => by omega, fun _ => ?_⟩, fun h => ?_⟩⟩⟩⟩
    · refine wp_det (S_l2Shape a ok2) ?_
      simp [↓zp, zs, hasK, h]
    · refine wp_det (S_l2Shape a ok2) ?_
      simp [↓zp, zs, hasK, h]
    · refine wp_det (S_l2Shape a ok2) ?_
      simp [↓zp, zs, hasK, h]
    · simp [h]
    · simp [h1, h2, h3]
  | .list [x, a, b], hok => by
    refine F_spec_l2Shape _ _ ((has_sl _).mpr trivial) ?_
    obtain ⟨ok1, ok2, ok3, _⟩ := hok
    simp only [t_spec_l2Shape, ↓zp, zs, hasK, zt, Det, isV]
    refine ⟨fun h => absurd rfl h, fun _ => ?_⟩
    refine wp_det (S_l1Head x _) ?_
    simp only [E.scellss, toNat_one, toNat_two, ↓zp, zs, hasK, zt, sc_agg, sc_len, sc_has, sc_hd, Nat.le_refl]
    refine ⟨fun h => ⟨fun h => by omega, fun _ => ?_⟩, fun h1 => ⟨fun h => ⟨fun h => by omega, fun _ => ?_⟩, fun h2 => ⟨fun h => ⟨fun h => by omega, fun _ => ?_⟩, fun h3 => ⟨fun h => ⟨fun _ => ⟨by omega, ?_⟩, fun h => by omega⟩, fun h => ?_⟩⟩⟩⟩
    · simp [h]
    · simp [h]
    · simp [h]
    · refine wp_det (S_l2Shape a ok2) ?_
      simp only [↓zp, zs, hasK, h]
      refine ⟨fun ha => ⟨by omega, wp_det (S_l2Shape b ok3) ?_⟩, fun ha => ?_⟩
      · simp [↓zp, zs, hasK, ha]
      · simp [ha]
    · simp [h]
theorem S_l2Value (s : List UInt8) : FSpec Tryz.prog n_spec_l2Value [.v (.string (mk s))] [] (ParR ((rdV s).map Vl.toE) (rdV s).isSome) := by
  refine F_spec_l2Value _ ?_
  unfold t_spec_l2Value
  refine wp_call (S_l1Parse s) (ParR.ne _ _ (fun h => h)) ?_
  rintro r o ⟨c, d, hd, rfl, hh⟩
  simp only [↓zp, zs, hasK, zt, hasL, rdV]
  refine ⟨hd, fun h => ?_, fun h => ?_⟩
  · obtain ⟨e, he, hce⟩ := hh h
    obtain ⟨hok, hsz⟩ := rdT_ok he
    rw [he, hce]
    refine wp_det (S_l2Shape e hok) ?_
    simp only [↓zp, zs, hasK]
    have hs := vlOf_isV e
    refine ⟨fun hi => ?_, fun hi => ?_⟩
    · rw [hi] at hs
      obtain ⟨v, hv⟩ := Option.isSome_iff_exists.1 hs
      obtain ⟨h1, h2⟩ := vlOf_toE e v hv
      refine wp_det (S_l2Size e (by omega)) ?_
      simp only [↓zp, zs, hasK, hv]
      have hnd : e.nd = v.nodes := by rw [← h1, toE_nd]
      rw [hnd]
      refine ⟨c, d, hd, ?_, ?_⟩
      · rw [hce]
        by_cases h4 : v.nodes > 200
        · rw [if_pos h4]; exact congrArg (fun b => AV.tup [e.sav, .v (.bool b)]) (decide_eq_false (show ¬ ((v.nodes : Nat) : Int) ≤ 200 by omega))
        · rw [if_neg h4]; exact congrArg (fun b => AV.tup [e.sav, .v (.bool b)]) (decide_eq_true (show ((v.nodes : Nat) : Int) ≤ 200 by omega))
      · split
        · exact fun h => by cases h
        · exact fun _ => ⟨e, by simp [h1], hce⟩
    · rw [hi] at hs
      have hn : vlOf e = none := by cases hq : vlOf e <;> simp [hq] at hs ⊢
      rw [hn]
      exact ⟨c, d, hd, by rw [hce]; rfl, fun h => by cases h⟩
  · have hn : rdT s = none := by cases hq : rdT s <;> simp [hq] at h ⊢
    rw [hn]
    exact ⟨c, d, hd, rfl, fun h => by cases h⟩
end Go.Proofs.Trees
