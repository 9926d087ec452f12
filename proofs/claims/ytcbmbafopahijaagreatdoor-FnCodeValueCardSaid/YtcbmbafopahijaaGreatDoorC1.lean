/-
  Part of a proof: laws over values.
-/
import Derived.Test.YtcbmbafopahijaaGreatDoorQ10
set_option linter.unusedVariables false
set_option linter.unusedSimpArgs false
namespace Go.Proofs.Trees
open Go Go.VL
/-! ### Counts -/
/-- A plain type. -/
def pure : Ty → Bool
  | .zero => true
  | .one => true
  | .name s => (s == [120]) || (s == [121]) || (s == [122])
  | .plus a b => pure a && pure b
  | .times a b => pure a && pure b
  | _ => false
theorem pure_of : ∀ (e : E) (t : Ty), tyOf e [] = some t → plE e = true → pure t = true
  | .atom s, t, h, hp => by
    simp only [tyOf] at h
    simp only [plE] at hp
    split at h
    · cases h; rfl
    · rename_i h0
      split at h
      · cases h; rfl
      · rename_i h1
        rw [beq_eq_false_iff_ne.2 h0, beq_eq_false_iff_ne.2 h1] at hp
        split at h
        · cases h; simpa [pure] using hp
        · split at h
          · simp only [List.length_nil, lastOf] at h
            cases h; simpa [pure] using hp
          · cases h
  | .list [], _, h, _ => by cases h
  | .list [_], _, h, _ => by cases h
  | .list [_, _], _, h, _ => by cases h
  | .list (_ :: _ :: _ :: _ :: _), _, h, _ => by cases h
  | .list [x, a, b], t, h, hp => by
    rw [plE] at hp
    simp only [Bool.and_eq_true] at hp
    by_cases h0 : x.at = [43]
    · obtain ⟨t1, t2, e1, e2, rfl⟩ := tyOf_plus_inv h0 h
      simp only [pure, pure_of a t1 e1 hp.2.1, pure_of b t2 e2 hp.2.2, Bool.and_self]
    · by_cases h1 : x.at = [42]
      · obtain ⟨t1, t2, e1, e2, rfl⟩ := tyOf_times_inv h1 h
        simp only [pure, pure_of a t1 e1 hp.2.1, pure_of b t2 e2 hp.2.2, Bool.and_self]
      · by_cases h2 : x.at = [114, 101, 99]
        · rw [h2] at hp; simp at hp
        · rw [tyOf_no [] h0 h1 h2] at h; cases h
/-- What both sides have of a plain text. -/
theorem rdPE_ok {s : List UInt8} {e : E} (h : rdPE s = some e) : rdE s = some e ∧ plE e = true := by
  unfold rdPE at h
  split at h
  · cases h
  · split at h
    · rename_i h1 h2; cases h; exact ⟨h1, h2⟩
    · cases h
theorem rdPE_full {s : List UInt8} {e : E} (h : rdPE s = some e) : ∃ t, rdP s = some t ∧ tyOf e [] = some t ∧ pure t = true ∧ e.ok ∧ e.sz ≤ 8000 ∧ isTy e = true ∧ plE e = true ∧ t.atoms ≤ 400 ∧ rdT s = some e := by
  obtain ⟨h1, h2⟩ := rdPE_ok h
  obtain ⟨h3, h4, h5⟩ := rdE_ok h1
  obtain ⟨hok, hsz⟩ := rdT_ok h3
  have hs := tyOf_some e []
  rw [h4] at hs
  obtain ⟨t, ht⟩ := Option.isSome_iff_exists.1 hs
  refine ⟨t, ?_, ht, pure_of e t ht h2, hok, hsz, h4, h2, ?_, h3⟩
  · rw [rdP_of, h]; exact ht
  · rw [← tyOf_ats e [] t ht]; exact h5
theorem rdPE_none {s : List UInt8} (h : rdPE s = none) : rdP s = none := by rw [rdP_of, h]
def capC (v : Nat) : Option Nat := if v ≤ 1000000000 then some v else none
/-- The number of values. -/
def cnt (n : Nat) : Ty → Option Nat
  | .zero => some 0
  | .one => some 1
  | .name _ => some n
  | .plus a b => match cnt n a, cnt n b with | some x, some y => capC (x + y) | _, _ => none
  | .times a b => match cnt n a, cnt n b with | some x, some y => capC (x * y) | _, _ => none
  | _ => none
theorem cnt_le (n : Nat) (hn : n ≤ 100) : ∀ (t : Ty) (c : Nat), cnt n t = some c → c ≤ 1000000000
  | .zero, c, h => by cases h; omega
  | .one, c, h => by cases h; omega
  | .name s, c, h => by cases h; omega
  | .bound u, c, h => by cases h
  | .rc a, c, h => by cases h
  | .plus a b, c, h => by
    simp only [cnt] at h
    split at h
    · unfold capC at h; split at h <;> cases h; omega
    · cases h
  | .times a b, c, h => by
    simp only [cnt] at h
    split at h
    · unfold capC at h; split at h <;> cases h; omega
    · cases h
def optN : Option Nat → AV
  | some c => .tup [.v (.int .i64 (c : Int)), .v (.bool true)]
  | none => .tup [.v (.int .i64 0), .v (.bool false)]
theorem mul_le9 {x y : Nat} (hx : x ≤ 1000000000) (hy : y ≤ 1000000000) : x * y ≤ 1000000000000000000 := by
  have := Nat.mul_le_mul hx hy; omega
theorem S_codeCount (n : Nat) (hn : n ≤ 100) : ∀ (t : Ty), pure t = true → FSpec Tryz.prog n_impl_codeCount [t.av, .v (.int .i64 (n : Int))] [] (Det (optN (cnt n t)))
  | .zero, h => by refine F_impl_codeCount _ _ ((ty_has _).mpr trivial) ?_; simp [t_impl_codeCount, Ty.av, ↓zp, zs, hasK, Det, cnt, optN]
  | .one, h => by refine F_impl_codeCount _ _ ((ty_has _).mpr trivial) ?_; simp [t_impl_codeCount, Ty.av, ↓zp, zs, hasK, Det, cnt, optN]
  | .name s, h => by refine F_impl_codeCount _ _ ((ty_has _).mpr trivial) ?_; simp [t_impl_codeCount, Ty.av, ↓zp, zs, hasK, Det, cnt, optN]
  | .bound u, h => by cases h
  | .rc a, h => by cases h
  | .plus a b, h => by
    simp only [pure, Bool.and_eq_true] at h
    refine F_impl_codeCount _ _ ((ty_has _).mpr trivial) ?_
    simp only [t_impl_codeCount, Ty.av, ↓zp, zs, hasK, ty_has]
    refine ⟨by omega, fun h => by omega, fun _ => ⟨fun h => by omega, fun _ => ⟨fun h => by omega, fun _ => ⟨by omega, ?_⟩⟩⟩⟩
    refine wp_det (S_codeCount n hn a h.1) ?_
    cases ha : cnt n a with
    | none =>
      simp only [optN, ↓zp, zs, hasK, ty_has]
      refine ⟨by omega, wp_det (S_codeCount n hn b h.2) ?_⟩
      cases hb : cnt n b <;> simp [optN, ↓zp, zs, hasK, zf, cnt, ha, hb, Det]
    | some x =>
      simp only [optN, ↓zp, zs, hasK, ty_has]
      refine ⟨by omega, wp_det (S_codeCount n hn b h.2) ?_⟩
      cases hb : cnt n b with
      | none => simp [optN, ↓zp, zs, hasK, zf, cnt, ha, hb, Det]
      | some y =>
        have hx := cnt_le n hn a x ha
        have hy := cnt_le n hn b y hb
        simp only [optN, ↓zp, zs, hasK, zf, cnt, ha, hb, Det]
        rw [wrap64 ((x : Int) + (y : Int)) (by omega) (by omega)]
        refine ⟨fun h => (by cases h), fun _ => ⟨fun h => (by cases h), fun _ => ⟨by omega, fun h => by omega, fun _ => ⟨fun h => ?_, fun h => ?_⟩⟩⟩⟩
        · rw [capC, if_neg (by omega)]
        · rw [capC, if_pos (by omega)]; rfl
  | .times a b, h => by
    simp only [pure, Bool.and_eq_true] at h
    refine F_impl_codeCount _ _ ((ty_has _).mpr trivial) ?_
    simp only [t_impl_codeCount, Ty.av, ↓zp, zs, hasK, ty_has]
    refine ⟨by omega, fun h => by omega, fun _ => ⟨fun h => by omega, fun _ => ⟨fun h => by omega, fun _ => ⟨by omega, ?_⟩⟩⟩⟩
    refine wp_det (S_codeCount n hn a h.1) ?_
    cases ha : cnt n a with
    | none =>
      simp only [optN, ↓zp, zs, hasK, ty_has]
      refine ⟨by omega, wp_det (S_codeCount n hn b h.2) ?_⟩
      cases hb : cnt n b <;> simp [optN, ↓zp, zs, hasK, zf, cnt, ha, hb, Det]
    | some x =>
      simp only [optN, ↓zp, zs, hasK, ty_has]
      refine ⟨by omega, wp_det (S_codeCount n hn b h.2) ?_⟩
      cases hb : cnt n b with
      | none => simp [optN, ↓zp, zs, hasK, zf, cnt, ha, hb, Det]
      | some y =>
        have hx := cnt_le n hn a x ha
        have hy := cnt_le n hn b y hb
        have hxy := mul_le9 hx hy
        have e : (x : Int) * (y : Int) = ((x * y : Nat) : Int) := by simp
        simp only [optN, ↓zp, zs, hasK, zf, cnt, ha, hb, Det]
        rw [e, wrap64 ((x * y : Nat) : Int) (by omega) (by omega)]
        refine ⟨fun h => (by cases h), fun _ => ⟨fun h => (by cases h), fun _ => ⟨by omega, fun _ => ⟨fun h => ?_, fun h => ?_⟩, fun h => absurd rfl h⟩⟩⟩
        · rw [capC, if_neg (by omega)]
        · rw [capC, if_pos (by omega)]
/-- What the reference returns. -/
def CntR (x : Option Nat) : AV → List Ob → Prop := fun r o => ∃ v : Int, r = .tup [.v (.int .i64 v), .v (.bool x.isSome)] ∧ ∀ c, x = some c → v = (c : Int)
theorem CntR.ne (x : Option Nat) : ∃ r o, CntR x r o := by
  cases x with
  | none => exact ⟨_, [], 0, rfl, fun c h => by cases h⟩
  | some c => exact ⟨_, [], (c : Int), rfl, fun c' h => by cases h; rfl⟩
theorem S_l6pCount (n : Nat) (hn : n ≤ 100) : ∀ (e : E) (t : Ty), e.ok → tyOf e [] = some t → pure t = true → FSpec Tryz.prog n_spec_l6pCount [e.sav, .v (.int .i64 (n : Int))] [] (CntR (cnt n t))
  | .atom s, t, hok, ht, hp => by
    refine F_spec_l6pCount _ _ _ ((has_slnil).mpr trivial) ?_
    have hne : s ≠ [] := hok
    simp only [tyOf] at ht
    simp only [t_spec_l6pCount, ↓zp, zs, hasK, zt]
    refine ⟨fun _ => ⟨fun h => ?_, fun h => ⟨fun h1 => ?_, fun h1 => ?_⟩⟩, fun h => absurd h hne⟩
    · rw [if_pos h] at ht; cases ht; exact ⟨0, rfl, fun c h => (by cases h; rfl)⟩
    · rw [if_neg h, if_pos h1] at ht; cases ht; exact ⟨1, rfl, fun c h => (by cases h; rfl)⟩
    · rw [if_neg h, if_neg h1] at ht
      split at ht
      · cases ht; exact ⟨(n : Int), rfl, fun c h => (by cases h; rfl)⟩
      · split at ht
        · simp only [List.length_nil, lastOf] at ht
          cases ht; exact ⟨(n : Int), rfl, fun c h => (by cases h; rfl)⟩
        · cases ht
  | .list [], _, _, h, _ => by cases h
  | .list [_], _, _, h, _ => by cases h
  | .list [_, _], _, _, h, _ => by cases h
  | .list (_ :: _ :: _ :: _ :: _), _, _, h, _ => by cases h
  | .list [x, a, b], t, hok, ht, hp => by
    refine F_spec_l6pCount _ _ _ ((has_sl _).mpr trivial) ?_
    obtain ⟨ok1, ok2, ok3, _⟩ := hok
    have key : (x.at = [43] ∧ ∃ t1 t2, tyOf a [] = some t1 ∧ tyOf b [] = some t2 ∧ t = .plus t1 t2) ∨ (x.at = [42] ∧ ∃ t1 t2, tyOf a [] = some t1 ∧ tyOf b [] = some t2 ∧ t = .times t1 t2) := by
      by_cases h0 : x.at = [43]
      · exact .inl ⟨h0, tyOf_plus_inv h0 ht⟩
      · by_cases h1 : x.at = [42]
        · exact .inr ⟨h1, tyOf_times_inv h1 ht⟩
        · by_cases h2 : x.at = [114, 101, 99]
          · obtain ⟨t1, _, _, rfl⟩ := tyOf_rec_inv h2 ht
            cases hp
          · rw [tyOf_no [] h0 h1 h2] at ht; cases ht
    obtain ⟨t1, t2, e1, e2, p1, p2⟩ : ∃ t1 t2, tyOf a [] = some t1 ∧ tyOf b [] = some t2 ∧ pure t1 = true ∧ pure t2 = true := by
      rcases key with ⟨_, t1, t2, e1, e2, rfl⟩ | ⟨_, t1, t2, e1, e2, rfl⟩ <;>
        (simp only [pure, Bool.and_eq_true] at hp; exact ⟨t1, t2, e1, e2, hp.1, hp.2⟩)
    simp only [t_spec_l6pCount, E.scellss, toNat_one, toNat_two, ↓zp, zs, hasK, zt, sc_agg, sc_len, sc_has, sc_hd, Nat.le_refl]
    refine ⟨fun h => absurd rfl h, fun _ => ⟨by omega, ?_⟩⟩
    refine wp_call (S_l6pCount n hn a t1 ok2 e1 p1) (CntR.ne _) ?_
    rintro r o ⟨v1, rfl, hv1⟩
    simp only [↓zp, zs, hasK]
    refine ⟨by omega, ?_⟩
    refine wp_call (S_l6pCount n hn b t2 ok3 e2 p2) (CntR.ne _) ?_
    rintro r o ⟨v2, rfl, hv2⟩
    simp only [↓zp, zs, hasK]
    refine wp_det (S_l1Head x [a, b]) ?_
    simp only [↓zp, zs, hasK, zt]
    rcases key with ⟨hx, u1, u2, f1, f2, rfl⟩ | ⟨hx, u1, u2, f1, f2, rfl⟩
    · rw [e1] at f1; rw [e2] at f2; cases f1; cases f2
      refine ⟨fun h => (by rw [hx] at h; cases h), fun _ => ⟨fun ha => ⟨fun hb => ?_, fun hb => ?_⟩, fun ha => ?_⟩⟩
      · obtain ⟨c1, hc1⟩ := Option.isSome_iff_exists.1 ha
        obtain ⟨c2, hc2⟩ := Option.isSome_iff_exists.1 hb
        have l1 := cnt_le n hn t1 c1 hc1
        have l2 := cnt_le n hn t2 c2 hc2
        rw [hv1 c1 hc1, hv2 c2 hc2, wrap64 _ (by omega) (by omega)]
        simp only [cnt, hc1, hc2, capC]
        refine ⟨((c1 + c2 : Nat) : Int), ?_, ?_⟩
        · by_cases hc : c1 + c2 ≤ 1000000000
          · rw [if_pos hc, decide_eq_true (by omega)]; simp
          · rw [if_neg hc, decide_eq_false (by omega)]; simp
        · intro c hc; split at hc <;> cases hc; rfl
      · have hn2 : cnt n t2 = none := by cases hq : cnt n t2 <;> simp [hq] at hb ⊢
        have : cnt n (.plus t1 t2) = none := by simp only [cnt, hn2]; cases cnt n t1 <;> rfl
        rw [this]; exact ⟨_, rfl, fun c h => by cases h⟩
      · have hn1 : cnt n t1 = none := by cases hq : cnt n t1 <;> simp [hq] at ha ⊢
        have : cnt n (.plus t1 t2) = none := by simp only [cnt, hn1]
        rw [this]; exact ⟨_, rfl, fun c h => by cases h⟩
    · rw [e1] at f1; rw [e2] at f2; cases f1; cases f2
      refine ⟨fun _ => ⟨fun ha => ⟨fun hb => ?_, fun hb => ?_⟩, fun ha => ?_⟩, fun h => absurd hx h⟩
      · obtain ⟨c1, hc1⟩ := Option.isSome_iff_exists.1 ha
        obtain ⟨c2, hc2⟩ := Option.isSome_iff_exists.1 hb
        have l1 := cnt_le n hn t1 c1 hc1
        have l2 := cnt_le n hn t2 c2 hc2
        have hxy := mul_le9 l1 l2
        have e : (c1 : Int) * (c2 : Int) = ((c1 * c2 : Nat) : Int) := by simp
        rw [hv1 c1 hc1, hv2 c2 hc2, e, wrap64 ((c1 * c2 : Nat) : Int) (by omega) (by omega)]
        simp only [cnt, hc1, hc2, capC]
        refine ⟨((c1 * c2 : Nat) : Int), ?_, ?_⟩
        · by_cases hc : c1 * c2 ≤ 1000000000
          · rw [if_pos hc, decide_eq_true (by omega)]; rfl
          · rw [if_neg hc, decide_eq_false (by omega)]; rfl
        · intro c hc; split at hc <;> cases hc; rfl
      · have hn2 : cnt n t2 = none := by cases hq : cnt n t2 <;> simp [hq] at hb ⊢
        have : cnt n (.times t1 t2) = none := by simp only [cnt, hn2]; cases cnt n t1 <;> rfl
        rw [this]; exact ⟨_, rfl, fun c h => by cases h⟩
      · have hn1 : cnt n t1 = none := by cases hq : cnt n t1 <;> simp [hq] at ha ⊢
        have : cnt n (.times t1 t2) = none := by simp only [cnt, hn1]
        rw [this]; exact ⟨_, rfl, fun c h => by cases h⟩
/-- What both sides count. -/
def cntS (s : List UInt8) (n : Int) : Option Nat := if 0 ≤ n ∧ n ≤ 100 then (match rdP s with | some t => cnt n.toNat t | none => none) else none
theorem cntS_some' {s : List UInt8} {n : Int} {N : Nat} (h : cntS s n = some N) : ∃ (m : Nat) (t : Ty), n = (m : Int) ∧ m ≤ 100 ∧ rdP s = some t ∧ cnt m t = some N := by
  unfold cntS at h
  split at h
  · rename_i hn
    split at h
    · rename_i t ht
      exact ⟨n.toNat, t, by omega, by omega, ht, h⟩
    · cases h
  · cases h
theorem S_CodeCountI (s : List UInt8) (n : Int) : FSpec Tryz.prog n_impl_CodeCount [.v (.string (mk s)), .v (.int .i64 n)] [] (Det (optN (cntS s n))) := by
  refine F_impl_CodeCount _ _ ?_
  unfold t_impl_CodeCount
  refine wp_det (S_plainType s) ?_
  unfold cntS
  cases hs : rdP s with
  | none => simp only [optT, ↓zp, zs, hasK, Det]; simp [optN]
  | some t =>
    have hp : pure t = true := by
      cases he : rdPE s with
      | none => rw [rdPE_none he] at hs; cases hs
      | some e =>
        obtain ⟨t', h1, _, h2, _⟩ := rdPE_full he
        rw [hs] at h1; cases h1; exact h2
    simp only [optT, ↓zp, zs, hasK, ty_has, ty_nil, Det]
    refine ⟨fun h => (by cases h), fun _ => ⟨fun h => ?_, fun h => ⟨fun h1 => ?_, fun h1 => ?_⟩⟩⟩
    · rw [if_neg (by omega)]; rfl
    · rw [if_neg (by omega)]; rfl
    · obtain ⟨m, rfl⟩ : ∃ m : Nat, n = (m : Int) := ⟨n.toNat, by omega⟩
      refine wp_det (S_codeCount m (by omega) t hp) ?_
      rw [if_pos (by omega), Int.toNat_natCast]
      cases cnt m t <;> simp [optN, ↓zp, zs, hasK]
theorem S_CodeCountS (s : List UInt8) (n : Int) : FSpec Tryz.prog n_spec_CodeCount [.v (.string (mk s)), .v (.int .i64 n)] [] (Det (optN (cntS s n))) := by
  refine F_spec_CodeCount _ _ ?_
  unfold t_spec_CodeCount
  refine wp_call (S_l6pType s) (ParR.ne _ _ (fun h => h)) ?_
  rintro r o ⟨c, d, hd, rfl, hh⟩
  simp only [↓zp, zs, hasK, zt, hasL, Det]
  refine ⟨hd, fun h => ?_, fun h => ?_⟩
  · have hn : rdPE s = none := by cases hq : rdPE s <;> simp [hq] at h ⊢
    unfold cntS
    rw [rdPE_none hn]; simp [optN]
  · obtain ⟨e, he, hce⟩ := hh h
    obtain ⟨t, h1, ht, hp, hok, _⟩ := rdPE_full he
    refine wp_det (S_l6In _ _ _) ?_
    simp only [↓zp, zs, hasK, inR, cntS, h1]
    refine ⟨fun h => ?_, fun h => ?_⟩
    · rw [if_neg (by simpa using h)]; rfl
    · have h' : 0 ≤ n ∧ n ≤ 100 := by simpa using h
      obtain ⟨m, rfl⟩ : ∃ m : Nat, n = (m : Int) := ⟨n.toNat, by omega⟩
      rw [if_pos h', Int.toNat_natCast, hce]
      refine wp_call (S_l6pCount m (by omega) e t hok ht hp) (CntR.ne _) ?_
      rintro r o ⟨v, rfl, hv⟩
      simp only [↓zp, zs, hasK]
      cases hc : cnt m t with
      | none => simp [optN]
      | some c => rw [hv c hc]; simp [optN]
end Go.Proofs.Trees
