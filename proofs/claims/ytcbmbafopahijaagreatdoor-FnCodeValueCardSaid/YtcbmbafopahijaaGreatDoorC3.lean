/-
  Part of a proof: laws over values.
-/
import Derived.Test.YtcbmbafopahijaaGreatDoorE4
set_option linter.unusedVariables false
set_option linter.unusedSimpArgs false
namespace Go.Proofs.Trees
open Go Go.VL Go.RowKit
/-! ### The code of a value -/
theorem cntp {n : Nat} {a b : Ty} {N : Nat} (h : cnt n (.plus a b) = some N) : ∃ x y, cnt n a = some x ∧ cnt n b = some y ∧ N = x + y := by
  simp only [cnt] at h
  split at h
  · rename_i x y hx hy
    unfold capC at h; split at h <;> cases h; exact ⟨x, y, hx, hy, rfl⟩
  · cases h
theorem cntt {n : Nat} {a b : Ty} {N : Nat} (h : cnt n (.times a b) = some N) : ∃ x y, cnt n a = some x ∧ cnt n b = some y ∧ N = x * y := by
  simp only [cnt] at h
  split at h
  · rename_i x y hx hy
    unfold capC at h; split at h <;> cases h; exact ⟨x, y, hx, hy, rfl⟩
  · cases h
def visT (n : Nat) : Ty → Vl → Bool
  | .one, .u => true
  | .name _, .el k => decide (k < n)
  | .plus a _, .l v => visT n a v
  | .plus _ b, .r v => visT n b v
  | .times a b, .p v w => visT n a v && visT n b w
  | _, _ => false
def code (n : Nat) : Ty → Vl → Nat
  | .name _, .el k => k
  | .plus a _, .l v => code n a v
  | .plus a b, .r v => (cnt n a).getD 0 + code n b v
  | .times a b, .p v w => code n a v * (cnt n b).getD 0 + code n b w
  | _, _ => 0
theorem hd_nilenv (e : E) : hd e [] = (e, []) := rfl
theorem vis_visT (n : Nat) : ∀ (t : Ty) (e : E) (v : Vl), tyOf e [] = some t → pure t = true → vis n v (e, []) = true → visT n t v = true
  | .rc a, e, v, ht, hp, hv => by cases hp
  | .bound u, e, v, ht, hp, hv => by cases hp
  | .plus a b, e, v, ht, hp, hv => by
    have hp2 := hp
    simp only [pure, Bool.and_eq_true] at hp2
    obtain ⟨x, y, z, rfl, hx, h1, h2⟩ : ∃ x y z, e = .list [x, y, z] ∧ x.at = [43] ∧ tyOf y [] = some a ∧ tyOf z [] = some b := by
      cases e with
      | atom s =>
        simp only [tyOf] at ht
        split at ht
        · cases ht
        · split at ht
          · cases ht
          · split at ht
            · cases ht
            · split at ht
              · simp only [List.length_nil, lastOf] at ht; cases ht
              · cases ht
      | list l =>
        match l, ht with
        | [x, y, z], ht =>
          by_cases h0 : x.at = [43]
          · obtain ⟨t1, t2, h1, h2, he⟩ := tyOf_plus_inv h0 ht
            cases he; exact ⟨x, y, z, rfl, h0, h1, h2⟩
          · by_cases h1 : x.at = [42]
            · obtain ⟨t1, t2, _, _, he⟩ := tyOf_times_inv h1 ht; cases he
            · by_cases h2 : x.at = [114, 101, 99]
              · obtain ⟨t1, _, _, he⟩ := tyOf_rec_inv h2 ht; cases he
              · rw [tyOf_no _ h0 h1 h2] at ht; cases ht
        | [], ht => cases ht
        | [_], ht => cases ht
        | [_, _], ht => cases ht
        | _ :: _ :: _ :: _ :: _, ht => cases ht
    cases v with
    | l w =>
      simp only [vis, hd_nilenv, hx, beq_self_eq_true, Bool.true_and] at hv
      exact vis_visT n a y w h1 hp2.1 hv
    | r w =>
      simp only [vis, hd_nilenv, hx, beq_self_eq_true, Bool.true_and] at hv
      exact vis_visT n b z w h2 hp2.2 hv
    | u => simp [vis, hd_nilenv] at hv
    | el k => simp [vis, hd_nilenv] at hv
    | f w => simp [vis, hd_nilenv, hx] at hv
    | p w w' => simp [vis, hd_nilenv, hx] at hv
  | .times a b, e, v, ht, hp, hv => by
    have hp2 := hp
    simp only [pure, Bool.and_eq_true] at hp2
    obtain ⟨x, y, z, rfl, hx, h1, h2⟩ : ∃ x y z, e = .list [x, y, z] ∧ x.at = [42] ∧ tyOf y [] = some a ∧ tyOf z [] = some b := by
      cases e with
      | atom s =>
        simp only [tyOf] at ht
        split at ht
        · cases ht
        · split at ht
          · cases ht
          · split at ht
            · cases ht
            · split at ht
              · simp only [List.length_nil, lastOf] at ht; cases ht
              · cases ht
      | list l =>
        match l, ht with
        | [x, y, z], ht =>
          by_cases h0 : x.at = [43]
          · obtain ⟨t1, t2, h1, h2, he⟩ := tyOf_plus_inv h0 ht; cases he
          · by_cases h1 : x.at = [42]
            · obtain ⟨t1, t2, h1', h2', he⟩ := tyOf_times_inv h1 ht
              cases he; exact ⟨x, y, z, rfl, h1, h1', h2'⟩
            · by_cases h2 : x.at = [114, 101, 99]
              · obtain ⟨t1, _, _, he⟩ := tyOf_rec_inv h2 ht; cases he
              · rw [tyOf_no _ h0 h1 h2] at ht; cases ht
        | [], ht => cases ht
        | [_], ht => cases ht
        | [_, _], ht => cases ht
        | _ :: _ :: _ :: _ :: _, ht => cases ht
    cases v with
    | p w w' =>
      simp only [vis, hd_nilenv, hx, beq_self_eq_true, Bool.true_and, Bool.and_eq_true] at hv
      simp only [visT, vis_visT n a y w h1 hp2.1 hv.1, vis_visT n b z w' h2 hp2.2 hv.2, Bool.and_self]
    | u => simp [vis, hd_nilenv] at hv
    | el k => simp [vis, hd_nilenv] at hv
    | f w => simp [vis, hd_nilenv, hx] at hv
    | l w => simp [vis, hd_nilenv, hx] at hv
    | r w => simp [vis, hd_nilenv, hx] at hv
  | .zero, e, v, ht, hp, hv => by
    have he : e = .atom [48] := by
      rcases ty_shapes ht rfl rfl with ⟨h, _⟩ | ⟨_, h⟩ | ⟨s, _, h, _⟩ | ⟨x, a, b, t1, t2, _, _, h, _⟩ | ⟨x, a, b, t1, t2, _, _, h, _⟩ | ⟨x, a, b, t1, _, _, h⟩
      · exact h
      all_goals cases h
    subst he
    have hp0 : isPar [48] = false := rfl
    cases v <;> simp [vis, hd_nilenv, hp0] at hv
  | .one, e, v, ht, hp, hv => by
    have he : e = .atom [49] := by
      rcases ty_shapes ht rfl rfl with ⟨_, h⟩ | ⟨h, _⟩ | ⟨s, _, h, _⟩ | ⟨x, a, b, t1, t2, _, _, h, _⟩ | ⟨x, a, b, t1, t2, _, _, h, _⟩ | ⟨x, a, b, t1, _, _, h⟩
      · cases h
      · exact h
      all_goals cases h
    subst he
    cases v <;> simp [vis, hd_nilenv] at hv
    rfl
  | .name s, e, v, ht, hp, hv => by
    have hl : isLoo s = false := by
      simp only [pure, Bool.or_eq_true, beq_iff_eq] at hp
      rcases hp with (rfl | rfl) | rfl <;> rfl
    obtain ⟨s', rfl, h1, h0⟩ : ∃ s', e = .atom s' ∧ s' ≠ [49] ∧ s' ≠ [48] := by
      rcases ty_shapes ht rfl hl with ⟨_, h⟩ | ⟨_, h⟩ | ⟨s', h, _, _, h0, h1⟩ | ⟨x, a, b, t1, t2, _, _, h, _⟩ | ⟨x, a, b, t1, t2, _, _, h, _⟩ | ⟨x, a, b, t1, _, _, h⟩
      · cases h
      · cases h
      · exact ⟨s', h, h1, h0⟩
      all_goals cases h
    cases v with
    | el k =>
      simp only [vis, hd_nilenv, Bool.and_eq_true] at hv
      exact hv.2.2
    | _ => simp [vis, hd_nilenv, h1] at hv
theorem code_lt (n : Nat) (hn : n ≤ 100) : ∀ (t : Ty) (v : Vl) (N : Nat), cnt n t = some N → visT n t v = true → code n t v < N
  | .zero, v, N, h, hv => by cases v <;> cases hv
  | .bound u, v, N, h, hv => by cases h
  | .rc a, v, N, h, hv => by cases h
  | .one, v, N, h, hv => by
    cases h
    cases v <;> first | (cases hv; done) | exact Nat.zero_lt_one
  | .name s, v, N, h, hv => by
    cases h
    cases v with
    | el k => simpa [visT, code] using hv
    | _ => cases hv
  | .plus a b, v, N, h, hv => by
    obtain ⟨x, y, hx, hy, rfl⟩ := cntp h
    cases v with
    | l w => have := code_lt n hn a w x hx hv; simp only [code]; omega
    | r w => have := code_lt n hn b w y hy hv; simp only [code, hx, Option.getD_some]; omega
    | _ => cases hv
  | .times a b, v, N, h, hv => by
    obtain ⟨x, y, hx, hy, rfl⟩ := cntt h
    cases v with
    | p w z =>
      simp only [visT, Bool.and_eq_true] at hv
      have h1 := code_lt n hn a w x hx hv.1
      have h2 := code_lt n hn b z y hy hv.2
      simp only [code, hy, Option.getD_some]
      have h3 : (code n a w + 1) * y ≤ x * y := Nat.mul_le_mul_right y h1
      rw [Nat.add_mul, Nat.one_mul] at h3
      omega
    | _ => cases hv
theorem cnat (a b : Nat) : (a : Int) * (b : Int) = ((a * b : Nat) : Int) := by simp
theorem S_codeOf (n : Nat) (hn : n ≤ 100) : ∀ (t : Ty) (v : Vl) (N : Nat), v.bel 100 → pure t = true → cnt n t = some N → visT n t v = true → FSpec Tryz.prog n_impl_codeOf [t.av, .v (.int .i64 (n : Int)), v.iav] [] (Det (.v (.int .i64 (code n t v : Int))))
  | .zero, v, N, hb, hp, h, hv => by cases v <;> cases hv
  | .bound u, v, N, hb, hp, h, hv => by cases h
  | .rc a, v, N, hb, hp, h, hv => by cases h
  | .one, v, N, hb, hp, h, hv => by
    refine F_impl_codeOf _ _ _ ((ty_has _).mpr trivial) ((vl_has _).mpr trivial) ?_
    cases v <;> first | (cases hv; done) | skip
    simp [t_impl_codeOf, Vl.iav, ↓zp, zs, hasK, Det, code]
  | .name s, v, N, hb, hp, h, hv => by
    refine F_impl_codeOf _ _ _ ((ty_has _).mpr trivial) ((vl_has _).mpr trivial) ?_
    cases v with
    | el k =>
      have hk : k < 100 := hb
      have e1 : (List.take ((dd k).length + 1) (elS k)).drop (Int.toNat 1) = dd k := by simp [elS]
      simp only [t_impl_codeOf, Vl.iav, ↓zp, zs, hasK, zt, e1]
      refine ⟨by omega, fun _ => ⟨by omega, by omega, wp_det (S_Atoi k hk) ?_⟩, fun h => absurd rfl h⟩
      simp only [↓zp, zs, hasK, Det, code]
      rfl
    | _ => cases hv
  | .plus a b, v, N, hb, hp, h, hv => by
    obtain ⟨x, y, hx, hy, rfl⟩ := cntp h
    simp only [pure, Bool.and_eq_true] at hp
    have hx9 := cnt_le n hn a x hx
    have hy9 := cnt_le n hn b y hy
    refine F_impl_codeOf _ _ _ ((ty_has _).mpr trivial) ((vl_has _).mpr trivial) ?_
    cases v with
    | l w =>
      simp only [t_impl_codeOf, Ty.av, Vl.iav, ↓zp, zs, hasK, ty_has, vl_has]
      refine ⟨by omega, fun h => by omega, fun _ => ⟨fun _ => ⟨by omega, by omega, wp_det (S_codeOf n hn a w x hb hp.1 hx hv) ?_⟩, fun h => absurd rfl h⟩⟩
      simp [↓zp, zs, hasK, Det, code]
    | r w =>
      have hlt := code_lt n hn b w y hy hv
      simp only [t_impl_codeOf, Ty.av, Vl.iav, ↓zp, zs, hasK, ty_has, vl_has]
      refine ⟨by omega, fun h => by omega, fun _ => ⟨fun h => by omega, fun _ => ⟨fun _ => ⟨by omega, wp_det (S_codeCount n hn a hp.1) ?_⟩, fun h => absurd rfl h⟩⟩⟩
      rw [hx]
      simp only [optN, ↓zp, zs, hasK, ty_has, vl_has]
      refine ⟨by omega, by omega, wp_det (S_codeOf n hn b w y hb hp.2 hy hv) ?_⟩
      simp only [↓zp, zs, hasK, Det, code, hx, Option.getD_some]
      rw [wrap64 _ (by omega) (by omega)]
      simp
    | _ => cases hv
  | .times a b, v, N, hb, hp, h, hv => by
    obtain ⟨x, y, hx, hy, rfl⟩ := cntt h
    simp only [pure, Bool.and_eq_true] at hp
    have hx9 := cnt_le n hn a x hx
    have hy9 := cnt_le n hn b y hy
    refine F_impl_codeOf _ _ _ ((ty_has _).mpr trivial) ((vl_has _).mpr trivial) ?_
    cases v with
    | p w z =>
      simp only [visT, Bool.and_eq_true] at hv
      have h1 := code_lt n hn a w x hx hv.1
      have h2 := code_lt n hn b z y hy hv.2
      have h3 := mul_le9 (Nat.le_of_lt (Nat.lt_of_lt_of_le h1 hx9)) hy9
      simp only [t_impl_codeOf, Ty.av, Vl.iav, ↓zp, zs, hasK, ty_has, vl_has]
      refine ⟨by omega, fun h => by omega, fun _ => ⟨fun h => by omega, fun _ => ⟨fun h => by omega, fun _ => ⟨fun _ => ⟨by omega, wp_det (S_codeCount n hn b hp.2) ?_⟩, fun h => absurd rfl h⟩⟩⟩⟩
      rw [hy]
      simp only [optN, ↓zp, zs, hasK, ty_has, vl_has]
      refine ⟨by omega, by omega, wp_det (S_codeOf n hn a w x hb.1 hp.1 hx hv.1) ?_⟩
      simp only [↓zp, zs, hasK, ty_has, vl_has]
      refine ⟨by omega, by omega, wp_det (S_codeOf n hn b z y hb.2 hp.2 hy hv.2) ?_⟩
      simp only [↓zp, zs, hasK, Det, code, hy, Option.getD_some]
      rw [cnat, wrap64 ((code n a w * y : Nat) : Int) (by omega) (by omega), wrap64 _ (by omega) (by omega)]
      simp
    | _ => cases hv
/-- What both sides return. -/
def cof (s : List UInt8) (n : Int) (v : List UInt8) : Option Nat := match cntS s n, vOK s v n, rdP s with
  | some _, some w, some t => some (code n.toNat t w)
  | _, _, _ => none
/-- All that a plain type with a count and a value gives. -/
theorem cof_all {s v : List UInt8} {n : Int} {N : Nat} {w : Vl} (h1 : cntS s n = some N) (h2 : vOK s v n = some w) : ∃ m t e, n = (m : Nat) ∧ m ≤ 100 ∧ rdP s = some t ∧ rdC s = some t ∧ cnt m t = some N ∧ rdPE s = some e ∧ tyOf e [] = some t ∧ pure t = true ∧ e.ok ∧ w.bel 100 ∧ rdV v = some w ∧ visT m t w = true := by
  obtain ⟨m, t, rfl, hm, ht, hN⟩ := cntS_some' h1
  obtain ⟨e, t', m', he, hw, hc, hA, hmm, hm', hvis⟩ := vOK_some h2
  have : m' = m := by omega
  subst this
  obtain ⟨e0, he0⟩ : ∃ e, rdPE s = some e := by
    cases hq : rdPE s with
    | none => rw [rdPE_none hq] at ht; cases ht
    | some e => exact ⟨e, rfl⟩
  obtain ⟨t0, g1, g2, g3, g4, g5, g6, g7, g8, g9⟩ := rdPE_full he0
  rw [ht] at g1; cases g1
  obtain ⟨_, _, _, _, _, _, g10⟩ := rdCE_full he
  rw [g9] at g10; cases g10
  have hty := hA.ty
  rw [show names [] = [] from rfl, g2] at hty; cases hty
  exact ⟨m', t, e, rfl, hm, ht, hc, hN, he0, g2, g3, g4, (rdV_ok hw).2.1, hw, vis_visT m' t e w g2 g3 hvis⟩
theorem S_CodeOfI (s : List UInt8) (n : Int) (v : List UInt8) : FSpec Tryz.prog n_impl_CodeOf [.v (.string (mk s)), .v (.int .i64 n), .v (.string (mk v))] [] (Det (optN (cof s n v))) := by
  refine F_impl_CodeOf _ _ _ ?_
  unfold t_impl_CodeOf
  refine wp_det (S_CodeCountI s n) ?_
  unfold cof
  cases hs : cntS s n with
  | none =>
    simp only [optN, ↓zp, zs, hasK]
    refine wp_det (S_valueOf s v n) ?_
    simp [↓zp, zs, hasK, optT_has, optV_has, Det]
  | some N =>
    simp only [optN, ↓zp, zs, hasK]
    refine wp_det (S_valueOf s v n) ?_
    simp only [↓zp, zs, hasK, optT_has, optV_has, Det]
    refine ⟨fun h => (by cases h), fun _ => ?_⟩
    cases hv : vOK s v n with
    | none => simp [optV, ↓zp, zs, hasK]
    | some w =>
      obtain ⟨m, t, e, rfl, hm, ht, hc, hN, he, h2, h3, h4, h5, h6, h7⟩ := cof_all hs hv
      rw [hc, ht]
      simp only [optV, optT, vl_has, vl_nil, ↓zp, zs, hasK, Int.toNat_natCast]
      refine ⟨fun h => (by cases h), fun _ => wp_det (S_codeOf m hm t w N h5 h3 hN h7) ?_⟩
      simp [↓zp, zs, hasK]
end Go.Proofs.Trees
