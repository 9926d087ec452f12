/-
  Part of a proof: laws over values.
-/
import Derived.Test.YtcbmbafopahijaaGreatDoorC2
import Derived.Test.YtcbmbafopahijaaGreatDoorC3
import Derived.Test.YtcbmbafopahijaaGreatDoorW2
import Derived.Test.YtcbmbafopahijaaGreatDoorD3
set_option linter.unusedVariables false
set_option linter.unusedSimpArgs false
namespace Go.Proofs.Trees
open Go Go.VL
theorem pure_free : ∀ t : Ty, pure t = true → freeLoo t = false
  | .zero, _ => rfl
  | .one, _ => rfl
  | .name s, h => by
    simp only [pure, Bool.or_eq_true, beq_iff_eq] at h
    rcases h with (rfl | rfl) | rfl <;> rfl
  | .plus a b, h => by simp only [pure, Bool.and_eq_true] at h; simp only [freeLoo, pure_free a h.1, pure_free b h.2, Bool.or_self]
  | .times a b, h => by simp only [pure, Bool.and_eq_true] at h; simp only [freeLoo, pure_free a h.1, pure_free b h.2, Bool.or_self]
  | .bound u, h => by cases h
  | .rc a, h => by cases h
theorem visT_vis (n : Nat) : ∀ (t : Ty) (e : E) (v : Vl), tyOf e [] = some t → pure t = true → visT n t v = true → vis n v (e, []) = true
  | .rc a, e, v, ht, hp, hv => by cases hp
  | .bound u, e, v, ht, hp, hv => by cases hp
  | .zero, e, v, ht, hp, hv => by cases v <;> cases hv
  | .one, e, v, ht, hp, hv => by
    have he : e = .atom [49] := by
      rcases ty_shapes ht rfl rfl with ⟨_, h⟩ | ⟨h, _⟩ | ⟨s, _, h, _⟩ | ⟨x, a, b, t1, t2, _, _, h, _⟩ | ⟨x, a, b, t1, t2, _, _, h, _⟩ | ⟨x, a, b, t1, _, _, h⟩
      · cases h
      · exact h
      all_goals cases h
    subst he
    cases v <;> first | rfl | cases hv
  | .name s, e, v, ht, hp, hv => by
    obtain ⟨s', rfl, hq, h1, h0⟩ : ∃ s', e = .atom s' ∧ isPar s' = true ∧ s' ≠ [49] ∧ s' ≠ [48] := by
      rcases ty_shapes ht rfl (pure_free _ hp) with ⟨_, h⟩ | ⟨_, h⟩ | ⟨s', h, _, hq, h0, h1⟩ | ⟨x, a, b, t1, t2, _, _, h, _⟩ | ⟨x, a, b, t1, t2, _, _, h, _⟩ | ⟨x, a, b, t1, _, _, h⟩
      · cases h
      · cases h
      · exact ⟨s', h, hq, h1, h0⟩
      all_goals cases h
    cases v with
    | el k => simp only [visT] at hv; simp [vis, hd_nilenv, h1, hq]; simpa using hv
    | _ => cases hv
  | .plus a b, e, v, ht, hp, hv => by
    have hf := pure_free _ hp
    simp only [pure, Bool.and_eq_true] at hp
    rcases ty_shapes ht rfl hf with ⟨_, h⟩ | ⟨_, h⟩ | ⟨s, _, h, _⟩ | ⟨x, y, z, t1, t2, rfl, hx, h, h1, h2⟩ | ⟨x, y, z, t1, t2, _, _, h, _⟩ | ⟨x, y, z, t1, _, _, h⟩
    · cases h
    · cases h
    · cases h
    · cases h
      cases v with
      | l w => simp only [vis, hd_nilenv, hx, beq_self_eq_true, Bool.true_and]; exact visT_vis n a y w h1 hp.1 hv
      | r w => simp only [vis, hd_nilenv, hx, beq_self_eq_true, Bool.true_and]; exact visT_vis n b z w h2 hp.2 hv
      | _ => cases hv
    · cases h
    · cases h
  | .times a b, e, v, ht, hp, hv => by
    have hf := pure_free _ hp
    simp only [pure, Bool.and_eq_true] at hp
    rcases ty_shapes ht rfl hf with ⟨_, h⟩ | ⟨_, h⟩ | ⟨s, _, h, _⟩ | ⟨x, y, z, t1, t2, _, _, h, _⟩ | ⟨x, y, z, t1, t2, rfl, hx, h, h1, h2⟩ | ⟨x, y, z, t1, _, _, h⟩
    · cases h
    · cases h
    · cases h
    · cases h
    · cases h
      cases v with
      | p w w' =>
        simp only [visT, Bool.and_eq_true] at hv
        simp only [vis, hd_nilenv, hx, beq_self_eq_true, Bool.true_and, visT_vis n a y w h1 hp.1 hv.1, visT_vis n b z w' h2 hp.2 hv.2]
      | _ => cases hv
    · cases h
theorem back_visT (n : Nat) : ∀ (t : Ty) (N c : Nat), cnt n t = some N → c < N → visT n t (back n t c) = true
  | .zero, _, _, h, hc => by cases h; omega
  | .one, _, _, _, _ => rfl
  | .bound u, _, _, h, _ => by cases h
  | .rc a, _, _, h, _ => by cases h
  | .name s, N, c, h, hc => by cases h; simpa [back, visT] using hc
  | .plus a b, N, c, h, hc => by
    obtain ⟨x, y, hx, hy, rfl⟩ := cnt_plus h
    simp only [back, hx]
    split
    · exact back_visT n a x c hx (by assumption)
    · exact back_visT n b y (c - x) hy (by omega)
  | .times a b, N, c, h, hc => by
    obtain ⟨x, y, hx, hy, rfl⟩ := cnt_times h
    simp only [back, hy]
    have hy0 : 0 < y := Nat.pos_of_ne_zero (fun e => by subst e; simp at hc)
    simp only [visT, back_visT n a x _ hx (Nat.div_lt_of_lt_mul (by rw [Nat.mul_comm]; exact hc)), back_visT n b y _ hy (Nat.mod_lt _ hy0)]; rfl
theorem code_back (n : Nat) : ∀ (t : Ty) (N c : Nat), cnt n t = some N → c < N → code n t (back n t c) = c
  | .zero, _, _, h, hc => by cases h; omega
  | .one, _, c, h, hc => by cases h; simp only [back, code]; omega
  | .bound u, _, _, h, _ => by cases h
  | .rc a, _, _, h, _ => by cases h
  | .name s, N, c, h, hc => rfl
  | .plus a b, N, c, h, hc => by
    obtain ⟨x, y, hx, hy, rfl⟩ := cnt_plus h
    simp only [back, hx]
    split
    · exact code_back n a x c hx (by assumption)
    · simp only [code, hx, Option.getD_some, code_back n b y (c - x) hy (by omega)]; omega
  | .times a b, N, c, h, hc => by
    obtain ⟨x, y, hx, hy, rfl⟩ := cnt_times h
    simp only [back, hy]
    have hy0 : 0 < y := Nat.pos_of_ne_zero (fun e => by subst e; simp at hc)
    simp only [code, hy, Option.getD_some, code_back n a x _ hx (Nat.div_lt_of_lt_mul (by rw [Nat.mul_comm]; exact hc)), code_back n b y _ hy (Nat.mod_lt _ hy0)]
    have := Nat.div_add_mod c y
    rw [Nat.mul_comm]; exact this
/-- What is read back is of the type, and has the code. -/
theorem cv_all {s : List UInt8} {n c : Int} {x : List UInt8} (h : cvS s n c = some x) : (∃ w, vOK s x n = some w) ∧ ∃ k : Nat, cof s n x = some k ∧ (k : Int) = c := by
  unfold cvS at h
  split at h
  · rename_i t N ht hN
    split at h
    · rename_i hc
      split at h
      · rename_i hn
        cases h
        obtain ⟨m, t', rfl, hm, ht', hcn⟩ := cntS_some' hN
        rw [ht] at ht'; cases ht'
        simp only [Int.toNat_natCast] at *
        obtain ⟨c, rfl⟩ : ∃ k : Nat, c = (k : Int) := ⟨c.toNat, by omega⟩
        simp only [Int.toNat_natCast] at *
        have hcN : c < N := by omega
        have hrd := rdV_txt (bel_mono hm _ (back_bel m t N c hcn hcN)) hn
        have hC : rdC s = some t := by
          have h0 := ht
          unfold rdP at h0
          split at h0
          · cases h0
          · rename_i t' h1; split at h0
            · cases h0; exact h1
            · cases h0
        have hC' := hC
        rw [rdC_of] at hC'
        split at hC'
        · cases hC'
        · rename_i e he
          obtain ⟨e0, he0⟩ : ∃ e, rdPE s = some e := by
            cases hq : rdPE s with
            | none => rw [rdPE_none hq] at ht; cases ht
            | some e => exact ⟨e, rfl⟩
          obtain ⟨t0, g1, g2, g3, g4⟩ := rdPE_full he0
          rw [ht] at g1; cases g1
          have hv := visT_vis m t e _ hC' g3 (back_visT m t N c hcn hcN)
          have ok : vOK s (back m t c).txt (m : Int) = some (back m t c) := by
            simp only [vOK, he, hrd, Int.toNat_natCast, hv, and_true]
            rw [if_pos (by omega)]
          refine ⟨⟨_, ok⟩, c, ?_, rfl⟩
          simp only [cof, hN, ok, ht, Int.toNat_natCast, code_back m t N c hcn hcN]
      · cases h
    · cases h
  · cases h
/-- What is drawn. -/
def DrCV (r : AV) (o : List Ob) : Prop := o = [] ∧ ∃ (s : List UInt8) (n c : Int), r = .tup [.v (.string (mk s)), .v (.int .i64 n), .v (.int .i64 c)]
theorem S_DrawCodeValue (a : AV) (ha : CodeA a) : FSpec Tryz.prog n_spec_DrawCodeValue [a] [] DrCV := by
  refine F_spec_DrawCodeValue _ ha.1 ?_
  unfold t_spec_DrawCodeValue
  refine wp_call (S_l6Open a ha) RdO.ne ?_
  rintro r o ⟨b, l, hb, rfl, rfl⟩
  have hfar : far = 1000000000 := rfl
  have hL := Lpl_le 3 (by omega)
  simp only [↓zp, zs, hasK, hasC, hasL, hb.has]
  refine wp_call (S_l92Plain b l hb 3 (by omega) 0 (by omega)) (Drw.ne ⟨[], rfl, by simp⟩) ?_
  rintro r o ⟨q1, a1, a2, ⟨s, rfl, hs⟩, rfl⟩
  simp only [↓zp, zs, hasK, hasC, hb.has]
  refine wp_call (S_pick b l hb q1 4 (by omega) (by decide)) (Drw.ne ⟨0, rfl, fun h => by omega, by omega⟩) ?_
  rintro r o ⟨q2, b1, b2, ⟨k, rfl, _, _⟩, rfl⟩
  simp only [↓zp, zs, hasK, zt, hasC, hb.has]
  refine wp_det (S_CodeCountS s (k : Int)) ?_
  have fin : ∀ (m : Int), 0 ≤ m → m ≤ 250 → FSpec Tryz.prog n_spec_l6Rd_pick [.ref 0 0, .v (.int .i64 m)] [.cells [b, .v (.int .i64 (q2 : Int))]] (Drw b q2 1 (isNum m.toNat)) := by
    intro m h0 h1
    have := S_pick b l hb q2 m.toNat (by omega) (by omega)
    rwa [show ((m.toNat : Nat) : Int) = m by omega] at this
  have hm : ∀ x : Int, 0 ≤ x → x ≤ 1000000000 → 0 ≤ (if IntKind.wrap .i64 (x + 1) < 250 then IntKind.wrap .i64 (x + 1) else 250) ∧ (if IntKind.wrap .i64 (x + 1) < 250 then IntKind.wrap .i64 (x + 1) else 250) ≤ 250 := by
    intro x h0 h1
    rw [show IntKind.wrap .i64 (x + 1) = x + 1 by rw [VL.wrap64] <;> omega]
    split <;> omega
  have key : ∃ c : Int, ∃ d : Bool, 0 ≤ c ∧ c ≤ 1000000000 ∧ optN (cntS s (k : Int)) = .tup [.v (.int .i64 c), .v (.bool d)] := by
    cases hc : cntS s (k : Int) with
    | none => exact ⟨0, false, by omega, by omega, rfl⟩
    | some N =>
      obtain ⟨m, t, _, h2, _, h4⟩ := cntS_some' hc
      have := cnt_le m h2 t N h4
      exact ⟨(N : Int), true, by omega, by omega, rfl⟩
  obtain ⟨c, d, c0, c1, hc⟩ := key
  rw [hc]
  simp only [↓zp, zs, hasK]
  obtain ⟨m0, m1⟩ := hm c c0 c1
  refine wp_call (fin _ m0 m1) (Drw.ne ⟨0, rfl, fun h => by omega, by omega⟩) ?_
  rintro r o ⟨q3, d1, d2, ⟨k1, rfl, _, _⟩, rfl⟩
  simp only [↓zp, zs, hasK, hasC, hb.has]
  refine wp_call (S_pick b l hb q3 20 (by omega) (by decide)) (Drw.ne ⟨0, rfl, fun h => by omega, by omega⟩) ?_
  rintro r o ⟨q4, e1, e2, ⟨k2, rfl, _, _⟩, rfl⟩
  simp only [↓zp, zs, hasK, hasC, hb.has]
  exact ⟨by decide, rfl, s, _, _, rfl⟩
theorem S_ValueIsI (s v : List UInt8) (n : Int) : FSpec Tryz.prog n_impl_ValueIs [.v (.string (mk s)), .v (.string (mk v)), .v (.int .i64 n)] [] (Det (.v (.bool (vOK s v n).isSome))) := by
  refine F_impl_ValueIs _ _ _ ?_
  unfold t_impl_ValueIs
  refine wp_det (S_valueOf s v n) ?_
  simp only [↓zp, zs, hasK, optT_has, optV_has, Det]
  cases hv : vOK s v n <;> simp [optV, isNil_nil, vl_nil]
theorem S_FnCodeValue (a : AV) (ha : CodeA a) : FSpec Tryz.prog n_laws_FnCodeValue [a] [] (Det (.v (.bool true))) := by
  refine F_laws_FnCodeValue _ ha.1 ?_
  simp only [t_laws_FnCodeValue, ↓zp, zs, hasK]
  refine ⟨ha.1, fun _ => ⟨rfl, rfl⟩, fun _ => ?_⟩
  refine wp_call (S_DrawCodeValue a ha) ⟨_, _, rfl, [], 0, 0, rfl⟩ ?_
  rintro r o ⟨rfl, s, n, c, rfl⟩
  simp only [↓zp, zs, hasK, zt]
  refine wp_det (S_CodeValueI s n c) ?_
  cases hc : cvS s n c with
  | none =>
    simp only [optS, ↓zp, zs, hasK]
    refine wp_det (S_CodeValueS s n c) ?_
    simp [hc, optS, ↓zp, zs, hasK, zt, Det]
  | some x =>
    obtain ⟨⟨w, hw⟩, k, hk, rfl⟩ := cv_all hc
    simp only [optS, ↓zp, zs, hasK]
    refine wp_det (S_CodeValueS s n (k : Int)) ?_
    simp only [hc, optS, ↓zp, zs, hasK, zt]
    refine ⟨fun h => by simp at h, fun _ => ⟨fun h => by simp at h, fun _ => ⟨fun h => by simp at h, fun _ => ?_⟩⟩⟩
    refine wp_det (S_CodeOfI s n x) ?_
    simp only [hk, optN, ↓zp, zs, hasK, zt]
    refine ⟨fun _ => ⟨fun _ => ?_, fun h => by simp at h⟩, fun h => by simp at h⟩
    refine wp_det (S_ValueIsI s x n) ?_
    simp [hw, ↓zp, zs, hasK, Det]
end Go.Proofs.Trees
