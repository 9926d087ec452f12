/-
  Part of a proof: laws over values.
-/
import Derived.Test.YtcbmbafopahijaaGreatDoorT1
import Derived.Test.YtcbmbafopahijaaGreatDoorW1
set_option linter.unusedVariables false
set_option linter.unusedSimpArgs false
namespace Go.Proofs.Trees
open Go Go.VL Go.RowKit
/-! ### The value with a code -/
def back (n : Nat) : Ty → Nat → Vl
  | .name _, c => .el c
  | .plus a b, c => match cnt n a with | some x => if c < x then .l (back n a c) else .r (back n b (c - x)) | none => .u
  | .times a b, c => match cnt n b with | some y => .p (back n a (c / y)) (back n b (c % y)) | none => .u
  | _, _ => .u
theorem cnt_plus {n : Nat} {a b : Ty} {N : Nat} (h : cnt n (.plus a b) = some N) : ∃ x y, cnt n a = some x ∧ cnt n b = some y ∧ N = x + y := by
  simp only [cnt] at h
  split at h
  · rename_i x y hx hy
    unfold capC at h; split at h <;> cases h; exact ⟨x, y, hx, hy, rfl⟩
  · cases h
theorem cnt_times {n : Nat} {a b : Ty} {N : Nat} (h : cnt n (.times a b) = some N) : ∃ x y, cnt n a = some x ∧ cnt n b = some y ∧ N = x * y := by
  simp only [cnt] at h
  split at h
  · rename_i x y hx hy
    unfold capC at h; split at h <;> cases h; exact ⟨x, y, hx, hy, rfl⟩
  · cases h
theorem back_bel (n : Nat) : ∀ (t : Ty) (N c : Nat), cnt n t = some N → c < N → (back n t c).bel n
  | .zero, _, _, _, _ => trivial
  | .one, _, _, _, _ => trivial
  | .bound u, _, _, _, _ => trivial
  | .rc a, _, _, _, _ => trivial
  | .name s, N, c, h, hc => by cases h; exact hc
  | .plus a b, N, c, h, hc => by
    obtain ⟨x, y, hx, hy, rfl⟩ := cnt_plus h
    simp only [back, hx]
    split
    · exact back_bel n a x c hx (by assumption)
    · exact back_bel n b y (c - x) hy (by omega)
  | .times a b, N, c, h, hc => by
    obtain ⟨x, y, hx, hy, rfl⟩ := cnt_times h
    simp only [back, hy]
    have hy0 : 0 < y := Nat.pos_of_ne_zero (fun e => by subst e; simp at hc)
    exact ⟨back_bel n a x _ hx (Nat.div_lt_of_lt_mul (by rw [Nat.mul_comm]; exact hc)), back_bel n b y _ hy (Nat.mod_lt _ hy0)⟩
theorem bel_mono {m n : Nat} (h : m ≤ n) : ∀ v : Vl, v.bel m → v.bel n
  | .u, _ => trivial
  | .el k, hb => Nat.lt_of_lt_of_le hb h
  | .l v, hb => bel_mono h v hb
  | .r v, hb => bel_mono h v hb
  | .f v, hb => bel_mono h v hb
  | .p a b, hb => ⟨bel_mono h a hb.1, bel_mono h b hb.2⟩
theorem back_nodes (n : Nat) : ∀ (t : Ty) (c : Nat), (back n t c).nodes ≤ t.atoms
  | .zero, c => by simp [back, Vl.nodes, Ty.atoms]
  | .one, c => by simp [back, Vl.nodes, Ty.atoms]
  | .name s, c => by simp [back, Vl.nodes, Ty.atoms]
  | .bound u, c => by simp [back, Vl.nodes, Ty.atoms]
  | .rc a, c => by simp [back, Vl.nodes, Ty.atoms]; omega
  | .plus a b, c => by
    simp only [back, Ty.atoms]
    split
    · rename_i x hx
      split
      · have := back_nodes n a c; simp only [Vl.nodes]; omega
      · have := back_nodes n b (c - x); simp only [Vl.nodes]; omega
    · simp [Vl.nodes]; omega
  | .times a b, c => by
    simp only [back, Ty.atoms]
    split
    · rename_i y hy
      have := back_nodes n a (c / y)
      have := back_nodes n b (c % y)
      simp only [Vl.nodes]; omega
    · simp [Vl.nodes]; omega
theorem tdiv_nat (a b : Nat) : Int.tdiv (a : Int) (b : Int) = ((a / b : Nat) : Int) := (Int.ofNat_tdiv a b).symm
theorem tmod_nat (a b : Nat) : Int.tmod (a : Int) (b : Int) = ((a % b : Nat) : Int) := (Int.ofNat_tmod a b).symm
theorem S_codeValue (n : Nat) (hn : n ≤ 100) : ∀ (t : Ty) (N c : Nat), pure t = true → cnt n t = some N → c < N → FSpec Tryz.prog n_impl_codeValue [t.av, .v (.int .i64 (n : Int)), .v (.int .i64 (c : Int))] [] (Det (back n t c).iav)
  | .zero, N, c, hp, h, hc => by cases h; omega
  | .one, N, c, hp, h, hc => by
    refine F_impl_codeValue _ _ _ ((ty_has _).mpr trivial) ?_
    simp [t_impl_codeValue, Ty.av, ↓zp, zs, hasK, Det, back, Vl.iav]
  | .bound u, N, c, hp, h, hc => by cases hp
  | .rc a, N, c, hp, h, hc => by cases hp
  | .name s, N, c, hp, h, hc => by
    cases h
    refine F_impl_codeValue _ _ _ ((ty_has _).mpr trivial) ?_
    have hl := dd_len 1000 c (by omega)
    simp only [t_impl_codeValue, Ty.av, ↓zp, zs, hasK, ty_has]
    refine ⟨by omega, fun _ => ?_, fun h => absurd rfl h⟩
    refine wp_det (S_Itoa c (by omega)) ?_
    simp only [↓zp, zs, hasK, zt, Det, back, Vl.iav]
    refine ⟨by simp; omega, by simp⟩
  | .plus a b, N, c, hp, h, hc => by
    obtain ⟨x, y, hx, hy, rfl⟩ := cnt_plus h
    simp only [pure, Bool.and_eq_true] at hp
    have hx9 := cnt_le n hn a x hx
    have hy9 := cnt_le n hn b y hy
    refine F_impl_codeValue _ _ _ ((ty_has _).mpr trivial) ?_
    simp only [t_impl_codeValue, Ty.av, ↓zp, zs, hasK, ty_has]
    refine ⟨by omega, fun h => by omega, fun _ => ⟨fun _ => ⟨by omega, ?_⟩, fun h => absurd rfl h⟩⟩
    refine wp_det (S_codeCount n hn a hp.1) ?_
    rw [hx]
    simp only [optN, ↓zp, zs, hasK, ty_has, back, hx, Det]
    refine ⟨fun h => ⟨by omega, ?_⟩, fun h => ⟨by omega, ?_⟩⟩
    · refine wp_det (S_codeValue n hn a x c hp.1 hx (by omega)) ?_
      simp only [↓zp, zs, hasK, vl_has]
      refine wp_det (S_with _ _ ((vl_has _).mpr trivial)) ?_
      simp only [↓zp, zs, hasK]
      rw [if_pos (by omega)]; rfl
    · rw [wrap64 _ (by omega) (by omega), show (c : Int) - (x : Int) = ((c - x : Nat) : Int) by omega]
      refine wp_det (S_codeValue n hn b y (c - x) hp.2 hy (by omega)) ?_
      simp only [↓zp, zs, hasK, vl_has]
      refine wp_det (S_with _ _ ((vl_has _).mpr trivial)) ?_
      simp only [↓zp, zs, hasK]
      rw [if_neg (by omega)]; rfl
  | .times a b, N, c, hp, h, hc => by
    obtain ⟨x, y, hx, hy, rfl⟩ := cnt_times h
    simp only [pure, Bool.and_eq_true] at hp
    have hx9 := cnt_le n hn a x hx
    have hy9 := cnt_le n hn b y hy
    have hxy := mul_le9 hx9 hy9
    have hy0 : 0 < y := Nat.pos_of_ne_zero (fun e => by subst e; simp at hc)
    have hd : c / y ≤ c := Nat.div_le_self _ _
    have hd0 : (0 : Int) ≤ ((c / y : Nat) : Int) := Int.natCast_nonneg _
    refine F_impl_codeValue _ _ _ ((ty_has _).mpr trivial) ?_
    simp only [t_impl_codeValue, Ty.av, ↓zp, zs, hasK, ty_has]
    refine ⟨by omega, fun h => by omega, fun _ => ⟨fun h => by omega, fun _ => ⟨fun _ => ⟨by omega, ?_⟩, fun h => absurd rfl h⟩⟩⟩
    refine wp_det (S_codeCount n hn b hp.2) ?_
    rw [hy]
    simp only [optN, ↓zp, zs, hasK, ty_has, back, hy, Det]
    rw [tdiv_nat, tmod_nat, wrap64 _ (by omega) (by omega)]
    refine ⟨by omega, by omega, ?_⟩
    refine wp_det (S_codeValue n hn a x (c / y) hp.1 hx (Nat.div_lt_of_lt_mul (by rw [Nat.mul_comm]; exact hc))) ?_
    simp only [↓zp, zs, hasK, ty_has, vl_has]
    refine ⟨by omega, by omega, ?_⟩
    refine wp_det (S_codeValue n hn b y (c % y) hp.2 hy (Nat.mod_lt _ hy0)) ?_
    simp only [↓zp, zs, hasK, vl_has]
    refine wp_det (S_pair _ _ ((vl_has _).mpr trivial) ((vl_has _).mpr trivial)) ?_
    simp only [↓zp, zs, hasK, Vl.iav]
theorem allLen2 : ∀ l : List E, allLen 2 (E.scellss l)
  | [] => fun c hc => by cases hc
  | e :: l => fun c hc => by
    simp only [E.scellss, List.mem_cons] at hc
    rcases hc with rfl | hc
    · exact sc_len e
    · exact allLen2 l c hc
theorem S_l1List (w : List UInt8) (l : List E) (hl : l.length < 1000000) : FSpec Tryz.prog n_spec_l1List [.v (.string (mk w)), .sl (E.scellss l)] [] (Det (E.sav (.list (.atom w :: l)))) := by
  refine F_spec_l1List _ _ ((has_sl _).mpr trivial) ?_
  simp only [t_spec_l1List, ↓zp, zs, hasK, scellss_len, Det, E.sav, E.scells, E.scellss]
  exact ⟨⟨allLen2 l, by omega⟩, rfl⟩
theorem scs1 (a : E) : AV.sl [[.v (.string ((a.sav.cs.getD 0 .any).toStr)), a.sav.cs.getD 1 .any]] = .sl (E.scellss [a]) := by cases a <;> rfl
theorem scs2 (a b : E) : AV.sl [[.v (.string ((a.sav.cs.getD 0 .any).toStr)), a.sav.cs.getD 1 .any], [.v (.string ((b.sav.cs.getD 0 .any).toStr)), b.sav.cs.getD 1 .any]] = .sl (E.scellss [a, b]) := by cases a <;> cases b <;> rfl
theorem S_l6pBack (n : Nat) (hn : n ≤ 100) : ∀ (e : E) (t : Ty) (N c : Nat), e.ok → tyOf e [] = some t → pure t = true → cnt n t = some N → c < N → FSpec Tryz.prog n_spec_l6pBack [e.sav, .v (.int .i64 (n : Int)), .v (.int .i64 (c : Int))] [] (Det (back n t c).toE.sav)
  | .atom s, t, N, c, hok, ht, hp, h, hc => by
    refine F_spec_l6pBack _ _ _ _ ((has_slnil).mpr trivial) ?_
    have hne : s ≠ [] := hok
    simp only [t_spec_l6pBack]
    refine wp_det (S_l1Head_atom s _ ((has_slnil).mpr trivial) hne) ?_
    simp only [↓zp, zs, hasK, zt, Det]
    refine ⟨fun h => by simp at h, fun _ => ⟨fun h => by simp at h, fun _ => ⟨fun h1 => ?_, fun h1 => ?_⟩⟩⟩
    · subst h1
      have ht' : t = .one := by simp [tyOf] at ht; exact ht.symm
      subst ht'; rfl
    · simp only [tyOf] at ht
      have key : ∃ s', t = .name s' := by
        split at ht
        · cases ht; cases h; omega
        · try rw [if_neg h1] at ht
          split at ht
          · cases ht; exact ⟨_, rfl⟩
          · split at ht
            · simp only [List.length_nil, lastOf] at ht; cases ht; exact ⟨_, rfl⟩
            · cases ht
      obtain ⟨s', rfl⟩ := key
      cases h
      have hl := dd_len 1000 c (by omega)
      refine wp_det (S_l6Dec 1000 c (by omega) (by omega)) ?_
      simp only [↓zp, zs, hasK, zt, back, Vl.toE, E.sav, E.scells]
      exact ⟨by simp; omega, by simp⟩
  | .list [], _, _, _, _, h, _, _, _ => by cases h
  | .list [_], _, _, _, _, h, _, _, _ => by cases h
  | .list [_, _], _, _, _, _, h, _, _, _ => by cases h
  | .list (_ :: _ :: _ :: _ :: _), _, _, _, _, h, _, _, _ => by cases h
  | .list [z, a, b], t, N, c, hok, ht, hp, h, hc => by
    refine F_spec_l6pBack _ _ _ _ ((has_sl _).mpr trivial) ?_
    obtain ⟨ok1, ok2, ok3, _⟩ := hok
    simp only [t_spec_l6pBack]
    refine wp_det (S_l1Head z [a, b]) ?_
    simp only [E.scellss, toNat_one, toNat_two, ↓zp, zs, hasK, zt, sc_agg, sc_len, sc_has, sc_hd, Nat.le_refl, Det]
    by_cases h0 : z.at = [43]
    · obtain ⟨t1, t2, e1, e2, rfl⟩ := tyOf_plus_inv h0 ht
      simp only [pure, Bool.and_eq_true] at hp
      obtain ⟨x, y, hx, hy, rfl⟩ := cnt_plus h
      have hx9 := cnt_le n hn t1 x hx
      have hy9 := cnt_le n hn t2 y hy
      refine ⟨fun _ => ⟨by omega, ?_⟩, fun h => absurd h0 h⟩
      refine wp_call (S_l6pCount n hn a t1 ok2 e1 hp.1) (CntR.ne _) ?_
      rintro r o ⟨v1, rfl, hv1⟩
      rw [hv1 x hx]
      simp only [↓zp, zs, hasK, back, hx]
      refine ⟨fun hlt => ⟨by omega, ?_⟩, fun hlt => ⟨by omega, ?_⟩⟩
      · refine wp_det (S_l6pBack n hn a t1 x c ok2 e1 hp.1 hx (by omega)) ?_
        simp only [↓zp, zs, hasK, sav_has, scs1]
        refine wp_det (S_l1List [108] [(back n t1 c).toE] (by simp)) ?_
        simp only [↓zp, zs, hasK, sav_has, sav_agg]
        rw [if_pos (by omega)]; rfl
      · rw [wrap64 _ (by omega) (by omega), show (c : Int) - (x : Int) = ((c - x : Nat) : Int) by omega]
        refine wp_det (S_l6pBack n hn b t2 y (c - x) ok3 e2 hp.2 hy (by omega)) ?_
        simp only [↓zp, zs, hasK, sav_has, scs1]
        refine wp_det (S_l1List [114] [(back n t2 (c - x)).toE] (by simp)) ?_
        simp only [↓zp, zs, hasK, sav_has, sav_agg]
        rw [if_neg (by omega)]; rfl
    · have h1 : z.at = [42] := by
        refine Classical.byContradiction fun h1 => ?_
        by_cases h2 : z.at = [114, 101, 99]
        · obtain ⟨t1, _, _, rfl⟩ := tyOf_rec_inv h2 ht
          cases hp
        · rw [tyOf_no [] h0 h1 h2] at ht; cases ht
      obtain ⟨t1, t2, e1, e2, rfl⟩ := tyOf_times_inv h1 ht
      simp only [pure, Bool.and_eq_true] at hp
      obtain ⟨x, y, hx, hy, rfl⟩ := cnt_times h
      have hx9 := cnt_le n hn t1 x hx
      have hy9 := cnt_le n hn t2 y hy
      have hxy := mul_le9 hx9 hy9
      have hy0 : 0 < y := Nat.pos_of_ne_zero (fun e => by subst e; simp at hc)
      have hd : c / y ≤ c := Nat.div_le_self _ _
      have hd0 : (0 : Int) ≤ ((c / y : Nat) : Int) := Int.natCast_nonneg _
      refine ⟨fun h => absurd h h0, fun _ => ⟨fun _ => ⟨by omega, ?_⟩, fun h => absurd h1 h⟩⟩
      refine wp_call (S_l6pCount n hn b t2 ok3 e2 hp.2) (CntR.ne _) ?_
      rintro r o ⟨v1, rfl, hv1⟩
      rw [hv1 y hy]
      simp only [↓zp, zs, hasK, back, hy]
      rw [tdiv_nat, tmod_nat, wrap64 _ (by omega) (by omega)]
      refine ⟨by omega, by omega, ?_⟩
      refine wp_det (S_l6pBack n hn a t1 x (c / y) ok2 e1 hp.1 hx (Nat.div_lt_of_lt_mul (by rw [Nat.mul_comm]; exact hc))) ?_
      simp only [↓zp, zs, hasK, sav_has]
      refine ⟨by omega, by omega, ?_⟩
      refine wp_det (S_l6pBack n hn b t2 y (c % y) ok3 e2 hp.2 hy (Nat.mod_lt _ hy0)) ?_
      simp only [↓zp, zs, hasK, sav_has, scs2]
      refine wp_det (S_l1List [112] [_, _] (by simp)) ?_
      simp only [↓zp, zs, hasK, sav_has, sav_agg, Vl.toE]
/-- What both sides return. -/
def cvS (s : List UInt8) (n c : Int) : Option (List UInt8) := match rdP s, cntS s n with
  | some t, some N => if 0 ≤ c ∧ c < (N : Int) then (if (back n.toNat t c.toNat).nodes ≤ 200 then some (back n.toNat t c.toNat).txt else none) else none
  | _, _ => none
theorem S_CodeValueI (s : List UInt8) (n c : Int) : FSpec Tryz.prog n_impl_CodeValue [.v (.string (mk s)), .v (.int .i64 n), .v (.int .i64 c)] [] (Det (optS (cvS s n c))) := by
  refine F_impl_CodeValue _ _ _ ?_
  unfold t_impl_CodeValue
  refine wp_det (S_CodeCountI s n) ?_
  unfold cvS
  cases hs : cntS s n with
  | none => cases rdP s <;> simp [optN, optS, ↓zp, zs, hasK, Det]
  | some N =>
    obtain ⟨m, t, rfl, hm, ht, hN⟩ := cntS_some' hs
    obtain ⟨e, he⟩ : ∃ e, rdPE s = some e := by
      cases he : rdPE s with
      | none => rw [rdPE_none he] at ht; cases ht
      | some e => exact ⟨e, rfl⟩
    obtain ⟨t', h1, h2, hp, hok, _, _, _, hat, _⟩ := rdPE_full he
    rw [ht] at h1; cases h1
    simp only [optN, ↓zp, zs, hasK, ht, Det]
    refine ⟨fun h => (by cases h), fun _ => ⟨fun h => ?_, fun h => ⟨fun h' => ?_, fun h' => ?_⟩⟩⟩
    · rw [if_neg (by omega)]; rfl
    · rw [if_neg (by omega)]; rfl
    · obtain ⟨k, rfl⟩ : ∃ k : Nat, c = (k : Int) := ⟨c.toNat, by omega⟩
      rw [if_pos (by omega)]
      refine wp_det (S_plainType s) ?_
      rw [ht]
      simp only [optT, ↓zp, zs, hasK, ty_has, Int.toNat_natCast]
      refine wp_det (S_codeValue m hm t N k hp hN (by omega)) ?_
      simp only [↓zp, zs, hasK, vl_has]
      have hb := bel_mono hm _ (back_bel m t N k hN (by omega))
      have hnn := back_nodes m t k
      refine wp_det (S_valueText _ hb (by omega)) ?_
      split <;> simp [optS, ↓zp, zs, hasK]
theorem S_CodeValueS (s : List UInt8) (n c : Int) : FSpec Tryz.prog n_spec_CodeValue [.v (.string (mk s)), .v (.int .i64 n), .v (.int .i64 c)] [] (Det (optS (cvS s n c))) := by
  refine F_spec_CodeValue _ _ _ ?_
  unfold t_spec_CodeValue
  refine wp_call (S_l6pType s) (ParR.ne _ _ (fun h => h)) ?_
  rintro r o ⟨q, d, hd, rfl, hh⟩
  simp only [↓zp, zs, hasK, zt, hasL, Det]
  refine ⟨hd, ?_⟩
  refine wp_det (S_CodeCountS s n) ?_
  unfold cvS
  cases hs : cntS s n with
  | none => cases rdP s <;> simp [optN, optS, ↓zp, zs, hasK]
  | some N =>
    obtain ⟨m, t, rfl, hm, ht, hN⟩ := cntS_some' hs
    obtain ⟨e0, he0⟩ : ∃ e, rdPE s = some e := by
      cases he : rdPE s with
      | none => rw [rdPE_none he] at ht; cases ht
      | some e => exact ⟨e, rfl⟩
    obtain ⟨e, he, hce⟩ := hh (by rw [he0]; rfl)
    obtain ⟨t', h1, h2, hp, hok, _, _, _, hat, _⟩ := rdPE_full he
    rw [ht] at h1; cases h1
    have hN9 := cnt_le m hm t N hN
    simp only [optN, ↓zp, zs, hasK, ht]
    refine ⟨fun h => (by cases h), fun _ => ?_⟩
    rw [wrap64 _ (by omega) (by omega)]
    refine wp_det (S_l6In _ _ _) ?_
    simp only [↓zp, zs, hasK, inR]
    refine ⟨fun h => ?_, fun h => ?_⟩
    · have h' : ¬ (0 ≤ c ∧ c ≤ (N : Int) - 1) := by simpa using h
      rw [if_neg (by omega)]; rfl
    · have h' : 0 ≤ c ∧ c ≤ (N : Int) - 1 := by simpa using h
      obtain ⟨k, rfl⟩ : ∃ k : Nat, c = (k : Int) := ⟨c.toNat, by omega⟩
      rw [if_pos (by omega), hce]
      simp only [Int.toNat_natCast]
      refine wp_det (S_l6pBack m hm e t N k hok h2 hp hN (by omega)) ?_
      have hb := bel_mono hm _ (back_bel m t N k hN (by omega))
      have hnn := back_nodes m t k
      have hsz := toE_sz (back m t k)
      simp only [↓zp, zs, hasK, sav_has, sav_agg]
      refine ⟨by simpa [hasL] using of_eq_true (sav_has (back m t k).toE), ?_⟩
      refine wp_det (S_l2Size (back m t k).toE (by omega)) ?_
      simp only [↓zp, zs, hasK, toE_nd]
      refine ⟨fun h2 => ?_, fun h2 => ?_⟩
      · rw [if_neg (by omega)]; rfl
      · rw [if_pos (by omega)]
        have := txt_len _ hb
        refine wp_det (S_l1Text _ (toE_ok _) (by simp only [Vl.txt] at this; omega)) ?_
        simp [optS, ↓zp, zs, hasK]
end Go.Proofs.Trees
