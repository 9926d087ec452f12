/-
  Part of a proof: laws over values.
-/
import Derived.Test.YtcbmbafopahijabGreatDoorK5
import Derived.Test.YtcbmbafopahijabGreatDoorM2
set_option linter.unusedVariables false
set_option linter.unusedSimpArgs false
namespace Go.Proofs.Trees
open Go Go.VL Go.RowKit
def chgO (s a b : List UInt8) : Option Chg := match rdLp s, lvOK s a, lvOK s b with
  | some t, some v, some w => some (chgN v.nodes t v w)
  | _, _, _ => none
def chgP : Option Chg → List Nat × List UInt8 × List UInt8
  | some r => (r.1, r.2.1.txt, r.2.2.txt)
  | none => ([], [], [])
def plV : Option Chg → AV
  | some r => .sl (intsAV r.1)
  | none => .v (.slice none 0 0)
theorem plV_ints (o : Option Chg) : IntsA (plV o) (chgP o).1 := by
  cases o with
  | none => exact .nil
  | some r => exact .of _
theorem plV_has (o : Option Chg) : LK.has .sl (plV o) = True := eq_true (plV_ints o).1
theorem chgP_len (s a b : List UInt8) : (chgP (chgO s a b)).1.length ≤ 1000 := by
  unfold chgO
  split
  · rename_i t v w h1 h2 h3
    obtain ⟨a', x, A, B, L⟩ := lvOK_some h2
    have := chgN_len v.nodes t v w (Nat.le_refl _)
    have := L.nodes
    show (chgN v.nodes t v w).1.length ≤ 1000
    omega
  · simp [chgP]
theorem lv_two {s a b : List UInt8} {v w : Vl} (h : lvOK s a = some v) (h' : lvOK s b = some w) : ∃ t x A B, LV s a v t x A B ∧ LV s b w t x A B := by
  obtain ⟨t, x, A, B, L⟩ := lvOK_some h
  obtain ⟨t', x', A', B', L'⟩ := lvOK_some h'
  have e1 := L.l
  rw [L'.l] at e1
  have e2 := L.ce
  rw [L'.ce] at e2
  cases e1; cases e2
  exact ⟨_, _, _, _, L, L'⟩
theorem S_ChangeOfI (s a b : List UInt8) : FSpec Tryz.prog n_impl_ChangeOf [.v (.string (mk s)), .v (.string (mk a)), .v (.string (mk b))] [] (DetO (.tup [.agg [.vec 0, .v (.string (mk (chgP (chgO s a b)).2.1)), .v (.string (mk (chgP (chgO s a b)).2.2))], .v (.bool (chgO s a b).isSome)]) [.vec 1 (intsAV (chgP (chgO s a b)).1)]) := by
  refine F_impl_ChangeOf _ _ _ ?_
  unfold t_impl_ChangeOf
  refine wp_det (S_loopValue s a) ?_
  have hlt : LK.has .ptr (lvT s) = True := by unfold lvT; split <;> simp [ty_has, has_nil]
  simp only [↓zp, zs, hasK, zt, hlt, optV_has]
  refine wp_det (S_loopValue s b) ?_
  simp only [↓zp, zs, hasK, zt, hlt, optV_has]
  cases h1 : lvOK s a with
  | none =>
    have : chgO s a b = none := by unfold chgO; rw [h1]; cases rdLp s <;> rfl
    rw [this]
    simp only [optV, ↓zp, zs, hasK]
    exact ⟨fun _ => ⟨rfl, rfl⟩, fun h => by cases h⟩
  | some v =>
    cases h2 : lvOK s b with
    | none =>
      have : chgO s a b = none := by unfold chgO; rw [h1, h2]; cases rdLp s <;> rfl
      rw [this]
      simp only [optV, ↓zp, zs, hasK, vl_nil]
      exact ⟨fun h => by simp at h, fun _ => ⟨fun _ => ⟨rfl, rfl⟩, fun h => by simp at h⟩⟩
    | some w =>
      obtain ⟨t, x, A, B, L, L'⟩ := lv_two h1 h2
      have e : chgO s a b = some (chgN v.nodes t v w) := by unfold chgO; rw [h1, h2, L.l]
      have ht : lvT s = (Ty.rc t).av := by unfold lvT; rw [L.l]
      rw [e, ht]
      have hlen := chgN_len v.nodes t v w (Nat.le_refl _)
      simp only [optV, ↓zp, zs, hasK, vl_nil]
      refine ⟨fun h => by simp at h, fun _ => ⟨fun h => by simp at h, fun _ => ?_⟩⟩
      refine wp_detO (S_changeOf x A B t L.body L.hx v.nodes v w (Nat.le_refl _) L.nodes L'.nodes L.bel L'.bel L.vis L'.vis) ?_
      simp only [↓zp, zs, hasK, zt, hasC]
      exact ⟨plain_ints _, rfl, rfl⟩
theorem S_ChangeOfS (s a b : List UInt8) : FSpec Tryz.prog n_spec_ChangeOf [.v (.string (mk s)), .v (.string (mk a)), .v (.string (mk b))] [] (Det (.tup [.agg [plV (chgO s a b), .v (.string (mk (chgP (chgO s a b)).2.1)), .v (.string (mk (chgP (chgO s a b)).2.2))], .v (.bool (chgO s a b).isSome)])) := by
  refine F_spec_ChangeOf _ _ _ ?_
  unfold t_spec_ChangeOf
  refine wp_call (S_l4Loop s) (ParR.ne _ _ (fun h => h)) ?_
  rintro r o ⟨c, d, hd, rfl, hh⟩
  have hhas : hasL [.str, .sl] [.v (.string (mk c)), d] 0 := by simp [hasL, has_str, hd]
  simp only [↓zp, zs, hasK, zt]
  have none1 : chgO s a b = none → Det (.tup [.agg [plV (chgO s a b), .v (.string (mk (chgP (chgO s a b)).2.1)), .v (.string (mk (chgP (chgO s a b)).2.2))], .v (.bool (chgO s a b).isSome)]) (.tup [.agg [.v (.slice none 0 0), .v (.string (mk [])), .v (.string (mk []))], .v (.bool false)]) [] := fun h => by rw [h]; exact ⟨rfl, rfl⟩
  refine ⟨hhas, fun h => none1 ?_, fun h => ?_⟩
  · rw [rdLE_rdL] at h
    have : rdLp s = none := by cases hq : rdLp s <;> simp [hq] at h ⊢
    unfold chgO; rw [this]
  rw [rdLE_rdL] at h
  have hsome : ∀ v, (vOK s v 100).isSome = false → lvOK s v = none := fun v h2 => by
    have : vOK s v 100 = none := by cases hq : vOK s v 100 <;> simp [hq] at h2 ⊢
    unfold lvOK; rw [this]; cases rdLp s <;> rfl
  refine wp_det (S_ValueIsS s a 100) ?_
  simp only [↓zp, zs, hasK]
  refine ⟨fun h2 => none1 ?_, fun h2 => ?_⟩
  · unfold chgO; rw [hsome a h2]; cases rdLp s <;> rfl
  refine wp_det (S_ValueIsS s b 100) ?_
  simp only [↓zp, zs, hasK]
  refine ⟨fun h3 => none1 ?_, fun h3 => ?_⟩
  · unfold chgO; rw [hsome b h3]; cases rdLp s <;> cases lvOK s a <;> rfl
  obtain ⟨v, hv⟩ := Option.isSome_iff_exists.1 h2
  obtain ⟨w, hw⟩ := Option.isSome_iff_exists.1 h3
  obtain ⟨a0, ha0⟩ := Option.isSome_iff_exists.1 h
  have h1 : lvOK s a = some v := by unfold lvOK; rw [ha0]; exact hv
  have h2 : lvOK s b = some w := by unfold lvOK; rw [ha0]; exact hw
  obtain ⟨t, x, A, B, L, L'⟩ := lv_two h1 h2
  have e : chgO s a b = some (chgN v.nodes t v w) := by unfold chgO; rw [h1, h2, L.l]
  have hlen := chgN_len v.nodes t v w (Nat.le_refl _)
  refine wp_call (S_l2Value a) (ParR.ne _ _ (fun h => by cases hq : rdV a <;> simp [hq] at h ⊢)) ?_
  rintro r o ⟨c', d', hd', rfl, hh'⟩
  have hhas' : hasL [.str, .sl] [.v (.string (mk c')), d'] 0 := by simp [hasL, has_str, hd']
  simp only [↓zp, zs, hasK, zt]
  refine ⟨hhas', ?_⟩
  refine wp_call (S_l2Value b) (ParR.ne _ _ (fun h => by cases hq : rdV b <;> simp [hq] at h ⊢)) ?_
  rintro r o ⟨c2, d2, hd2, rfl, hh2⟩
  have hhas2 : hasL [.str, .sl] [.v (.string (mk c2)), d2] 0 := by simp [hasL, has_str, hd2]
  simp only [↓zp, zs, hasK, zt]
  refine ⟨hhas2, ?_⟩
  obtain ⟨e0, he0, hc0⟩ := hh (by rw [L.le]; rfl)
  rw [L.le] at he0; cases he0
  obtain ⟨e1, he1, hc1⟩ := hh' (by rw [L.v]; rfl)
  rw [L.v] at he1; cases he1
  obtain ⟨e2, he2, hc2⟩ := hh2 (by rw [L'.v]; rfl)
  rw [L'.v] at he2; cases he2
  rw [sav_sp] at hc0 hc1 hc2
  simp only [at_list] at hc0
  rw [hc0, hc1, hc2, e]
  refine wp_det (S_l7Change x A B t L.body L.hx v.nodes v w (Nat.le_refl _) L.nodes L'.nodes L.bel L'.bel L.vis L'.vis) ?_
  simp only [↓zp, zs, hasK, zt, hasL, has_sl, has_str]
  exact ⟨rfl, rfl⟩
theorem S_eqChange (p q : AV) (l : List Nat) (hp : IntsA p l) (hq : IntsA q l) (hl : l.length ≤ 1000000) (o n : List UInt8) : FSpec Tryz.prog n_laws_eqChange [.agg [p, .v (.string (mk o)), .v (.string (mk n))], .agg [q, .v (.string (mk o)), .v (.string (mk n))]] [] (Det (.v (.bool true))) := by
  refine F_laws_eqChange _ _ _ _ _ _ hp.1 hq.1 ?_
  unfold t_laws_eqChange
  refine wp_det (S_eqIntS p q l hp hq hl) ?_
  simp [↓zp, zs, hasK, zt, Det]
theorem S_markChange (k : Nat) (l : List Nat) (hl : l.length ≤ 1000000) (hk : k ≤ 1000000) (o n : List UInt8) : FSpec Tryz.prog n_laws_markChange [.agg [.vec 0, .v (.string (mk o)), .v (.string (mk n))], .v (.int .i64 (k : Int))] [.vec 1 (intsAV l)] (DetO (.v (.int .i64 ((k + l.length : Nat) : Int))) [.kvec 1 (intsAV (mki k l.length))]) := by
  refine F_laws_markChange _ _ _ _ ?_
  unfold t_laws_markChange
  refine wp_detO (S_markIntS k l hl hk) ?_
  simp [↓zp, zs, hasK, DetO, Ob.es]
theorem S_heldChange (a : AV) (k n : Nat) (ha : IntsA a (mki k n)) (hn : n ≤ 1000000) (hk : k ≤ 1000000) (o w : List UInt8) : FSpec Tryz.prog n_laws_heldChange [.agg [a, .v (.string (mk o)), .v (.string (mk w))], .v (.int .i64 (k : Int))] [] (Det (.v (.int .i64 ((k + n : Nat) : Int)))) := by
  refine F_laws_heldChange _ _ _ _ ha.1 ?_
  unfold t_laws_heldChange
  refine wp_det (S_heldIntS a k n ha hn hk) ?_
  simp only [↓zp, zs, hasK, zt]
  exact ⟨fun h => by omega, fun _ => ⟨rfl, rfl⟩⟩
theorem S_FnExactChangeOf (s a b : List UInt8) : FSpec Tryz.prog n_laws_FnExactChangeOf [.v (.string (mk s)), .v (.string (mk a)), .v (.string (mk b))] [] (Det (.v (.bool true))) := by
  refine F_laws_FnExactChangeOf _ _ _ ?_
  simp only [t_laws_FnExactChangeOf, ↓zp, zs, hasK, zt, Det]
  refine ⟨fun _ => trivial, fun h => ⟨fun _ => trivial, fun h => ⟨fun _ => trivial, fun h => ?_⟩⟩⟩
  have hn := chgP_len s a b
  have hpl := plV_ints (chgO s a b)
  have held := S_heldChange (.sl (intsAV (mki 1 (chgP (chgO s a b)).1.length))) 1 (chgP (chgO s a b)).1.length (.of _) (by omega) (by omega) (chgP (chgO s a b)).2.1 (chgP (chgO s a b)).2.2
  have eq := S_eqChange (.sl (intsAV (chgP (chgO s a b)).1)) (plV (chgO s a b)) (chgP (chgO s a b)).1 (.of _) hpl (by omega) (chgP (chgO s a b)).2.1 (chgP (chgO s a b)).2.2
  refine wp_det (S_ChangeOfS s a b) ?_
  simp only [↓zp, zs, hasK, zt, hasL, plV_has, has_str]
  refine wp_detO (S_ChangeOfI s a b) ?_
  simp only [↓zp, zs, hasK, zt, hasC, has_str, Ob.es, List.headD_cons]
  refine ⟨plain_ints _, ?_⟩
  refine wp_det eq ?_
  simp only [↓zp, zs, hasK]
  refine ⟨fun h => by simp at h, fun _ => ⟨fun h => by simp at h, fun _ => ?_⟩⟩
  refine wp_detO (S_markChange 1 (chgP (chgO s a b)).1 (by omega) (by omega) _ _) ?_
  simp only [↓zp, zs, hasK, Ob.es, List.headD_cons]
  refine wp_det held ?_
  simp only [↓zp, zs, hasK]
  refine ⟨fun h => by omega, fun _ => ⟨fun h => by simp at h, fun _ => ?_⟩⟩
  refine wp_detO (S_ChangeOfI s a b) ?_
  simp only [↓zp, zs, hasK, zt, hasC, has_str, Ob.es, List.headD_cons]
  refine ⟨plain_ints _, ?_⟩
  refine wp_det eq ?_
  simp only [↓zp, zs, hasK]
  refine ⟨fun h => by simp at h, fun _ => ⟨fun h => by simp at h, fun _ => ?_⟩⟩
  refine wp_det held ?_
  simp only [↓zp, zs, hasK]
  refine ⟨fun h => by omega, fun _ => ⟨fun h => by simp at h, fun _ => ?_⟩⟩
  first | rfl | trivial
end Go.Proofs.Trees
