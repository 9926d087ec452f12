/-
  Part of a proof: laws over values.
-/
import Derived.Test.YtcbmbafopahijabGreatDoorQ8
set_option linter.unusedVariables false
set_option linter.unusedSimpArgs false
namespace Go.Proofs.Trees
open Go Go.VL
/-! ### The reference's types -/
theorem sc_agg (e : E) : AV.agg [.v (.string ((e.scells.getD 0 .any).toStr)), e.scells.getD 1 .any] = e.sav := by cases e <;> rfl
theorem sc_len (e : E) : e.scells.length = 2 := by cases e <;> rfl
theorem sc_has (e : E) : hasL [.str, .sl] e.scells 0 = True := by
  apply eq_true
  cases e <;> simp [E.scells, hasL, has_str, has_slnil, has_sl]
theorem sc_hd (e : E) : e.scells.headD .any = .v (.string (mk e.at)) := by cases e <;> rfl
theorem S_l1Head (x : E) (l : List E) : FSpec Tryz.prog n_spec_l1Head [.agg [.v (.string (mk [])), .sl (E.scellss (x :: l))]] [] (Det (.v (.string (mk x.at)))) := by
  refine F_spec_l1Head _ _ ((has_sl _).mpr trivial) ?_
  simp only [t_spec_l1Head, E.scellss, ↓zp, zs, hasK, zt, Det, sc_len, sc_hd, Nat.le_refl]
  refine ⟨fun h => absurd rfl h, fun _ => ⟨fun h => by omega, fun _ => ⟨by omega, by omega⟩⟩⟩
theorem S_l1Head_nil : FSpec Tryz.prog n_spec_l1Head [.agg [.v (.string (mk [])), .sl (E.scellss [])]] [] (Det (.v (.string (mk [])))) := by
  refine F_spec_l1Head _ _ ((has_sl _).mpr trivial) ?_
  simp only [t_spec_l1Head, E.scellss, ↓zp, zs, hasK, zt, Det, sc_len, sc_hd, Nat.le_refl]
  simp
def isTy : E → Bool
  | .atom s => (s == [48]) || (s == [49]) || isPar s || isLoo s
  | .list [x, a, b] => if x.at = [43] then isTy a && isTy b else if x.at = [42] then isTy a && isTy b else if x.at = [114, 101, 99] then isLoo a.at && isTy b else false
  | .list _ => false
theorem S_l1Is : ∀ (e : E), e.ok → FSpec Tryz.prog n_spec_l1Is [e.sav] [] (Det (.v (.bool (isTy e))))
  | .atom s, hok => by
    refine F_spec_l1Is _ _ ((has_slnil).mpr trivial) ?_
    have hne : s ≠ [] := hok
    simp only [t_spec_l1Is, ↓zp, zs, hasK, zt, Det, isTy]
    refine ⟨fun _ => ⟨fun h => ?_, fun h => ⟨fun h1 => ?_, fun h1 => ?_⟩⟩, fun h => absurd h hne⟩
    · simp [h]
    · simp [h1]
    · refine wp_det (S_l1Param s) ?_
      simp only [↓zp, zs, hasK]
      refine ⟨fun hp => ?_, fun hp => ?_⟩
      · simp [hp]
      · refine wp_det (S_l1Loop s) ?_
        simp [↓zp, zs, hasK, hp, h, h1]
  | .list l, hok => by
    refine F_spec_l1Is _ _ ((has_sl _).mpr trivial) ?_
    match l, hok with
    | [], hok => simp [t_spec_l1Is, E.scellss, ↓zp, zs, hasK, zt, Det, isTy]
    | [x], hok => simp [t_spec_l1Is, E.scellss, ↓zp, zs, hasK, zt, Det, isTy]
    | [x, y], hok => simp [t_spec_l1Is, E.scellss, ↓zp, zs, hasK, zt, Det, isTy]
    | x :: y :: z :: w :: l, hok =>
      simp only [t_spec_l1Is, E.scellss, ↓zp, zs, hasK, zt, Det, isTy]
      exact ⟨fun h => absurd rfl h, fun _ => ⟨fun _ => trivial, fun h => by omega⟩⟩
    | [x, y, z], hok =>
      obtain ⟨ok1, ok2, ok3, _⟩ := hok
      simp only [t_spec_l1Is, ↓zp, zs, hasK, zt, Det]
      refine ⟨fun h => absurd rfl h, fun _ => ⟨fun h => absurd rfl h, fun _ => ?_⟩⟩
      refine wp_det (S_l1Head x _) ?_
      simp only [E.scellss, toNat_one, toNat_two, ↓zp, zs, hasK, zt, sc_agg, sc_len, sc_has, sc_hd, Nat.le_refl, isTy]
      refine ⟨fun h => ?_, fun h => ⟨fun h1 => ?_, fun h1 => ⟨fun h2 => ?_, fun h2 => ?_⟩⟩⟩
      · rw [if_pos h]
        refine ⟨by omega, wp_det (S_l1Is y ok2) ?_⟩
        simp only [↓zp, zs, hasK]
        refine ⟨fun hy => ⟨by omega, wp_det (S_l1Is z ok3) ?_⟩, fun hy => ?_⟩
        · simp only [↓zp, zs, hasK, hy, Bool.true_and]
        · rw [hy]; rfl
      · rw [if_neg h, if_pos h1]
        refine ⟨by omega, wp_det (S_l1Is y ok2) ?_⟩
        simp only [↓zp, zs, hasK]
        refine ⟨fun hy => ⟨by omega, wp_det (S_l1Is z ok3) ?_⟩, fun hy => ?_⟩
        · simp only [↓zp, zs, hasK, hy, Bool.true_and]
        · rw [hy]; rfl
      · rw [if_neg h, if_neg h1, if_pos h2]
        refine ⟨by omega, by omega, wp_det (S_l1Loop _) ?_⟩
        simp only [↓zp, zs, hasK]
        refine ⟨fun hy => ⟨by omega, wp_det (S_l1Is z ok3) ?_⟩, fun hy => ?_⟩
        · simp only [↓zp, zs, hasK, hy, Bool.true_and]
        · rw [hy]; rfl
      · rw [if_neg h, if_neg h1, if_neg h2]
theorem tyOf_some : ∀ (e : E) (ar : List (List UInt8)), (tyOf e ar).isSome = isTy e
  | .atom s, ar => by
    simp only [tyOf, isTy]
    by_cases h : s = [48]
    · simp [h]
    · by_cases h1 : s = [49]
      · simp [h1]
      · rw [if_neg h, if_neg h1]
        by_cases h2 : isPar s = true
        · simp [h2]
        · rw [if_neg h2]
          by_cases h3 : isLoo s = true
          · rw [if_pos h3]; cases lastOf s ar ar.length <;> simp [h3]
          · rw [if_neg h3]; simp [h, h1, h2, h3]
  | .list [], _ => rfl
  | .list [_], _ => rfl
  | .list [_, _], _ => rfl
  | .list (_ :: _ :: _ :: _ :: _), _ => rfl
  | .list [x, a, b], ar => by
    have ha := tyOf_some a ar
    have hb := tyOf_some b ar
    have hb2 := tyOf_some b (ar ++ [a.at])
    rw [isTy]
    by_cases h : x.at = [43]
    · rw [tyOf_plus ar h, if_pos h, ← ha, ← hb]; cases tyOf a ar <;> cases tyOf b ar <;> rfl
    · by_cases h1 : x.at = [42]
      · rw [tyOf_times ar h1, if_neg h, if_pos h1, ← ha, ← hb]; cases tyOf a ar <;> cases tyOf b ar <;> rfl
      · by_cases h2 : x.at = [114, 101, 99]
        · rw [tyOf_rec ar h2, if_neg h, if_neg h1, if_pos h2, ← hb2]
          cases isLoo a.at <;> cases tyOf b (ar ++ [a.at]) <;> rfl
        · rw [tyOf_no ar h h1 h2, if_neg h, if_neg h1, if_neg h2]; rfl
/-! Atoms -/
mutual
def E.ats : E → Nat
  | .atom _ => 1
  | .list l => E.atss l
def E.atss : List E → Nat
  | [] => 0
  | e :: l => e.ats + E.atss l
end
mutual
theorem ats_le : ∀ e : E, e.ats ≤ e.sz
  | .atom s => by simp [E.ats, E.sz]
  | .list l => by have := atss_le l; simp only [E.ats, E.sz]; omega
theorem atss_le : ∀ l : List E, E.atss l ≤ E.szs l
  | [] => by simp [E.atss, E.szs]
  | e :: l => by have := ats_le e; have := atss_le l; simp only [E.atss, E.szs]; omega
end
theorem scellss_getD : ∀ (l : List E) (i : Nat) (h : i < l.length), (E.scellss l).getD i [] = (l[i]).scells
  | e :: l, 0, _ => rfl
  | e :: l, i + 1, h => by
    have := scellss_getD l i (by simpa using h)
    simp only [E.scellss, List.getD_cons_succ, List.getElem_cons_succ]; exact this
theorem atss_drop : ∀ (l : List E) (i : Nat) (h : i < l.length), E.atss (l.drop i) = (l[i]).ats + E.atss (l.drop (i + 1)) := by
  intro l i h
  rw [List.drop_eq_getElem_cons h]; rfl
theorem atss_all : ∀ (l : List E) (i : Nat), E.atss (l.drop i) ≤ E.atss l
  | [], i => by simp
  | e :: l, 0 => by simp
  | e :: l, i + 1 => by have := atss_all l i; simp only [List.drop_succ_cons, E.atss]; omega
theorem oks_get : ∀ (l : List E) (i : Nat) (h : i < l.length), E.oks l → (l[i]).ok
  | e :: l, 0, _, h => h.1
  | e :: l, i + 1, hi, h => oks_get l i (by simpa using hi) h.2
theorem LS_l1Atoms (l : List E) (hl : E.atss l < 1000000) (hll : l.length < 1000000) (ih : ∀ i (h : i < l.length), FSpec Tryz.prog n_spec_l1Atoms [(l[i]).sav] [] (Det (.v (.int .i64 ((l[i]).ats : Int))))) :
    ∀ (k i n : Nat), i + k = l.length → n + E.atss (l.drop i) ≤ E.atss l → LS_spec_l1Atoms_1 [.v (.int .i64 (n : Int)), .v (.int .i64 (i : Int))] [.cells [.v (.string (mk [])), .sl (E.scellss l)]] (LIs 1 [.v (.int .i64 ((n + E.atss (l.drop i) : Nat) : Int))] [])
  | 0, i, n, hi, hn => by
    refine G_spec_l1Atoms_1 _ _ _ _ ?_
    simp only [r_spec_l1Atoms_1, ↓zp, zs, hasK, scellss_len]
    have : l.drop i = [] := List.drop_eq_nil_of_le (by omega)
    refine ⟨fun h => by omega, fun _ => ?_⟩
    simp [LIs, this, E.atss]
  | k + 1, i, n, hi, hn => by
    have hlt : i < l.length := by omega
    refine G_spec_l1Atoms_1 _ _ _ _ ?_
    simp only [r_spec_l1Atoms_1, ↓zp, zs, hasK, zt, scellss_len, scellss_getD l i hlt, sc_len, sc_has, sc_agg, Nat.le_refl]
    refine ⟨fun _ => ⟨by omega, ?_⟩, fun h => by omega⟩
    refine wp_det (ih i hlt) ?_
    have h1 := atss_drop l i hlt
    simp only [↓zp, zs, hasK]
    rw [wrap_succ i (by omega), wrap64 _ (by omega) (by omega)]
    have := LS_l1Atoms l hl hll ih k (i + 1) (n + (l[i]).ats) (by omega) (by omega)
    rw [h1, ← Nat.add_assoc]
    simpa using this
theorem len_szs : ∀ l : List E, l.length ≤ E.szs l
  | [] => by simp [E.szs]
  | e :: l => by
    have := len_szs l
    have : 1 ≤ e.sz := by cases e <;> simp [E.sz]
    simp only [E.szs, List.length_cons]; omega
theorem sz_get : ∀ (l : List E) (i : Nat) (h : i < l.length), (l[i]).sz ≤ E.szs l
  | e :: l, 0, _ => by simp [E.szs]
  | e :: l, i + 1, h => by have := sz_get l i (by simpa using h); simp only [E.szs, List.getElem_cons_succ]; omega
theorem S_l1Atoms_n : ∀ (n : Nat) (e : E), e.sz < n → e.ok → e.sz < 1000000 → FSpec Tryz.prog n_spec_l1Atoms [e.sav] [] (Det (.v (.int .i64 (e.ats : Int))))
  | 0, e, hn, _, _ => by omega
  | n + 1, .atom s, hn, hok, hl => by
    refine F_spec_l1Atoms _ _ ((has_slnil).mpr trivial) ?_
    have hne : s ≠ [] := hok
    simp only [t_spec_l1Atoms, ↓zp, zs, hasK, zt, Det]
    exact ⟨fun _ => rfl, fun h => absurd h hne⟩
  | n + 1, .list l, hn, hok, hl => by
    refine F_spec_l1Atoms _ _ ((has_sl _).mpr trivial) ?_
    simp only [E.sz] at hn hl
    have h1 := atss_le l
    have h2 := len_szs l
    simp only [t_spec_l1Atoms, ↓zp, zs, hasK, zt, Det]
    refine ⟨fun h => absurd rfl h, fun _ => ?_⟩
    refine wp_loop1 (LS_l1Atoms l (by omega) (by omega) (fun i hi => ?_) l.length 0 0 (by omega) (by simp)) ?_
    · have := sz_get l i hi
      exact S_l1Atoms_n n (l[i]) (by omega) (oks_get l i hi hok) (by omega)
    · simp [↓zp, zs, hasK, E.ats]
theorem S_l1Atoms (e : E) (h : e.ok) (hl : e.sz < 1000000) : FSpec Tryz.prog n_spec_l1Atoms [e.sav] [] (Det (.v (.int .i64 (e.ats : Int)))) := S_l1Atoms_n (e.sz + 1) e (by omega) h hl
theorem at_ats {x : E} (h : x.at ≠ []) : x.ats = 1 := by cases x <;> simp [E.at, E.ats] at h ⊢
theorem loo_ne {s : List UInt8} (h : isLoo s = true) : s ≠ [] := by rintro rfl; cases h
theorem tyOf_ats : ∀ (e : E) (ar : List (List UInt8)) (t : Ty), tyOf e ar = some t → e.ats = t.atoms
  | .atom s, ar, t, h => by
    simp only [tyOf] at h
    simp only [E.ats]
    split at h
    · cases h; rfl
    · split at h
      · cases h; rfl
      · split at h
        · cases h; rfl
        · split at h
          · split at h <;> cases h <;> rfl
          · cases h
  | .list [], _, _, h => by cases h
  | .list [_], _, _, h => by cases h
  | .list [_, _], _, _, h => by cases h
  | .list (_ :: _ :: _ :: _ :: _), _, _, h => by cases h
  | .list [x, a, b], ar, t, h => by
    simp only [E.ats, E.atss]
    by_cases h0 : x.at = [43]
    · rw [tyOf_plus ar h0] at h
      have := at_ats (x := x) (by rw [h0]; simp)
      split at h
      · rename_i t1 t2 e1 e2
        cases h
        have := tyOf_ats a ar _ e1
        have := tyOf_ats b ar _ e2
        simp only [Ty.atoms]; omega
      · cases h
    · by_cases h1 : x.at = [42]
      · rw [tyOf_times ar h1] at h
        have := at_ats (x := x) (by rw [h1]; simp)
        split at h
        · rename_i t1 t2 e1 e2
          cases h
          have := tyOf_ats a ar _ e1
          have := tyOf_ats b ar _ e2
          simp only [Ty.atoms]; omega
        · cases h
      · by_cases h2 : x.at = [114, 101, 99]
        · rw [tyOf_rec ar h2] at h
          have := at_ats (x := x) (by rw [h2]; simp)
          split at h
          · rename_i hl
            have := at_ats (loo_ne hl)
            split at h
            · rename_i t1 e1
              cases h
              have := tyOf_ats b _ _ e1
              simp only [Ty.atoms]; omega
            · cases h
          · cases h
        · rw [tyOf_no ar h0 h1 h2] at h; cases h
/-! Plain -/
def plE : E → Bool
  | .atom s => (s == [48]) || (s == [49]) || (s == [120]) || (s == [121]) || (s == [122])
  | .list [x, a, b] => !(x.at == [114, 101, 99]) && (plE a && plE b)
  | .list _ => false
/-! The readers -/
def ParR (x : Option E) (b : Bool) : AV → List Ob → Prop := fun r o => ∃ c : List UInt8, ∃ d : AV, LK.sl.has d ∧ r = .tup [.agg [.v (.string (mk c)), d], .v (.bool b)] ∧ (b = true → ∃ e, x = some e ∧ AV.agg [.v (.string (mk c)), d] = e.sav)
theorem sav_ex (e : E) : ∃ c : List UInt8, ∃ d : AV, LK.sl.has d ∧ e.sav = AV.agg [.v (.string (mk c)), d] := by
  cases e with
  | atom s => exact ⟨s, _, (has_slnil).mpr trivial, rfl⟩
  | list l => exact ⟨[], _, (has_sl _).mpr trivial, rfl⟩
theorem ParR.ne (x : Option E) (b : Bool) (h : b = true → x.isSome = true) : ∃ r o, ParR x b r o := by
  cases b with
  | false => exact ⟨_, [], [], .v (.slice none 0 0), (has_slnil).mpr trivial, rfl, fun h => by cases h⟩
  | true =>
    cases x with
    | none => cases h rfl
    | some e =>
      obtain ⟨c, d, hd, he⟩ := sav_ex e
      exact ⟨_, [], c, d, hd, rfl, fun _ => ⟨e, rfl, he.symm⟩⟩
theorem S_l1Parse (s : List UInt8) : FSpec Tryz.prog n_spec_l1Parse [.v (.string (mk s))] [] (ParR (rdT s) (rdT s).isSome) := by
  refine F_spec_l1Parse _ ?_
  simp only [t_spec_l1Parse, ↓zp, zs, hasK, zt, rdT]
  refine ⟨fun h => ?_, fun h => ?_⟩
  · rw [if_pos (by omega)]
    exact ⟨[], _, (has_slnil).mpr trivial, rfl, fun h => by cases h⟩
  · rw [if_neg (by omega)]
    refine wp_call (S_l1Read s (by omega) 300 (by omega) 0 (by omega)) (RdR.ne _ _) ?_
    rintro r o ⟨rfl, hr⟩
    rw [List.drop_zero] at hr
    cases hq : rd 300 s with
    | none =>
      rw [hq] at hr
      obtain ⟨c, d, hd, rfl⟩ := hr
      simp only [↓zp, zs, hasK, zt, hasL]
      refine ⟨hd, c, d, hd, ?_, fun h => by cases h⟩
      have : ((-1 : Int) == (s.length : Int)) = false := by
        rw [beq_eq_false_iff_ne]; omega
      rw [this]; rfl
    | some q =>
      obtain ⟨e, u⟩ := q
      rw [hq] at hr
      subst hr
      have hlt := rd_lt _ _ _ _ hq
      obtain ⟨c, d, hd, he⟩ := sav_ex e
      simp only [he, ↓zp, zs, hasK, zt, hasL]
      cases u with
      | nil =>
        refine ⟨hd, c, d, hd, ?_, fun _ => ⟨e, rfl, he.symm⟩⟩
        simp
      | cons b u =>
        simp only [List.length_cons] at hlt ⊢
        refine ⟨hd, c, d, hd, ?_, fun h => by cases h⟩
        have : (((s.length - (u.length + 1) : Nat) : Int) == (s.length : Int)) = false := by simp; omega
        rw [this]; rfl
/-- The text's type, as the reference has it. -/
def rdE (s : List UInt8) : Option E := match rdT s with
  | none => none
  | some e => if isTy e = true ∧ e.ats ≤ 400 then some e else none
theorem S_l1Type (s : List UInt8) : FSpec Tryz.prog n_spec_l1Type [.v (.string (mk s))] [] (ParR (rdE s) (rdE s).isSome) := by
  refine F_spec_l1Type _ ?_
  unfold t_spec_l1Type
  refine wp_call (S_l1Parse s) (ParR.ne _ _ (fun h => h)) ?_
  rintro r o ⟨c, d, hd, rfl, hh⟩
  simp only [↓zp, zs, hasK, zt, hasL, rdE]
  refine ⟨hd, fun h => ?_, fun h => ?_⟩
  · obtain ⟨e, he, hce⟩ := hh h
    obtain ⟨hok, hsz⟩ := rdT_ok he
    rw [he, hce]
    refine wp_det (S_l1Is e hok) ?_
    simp only [↓zp, zs, hasK]
    refine ⟨fun hi => ?_, fun hi => ?_⟩
    · refine wp_det (S_l1Atoms e hok (by omega)) ?_
      simp only [↓zp, zs, hasK, hi]
      refine ⟨c, d, hd, ?_, ?_⟩
      · rw [hce]
        by_cases h4 : e.ats ≤ 400
        · rw [if_pos h4]; exact congrArg (fun b => AV.tup [e.sav, .v (.bool b)]) (decide_eq_true (show ((e.ats : Nat) : Int) ≤ 400 by omega))
        · rw [if_neg h4]; exact congrArg (fun b => AV.tup [e.sav, .v (.bool b)]) (decide_eq_false (show ¬ ((e.ats : Nat) : Int) ≤ 400 by omega))
      · split
        · exact fun _ => ⟨e, rfl, hce⟩
        · exact fun h => by cases h
    · refine ⟨c, d, hd, ?_, ?_⟩
      · rw [hce, if_neg (by rw [hi]; simp)]; rfl
      · rw [if_neg (by rw [hi]; simp)]; exact fun h => by cases h
  · have hn : rdT s = none := by cases hq : rdT s <;> simp [hq] at h ⊢
    rw [hn]
    exact ⟨c, d, hd, rfl, fun h => by cases h⟩
def rdPE (s : List UInt8) : Option E := match rdE s with
  | none => none
  | some e => if plE e = true then some e else none
theorem rdE_ok {s : List UInt8} {e : E} (h : rdE s = some e) : rdT s = some e ∧ isTy e = true ∧ e.ats ≤ 400 := by
  unfold rdE at h
  split at h
  · cases h
  · split at h
    · rename_i e' h1 h2; cases h; exact ⟨h1, h2⟩
    · cases h
end Go.Proofs.Trees
