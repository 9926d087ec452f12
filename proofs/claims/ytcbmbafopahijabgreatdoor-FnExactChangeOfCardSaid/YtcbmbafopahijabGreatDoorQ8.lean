/-
  Part of a proof: laws over values.
-/
import Derived.Test.YtcbmbafopahijabGreatDoorQ7
set_option linter.unusedVariables false
set_option linter.unusedSimpArgs false
namespace Go.Proofs.Trees
open Go Go.VL
theorem S_l1Byte (b : UInt8) : FSpec Tryz.prog n_spec_l1Byte [.v (.int .u8 (b.toNat : Int))] [] (Det (.v (.bool (isA b)))) := by
  refine F_spec_l1Byte _ ?_
  simp only [t_spec_l1Byte, ↓zp, zs, hasK, Det, isA]
  repeat' (apply And.intro <;> intro _)
  all_goals first | (congr 2; rw [Bool.eq_iff_iff]; simp; omega) | (congr 2; simp; omega)
/-- What the reference's reader returns. -/
def RdR (s : List UInt8) (x : Option (E × List UInt8)) : AV → List Ob → Prop := fun r o => o = [] ∧
  match x with
  | some (e, u) => r = .tup [e.sav, .v (.int .i64 ((s.length - u.length : Nat) : Int))]
  | none => ∃ (c : List UInt8) (d : AV), LK.sl.has d ∧ r = .tup [.agg [.v (.string (mk c)), d], .v (.int .i64 (-1))]
theorem RdR.ne (s : List UInt8) (x : Option (E × List UInt8)) : ∃ r o, RdR s x r o := by
  cases x with
  | some q => exact ⟨_, _, rfl, rfl⟩
  | none => exact ⟨_, _, rfl, [], .v (.slice none 0 0), (has_slnil).mpr trivial, rfl⟩
def jc (c : List UInt8) (d : AV) : Ob := .cells [.v (.string (mk c)), d]
theorem LS_l1Read1 (s : List UInt8) (hs : s.length ≤ 8000) (from_ : Int) (c1 c2 : List UInt8) (d1 d2 : AV) (h1 : LK.sl.has d1) (h2 : LK.sl.has d2) : ∀ (k i : Nat), i + k = s.length → LS_spec_l1Read_1 [.v (.string (mk s)), .v (.int .i64 (i : Int)), .v (.int .i64 from_)] [jc c1 d1, jc c2 d2]
    (LIs 1 [.v (.string (mk s)), .v (.int .i64 ((i + ((s.drop i).takeWhile isA).length : Nat) : Int)), .v (.int .i64 from_)] [jc c1 d1, jc c2 d2])
  | 0, i, hi => by
    refine G_spec_l1Read_1 _ _ _ _ _ _ _ ?_
    have hd : s.drop i = [] := List.drop_eq_nil_of_le (by omega)
    simp only [r_spec_l1Read_1, ↓zp, zs, hasK, zt]
    exact ⟨h1, h2, fun h => by omega, fun _ => by simp [LIs, hd, jc]⟩
  | k + 1, i, hi => by
    have hlt : i < s.length := by omega
    refine G_spec_l1Read_1 _ _ _ _ _ _ _ ?_
    simp only [r_spec_l1Read_1, ↓zp, zs, hasK, zt, bt_mk s i hlt]
    refine ⟨h1, h2, fun _ => ⟨by omega, ?_⟩, fun h => by omega⟩
    refine wp_det (S_l1Byte _) ?_
    simp only [↓zp, zs, hasK]
    refine ⟨fun hb => ?_, fun hb => ?_⟩
    · rw [wrap_succ i (by omega)]
      have := LS_l1Read1 s hs from_ c1 c2 d1 d2 h1 h2 k (i + 1) (by omega)
      rw [tw_step hlt hb, show i + (((s.drop (i + 1)).takeWhile isA).length + 1) = i + 1 + ((s.drop (i + 1)).takeWhile isA).length by omega]
      exact this
    · simp [LIs, tw_stop hlt hb, jc]
/-- How the reference's loop over the parts ends. -/
def LdR (s : List UInt8) (x : Option (E × List UInt8)) : Nat → List AV → List Ob → Prop := fun t ys o => t = 2 ∧
  match x with
  | some (e, u) => ∃ l, e = .list l ∧ ys = [.v (.int .i64 ((s.length - u.length : Nat) : Int))] ∧ o = [jc [] .any, .vec 2 (E.scellss l)]
  | none => ∃ es, ys = [.v (.int .i64 (-1))] ∧ o = [jc [] .any, .vec 2 es]
theorem sav_has (e : E) : (e.sav = .agg e.sav.cs ∧ e.sav.cs.length = 2 ∧ hasL [.str, .sl] e.sav.cs 0) = True := by
  apply eq_true
  cases e <;> simp [E.sav, E.scells, cs_agg, hasL, has_str, has_slnil, has_sl]
theorem scells_eta (e : E) : [AV.v (.string ((e.sav.cs.getD 0 .any).toStr)), e.sav.cs.getD 1 .any] = e.scells := by
  cases e <;> rfl
theorem drop_cons {s : List UInt8} {j : Nat} (hj : j < s.length) : s.drop j = s.getD j 0 :: s.drop (j + 1) := by
  rw [List.drop_eq_getElem_cons hj]; simp [List.getD_eq_getElem?_getD, hj]
theorem LS_l1Read2 (s : List UInt8) (hs : s.length ≤ 8000) (d : Nat) (hd : d ≤ 300) (f : List UInt8 → Option (E × List UInt8)) (hf : ∀ u e r, f u = some (e, r) → ∃ j, r = u.drop j ∧ 0 < j ∧ j ≤ u.length)
    (ih : ∀ j, j ≤ s.length → FSpec Tryz.prog n_spec_l1Read [.v (.string (mk s)), .v (.int .i64 (j : Int)), .v (.int .i64 ((d + 1 : Nat) : Int))] [] (RdR s (f (s.drop j)))) :
    ∀ (n i : Nat) (acc : List E) (c1 : List UInt8) (d1 : AV), LK.sl.has d1 → s.length - (i + 1) < n → i < s.length → s.length - i + acc.length ≤ 8001 → LS_spec_l1Read_2 [.v (.string (mk s)), .v (.int .i64 (i : Int)), .v (.int .i64 (d : Int))] [jc c1 d1, jc [] .any, .vec 2 (E.scellss acc)]
      (LdR s (rdL f n (s.drop (i + 1)) acc))
  | 0, i, acc, c1, d1, h1, hn, _, _ => by omega
  | n + 1, i, acc, c1, d1, h1, hn, hi, hl => by
    refine G_spec_l1Read_2 _ _ _ _ _ _ _ ?_
    simp only [r_spec_l1Read_2, ↓zp, zs, hasK, jc]
    refine ⟨h1, ?_⟩
    rw [wrap_succ i (by omega), wrap_succ d (by omega)]
    refine wp_call (ih (i + 1) (by omega)) (RdR.ne _ _) ?_
    rintro r o ⟨rfl, hr⟩
    have hff := hf (s.drop (i + 1))
    unfold rdL
    cases hq : f (s.drop (i + 1)) with
    | none =>
      rw [hq] at hr
      obtain ⟨c, d', hd', rfl⟩ := hr
      simp only [↓zp, zs, hasK, zt, hasL]
      refine ⟨hd', fun _ => ⟨rfl, _, rfl, rfl⟩, fun h => by omega⟩
    | some q =>
      obtain ⟨e, u⟩ := q
      rw [hq] at hr
      subst hr
      obtain ⟨j, hu, hj0, hj⟩ := hff e u hq
      rw [List.drop_drop] at hu
      simp only [List.length_drop] at hj
      have hul : u.length = s.length - (i + 1 + j) := by rw [hu, List.length_drop]
      have hpos : s.length - u.length = i + 1 + j := by omega
      simp only [↓zp, zs, hasK, zt, sav_has, hpos, scells_eta, scellss_len]
      refine ⟨fun h => by omega, fun _ => ⟨fun h => ?_, fun h => ⟨⟨fun c hc => (by simp at hc; rw [hc]; cases e <;> rfl), by omega⟩, ?_⟩⟩⟩
      · have : u = [] := by rw [hu]; exact List.drop_eq_nil_of_le (by omega)
        subst this
        exact ⟨rfl, _, rfl, rfl⟩
      · have hlt : i + 1 + j < s.length := by omega
        rw [drop_cons hlt] at hu
        subst hu
        rw [bt_mk s _ hlt]
        generalize hb : s.getD (i + 1 + j) 0 = b
        refine ⟨by omega, fun h41 => ?_, fun h41 => ⟨by omega, fun h32 => ?_, fun h32 => ?_⟩⟩
        · have h41' : b.toNat = 41 := by omega
          dsimp only
          rw [if_pos h41', wrap_succ _ (by omega)]
          refine ⟨rfl, acc ++ [e], rfl, ?_, ?_⟩
          · rw [List.length_drop]; congr 3; omega
          · simp [jc, scellss_app, E.scellss]
        · have h41' : ¬ b.toNat = 41 := by omega
          have h32' : ¬ b.toNat = 32 := by omega
          dsimp only
          rw [if_neg h41', if_neg h32']
          exact ⟨rfl, _, rfl, rfl⟩
        · have h41' : ¬ b.toNat = 41 := by omega
          have h32' : b.toNat = 32 := by omega
          dsimp only
          rw [if_neg h41', if_pos h32']
          have := LS_l1Read2 s hs d hd f hf ih n (i + 1 + j) (acc ++ [e]) c1 d1 h1 (by omega) hlt (by simp; omega)
          simpa [jc, scellss_app, E.scellss] using this
theorem rd_drop (k : Nat) (u : List UInt8) (e : E) (r : List UInt8) (h : rd k u = some (e, r)) : ∃ j, r = u.drop j ∧ 0 < j ∧ j ≤ u.length := by
  have suf : ∀ (k : Nat) (u : List UInt8) (e : E) (r : List UInt8), rd k u = some (e, r) → r <:+ u := by
    intro k
    have tw : ∀ u : List UInt8, u.dropWhile isA <:+ u := fun u => List.dropWhile_suffix _
    have ll : ∀ (f : List UInt8 → Option (E × List UInt8)), (∀ u e r, f u = some (e, r) → r <:+ u) → ∀ (n : Nat) (u : List UInt8) (acc : List E) (e : E) (r : List UInt8), rdL f n u acc = some (e, r) → r <:+ u := by
      intro f hf n
      induction n with
      | zero => intro u acc e r h; cases h
      | succ n ih =>
        intro u acc e r h
        simp only [rdL] at h
        split at h
        · rename_i p c r' hs
          have h1 : r' <:+ u := (List.suffix_cons c r').trans (hf _ _ _ hs)
          split at h
          · cases h; exact h1
          · split at h
            · exact (ih _ _ _ _ h).trans h1
            · cases h
        · cases h
    induction k with
    | zero =>
      intro u e r h
      simp only [rd] at h
      split at h
      · cases h
      · cases h; exact tw u
    | succ k ih =>
      intro u e r h
      simp only [rd] at h
      split at h
      · split at h
        · split at h
          · exact (ll _ ih _ _ _ _ _ h).trans (List.suffix_cons _ _)
          · cases h
        · cases h
      · cases h; exact tw u
  obtain ⟨p, hp⟩ := suf k u e r h
  have hlt := rd_lt k u e r h
  have := congrArg List.length hp
  simp only [List.length_append] at this
  exact ⟨p.length, by rw [← hp]; simp, by omega, by omega⟩
theorem rdL_none (n : Nat) (u : List UInt8) (acc : List E) : rdL (fun _ => none) n u acc = none := by
  cases n <;> rfl
theorem S_l1Read_deep (s : List UInt8) (j : Nat) : FSpec Tryz.prog n_spec_l1Read [.v (.string (mk s)), .v (.int .i64 (j : Int)), .v (.int .i64 ((300 + 1 : Nat) : Int))] [] (RdR s none) := by
  refine F_spec_l1Read _ _ _ ?_
  simp only [t_spec_l1Read, ↓zp, zs, hasK]
  exact ⟨fun _ => ⟨rfl, [], _, (has_slnil).mpr trivial, rfl⟩, fun h => by omega⟩
/-- What is left is told by what was read. -/
theorem l1Read_body (s : List UInt8) (hs : s.length ≤ 8000) (d i : Nat) (hd : d ≤ 300) (hi : i ≤ s.length) (f : List UInt8 → Option (E × List UInt8)) (hf : ∀ u e r, f u = some (e, r) → ∃ j, r = u.drop j ∧ 0 < j ∧ j ≤ u.length)
    (ih : ∀ j, j ≤ s.length → FSpec Tryz.prog n_spec_l1Read [.v (.string (mk s)), .v (.int .i64 (j : Int)), .v (.int .i64 ((d + 1 : Nat) : Int))] [] (RdR s (f (s.drop j)))) (x : Option (E × List UInt8))
    (h0 : i = s.length → x = none)
    (h1 : i < s.length → (s.drop i).takeWhile isA ≠ [] → x = some (.atom ((s.drop i).takeWhile isA), (s.drop i).dropWhile isA))
    (h2 : i < s.length → (s.drop i).takeWhile isA = [] → ¬ (s.getD i 0).toNat = 40 → x = none)
    (h3 : i < s.length → (s.getD i 0).toNat = 40 → x = rdL f (s.length - (i + 1) + 1) (s.drop (i + 1)) []) :
    FSpec Tryz.prog n_spec_l1Read [.v (.string (mk s)), .v (.int .i64 (i : Int)), .v (.int .i64 (d : Int))] [] (RdR s x) := by
  refine F_spec_l1Read _ _ _ ?_
  simp only [t_spec_l1Read, ↓zp, zs, hasK, zt]
  refine ⟨fun h => by omega, fun _ => ⟨fun h => ?_, fun h => ⟨by omega, ?_⟩⟩⟩
  · rw [h0 (by omega)]
    exact ⟨rfl, [], _, (has_slnil).mpr trivial, rfl⟩
  · have hlt : i < s.length := by omega
    rw [bt_mk s i hlt]
    refine ⟨fun h40 => ?_, fun h40 => ?_⟩
    · have h40' : ¬ (s.getD i 0).toNat = 40 := by omega
      refine wp_loop1 (LS_l1Read1 s hs _ [] [] _ _ ((has_slnil).mpr trivial) ((has_slnil).mpr trivial) (s.length - i) i (by omega)) ?_
      have hex : (List.take (i + ((s.drop i).takeWhile isA).length) s).drop i = (s.drop i).takeWhile isA := by
        rw [List.drop_take, Nat.add_sub_cancel_left]; exact take_tw _
      have hle : i + ((s.drop i).takeWhile isA).length ≤ s.length := by
        have := tw_len (s.drop i); simp only [List.length_drop] at this; omega
      simp only [jc, ↓zp, zs, hasK, zt, hex]
      refine ⟨by omega, fun hnil => ?_, fun hnil => ?_⟩
      · rw [h2 hlt hnil h40', hnil]
        exact ⟨rfl, [], _, (has_slnil).mpr trivial, rfl⟩
      · rw [h1 hlt hnil]
        refine ⟨rfl, ?_⟩
        have := tw_len (s.drop i)
        simp only [List.length_drop] at this
        show _ = AV.tup [E.sav (.atom _), _]
        have e : s.length - ((s.drop i).dropWhile isA).length = i + ((s.drop i).takeWhile isA).length := by omega
        rw [e]; rfl
    · have h40' : (s.getD i 0).toNat = 40 := by omega
      rw [h3 hlt h40']
      refine wpt_loop (LS_l1Read2 s hs d hd f hf ih (s.length - (i + 1) + 1) i [] [] _ ((has_slnil).mpr trivial) (by omega) hlt (by simp; omega)) ?_ ?_
      · rintro ys o ⟨h, _⟩; cases h
      · rintro ys o ⟨_, hr⟩
        cases hq : rdL f (s.length - (i + 1) + 1) (s.drop (i + 1)) [] with
        | none =>
          rw [hq] at hr
          obtain ⟨es, rfl, rfl⟩ := hr
          simp only [jc, ↓zp, zs, hasK]
          exact ⟨rfl, [], _, (has_sl _).mpr trivial, rfl⟩
        | some q =>
          obtain ⟨e, u⟩ := q
          rw [hq] at hr
          obtain ⟨l, rfl, rfl, rfl⟩ := hr
          simp only [jc, ↓zp, zs, hasK]
          exact ⟨rfl, rfl⟩
theorem S_l1Read (s : List UInt8) (hs : s.length ≤ 8000) : ∀ (k : Nat), k ≤ 300 → ∀ i, i ≤ s.length → FSpec Tryz.prog n_spec_l1Read [.v (.string (mk s)), .v (.int .i64 (i : Int)), .v (.int .i64 ((300 - k : Nat) : Int))] [] (RdR s (rd k (s.drop i))) := by
  intro k
  have hnil : ∀ k, rd k [] = none := fun k => by cases k <;> simp [rd]
  have ha40 : ∀ b : UInt8, b.toNat = 40 → isA b = false := fun b hb => by simp [isA, hb]
  induction k with
  | zero =>
    intro hk i hi
    refine l1Read_body s hs 300 i (by omega) hi (fun _ => none) (fun _ _ _ h => by cases h) (fun j _ => S_l1Read_deep s j) _ (fun h => ?_) (fun hlt h => ?_) (fun hlt h h40 => ?_) (fun hlt h40 => ?_)
    · rw [List.drop_eq_nil_of_le (by omega)]; exact hnil 0
    · simp only [rd, if_neg h]
    · simp only [rd, if_pos h]
    · rw [rdL_none]
      have : (s.drop i).takeWhile isA = [] := tw_stop hlt (ha40 _ h40)
      simp only [rd, if_pos this]
  | succ k ih =>
    intro hk i hi
    have hd : 300 - (k + 1) + 1 = 300 - k := by omega
    refine l1Read_body s hs (300 - (k + 1)) i (by omega) hi (rd k) (rd_drop k) (fun j hj => by rw [hd]; exact ih (by omega) j hj) _ (fun h => ?_) (fun hlt h => ?_) (fun hlt h h40 => ?_) (fun hlt h40 => ?_)
    · rw [List.drop_eq_nil_of_le (by omega)]; exact hnil _
    · simp only [rd, if_neg h]
    · rw [drop_cons hlt] at h ⊢
      simp only [rd, if_pos h, if_neg h40]
    · have h := tw_stop hlt (ha40 _ h40)
      rw [drop_cons hlt] at h ⊢
      simp only [rd, if_pos h, if_pos h40, List.length_drop]
end Go.Proofs.Trees
