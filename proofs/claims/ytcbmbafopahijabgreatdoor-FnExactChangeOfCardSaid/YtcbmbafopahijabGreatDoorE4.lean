/-
  Part of a proof: laws over values.
-/
import Derived.Test.YtcbmbafopahijabGreatDoorE3
set_option linter.unusedVariables false
set_option linter.unusedSimpArgs false
namespace Go.Proofs.Trees
open Go Go.VL Go.RowKit
/-! ### Free names in the reference -/
theorem LS_l1Has (l : List (List UInt8)) (a : AV) (ha : StrsA a l) (s : List UInt8) (hl : l.length < 1000000) : ∀ (k i : Nat), i + k = l.length → LS_spec_l1Has_1 [a, .v (.string (mk s)), .v (.int .i64 (i : Int))] []
    (LBy (if s ∈ l.drop i then (2, [.v (.bool true)], []) else (1, [], [])))
  | 0, i, hi => by
    refine G_spec_l1Has_1 _ _ _ ?_
    have hd : l.drop i = [] := List.drop_eq_nil_of_le (by omega)
    simp only [r_spec_l1Has_1, ↓zp, zs, hasK, hd, ha.len]
    exact ⟨ha.1, ha.1, fun h => by omega, fun _ => by simp [LBy]⟩
  | k + 1, i, hi => by
    have hlt : i < l.length := by omega
    have hdr : l.drop i = l.getD i [] :: l.drop (i + 1) := by
      rw [List.drop_eq_getElem_cons hlt]; simp [List.getD_eq_getElem?_getD, hlt]
    refine G_spec_l1Has_1 _ _ _ ?_
    simp only [r_spec_l1Has_1, ↓zp, zs, hasK, zt, ha.len, ha.idx hlt]
    refine ⟨ha.1, ha.1, fun _ => ⟨⟨ha.1, by omega, by omega⟩, by omega, fun h => ?_, fun h => ?_⟩, fun h => by omega⟩
    · rw [hdr, h]; simp [LBy]
    · rw [wrap_succ i (by omega)]
      have := LS_l1Has l a ha s hl k (i + 1) (by omega)
      have e : s ∈ l.drop i ↔ s ∈ l.drop (i + 1) := by
        rw [hdr, List.mem_cons]; exact ⟨fun q => q.resolve_left (fun q => h q.symm), .inr⟩
      simp only [e]; exact this
theorem S_l1Has (l : List (List UInt8)) (a : AV) (ha : StrsA a l) (s : List UInt8) (hl : l.length < 1000000) : FSpec Tryz.prog n_spec_l1Has [a, .v (.string (mk s))] [] (Det (.v (.bool (decide (s ∈ l))))) := by
  refine F_spec_l1Has _ _ ha.1 ?_
  unfold t_spec_l1Has
  refine wp_loopB (LS_l1Has l a ha s hl l.length 0 (by omega)) (fun ys o e => ?_) (fun ys o e => ?_)
  · simp only [List.drop_zero] at e
    split at e <;> cases e
    rename_i h
    simp [↓zp, zs, hasK, Det, h]
  · simp only [List.drop_zero] at e
    split at e <;> cases e
    rename_i h
    simp [↓zp, zs, hasK, Det, h]
theorem S_l1With (l : List (List UInt8)) (a : AV) (ha : StrsA a l) (s : List UInt8) (hl : l.length < 1000000) : FSpec Tryz.prog n_spec_l1With [a, .v (.string (mk s))] [] (Det (.sl (strsAV (l ++ [s])))) := by
  refine F_spec_l1With _ _ ha.1 ?_
  simp only [t_spec_l1With, ↓zp, zs, hasK, ha.2, Det, List.nil_append]
  have : (strsAV l).length = l.length := by simp [strsAV]
  refine ⟨⟨ha.1, allLen_strs l, by omega⟩, ⟨fun c hc => (by simp at hc; rw [hc]; rfl), by omega⟩, ?_⟩
  rw [S_append]
def fre : E → List (List UInt8) → List (List UInt8) → List (List UInt8)
  | .atom s, bd, l => if s = [48] ∨ s = [49] ∨ s ∈ bd ∨ s ∈ l then l else l ++ [s]
  | .list [x, a, b], bd, l => if x.at = [114, 101, 99] then fre b (bd ++ [a.at]) l else fre b bd (fre a bd l)
  | .list _, _, l => l
theorem fre_len : ∀ (e : E) (bd l : List (List UInt8)), (fre e bd l).length ≤ l.length + e.sz
  | .atom s, bd, l => by rw [fre]; split <;> simp [E.sz]
  | .list [], bd, l => by simp [fre]
  | .list [_], bd, l => by simp [fre]
  | .list [_, _], bd, l => by simp [fre]
  | .list (_ :: _ :: _ :: _ :: _), bd, l => by simp [fre]
  | .list [x, a, b], bd, l => by
    rw [fre]
    simp only [E.sz, E.szs]
    split
    · have := fre_len b (bd ++ [a.at]) l; omega
    · have := fre_len a bd l
      have := fre_len b bd (fre a bd l)
      omega
theorem S_l1Free : ∀ (e : E) (bd l : List (List UInt8)) (a : AV), e.ok → isTy e = true → StrsA a bd → bd.length + l.length + e.sz < 100000 → FSpec Tryz.prog n_spec_l1Free [e.sav, a, .vec 0] [.vec 1 (strsAV l)] (DetO (.vec 1) [.dead, .vec 1 (strsAV (fre e bd l))])
  | .atom s, bd, l, a, hok, hty, ha, hl => by
    simp only [E.sz] at hl
    refine F_spec_l1Free _ _ _ _ ((has_slnil).mpr trivial) ha.1 ?_
    have hne : s ≠ [] := hok
    have hll : (strsAV l).length = l.length := by simp [strsAV]
    simp only [t_spec_l1Free, ↓zp, zs, hasK, zt, DetO, fre]
    refine ⟨fun _ => ⟨fun h => ?_, fun h => ⟨fun h1 => ?_, fun h1 => ?_⟩⟩, fun h => absurd h hne⟩
    · rw [if_pos (.inl h)]
    · rw [if_pos (.inr (.inl h1))]
    · refine wp_det (S_l1Has bd a ha s (by omega)) ?_
      simp only [↓zp, zs, hasK]
      refine ⟨fun h2 => ?_, fun h2 => wp_det (S_l1Has l _ (.of l) s (by omega)) ?_⟩
      · rw [if_pos (.inr (.inr (.inl h2)))]
      · simp only [↓zp, zs, hasK]
        refine ⟨fun h3 => ?_, fun h3 => ⟨⟨fun c hc => (by simp at hc; rw [hc]; rfl), by omega⟩, ?_⟩⟩
        · rw [if_pos (.inr (.inr (.inr h3)))]
        · rw [S_append, if_neg]
          rintro (q | q | q | q)
          · exact h q
          · exact h1 q
          · exact h2 q
          · exact h3 q
  | .list [], _, _, _, _, h, _, _ => by cases h
  | .list [_], _, _, _, _, h, _, _ => by cases h
  | .list [_, _], _, _, _, _, h, _, _ => by cases h
  | .list (_ :: _ :: _ :: _ :: _), _, _, _, _, h, _, _ => by cases h
  | .list [x, y, z], bd, l, a, hok, hty, ha, hl => by
    simp only [E.sz, E.szs] at hl
    obtain ⟨ok1, ok2, ok3, _⟩ := hok
    refine F_spec_l1Free _ _ _ _ ((has_sl _).mpr trivial) ha.1 ?_
    simp only [t_spec_l1Free, E.scellss, toNat_one, toNat_two, ↓zp, zs, hasK, zt, sc_agg, sc_len, sc_has, sc_hd, Nat.le_refl, DetO]
    refine ⟨fun h => absurd rfl h, fun _ => wp_det (S_l1Head x [y, z]) ?_⟩
    simp only [↓zp, zs, hasK, zt]
    have hyl := fre_len y bd l
    rw [isTy] at hty
    refine ⟨fun h => ⟨by omega, by omega, by omega, wp_det (S_l1With bd a ha y.at (by omega)) ?_⟩, fun h => ⟨by omega, by omega, ?_⟩⟩
    · have hz : isTy z = true := by
        rw [if_neg (by rw [h]; decide), if_neg (by rw [h]; decide), if_pos h] at hty
        simp only [Bool.and_eq_true] at hty; exact hty.2
      simp only [↓zp, zs, hasK]
      refine wp_detO (S_l1Free z (bd ++ [y.at]) l _ ok3 hz (.of _) (by simp; omega)) ?_
      simp only [↓zp, zs, hasK]
      rw [fre, if_pos h]
    · have hyz : isTy y = true ∧ isTy z = true := by
        split at hty
        · simpa using hty
        · split at hty
          · simpa using hty
          · cases hty
      refine wp_detO (S_l1Free y bd l a ok2 hyz.1 ha (by omega)) ?_
      simp only [↓zp, zs, hasK]
      refine wp_detO (S_l1Free z bd (fre y bd l) a ok3 hyz.2 ha (by omega)) ?_
      simp only [↓zp, zs, hasK]
      rw [fre, if_neg h]
theorem par_not_loo {s : List UInt8} (h : isPar s = true) : isLoo s = false := by
  cases hq : isLoo s with
  | false => rfl
  | true =>
    obtain ⟨c, r, rfl, h1, h2⟩ := named_cons h
    obtain ⟨c', r', he, h3, h4⟩ := named_cons hq
    cases he; omega
theorem lastOf_none (s : List UInt8) (ar : List (List UInt8)) : ∀ i, i ≤ ar.length → (lastOf s ar i = none ↔ s ∉ ar.take i)
  | 0, _ => by simp [lastOf]
  | i + 1, hi => by
    have hlt : i < ar.length := by omega
    have e : ar.getD i [] = ar[i] := by simp [List.getD_eq_getElem?_getD, hlt]
    have e2 : s ∈ ar.take (i + 1) ↔ s ∈ ar.take i ∨ s = ar[i] := by
      rw [show ar.take (i + 1) = ar.take i ++ [ar[i]] from (List.take_append_getElem hlt).symm]
      simp only [List.mem_append, List.mem_singleton]
    rw [lastOf, e, e2]
    by_cases h : ar[i] = s
    · rw [if_pos h]
      exact ⟨fun h => (by cases h), fun h' => absurd (.inr h.symm) h'⟩
    · rw [if_neg h, lastOf_none s ar i (by omega)]
      exact ⟨fun h1 h2 => h2.elim h1 (fun h3 => h h3.symm), fun h1 h2 => h1 (.inl h2)⟩
theorem any_fre : ∀ (e : E) (ar l : List (List UInt8)) (t : Ty), tyOf e ar = some t → (∀ w, w ∈ ar → isLoo w = true) → (fre e ar l).any isLoo = (l.any isLoo || freeLoo t)
  | .atom s, ar, l, t, h, har => by
    simp only [tyOf] at h
    rw [fre]
    split at h
    · rename_i h0; cases h; rw [if_pos (.inl h0)]; simp [freeLoo]
    · rename_i h0
      split at h
      · rename_i h1; cases h; rw [if_pos (.inr (.inl h1))]; simp [freeLoo]
      · rename_i h1
        split at h
        · rename_i h2
          cases h
          have hn := par_not_loo h2
          simp only [freeLoo, hn]
          split
          · simp
          · simp [hn]
        · split at h
          · rename_i h2 h3
            have hlo := lastOf_none s ar ar.length (Nat.le_refl _)
            rw [List.take_length] at hlo
            cases hq : lastOf s ar ar.length with
            | some u =>
              rw [hq] at h; cases h
              have hm : s ∈ ar := Classical.byContradiction fun hm => by rw [hlo.2 hm] at hq; cases hq
              rw [if_pos (.inr (.inr (.inl hm)))]; simp [freeLoo]
            | none =>
              rw [hq] at h; cases h
              have hm := hlo.1 hq
              simp only [freeLoo, h3, Bool.or_true]
              split
              · rename_i hh
                rcases hh with q | q | q | q
                · exact absurd q h0
                · exact absurd q h1
                · exact absurd q hm
                · rw [List.any_eq_true]; exact ⟨s, q, h3⟩
              · simp [h3]
          · cases h
  | .list [], _, _, _, h, _ => by cases h
  | .list [_], _, _, _, h, _ => by cases h
  | .list [_, _], _, _, _, h, _ => by cases h
  | .list (_ :: _ :: _ :: _ :: _), _, _, _, h, _ => by cases h
  | .list [x, a, b], ar, l, t, h, har => by
    rw [fre]
    by_cases h0 : x.at = [43]
    · obtain ⟨t1, t2, e1, e2, rfl⟩ := tyOf_plus_inv h0 h
      rw [if_neg (by rw [h0]; decide), any_fre b ar _ t2 e2 har, any_fre a ar l t1 e1 har, freeLoo, Bool.or_assoc]
    · by_cases h1 : x.at = [42]
      · obtain ⟨t1, t2, e1, e2, rfl⟩ := tyOf_times_inv h1 h
        rw [if_neg (by rw [h1]; decide), any_fre b ar _ t2 e2 har, any_fre a ar l t1 e1 har, freeLoo, Bool.or_assoc]
      · by_cases h2 : x.at = [114, 101, 99]
        · obtain ⟨t1, hl, e1, rfl⟩ := tyOf_rec_inv h2 h
          rw [if_pos h2, any_fre b _ l t1 e1 (fun w hw => by
            simp only [List.mem_append, List.mem_singleton] at hw
            rcases hw with hw | rfl
            · exact har w hw
            · exact hl), freeLoo]
        · rw [tyOf_no _ h0 h1 h2] at h; cases h
/-- A closed type's text, as the reference has it. -/
def rdCE (s : List UInt8) : Option E := match rdE s with
  | none => none
  | some e => if (fre e [] []).any isLoo = true then none else some e
/-- Both read the same closed types. -/
theorem rdC_of {s : List UInt8} : rdC s = match rdCE s with | none => none | some e => tyOf e [] := by
  unfold rdC rdCE
  rw [rdY_of]
  cases he : rdE s with
  | none => rfl
  | some e =>
    obtain ⟨h1, h2, h3⟩ := rdE_ok he
    have hs := tyOf_some e []
    rw [h2] at hs
    obtain ⟨t, ht⟩ := Option.isSome_iff_exists.1 hs
    have ha := any_fre e [] [] t ht (fun w hw => by cases hw)
    simp only [ht, closed_eq, ha, List.any_nil, Bool.false_or]
    cases hf : freeLoo t <;> simp [ht]
theorem rdCE_full {s : List UInt8} {e : E} (h : rdCE s = some e) : ∃ t, rdC s = some t ∧ Ask e [] t ∧ isTy e = true ∧ e.sz ≤ 8000 ∧ t.atoms ≤ 400 ∧ rdT s = some e := by
  have h0 := h
  unfold rdCE at h
  split at h
  · cases h
  · rename_i e' he
    split at h
    · cases h
    · rename_i hn
      cases h
      obtain ⟨h1, h2, h3⟩ := rdE_ok he
      obtain ⟨hok, hsz⟩ := rdT_ok h1
      have hs := tyOf_some e []
      rw [h2] at hs
      obtain ⟨t, ht⟩ := Option.isSome_iff_exists.1 hs
      have ha := any_fre e [] [] t ht (fun w hw => by cases hw)
      rw [ha] at hn
      refine ⟨t, by rw [rdC_of, h0]; exact ht, ⟨hok, .nil, ht, by simpa using hn⟩, h2, hsz, ?_, h1⟩
      rw [← tyOf_ats e [] t ht]; exact h3
theorem rdCE_none {s : List UInt8} (h : rdCE s = none) : rdC s = none := by rw [rdC_of, h]
theorem LS_l1Closed (e : E) (l : List (List UInt8)) (hl : l.length < 1000000) : ∀ (k i : Nat), i + k = l.length → LS_spec_l1Closed_1 [.v (.int .i64 (i : Int))] [.cells [.v (.string (mk [])), .v (.slice none 0 0)], .cells [.v (.string (mk e.at)), e.sp], .vec 1 (strsAV l)]
    (LBy (if (l.drop i).any isLoo = true then (2, [.v (.bool false)], [.cells [.v (.string (mk e.at)), e.sp]]) else (1, [], [.cells [.v (.string (mk [])), .v (.slice none 0 0)], .cells [.v (.string (mk e.at)), e.sp]])))
  | 0, i, hi => by
    refine G_spec_l1Closed_1 _ _ _ _ _ _ ?_
    have hd : l.drop i = [] := List.drop_eq_nil_of_le (by omega)
    have hll : (strsAV l).length = l.length := by simp [strsAV]
    simp only [r_spec_l1Closed_1, ↓zp, zs, hasK, hd, hll, sp_has]
    exact ⟨fun h => by omega, fun _ => by simp [LBy]⟩
  | k + 1, i, hi => by
    have hlt : i < l.length := by omega
    have hll : (strsAV l).length = l.length := by simp [strsAV]
    have hdr : l.drop i = l.getD i [] :: l.drop (i + 1) := by
      rw [List.drop_eq_getElem_cons hlt]; simp [List.getD_eq_getElem?_getD, hlt]
    have hg := (StrsA.of l).idx hlt
    simp only [elems_sl] at hg
    refine G_spec_l1Closed_1 _ _ _ _ _ _ ?_
    simp only [r_spec_l1Closed_1, ↓zp, zs, hasK, zt, hll, hg, sp_has]
    refine ⟨fun _ => ⟨by omega, by omega, wp_det (S_l1Loop _) ?_⟩, fun h => by omega⟩
    simp only [↓zp, zs, hasK, hdr, List.any_cons]
    refine ⟨fun h => ?_, fun h => ?_⟩
    · rw [h]; simp [LBy]
    · rw [h, wrap_succ i (by omega)]
      simp only [Bool.false_or]
      exact LS_l1Closed e l hl k (i + 1) (by omega)
theorem S_l1Closed (s : List UInt8) : FSpec Tryz.prog n_spec_l1Closed [.v (.string (mk s))] [] (ParR (rdCE s) (rdCE s).isSome) := by
  refine F_spec_l1Closed _ ?_
  unfold t_spec_l1Closed
  refine wp_call (S_l1Type s) (ParR.ne _ _ (fun h => h)) ?_
  rintro r o ⟨c, d, hd, rfl, hh⟩
  have hhas : hasL [.str, .sl] [.v (.string (mk c)), d] 0 := by simp [hasL, has_str, hd]
  simp only [↓zp, zs, hasK, zt]
  refine ⟨hhas, fun h => ?_, fun h => ?_⟩
  · have hn : rdE s = none := by cases hq : rdE s <;> simp [hq] at h ⊢
    unfold rdCE
    rw [hn]
    exact ⟨c, d, hd, rfl, fun h => by cases h⟩
  · obtain ⟨e, he, hce⟩ := hh h
    obtain ⟨h1, h2, h3⟩ := rdE_ok he
    obtain ⟨hok, hsz⟩ := rdT_ok h1
    have hce' := hce
    rw [sav_sp] at hce'
    simp only [AV.agg.injEq, List.cons.injEq, AV.v.injEq, Value.string.injEq, and_true] at hce'
    obtain ⟨hc1, rfl⟩ := hce'
    have hc2 := mk_inj hc1
    subst hc2
    rw [← sav_sp]
    refine wp_detO (S_l1Free e [] [] _ hok h2 (.of []) (by simp; omega)) ?_
    have hfl := fre_len e [] []
    simp only [↓zp, zs, hasK]
    have hLS := LS_l1Closed e (fre e [] []) (by simp at hfl; omega) (fre e [] []).length 0 (by omega)
    simp only [List.drop_zero] at hLS
    unfold rdCE
    rw [he]
    refine wp_loopB hLS (fun ys o e' => ?_) (fun ys o e' => ?_)
    · split at e' <;> cases e'
      rename_i hn
      simp only [↓zp, zs, hasK, sp_has, if_neg hn]
      exact ⟨e.at, e.sp, hd, rfl, fun _ => ⟨e, rfl, (sav_sp e).symm⟩⟩
    · split at e' <;> cases e'
      rename_i hn
      simp only [↓zp, zs, hasK, sp_has, if_pos hn]
      exact ⟨e.at, e.sp, hd, rfl, fun h => by cases h⟩
/-! ### Values of closed types -/
def vOK (s v : List UInt8) (n : Int) : Option Vl := match rdCE s, rdV v with
  | some e, some w => if (0 ≤ n ∧ n ≤ 100) ∧ vis n.toNat w (e, []) = true then some w else none
  | _, _ => none
theorem vOK_some {s v : List UInt8} {n : Int} {w : Vl} (h : vOK s v n = some w) : ∃ e t m, rdCE s = some e ∧ rdV v = some w ∧ rdC s = some t ∧ Ask e [] t ∧ n = (m : Nat) ∧ m ≤ 100 ∧ vis m w (e, []) = true := by
  unfold vOK at h
  split at h
  · rename_i e w' he hw
    split at h
    · rename_i hh
      cases h
      obtain ⟨t, h1, h2, _⟩ := rdCE_full he
      exact ⟨e, t, n.toNat, he, hw, h1, h2, by omega, by omega, hh.2⟩
    · cases h
  · cases h
theorem S_valueOf (s v : List UInt8) (n : Int) : FSpec Tryz.prog n_impl_valueOf [.v (.string (mk s)), .v (.string (mk v)), .v (.int .i64 n)] [] (Det (.tup [optT (rdC s), optV (vOK s v n)])) := by
  refine F_impl_valueOf _ _ _ ?_
  unfold t_impl_valueOf
  refine wp_det (S_closedType s) ?_
  simp only [↓zp, zs, hasK, optT_has]
  refine wp_det (S_readValue v) ?_
  simp only [↓zp, zs, hasK, optV_has, Det]
  unfold vOK
  cases he : rdCE s with
  | none => rw [rdCE_none he]; cases rdV v <;> simp [optT, optV, ↓zp, zs, hasK]
  | some e =>
    obtain ⟨t, h1, h2, h3, h4, h5, _⟩ := rdCE_full he
    rw [h1]
    cases hv : rdV v with
    | none => simp only [optT, optV, ty_has, ty_nil, ↓zp, zs, hasK]; exact ⟨fun h => (by cases h), fun _ => ⟨fun _ => trivial, fun h => (by cases h)⟩⟩
    | some w =>
      obtain ⟨h6, h7, h8⟩ := rdV_ok hv
      simp only [optT, optV, ty_has, ty_nil, vl_has, vl_nil, ↓zp, zs, hasK]
      refine ⟨fun h => (by cases h), fun _ => ⟨fun h => (by cases h), fun _ => ⟨fun h => ?_, fun h => ⟨fun h' => ?_, fun h' => ?_⟩⟩⟩⟩
      · rw [if_neg (by omega)]
      · rw [if_neg (by omega)]
      · obtain ⟨m, rfl⟩ : ∃ m : Nat, n = (m : Int) := ⟨n.toNat, by omega⟩
        have hi := S_isOf_n m (by omega) (w.nodes + 1) w (by omega) h7 e [] t h2 (by simp; omega)
        unfold isOfS at hi
        refine wp_det hi ?_
        simp only [↓zp, zs, hasK, Int.toNat_natCast]
        refine ⟨fun hq => ?_, fun hq => ?_⟩
        · rw [if_neg (by rw [hq]; simp)]
        · rw [if_pos ⟨by omega, hq⟩]
theorem S_ValueIsS (s v : List UInt8) (n : Int) : FSpec Tryz.prog n_spec_ValueIs [.v (.string (mk s)), .v (.string (mk v)), .v (.int .i64 n)] [] (Det (.v (.bool (vOK s v n).isSome))) := by
  refine F_spec_ValueIs _ _ _ ?_
  unfold t_spec_ValueIs
  refine wp_call (S_l1Closed s) (ParR.ne _ _ (fun h => h)) ?_
  rintro r o ⟨c, d, hd, rfl, hh⟩
  have hhas : hasL [.str, .sl] [.v (.string (mk c)), d] 0 := by simp [hasL, has_str, hd]
  simp only [↓zp, zs, hasK, zt]
  refine ⟨hhas, ?_⟩
  refine wp_call (S_l2Value v) (ParR.ne _ _ (fun h => by cases hq : rdV v <;> simp [hq] at h ⊢)) ?_
  rintro r o ⟨c', d', hd', rfl, hh'⟩
  have hhas' : hasL [.str, .sl] [.v (.string (mk c')), d'] 0 := by simp [hasL, has_str, hd']
  simp only [↓zp, zs, hasK, zt, Det]
  refine ⟨hhas', fun h => ⟨fun h2 => ?_, fun h2 => ?_⟩, fun h => ?_⟩
  · obtain ⟨e, he, hce⟩ := hh h
    obtain ⟨t, h1, hA, h3, h4, h5, _⟩ := rdCE_full he
    obtain ⟨w, hw⟩ := Option.isSome_iff_exists.1 h2
    obtain ⟨e2, he2, hce2⟩ := hh' h2
    rw [hw] at he2
    cases he2
    obtain ⟨h6, h7, h8⟩ := rdV_ok hw
    refine wp_det (S_l6In _ _ _) ?_
    simp only [↓zp, zs, hasK, inR, vOK, he, hw]
    refine ⟨fun hq => ?_, fun hq => ?_⟩
    · have hq' : 0 ≤ n ∧ n ≤ 100 := by simpa using hq
      obtain ⟨m, rfl⟩ : ∃ m : Nat, n = (m : Int) := ⟨n.toNat, by omega⟩
      rw [hce, hce2]
      have := S_l2Is m (by omega) w h7 e [] t hA (by simp; omega)
      rw [show envS [] = [] from rfl] at this
      refine wp_det this ?_
      simp only [↓zp, zs, hasK, Int.toNat_natCast]
      by_cases hb : vis m w (e, []) = true
      · rw [if_pos ⟨hq', hb⟩, hb]; rfl
      · rw [if_neg (fun h => hb h.2)]
        rw [Bool.not_eq_true] at hb
        rw [hb]; rfl
    · have hq' : ¬ (0 ≤ n ∧ n ≤ 100) := by simpa using hq
      rw [if_neg (fun h => hq' h.1)]; rfl
  · have hn : rdV v = none := by cases hq : rdV v <;> simp [hq] at h2 ⊢
    unfold vOK
    rw [hn]; cases rdCE s <;> rfl
  · have hn : rdCE s = none := by cases hq : rdCE s <;> simp [hq] at h ⊢
    unfold vOK
    rw [hn]; rfl
end Go.Proofs.Trees
