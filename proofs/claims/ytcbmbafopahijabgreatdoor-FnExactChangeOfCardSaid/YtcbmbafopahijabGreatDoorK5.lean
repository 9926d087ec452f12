/-
  Part of a proof: laws over values.
-/
import Derived.Test.YtcbmbafopahijabGreatDoorK3
import Derived.Test.YtcbmbafopahijabGreatDoorK4
import Derived.Test.YtcbmbafopahijabGreatDoorL3
set_option linter.unusedVariables false
set_option linter.unusedSimpArgs false
namespace Go.Proofs.Trees
open Go Go.VL Go.RowKit
/-! ### The reference's change of two values -/
def atI : List Nat → Int
  | [] => -1
  | k :: _ => (k : Int)
abbrev zeroO : Ob := .cells [.v (.slice none 0 0), .v (.string (mk [])), .v (.string (mk []))]
abbrev outO (o n : List UInt8) : Ob := .cells [.any, .v (.string (mk o)), .v (.string (mk n))]
def chgRes (s : List UInt8) (te : E) (l r : List Hl) (o n : List UInt8) (D : List Nat) : Nat × List AV × List Ob :=
  if D.length ≤ 1 then (1, [.v (.string (mk s)), .sl (sAV l), .sl (sAV r), .v (.int .i64 (atI D))], [.cells [.v (.string (mk [])), te.sp], zeroO, outO o n, .vec 1 []])
  else (2, [], [outO o n, .vec 1 []])
theorem LS_chgS (s : List UInt8) (te : E) (l r : List Hl) (hl : l.length ≤ 1000) (hlr : l.length = r.length) (h1 : ∀ h, h ∈ l → h.2.txt.length ≤ 900000) (h2 : ∀ h, h ∈ r → h.2.txt.length ≤ 900000) (o n : List UInt8) : ∀ (k i : Nat) (cur : List Nat), i + k = l.length → cur.length ≤ 1 → (∀ j, j ∈ cur → j ≤ 1000) →
    LS_spec_l7Change_1 [.v (.string (mk s)), .sl (sAV l), .sl (sAV r), .v (.int .i64 (atI cur)), .v (.int .i64 (i : Int))] [.cells [.v (.string (mk [])), te.sp], zeroO, outO o n, .vec 1 []] (LBy (chgRes s te l r o n (cur ++ diffs (l.drop i) (r.drop i) i)))
  | 0, i, cur, hi, hc, hj => by
    refine G_spec_l7Change_1 _ _ _ _ _ _ _ _ _ _ _ _ _ ?_
    have : i = l.length := by omega
    subst this
    simp only [r_spec_l7Change_1, ↓zp, zs, hasK, sAV_len, sp_has, hasK, List.drop_length]
    refine ⟨fun h => by omega, fun _ => ?_⟩
    rw [show cur ++ diffs [] (r.drop l.length) l.length = cur by simp [diffs], chgRes, if_pos hc]
  | k + 1, i, cur, hi, hc, hj => by
    have hlt : i < l.length := by omega
    have hlt' : i < r.length := by omega
    have ht1 := S_l1Text (l[i]).2.toE (toE_ok _) (h1 _ (List.getElem_mem hlt))
    have ht2 := S_l1Text (r[i]).2.toE (toE_ok _) (h2 _ (List.getElem_mem hlt'))
    rw [sav_sp] at ht1 ht2
    refine G_spec_l7Change_1 _ _ _ _ _ _ _ _ _ _ _ _ _ ?_
    simp only [r_spec_l7Change_1, ↓zp, zs, hasK, zt, sAV_len, sp_has, hasK, hasL, sAV_get hlt, sAV_get hlt']
    refine ⟨fun _ => ⟨fun _ => ?_, fun h => by simp at h; omega⟩, fun h => by omega⟩
    repeat refine ⟨by omega, ?_⟩
    refine wp_det ht1 ?_
    simp only [↓zp, zs, hasK, zt]
    repeat refine ⟨by omega, ?_⟩
    refine wp_det ht2 ?_
    simp only [↓zp, zs, hasK, zt]
    rw [diffs_drop l r hlt hlt', wrap_succ i (by omega)]
    refine ⟨fun hne => ?_, fun he => ?_⟩
    · rw [if_neg (by simpa using hne)]
      match cur, hc, hj with
      | [], hc, hj =>
        refine ⟨fun h => by simp [atI] at h, fun _ => ?_⟩
        have := LS_chgS s te l r hl hlr h1 h2 o n k (i + 1) [i] (by omega) (by simp) (by simp; omega)
        exact this
      | [j], hc, hj =>
        refine ⟨fun _ => ?_, fun h => by simp [atI] at h⟩
        rw [chgRes, if_neg (by simp)]
    · rw [if_pos (by simpa using he)]
      exact LS_chgS s te l r hl hlr h1 h2 o n k (i + 1) cur (by omega) hc hj
theorem LS_chgE (s : List UInt8) (te : E) (l r : List Hl) (hlr : l.length ≠ r.length) (o n : List UInt8) :
    LS_spec_l7Change_1 [.v (.string (mk s)), .sl (sAV l), .sl (sAV r), .v (.int .i64 (-1)), .v (.int .i64 0)] [.cells [.v (.string (mk [])), te.sp], zeroO, outO o n, .vec 1 []] (LBy (chgRes s te l r o n [])) := by
  refine G_spec_l7Change_1 _ _ _ _ _ _ _ _ _ _ _ _ _ ?_
  simp only [r_spec_l7Change_1, ↓zp, zs, hasK, zt, sAV_len, sp_has, hasK, hasL]
  exact ⟨fun _ => ⟨fun h => by omega, fun _ => rfl⟩, fun _ => rfl⟩
abbrev chSV (r : Chg) : AV := .agg [.sl (intsAV r.1), .v (.string (mk r.2.1.txt)), .v (.string (mk r.2.2.txt))]
theorem S_l7Change (x A B : E) (a : Ty) (hA : Ask B [.mk A.at (.list [x, A, B]) []] a) (hx : x.at = [114, 101, 99]) : ∀ (n : Nat) (v w : Vl), v.nodes ≤ n → v.nodes ≤ 200 → w.nodes ≤ 200 → v.bel 100 → w.bel 100 → vis 100 v (.list [x, A, B], []) = true → vis 100 w (.list [x, A, B], []) = true →
    FSpec Tryz.prog n_spec_l7Change [.agg [.v (.string (mk [])), (E.list [x, A, B]).sp], .agg [.v (.string (mk v.toE.at)), v.toE.sp], .agg [.v (.string (mk w.toE.at)), w.toE.sp]] [] (Det (chSV (chgN n a v w)))
  | 0, v, w, h, _, _, _, _, _, _ => by have := nodes_pos v; omega
  | n + 1, v, w, h, hn, hn', hb, hb', hv, hv' => by
    have t1 := txt_len v hb
    have t2 := txt_len w hb'
    have k1 := kids_len (a := a) (v := v)
    have k2 := kids_len (a := a) (v := w)
    obtain ⟨v0, rfl, hv0⟩ := vis_rec .nil hx hv
    obtain ⟨w0, rfl, hw0⟩ := vis_rec .nil hx hv'
    have hP := P3.of x A B
    have hV := P2.of (.atom [102]) v0.toE
    have hW := P2.of (.atom [102]) w0.toE
    have x1 := S_l1Text (Vl.f v0).toE (toE_ok _) (show (Vl.f v0).txt.length ≤ 900000 by omega)
    have x2 := S_l1Text (Vl.f w0).toE (toE_ok _) (show (Vl.f w0).txt.length ≤ 900000 by omega)
    have y1 := S_kidsS 100 (.f v0) x A B a hA hx v0 rfl hv (by omega)
    have y2 := S_kidsS 100 (.f w0) x A B a hA hx w0 rfl hv' (by omega)
    rw [sav_sp] at x1 x2
    refine F_spec_l7Change _ _ _ _ _ _ ((sp_has _).mpr trivial) ((sp_has _).mpr trivial) ((sp_has _).mpr trivial) ?_
    unfold t_spec_l7Change
    refine wp_det x1 ?_
    simp only [↓zp, zs, hasK, zt]
    refine wp_det x2 ?_
    simp only [Vl.toE, at_list, toNat_one, toNat_two, ↓zp, zs, hasK, zt, hP.1, hP.2.1, hP.2.2.1, hP.2.2.2, hV.1, hV.2.1, hV.2.2, hW.1, hW.2.1, hW.2.2, sp_hasL]
    repeat refine ⟨by omega, ?_⟩
    refine wp_det y1 ?_
    simp only [↓zp, zs, hasK, zt]
    repeat refine ⟨by omega, ?_⟩
    refine wp_det y2 ?_
    simp only [↓zp, zs, hasK, zt]
    rw [chgN, chgS]
    have whole : ∀ D : List Nat, D = [] → chgRes A.at (.list [x, A, B]) (kids a (.f v0)) (kids a (.f w0)) (Vl.f v0).txt (Vl.f w0).txt D = (1, [.v (.string (mk A.at)), .sl (sAV (kids a (.f v0))), .sl (sAV (kids a (.f w0))), .v (.int .i64 (-1))], [.cells [.v (.string (mk [])), (E.list [x, A, B]).sp], zeroO, outO (Vl.f v0).txt (Vl.f w0).txt, .vec 1 []]) := by
      rintro D rfl; rfl
    by_cases hl : (kids a (.f v0)).length = (kids a (.f w0)).length
    · rw [if_neg (by omega)]
      have hloop := LS_chgS A.at (.list [x, A, B]) (kids a (.f v0)) (kids a (.f w0)) (by omega) hl (fun h hh => kid_txt hb hn hh) (fun h hh => kid_txt hb' hn' hh) (Vl.f v0).txt (Vl.f w0).txt (kids a (.f v0)).length 0 [] (by omega) (by simp) (fun j hj => by cases hj)
      rw [List.drop_zero, List.drop_zero, List.nil_append] at hloop
      have hbd := diffs_bd (kids a (.f v0)) (kids a (.f w0)) 0
      generalize hD : diffs (kids a (.f v0)) (kids a (.f w0)) 0 = D at hbd hloop ⊢
      match D, hbd with
      | [], hbd =>
        refine wp_loopB hloop (fun ys o e => ?_) (fun ys o e => ?_)
        · rw [whole [] rfl] at e
          cases e
          simp only [↓zp, zs, hasK, zt, hasK, hasC, sp_has]
          exact ⟨fun _ => ⟨rfl, rfl⟩, fun h => by omega⟩
        · rw [whole [] rfl] at e; cases e
      | k :: k2 :: D, hbd =>
        refine wp_loopB hloop (fun ys o e => ?_) (fun ys o e => ?_)
        · rw [chgRes, if_neg (by simp)] at e; cases e
        · rw [chgRes, if_neg (by simp)] at e
          cases e
          simp only [↓zp, zs, hasK, zt, hasK, hasC, sp_has]
          exact ⟨rfl, rfl⟩
      | [k], hbd =>
        obtain ⟨_, b1, b2⟩ := hbd k List.mem_cons_self
        have b1 : k < (kids a (.f v0)).length := by omega
        have b2 : k < (kids a (.f w0)).length := by omega
        obtain ⟨e1, m1⟩ := kids_get b1
        obtain ⟨e2, m2⟩ := kids_get b2
        have p2 := plug_txt hb hn (kids_bel hb' m2).2 (by have := kids_sz m2; omega) m1
        refine wp_loopB hloop (fun ys o e => ?_) (fun ys o e => ?_)
        · rw [chgRes, if_pos (by simp)] at e
          cases e
          simp only [↓zp, zs, hasK, zt, hasK, hasC, sp_has, atI, toNat_two, hP.1, hP.2.1, hP.2.2.1, hP.2.2.2, sAV_len, sAV_get b1, sAV_get b2, Int.toNat_natCast, sp_hasL, sp_hasL4]
          refine ⟨fun h => by omega, fun _ => ?_⟩
          repeat refine ⟨by omega, ?_⟩
          refine wp_det (S_l4Plug (kids a (.f v0))[k].1.nodes (kids a (.f v0))[k].1 (Nat.le_refl _) B _ a hA (by rw [← e1]; exact ctx_kid m1) A.at (kids a (.f w0))[k].2) ?_
          simp only [↓zp, zs, hasK, zt, sp_hasL]
          repeat refine ⟨by omega, ?_⟩
          refine wp_det (S_mk1 _ _) ?_
          simp only [↓zp, zs, hasK, zt, sp_hasL]
          repeat refine ⟨by omega, ?_⟩
          rw [e1, e2] at p2
          have htx := S_l1Text (Vl.f (plug a (kids a (.f v0))[k].1 (kids a (.f w0))[k].2)).toE (toE_ok _) p2
          rw [sav_sp] at htx
          simp only [Vl.toE, at_list] at htx
          refine wp_det htx ?_
          simp only [↓zp, zs, hasK, zt, sp_has, e1, e2, sAV_len, sAV_get b1, sAV_get b2, Int.toNat_natCast, sp_hasL, sp_hasL4]
          refine ⟨fun hne => ?_, fun he => ?_⟩
          · have hne' : ¬ (Vl.f (plug a (kids a (.f v0))[k].1 (kids a (.f w0))[k].2)).txt = (Vl.f w0).txt := hne
            rw [if_neg hne']
            exact ⟨rfl, rfl⟩
          · have he' : (Vl.f (plug a (kids a (.f v0))[k].1 (kids a (.f w0))[k].2)).txt = (Vl.f w0).txt := he
            rw [if_pos he']
            repeat refine ⟨by omega, ?_⟩
            rw [e1] at m1; rw [e2] at m2
            have s1 := kids_sz m1
            have s2 := kids_sz m2
            have hlen := chgN_len n a (kids a (.f v0))[k].2 (kids a (.f w0))[k].2 (by omega)
            refine wp_det (S_l7Change x A B a hA hx n (kids a (.f v0))[k].2 (kids a (.f w0))[k].2 (by omega) (by omega) (by omega) (kids_bel hb m1).2 (kids_bel hb' m2).2 (kids_vis hA .nil hx hv m1) (kids_vis hA .nil hx hv' m2)) ?_
            simp only [↓zp, zs, hasK, zt, hasL, has_sl, has_str, elems_sl, intsAV_len]
            refine ⟨⟨allLen_ints _, by omega⟩, rfl, rfl⟩
        · rw [chgRes, if_pos (by simp)] at e; cases e
    · rw [if_pos hl]
      refine wp_loopB (LS_chgE A.at (.list [x, A, B]) (kids a (.f v0)) (kids a (.f w0)) hl (Vl.f v0).txt (Vl.f w0).txt) (fun ys o e => ?_) (fun ys o e => ?_)
      · rw [whole [] rfl] at e
        cases e
        simp only [↓zp, zs, hasK, zt, hasK, hasC, sp_has]
        exact ⟨fun _ => ⟨rfl, rfl⟩, fun h => by omega⟩
      · rw [whole [] rfl] at e; cases e
end Go.Proofs.Trees
