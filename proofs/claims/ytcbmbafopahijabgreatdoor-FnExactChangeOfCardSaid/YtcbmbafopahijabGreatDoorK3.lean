/-
  Part of a proof: laws over values.
-/
import Derived.Test.YtcbmbafopahijabGreatDoorK2
set_option linter.unusedVariables false
set_option linter.unusedSimpArgs false
namespace Go.Proofs.Trees
open Go Go.VL Go.RowKit
/-! ### The program's change of two values -/
theorem kids_get {a : Ty} {v : Vl} {k : Nat} (h : k < (kids a v).length) : (kids a v).getD k hl0 = (kids a v)[k] ∧ (kids a v).getD k hl0 ∈ kids a v := by
  have e : (kids a v).getD k hl0 = (kids a v)[k] := by simp [List.getD_eq_getElem?_getD, h]
  exact ⟨e, by rw [e]; exact List.getElem_mem _⟩
theorem kids_len {a : Ty} {v : Vl} : (kids a v).length + 1 ≤ v.nodes := by
  have := len_nsum (kids a v); have := kids_nsum a v; omega
theorem kid_ctx_nodes {a : Ty} {v : Vl} {h : Hl} (hh : h ∈ kids a v) : h.1.nodes ≤ 4 * v.nodes := by
  cases v with
  | f w => have := (holes_sz hh).2; simp only [Vl.nodes]; omega
  | _ => cases hh
theorem kid_txt {a : Ty} {v : Vl} (hb : v.bel 100) (hn : v.nodes ≤ 200) {h : Hl} (hh : h ∈ kids a v) : h.2.txt.length ≤ 900000 := by
  have := txt_len h.2 (kids_bel hb hh).2
  have := kids_sz hh
  omega
theorem plug_txt {a : Ty} {v w : Vl} (hb : v.bel 100) (hn : v.nodes ≤ 200) (hb' : w.bel 100) (hn' : w.nodes ≤ 200) {h : Hl} (hh : h ∈ kids a v) : (Vl.f (plug a h.1 w)).txt.length ≤ 900000 := by
  have h1 := txt_len (Vl.f (plug a h.1 w)) (by exact plug_bel 100 a h.1 w (kids_bel hb hh).1 hb')
  have h2 := plug_nodes a h.1 w
  have h3 := kid_ctx_nodes hh
  simp only [Vl.nodes] at h1
  omega
theorem LS_diff (a : Ty) (l r : List Hl) (hl : l.length ≤ 1000) (hlr : l.length = r.length) (h1 : ∀ h, h ∈ l → h.2.txt.length ≤ 900000) (h2 : ∀ h, h ∈ r → h.2.txt.length ≤ 900000) (o n : List UInt8) : ∀ (k i : Nat) (out : List Nat), i + k = l.length → out.length ≤ i →
    LS_impl_changeOf_1 [(Ty.rc a).av, .sl (hAV l), .sl (hAV r), .sl (hAV l), .v (.int .i64 (l.length : Int)), .v (.int .i64 (i : Int))] [.cells [.v (.slice none 0 0), .v (.string (mk [])), .v (.string (mk []))], .cells [.any, .v (.string (mk o)), .v (.string (mk n))], .vec 1 [], .vec 1 (intsAV out)]
      (LIs 1 [(Ty.rc a).av, .sl (hAV l), .sl (hAV r)] [.cells [.v (.slice none 0 0), .v (.string (mk [])), .v (.string (mk []))], .cells [.any, .v (.string (mk o)), .v (.string (mk n))], .vec 1 [], .vec 1 (intsAV (out ++ diffs (l.drop i) (r.drop i) i))])
  | 0, i, out, hi, ho => by
    refine G_impl_changeOf_1 _ _ _ _ _ _ _ _ _ _ _ _ _ ?_
    have : i = l.length := by omega
    subst this
    simp only [r_impl_changeOf_1, ↓zp, zs, hasK, hAV_len, ty_has, hasK, List.drop_length]
    exact ⟨fun h => by omega, fun _ => by simp [LIs, diffs]⟩
  | k + 1, i, out, hi, ho => by
    have hlt : i < l.length := by omega
    have hlt' : i < r.length := by omega
    refine G_impl_changeOf_1 _ _ _ _ _ _ _ _ _ _ _ _ _ ?_
    simp only [r_impl_changeOf_1, ↓zp, zs, hasK, zt, hAV_len, ty_has, hasK, hasL, hAV_get hlt, hAV_get hlt', vl_has, intsAV_len, intsAV_one]
    refine ⟨fun _ => ?_, fun h => by omega⟩
    repeat refine ⟨by omega, ?_⟩
    refine wp_det (S_vtext _ (h1 _ (List.getElem_mem hlt))) ?_
    simp only [↓zp, zs, hasK, zt, vl_has]
    repeat refine ⟨by omega, ?_⟩
    refine wp_det (S_vtext _ (h2 _ (List.getElem_mem hlt'))) ?_
    simp only [↓zp, zs, hasK, zt, vl_has, intsAV_len, intsAV_one]
    rw [diffs_drop l r hlt hlt', wrap_succ i (by omega)]
    refine ⟨fun hne => ?_, fun he => ?_⟩
    · rw [if_neg (by simpa using hne)]
      have := LS_diff a l r hl hlr h1 h2 o n k (i + 1) (out ++ [i]) (by omega) (by simp; omega)
      rw [List.append_assoc] at this
      refine ⟨⟨allLen1 _, by omega⟩, ?_⟩
      exact this
    · rw [if_pos (by simpa using he)]
      exact LS_diff a l r hl hlr h1 h2 o n k (i + 1) out (by omega) (by omega)
abbrev chAVr (r : Chg) : AV := .agg [.vec 0, .v (.string (mk r.2.1.txt)), .v (.string (mk r.2.2.txt))]
theorem plain_ints (l : List Nat) : ∀ x, x ∈ [Ob.vec 1 (intsAV l)] → plainOb x := by
  intro x hx
  simp only [List.mem_singleton] at hx
  subst hx
  intro e he c hc
  obtain ⟨k, _, rfl⟩ := List.mem_map.1 he
  simp only [List.mem_singleton] at hc
  exact ⟨_, hc⟩
theorem S_changeOf (x A B : E) (a : Ty) (hA : Ask B [.mk A.at (.list [x, A, B]) []] a) (hx : x.at = [114, 101, 99]) : ∀ (n : Nat) (v w : Vl), v.nodes ≤ n → v.nodes ≤ 200 → w.nodes ≤ 200 → v.bel 100 → w.bel 100 → vis 100 v (.list [x, A, B], []) = true → vis 100 w (.list [x, A, B], []) = true →
    FSpec Tryz.prog n_impl_changeOf [(Ty.rc a).av, v.iav, w.iav] [] (DetO (chAVr (chgN n a v w)) [.vec 1 (intsAV (chgN n a v w).1)])
  | 0, v, w, h, _, _, _, _, _, _ => by have := nodes_pos v; omega
  | n + 1, v, w, h, hn, hn', hb, hb', hv, hv' => by
    refine F_impl_changeOf _ _ _ ((ty_has _).mpr trivial) ((vl_has _).mpr trivial) ((vl_has _).mpr trivial) ?_
    have t1 := txt_len v hb
    have t2 := txt_len w hb'
    have k1 := kids_len (a := a) (v := v)
    have k2 := kids_len (a := a) (v := w)
    unfold t_impl_changeOf
    refine wp_det (S_vtext v (by omega)) ?_
    simp only [↓zp, zs, hasK, zt]
    refine wp_det (S_vtext w (by omega)) ?_
    simp only [↓zp, zs, hasK, zt]
    refine ⟨fun he => ?_, fun hne => ?_⟩
    · have : v = w := txt_inj hb hb' (by simpa using he)
      subst this
      rw [chg_self]
      exact ⟨rfl, rfl⟩
    refine wp_det (S_loopHoles 100 v x A B a hA hx hv (by omega)) ?_
    simp only [↓zp, zs, hasK, zt]
    refine wp_det (S_loopHoles 100 w x A B a hA hx hv' (by omega)) ?_
    simp only [↓zp, zs, hasK, zt, hAV_len]
    rw [chgN, chgS]
    refine ⟨fun hl => ?_, fun hl => ?_⟩
    · rw [if_pos (by first | omega | (simp at hl; omega))]
      exact ⟨rfl, rfl⟩
    have hl : (kids a v).length = (kids a w).length := by first | omega | (simp at hl; omega)
    rw [if_neg (by omega)]
    have hloop := LS_diff a (kids a v) (kids a w) (by omega) hl (fun h hh => kid_txt hb hn hh) (fun h hh => kid_txt hb' hn' hh) v.txt w.txt (kids a v).length 0 [] (by omega) (by simp)
    rw [List.drop_zero, List.drop_zero, List.nil_append] at hloop
    refine wp_loop1 hloop ?_
    simp only [↓zp, zs, hasK, zt, hasK, hasC, hAV_len, ty_has, intsAV_len]
    have hbd := diffs_bd (kids a v) (kids a w) 0
    generalize hD : diffs (kids a v) (kids a w) 0 = D at hbd ⊢
    match D, hbd with
    | [], hbd => exact ⟨fun _ => ⟨rfl, rfl⟩, fun h => by simp at h⟩
    | k :: k2 :: D, hbd => exact ⟨fun _ => ⟨rfl, rfl⟩, fun h => by simp at h; omega⟩
    | [k], hbd =>
      obtain ⟨_, b1, b2⟩ := hbd k List.mem_cons_self
      have b1 : k < (kids a v).length := by omega
      have b2 : k < (kids a w).length := by omega
      obtain ⟨e1, m1⟩ := kids_get b1
      obtain ⟨e2, m2⟩ := kids_get b2
      refine ⟨fun h => by simp at h, fun _ => ?_⟩
      have g0 : ((intsAV [k]).getD 0 []).getD 0 .any = .v (.int .i64 (k : Int)) := rfl
      have g00 : ((intsAV [k]).getD 0 []).length = 1 := rfl
      have p2 := plug_txt hb hn (kids_bel hb' m2).2 (by have := kids_sz m2; omega) m1
      simp only [g0, g00, ↓zp, zs, hasK, zt, toInt_v, Int.toNat_natCast, hAV_get b1, hAV_get b2, vl_has, hAV_len, List.length_cons, List.length_nil]
      repeat refine ⟨by omega, ?_⟩
      refine wp_det (S_loopPlug a (kids a v)[k].1 (kids a w)[k].2 (by rw [← e1]; exact ctx_kid m1)) ?_
      simp only [↓zp, zs, hasK, zt, vl_has]
      rw [e1, e2] at p2
      refine wp_det (S_vtext _ p2) ?_
      simp only [↓zp, zs, hasK, zt, vl_has, e1, e2]
      refine ⟨fun hne => ?_, fun he => ?_⟩
      · rw [if_neg (by simpa using hne)]
        exact ⟨rfl, rfl⟩
      · rw [if_pos (by simpa using he)]
        repeat refine ⟨by omega, ?_⟩
        rw [e1] at m1; rw [e2] at m2
        have s1 := kids_sz m1
        have s2 := kids_sz m2
        have hlen := chgN_len n a (kids a v)[k].2 (kids a w)[k].2 (by omega)
        refine wp_detO (S_changeOf x A B a hA hx n (kids a v)[k].2 (kids a w)[k].2 (by omega) (by omega) (by omega) (kids_bel hb m1).2 (kids_bel hb' m2).2 (kids_vis hA .nil hx hv m1) (kids_vis hA .nil hx hv' m2)) ?_
        simp only [↓zp, zs, hasK, zt, hasC, intsAV_len, List.headD_cons, List.tail_cons]
        refine ⟨plain_ints _, ⟨allLen_ints _, by omega⟩, rfl, rfl⟩
end Go.Proofs.Trees
