/-
  Part of a proof: laws over values.
-/
import Derived.Test.YtcbmbafopahijabGreatDoorJ1
set_option linter.unusedVariables false
set_option linter.unusedSimpArgs false
namespace Go.Proofs.Trees
open Go Go.VL Go.RowKit
/-! ### The reference's holes -/
theorem names_loo {env : List Fr} (h : WF env) : ∀ w, w ∈ names env → isLoo w = true := by
  induction h with
  | nil => intro w hw; cases hw
  | cons hs _ _ _ _ _ ih =>
    intro w hw
    simp only [names, List.mem_append, List.mem_singleton] at hw
    rcases hw with hw | rfl
    · exact ih w hw
    · exact hs
theorem nmAt_mem {ar : List (List UInt8)} {k : Nat} (h : k < ar.length) : nmAt ar k ∈ ar := by
  unfold nmAt
  have : ar.length - 1 - k < ar.length := by omega
  simp [List.getD_eq_getElem?_getD, this]
/-- A name that may be looked for. -/
def seek (s : List UInt8) (ar : List (List UInt8)) : Prop := isPar s = true ∨ (lastOf s ar ar.length).isSome = true
theorem seek_loo {s : List UInt8} {ar : List (List UInt8)} {u : Nat} (hl : ∀ w, w ∈ ar → isLoo w = true) (h : lastOf s ar ar.length = some u) : isLoo s = true := by
  obtain ⟨h1, h2⟩ := lastOf_at _ _ (Nat.le_refl _) h
  rw [← h2]; exact hl _ (nmAt_mem h1)
theorem par_last {s : List UInt8} {ar : List (List UInt8)} (hl : ∀ w, w ∈ ar → isLoo w = true) (h : isPar s = true) : lastOf s ar ar.length = none := by
  cases e : lastOf s ar ar.length with
  | none => rfl
  | some u =>
    have := seek_loo hl e
    rw [par_not_loo h] at this; cases this
theorem at_tgS {s0 s : List UInt8} {ar : List (List UInt8)} {t : Ty} (ht : tyOf (.atom s0) ar = some t) (hl : ∀ w, w ∈ ar → isLoo w = true) (hs : seek s ar) : isAt t (tgS s ar) = decide (s0 = s) := by
  have h48 : ∀ b : UInt8, isPar [b] = false → isLoo [b] = false → s ≠ [b] := fun b h1 h2 e => by
    subst e
    rcases hs with h | h
    · rw [h1] at h; cases h
    · obtain ⟨u, hu⟩ := Option.isSome_iff_exists.1 h
      rw [seek_loo hl hu] at h2; cases h2
  simp only [tyOf] at ht
  split at ht
  · rename_i e; cases ht; subst e
    have := h48 48 rfl rfl
    rw [decide_eq_false (fun h => this h.symm)]; cases tgS s ar <;> rfl
  · split at ht
    · rename_i e; cases ht; subst e
      have := h48 49 rfl rfl
      rw [decide_eq_false (fun h => this h.symm)]; cases tgS s ar <;> rfl
    · split at ht
      · rename_i hp
        cases ht
        unfold tgS
        cases e : lastOf s ar ar.length with
        | none => rfl
        | some u =>
          have hloo := seek_loo hl e
          show false = _
          rw [decide_eq_false]
          rintro rfl
          rw [par_not_loo hp] at hloo; cases hloo
      · rename_i hnp
        split at ht
        · split at ht
          · rename_i u hu
            cases ht
            unfold tgS
            cases e : lastOf s ar ar.length with
            | none =>
              show false = _
              rw [decide_eq_false]
              rintro rfl
              rw [hu] at e; cases e
            | some u' =>
              show decide (u = u') = _
              rw [Bool.eq_iff_iff, decide_eq_true_eq, decide_eq_true_eq]
              constructor
              · rintro rfl
                rw [← (lastOf_at _ _ (Nat.le_refl _) hu).2, ← (lastOf_at _ _ (Nat.le_refl _) e).2]
              · rintro rfl
                rw [hu] at e; cases e; rfl
          · rename_i hn
            cases ht
            unfold tgS
            cases e : lastOf s ar ar.length with
            | none => rfl
            | some u =>
              show false = _
              rw [decide_eq_false]
              rintro rfl
              rw [hn] at e; cases e
        · cases ht
theorem tgS_hid {b : E} {ar : List (List UInt8)} {w : List UInt8} {t : Ty} (hb : tyOf b (ar ++ [w]) = some t) (hw : isLoo w = true) (hs : seek w ar) : occ t (tgS w ar).up = false := by
  rcases hs with h | h
  · rw [par_not_loo h] at hw; cases hw
  · obtain ⟨u, hu⟩ := Option.isSome_iff_exists.1 h
    rw [tgS, hu]; exact shadow hb hu
theorem seek_push {s w : List UInt8} {ar : List (List UInt8)} (h : w ≠ s) (hs : seek s ar) : seek s (ar ++ [w]) := by
  rcases hs with h1 | h1
  · exact .inl h1
  · right; rw [lastOf_other ar h]; obtain ⟨u, hu⟩ := Option.isSome_iff_exists.1 h1; rw [hu]; rfl
theorem seek_ne {s : List UInt8} {ar : List (List UInt8)} (hl : ∀ w, w ∈ ar → isLoo w = true) (hs : seek s ar) : s ≠ [] := by
  rintro rfl
  rcases hs with h | h
  · cases h
  · obtain ⟨u, hu⟩ := Option.isSome_iff_exists.1 h
    have := seek_loo hl hu; cases this
def IHs (e : E) (s : List UInt8) (t : Ty) (tg : Tg) (v : Vl) : Prop := FSpec Tryz.prog n_spec_l4Holes [.agg [.v (.string (mk e.at)), e.sp], .v (.string (mk s)), .agg [.v (.string (mk v.toE.at)), v.toE.sp]] [] (Det (.sl (sAV (holes t tg v))))
theorem S_l4Holes_n (n : Nat) : ∀ (m : Nat) (v : Vl), v.nodes ≤ m → ∀ (e : E) (env : List Fr) (t : Ty), Ask e env t → vis n v (e, env) = true → env.length + v.nodes < 100000 → ∀ (s : List UInt8), seek s (names env) → IHs e s t (tgS s (names env)) v
  | 0, v, hm => by have := nodes_pos v; omega
  | m + 1, v, hm => by
    intro e env t A hv hl s hs
    have hloo := names_loo A.wf
    unfold IHs
    refine F_spec_l4Holes _ _ _ _ _ ((sp_has _).mpr trivial) ((sp_has _).mpr trivial) ?_
    have hlen := holes_len t (tgS s (names env)) v
    have atomCase : ∀ s0, e = .atom s0 → stuck t v = true → wpT Tryz.prog 244 (t_spec_l4Holes (mk e.at) e.sp (mk s) (mk v.toE.at) v.toE.sp) fun _ xs obs => Det (.sl (sAV (holes t (tgS s (names env)) v))) (xs.headD .any) obs := by
      rintro s0 rfl hst
      have hat := at_tgS A.ty hloo hs
      have hne : s0 ≠ [] := A.ok
      simp only [t_spec_l4Holes, E.at, ↓zp, zs, hasK, zt]
      refine ⟨fun _ => ⟨fun h => ?_, fun h => ?_⟩, fun h => absurd h hne⟩
      · rw [decide_eq_true h] at hat
        rw [holes_at v hat]
        refine ⟨⟨len4 _ _ _ _, by omega⟩, ?_⟩
        simp [Det, sAV, Vl.toE, E.at, E.sp]
      · rw [decide_eq_false h] at hat
        rw [holes_no hat hst]
        simp [Det, sAV]
    have hvh := S_l1Head_vl v
    rw [sav_sp] at hvh
    rcases ty_cases A.wf A.ty with ⟨hb, hq⟩ | ⟨u, g, rfl, hq, hu⟩
    · have hhd : hd e env = (e, env) := hd_none hq
      rcases ty_shapes A.ty hb A.cl with ⟨rfl, rfl⟩ | ⟨rfl, rfl⟩ | ⟨s0, rfl, rfl, hp, h0, h1⟩ | ⟨x, a, b, t1, t2, rfl, hx, rfl, ha, hbb⟩ | ⟨x, a, b, t1, t2, rfl, hx, rfl, ha, hbb⟩ | ⟨x, a, b, t1, rfl, hx, rfl⟩
      · exact atomCase _ rfl (by cases v <;> rfl)
      · exact atomCase _ rfl (by cases v <;> rfl)
      · exact atomCase _ rfl (by cases v <;> rfl)
      · obtain ⟨ok1, ok2, ok3, _⟩ := A.ok
        obtain ⟨f1, f2⟩ := freeLoo_plus A.cl
        have hP := P3.of x a b
        cases v with
        | l w =>
          simp only [vis, hhd, hx, beq_self_eq_true, Bool.true_and] at hv
          simp only [Vl.nodes] at hm hl hlen
          rw [holes_l] at hlen ⊢
          rw [inC_len] at hlen
          have hW := P2.of (.atom [108]) w.toE
          simp only [t_spec_l4Holes, E.at, ↓zp, zs, hasK, zt]
          refine ⟨fun h => absurd rfl h, fun _ => wp_det hvh ?_⟩
          simp only [vh, Vl.toE, toNat_one, toNat_two, ↓zp, zs, hasK, zt, hP.1, hP.2.1, hP.2.2.1, hP.2.2.2, hW.1, hW.2.1, hW.2.2, sp_hasL]
          refine ⟨fun _ => ?_, fun h => absurd rfl h⟩
          repeat refine ⟨by omega, ?_⟩
          refine wp_det (S_l4Holes_n n m w (by omega) a env t1 ⟨ok2, A.wf, ha, f1⟩ hv (by omega) s hs) ?_
          simp only [↓zp, zs, hasK]
          refine wp_detO (S_within [108] Vl.l (fun c => rfl) (holes t1 (tgS s (names env)) w) [] (by simp; omega)) ?_
          simp [↓zp, zs, hasK, Det, List.headD_cons, List.tail_cons]
        | r w =>
          simp only [vis, hhd, hx, beq_self_eq_true, Bool.true_and] at hv
          simp only [Vl.nodes] at hm hl hlen
          rw [holes_r] at hlen ⊢
          rw [inC_len] at hlen
          have hW := P2.of (.atom [114]) w.toE
          simp only [t_spec_l4Holes, E.at, ↓zp, zs, hasK, zt]
          refine ⟨fun h => absurd rfl h, fun _ => wp_det hvh ?_⟩
          simp only [vh, Vl.toE, toNat_one, toNat_two, ↓zp, zs, hasK, zt, hP.1, hP.2.1, hP.2.2.1, hP.2.2.2, hW.1, hW.2.1, hW.2.2, sp_hasL]
          refine ⟨fun h => by simp at h, fun _ => ⟨fun _ => ?_, fun h => absurd rfl h⟩⟩
          repeat refine ⟨by omega, ?_⟩
          refine wp_det (S_l4Holes_n n m w (by omega) b env t2 ⟨ok3, A.wf, hbb, f2⟩ hv (by omega) s hs) ?_
          simp only [↓zp, zs, hasK]
          refine wp_detO (S_within [114] Vl.r (fun c => rfl) (holes t2 (tgS s (names env)) w) [] (by simp; omega)) ?_
          simp [↓zp, zs, hasK, Det, List.headD_cons, List.tail_cons]
        | _ => simp [vis, hhd, hx] at hv
      · obtain ⟨ok1, ok2, ok3, _⟩ := A.ok
        obtain ⟨f1, f2⟩ := freeLoo_times A.cl
        have hP := P3.of x a b
        cases v with
        | p w w' =>
          simp only [vis, hhd, hx, beq_self_eq_true, Bool.true_and, Bool.and_eq_true] at hv
          simp only [Vl.nodes] at hm hl hlen
          rw [holes_p] at hlen ⊢
          simp only [List.length_append, inC_len] at hlen
          have hW := P3.of (.atom [112]) w.toE w'.toE
          simp only [t_spec_l4Holes, E.at, ↓zp, zs, hasK, zt]
          refine ⟨fun h => absurd rfl h, fun _ => wp_det hvh ?_⟩
          simp only [vh, Vl.toE, toNat_one, toNat_two, ↓zp, zs, hasK, zt, hP.1, hP.2.1, hP.2.2.1, hP.2.2.2, hW.1, hW.2.1, hW.2.2.1, hW.2.2.2, sp_hasL]
          refine ⟨fun h => by simp at h, fun _ => ⟨fun h => by simp at h, fun _ => ⟨fun _ => ?_, fun h => absurd rfl h⟩⟩⟩
          repeat refine ⟨by omega, ?_⟩
          refine wp_det (S_l4Holes_n n m w (by omega) a env t1 ⟨ok2, A.wf, ha, f1⟩ hv.1 (by omega) s hs) ?_
          simp only [↓zp, zs, hasK]
          have h1 := LS_hol1 s (mk []) (E.list [x, a, b]).sp ((sp_has _).mpr trivial) (mk []) (E.list [.atom [112], w.toE, w'.toE]).sp w w' (P3.of _ _ _) (holes t1 (tgS s (names env)) w) (by omega) _ 0 [] (Nat.zero_add _) (by simp; omega)
          rw [List.drop_zero, List.nil_append] at h1
          refine wp_loop1 h1 ?_
          simp only [↓zp, zs, hasK, sp_has, hasK, toNat_two, hP.1, hP.2.1, hP.2.2.2, hW.1, hW.2.1, hW.2.2.2, sp_hasL]
          repeat refine ⟨by omega, ?_⟩
          refine wp_det (S_l4Holes_n n m w' (by omega) b env t2 ⟨ok3, A.wf, hbb, f2⟩ hv.2 (by omega) s hs) ?_
          simp only [↓zp, zs, hasK]
          have h2 := LS_hol2 (mk []) (E.list [.atom [112], w.toE, w'.toE]).sp w w' (P3.of _ _ _) (holes t2 (tgS s (names env)) w') (by omega) _ 0 (inC (fun c => Vl.l (.p c w')) (holes t1 (tgS s (names env)) w)) (Nat.zero_add _) (by rw [inC_len]; omega)
          rw [List.drop_zero] at h2
          refine wp_loop1 h2 ?_
          simp [↓zp, zs, hasK, Det]
        | _ => simp [vis, hhd, hx] at hv
      · obtain ⟨t1', he1, h1, f1, hw1⟩ := wf_enter A.wf A.ok hx A.ty A.cl
        cases he1
        obtain ⟨ok1, ok2, ok3, _⟩ := A.ok
        obtain ⟨_, hla, _, _⟩ := tyOf_rec_inv hx A.ty
        have A' : Ask b (.mk a.at (.list [x, a, b]) env :: env) t1 := ⟨ok3, hw1, h1, f1⟩
        have hnm : names (.mk a.at (.list [x, a, b]) env :: env) = names env ++ [a.at] := rfl
        have hP := P3.of x a b
        cases v with
        | f w =>
          simp only [vis, hhd, hx, beq_self_eq_true, Bool.true_and] at hv
          simp only [Vl.nodes] at hm hl hlen
          have hW := P2.of (.atom [102]) w.toE
          simp only [t_spec_l4Holes, E.at, ↓zp, zs, hasK, zt]
          refine ⟨fun h => absurd rfl h, fun _ => wp_det hvh ?_⟩
          simp only [vh, Vl.toE, toNat_one, toNat_two, ↓zp, zs, hasK, zt, hP.1, hP.2.1, hP.2.2.1, hP.2.2.2, hW.1, hW.2.1, hW.2.2, sp_hasL]
          refine ⟨fun h => by simp at h, fun _ => ⟨fun h => by simp at h, fun _ => ⟨fun h => by simp at h, fun _ => ?_⟩⟩⟩
          repeat refine ⟨by omega, ?_⟩
          refine ⟨fun h => ?_, fun h => ?_⟩
          · -- the name is bound anew
            have hh : a.at = s := h
            subst hh
            have : occ (.rc t1) (tgS a.at (names env)) = false := tgS_hid h1 hla hs
            rw [holes_occ _ _ (Nat.le_refl _) _ _ this]
            simp [Det, sAV]
          · have hh : a.at ≠ s := h
            rw [holes_f] at hlen ⊢
            simp only [List.length_append, inC_len] at hlen
            repeat refine ⟨by omega, ?_⟩
            have i1 := S_l4Holes_n n m w (by omega) b _ t1 A' hv (by simp; omega) s (by rw [hnm]; exact seek_push hh hs)
            rw [hnm, tgS_other _ hh] at i1
            refine wp_det i1 ?_
            simp only [↓zp, zs, hasK]
            have h3 := LS_hol3 s a.at (mk []) (E.list [x, a, b]).sp ((sp_has _).mpr trivial) (mk []) (E.list [.atom [102], w.toE]).sp ((sp_has _).mpr trivial) (holes t1 (tgS s (names env)).up w) (by omega) _ 0 [] (Nat.zero_add _) (by simp; omega)
            rw [List.drop_zero, List.nil_append] at h3
            refine wp_loop1 h3 ?_
            simp only [↓zp, zs, hasK, sp_has, hasK, toNat_one, toNat_two, hP.1, hP.2.1, hP.2.2.2, hW.1, hW.2.1, hW.2.2, sp_hasL]
            repeat refine ⟨by omega, ?_⟩
            have i2 := S_l4Holes_n n m w (by omega) b _ t1 A' hv (by simp; omega) a.at (by rw [hnm]; right; rw [lastOf_same]; rfl)
            rw [hnm, tgS_same] at i2
            refine wp_det i2 ?_
            simp only [↓zp, zs, hasK]
            have hl2 := holes_len t1 (.bd 0) w
            have ih3 : ∀ h, h ∈ holes t1 (.bd 0) w → IHs (.list [x, a, b]) s (.rc t1) (tgS s (names env)) h.2 := fun h hh => by
              have h3 := (holes_sz hh).1
              have h4 := vis_hole n m w (by omega) b _ t1 A' hv 0 _ rfl h hh
              exact S_l4Holes_n n m h.2 (by omega) (.list [x, a, b]) env (.rc t1) A h4 (by omega) s hs
            have h4 := LS_hol4 s (.list [x, a, b]) t1 (tgS s (names env)) (holes t1 (.bd 0) w) (by omega) ih3 _ 0 (inC (fun c => .f (.l c)) (holes t1 (tgS s (names env)).up w)) (Nat.zero_add _) (by
              simp only [List.drop_zero, List.length_append, inC_len]
              have hlen2 : (holes t1 (tgS s (names env)).up w).length + ((holes t1 (.bd 0) w).flatMap (chn t1 (tgS s (names env)))).length ≤ 1 + w.nodes := hlen
              omega)
            rw [List.drop_zero] at h4
            simp only [E.at] at h4
            refine wp_loop1 h4 ?_
            simp [↓zp, zs, hasK, Det]
        | _ => simp [vis, hhd, hx] at hv
    · cases e with
      | atom s0 => exact atomCase _ rfl (by cases v <;> rfl)
      | list l => exact absurd hq (by rw [show (E.list l).at = [] from rfl, findF_nil A.wf]; simp)
end Go.Proofs.Trees
