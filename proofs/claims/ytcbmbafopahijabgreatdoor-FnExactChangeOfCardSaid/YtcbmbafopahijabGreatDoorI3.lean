/-
  Part of a proof: laws over values.
-/
import Derived.Test.YtcbmbafopahijabGreatDoorI2
set_option linter.unusedVariables false
set_option linter.unusedSimpArgs false
namespace Go.Proofs.Trees
open Go Go.VL Go.RowKit
/-! ### The program's holes -/
abbrev chn (a : Ty) (tg : Tg) : Hl → List Hl := fun h => inC (fun c => .f (.r (.p h.1 c))) (holes (.rc a) tg h.2)
theorem hl_eta (l : List Hl) {i : Nat} (hi : i < l.length) : l[i] ∈ l := List.getElem_mem _
def IHo (t : Ty) (ea : AV) (s : List UInt8) (fr : AV) (tg : Tg) (v : Vl) : Prop := FSpec Tryz.prog n_impl_holesOf [.agg [t.av, ea], v.iav, .agg [.v (.string (mk s)), fr]] [] (Det (.sl (hAV (holes t tg v))))
theorem LS_holesOf (a : Ty) (ea : AV) (s : List UInt8) (fr : AV) (tg : Tg) (he : LK.ptr.has ea) (hf : LK.ptr.has fr) (l : List Hl) (hl : l.length ≤ 1000000) (ih : ∀ h, h ∈ l → IHo (.rc a) ea s fr tg h.2) :
    ∀ (k i : Nat) (out : List Hl), i + k = l.length → (out ++ (l.drop i).flatMap (chn a tg)).length ≤ 1000000 →
    LS_impl_holesOf_1 [.sl (hAV l), .v (.int .i64 (l.length : Int)), .v (.int .i64 (i : Int))] [.cells [(Ty.rc a).av, ea], .cells [.v (.string (mk s)), fr], .cells [.any], .vec 2 (hAV out)] (LIs 1 [] [.cells [.any], .vec 2 (hAV (out ++ (l.drop i).flatMap (chn a tg)))])
  | 0, i, out, hi, ho => by
    refine G_impl_holesOf_1 _ _ _ _ _ _ _ _ ?_
    have : i = l.length := by omega
    subst this
    simp only [r_impl_holesOf_1, ↓zp, zs, hasK, hAV_len, ty_has, he, hf]
    exact ⟨fun h => by omega, fun _ => by simp [LIs]⟩
  | k + 1, i, out, hi, ho => by
    have hlt : i < l.length := by omega
    have hd : (l.drop i).flatMap (chn a tg) = chn a tg (l[i]) ++ (l.drop (i + 1)).flatMap (chn a tg) := by rw [List.drop_eq_getElem_cons hlt, List.flatMap_cons]
    rw [hd] at ho ⊢
    refine G_impl_holesOf_1 _ _ _ _ _ _ _ _ ?_
    simp only [r_impl_holesOf_1, ↓zp, zs, hasK, zt, hAV_len, hAV_get hlt, ty_has, vl_has, hasL, he, hf]
    refine ⟨fun _ => ⟨by omega, by omega, ?_⟩, fun h => by omega⟩
    refine wp_det (ih _ (hl_eta l hlt)) ?_
    simp only [↓zp, zs, hasK]
    have hb : out.length + (holes (.rc a) tg (l[i]).2).length ≤ 1000000 := by
      simp only [List.length_append, inC_len] at ho; omega
    refine wp_detO (S_add6 _ _ ((vl_has _).mpr trivial) ((vl_has _).mpr trivial) (fun c => .f (.r (.p (l[i]).1 c))) (fun c => S_h6 (l[i]).1 (l[i]).2 c) (holes (.rc a) tg (l[i]).2) out hb) ?_
    simp only [↓zp, zs, hasK, hasC, vl_has]
    rw [wrap_succ i (by omega), ← List.append_assoc]
    exact LS_holesOf a ea s fr tg he hf l hl ih k (i + 1) _ (by omega) (by rw [List.append_assoc]; exact ho)
theorem S_holesOf (n : Nat) : ∀ (m : Nat) (v : Vl), v.nodes ≤ m → ∀ (e : E) (env : List Fr) (t : Ty), Ask e env t → vis n v (e, env) = true → env.length + v.nodes < 100000 → ∀ (ea : AV) (ids : List Nat), EnvA ea ids → ids.length = env.length → ∀ (tg : Tg) (s : List UInt8) (fr : AV), TgA tg ids s fr → IHo t ea s fr tg v
  | 0, v, hm => by have := nodes_pos v; omega
  | m + 1, v, hm => by
    intro e env t A hv hl ea ids he hids tg s fr ht
    unfold IHo
    refine F_impl_holesOf _ _ _ _ _ ((ty_has _).mpr trivial) he.has ((vl_has _).mpr trivial) ht.has ?_
    unfold t_impl_holesOf
    refine wp_det (S_isAt t tg ea ids s fr he ht (fun u hu => by
      rcases ty_cases A.wf A.ty with ⟨hb, _⟩ | ⟨u', g, rfl, _, hg⟩
      · rw [hu] at hb; cases hb
      · cases hu; rw [hids]; exact (List.getElem?_eq_some_iff.1 hg).1) (by omega)) ?_
    have hlen := holes_len t tg v
    cases hat : isAt t tg with
    | true =>
      rw [holes_at v hat]
      simp only [↓zp, zs, hasK, Det, hAV, List.map_cons, List.map_nil, Vl.iav]
      exact ⟨fun _ => trivial, fun h => (by cases h)⟩
    | false =>
    simp only [↓zp, zs, hasK]
    refine ⟨fun h => (by cases h), fun _ => ?_⟩
    rcases ty_cases A.wf A.ty with ⟨hb, hq⟩ | ⟨u, g, rfl, hq, hu⟩
    · have hhd : hd e env = (e, env) := hd_none hq
      rcases ty_shapes A.ty hb A.cl with ⟨rfl, rfl⟩ | ⟨rfl, rfl⟩ | ⟨s, rfl, rfl, hp, h0, h1⟩ | ⟨x, a, b, t1, t2, rfl, hx, rfl, ha, hbb⟩ | ⟨x, a, b, t1, t2, rfl, hx, rfl, ha, hbb⟩ | ⟨x, a, b, t1, rfl, hx, rfl⟩
      · rw [holes_no hat (by cases v <;> rfl)]
        simp [Ty.av, ↓zp, zs, hasK, Det, hAV]
      · rw [holes_no hat (by cases v <;> rfl)]
        simp [Ty.av, ↓zp, zs, hasK, Det, hAV]
      · rw [holes_no hat (by cases v <;> rfl)]
        simp [Ty.av, ↓zp, zs, hasK, Det, hAV]
      · obtain ⟨ok1, ok2, ok3, _⟩ := A.ok
        obtain ⟨f1, f2⟩ := freeLoo_plus A.cl
        have hL := S_left t1.av t2.av ea 43 (mk []) 0 ((ty_has _).mpr trivial) he.has
        have hR := S_right t1.av t2.av ea 43 (mk []) 0 ((ty_has _).mpr trivial) he.has
        cases v with
        | l w =>
          simp only [vis, hhd, hx, beq_self_eq_true, Bool.true_and] at hv
          simp only [Vl.nodes] at hm hl hlen
          rw [holes_l] at hlen ⊢
          rw [inC_len] at hlen
          simp only [Ty.av, ↓zp, zs, hasK]
          refine ⟨by omega, fun _ => ?_, fun h => absurd rfl h⟩
          refine wp_det hL ?_
          simp only [↓zp, zs, hasK, hasL, ty_has, he.has, Vl.iav, vl_has]
          refine ⟨by omega, fun h => by omega, fun _ => ⟨by omega, ?_⟩⟩
          refine wp_det (S_holesOf n m w (by omega) a env t1 ⟨ok2, A.wf, ha, f1⟩ hv (by omega) ea ids he hids tg s fr ht) ?_
          simp only [↓zp, zs, hasK]
          have hadd := S_add2 (Vl.l w).iav ((vl_has _).mpr trivial) Vl.l (fun c => S_h2l w c) (holes t1 tg w) [] (by simp; omega)
          simp only [Vl.iav, hAV, List.map_nil, List.nil_append] at hadd
          refine wp_detO hadd ?_
          simp [↓zp, zs, hasK, hasC, Det, vl_has, hAV, has_ptr]
        | r w =>
          simp only [vis, hhd, hx, beq_self_eq_true, Bool.true_and] at hv
          simp only [Vl.nodes] at hm hl hlen
          rw [holes_r] at hlen ⊢
          rw [inC_len] at hlen
          simp only [Ty.av, ↓zp, zs, hasK]
          refine ⟨by omega, fun _ => ?_, fun h => absurd rfl h⟩
          refine wp_det hL ?_
          simp only [↓zp, zs, hasK, hasL, ty_has, he.has, Vl.iav, vl_has]
          refine ⟨by omega, fun _ => ?_, fun h => absurd rfl h⟩
          refine wp_det hR ?_
          simp only [↓zp, zs, hasK, hasL, ty_has, he.has, vl_has]
          refine ⟨by omega, ?_⟩
          refine wp_det (S_holesOf n m w (by omega) b env t2 ⟨ok3, A.wf, hbb, f2⟩ hv (by omega) ea ids he hids tg s fr ht) ?_
          simp only [↓zp, zs, hasK]
          have hadd := S_add2 (Vl.r w).iav ((vl_has _).mpr trivial) Vl.r (fun c => S_h2r w c) (holes t2 tg w) [] (by simp; omega)
          simp only [Vl.iav, hAV, List.map_nil, List.nil_append] at hadd
          refine wp_detO hadd ?_
          simp [↓zp, zs, hasK, hasC, Det, vl_has, hAV, has_ptr]
        | _ => simp [vis, hhd, hx] at hv
      · obtain ⟨ok1, ok2, ok3, _⟩ := A.ok
        obtain ⟨f1, f2⟩ := freeLoo_times A.cl
        have hL := S_left t1.av t2.av ea 42 (mk []) 0 ((ty_has _).mpr trivial) he.has
        have hR := S_right t1.av t2.av ea 42 (mk []) 0 ((ty_has _).mpr trivial) he.has
        cases v with
        | p w w' =>
          simp only [vis, hhd, hx, beq_self_eq_true, Bool.true_and, Bool.and_eq_true] at hv
          simp only [Vl.nodes] at hm hl hlen
          rw [holes_p] at hlen ⊢
          simp only [List.length_append, inC_len] at hlen
          simp only [Ty.av, ↓zp, zs, hasK]
          refine ⟨by omega, fun h => by omega, fun _ => ⟨fun _ => ?_, fun h => absurd rfl h⟩⟩
          refine wp_det hL ?_
          simp only [↓zp, zs, hasK, hasL, ty_has, he.has, Vl.iav, vl_has]
          refine ⟨by omega, ?_⟩
          refine wp_det (S_holesOf n m w (by omega) a env t1 ⟨ok2, A.wf, ha, f1⟩ hv.1 (by omega) ea ids he hids tg s fr ht) ?_
          simp only [↓zp, zs, hasK]
          have hadd := S_add3 (Vl.p w w').iav ((vl_has _).mpr trivial) (fun c => .l (.p c w')) (fun c => S_h3 w w' c) (holes t1 tg w) [] (by simp; omega)
          simp only [Vl.iav, hAV, List.map_nil, List.nil_append] at hadd
          refine wp_detO hadd ?_
          simp only [↓zp, zs, hasK, hasC, vl_has]
          refine wp_det hR ?_
          simp only [↓zp, zs, hasK, hasL, ty_has, he.has, vl_has]
          refine ⟨by omega, ?_⟩
          refine wp_det (S_holesOf n m w' (by omega) b env t2 ⟨ok3, A.wf, hbb, f2⟩ hv.2 (by omega) ea ids he hids tg s fr ht) ?_
          simp only [↓zp, zs, hasK]
          have hadd2 := S_add4 (Vl.p w w').iav ((vl_has _).mpr trivial) (fun c => .r (.p w c)) (fun c => S_h4 w w' c) (holes t2 tg w') (inC (fun c => .l (.p c w')) (holes t1 tg w)) (by rw [inC_len]; omega)
          simp only [Vl.iav, hAV] at hadd2
          refine wp_detO hadd2 ?_
          simp [↓zp, zs, hasK, hasC, Det, vl_has, hAV, has_ptr]
        | _ => simp [vis, hhd, hx] at hv
      · obtain ⟨t1', he1, h1, f1, hw1⟩ := wf_enter A.wf A.ok hx A.ty A.cl
        cases he1
        obtain ⟨ok1, ok2, ok3, _⟩ := A.ok
        have A' : Ask b (.mk a.at (.list [x, a, b]) env :: env) t1 := ⟨ok3, hw1, h1, f1⟩
        cases v with
        | f w =>
          simp only [vis, hhd, hx, beq_self_eq_true, Bool.true_and] at hv
          simp only [Vl.nodes] at hm hl hlen
          rw [holes_f] at hlen ⊢
          simp only [List.length_append, inC_len] at hlen
          have hin := S_insideI t1 ea ids he
          simp only [Ty.av] at hin
          simp only [Ty.av, ↓zp, zs, hasK]
          refine ⟨by omega, fun h => by omega, fun _ => ⟨fun h => by omega, fun _ => ⟨fun _ => ?_, fun h => absurd rfl h⟩⟩⟩
          refine wp_call hin (by have := InR.ne t1 ea ids; simpa only [InR, Ty.av] using this) ?_
          intro r o hr
          obtain ⟨⟨mm, hmm, rfl⟩, rfl⟩ := hr
          have he2 : EnvA (.ptr [.pid mm [(Ty.rc t1).av, ea], ea]) (mm :: ids) := .cons hmm he
          have hfr : LK.ptr.has (.pid mm [(Ty.rc t1).av, ea]) := .inr (.inr ⟨_, _, rfl⟩)
          simp only [Ty.av] at he2 hfr
          simp only [↓zp, zs, hasK, hasL, ty_has, he2.has, hfr, Vl.iav, vl_has, Ty.av]
          refine ⟨by omega, ?_⟩
          have i1 := S_holesOf n m w (by omega) b _ t1 A' hv (by simp; omega) _ _ he2 (by simp [hids]) tg.up s fr (ht.push mm)
          unfold IHo at i1
          refine wp_det i1 ?_
          simp only [↓zp, zs, hasK]
          have hadd := S_add5 (fun c => .f (.l c)) (fun c => S_h5 c) (holes t1 tg.up w) [] (by simp; omega)
          simp only [Vl.iav, hAV, List.map_nil, List.nil_append] at hadd
          refine wp_detO hadd ?_
          simp only [↓zp, zs, hasK, hasC, vl_has]
          have i2 := S_holesOf n m w (by omega) b _ t1 A' hv (by simp; omega) _ _ he2 (by simp [hids]) (.bd 0) [] _ (by have := TgA.bd (k := 0) (ids := mm :: ids) (by simp) [(Ty.rc t1).av, ea] []; simpa only [List.getD_cons_zero, Ty.av] using this)
          unfold IHo at i2
          refine ⟨by omega, ?_⟩
          refine wp_det i2 ?_
          simp only [↓zp, zs, hasK, hAV_len]
          have hl2 := holes_len t1 (.bd 0) w
          have ih3 : ∀ h, h ∈ holes t1 (.bd 0) w → IHo (.rc t1) ea s fr tg h.2 := fun h hh => by
            have h3 := (holes_sz hh).1
            have h4 := vis_hole n m w (by omega) b _ t1 A' hv 0 _ rfl h hh
            exact S_holesOf n m h.2 (by omega) (.list [x, a, b]) env (.rc t1) A h4 (by omega) ea ids he hids tg s fr ht
          have hloop := LS_holesOf t1 ea s fr tg he.has ht.has (holes t1 (.bd 0) w) (by omega) ih3 (holes t1 (.bd 0) w).length 0 (inC (fun c => .f (.l c)) (holes t1 tg.up w)) (by omega) (by
            simp only [List.drop_zero, List.length_append, inC_len]
            have hlen2 : (holes t1 tg.up w).length + ((holes t1 (.bd 0) w).flatMap (chn t1 tg)).length ≤ 1 + w.nodes := hlen
            omega)
          simp only [Ty.av, hAV, List.drop_zero] at hloop
          refine wp_loop1 hloop ?_
          simp [↓zp, zs, hasK, hasK, Det, hAV]
        | _ => simp [vis, hhd, hx] at hv
    · rw [holes_no hat (by cases v <;> rfl)]
      simp [Ty.av, ↓zp, zs, hasK, Det, hAV]
end Go.Proofs.Trees
