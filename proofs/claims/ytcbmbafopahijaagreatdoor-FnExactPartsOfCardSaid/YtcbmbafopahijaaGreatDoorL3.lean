/-
  Part of a proof: laws over values.
-/
import Derived.Test.YtcbmbafopahijaaGreatDoorL2
set_option linter.unusedVariables false
set_option linter.unusedSimpArgs false
namespace Go.Proofs.Trees
open Go Go.VL Go.RowKit
/-! ### The parts, as the reference has them -/
def recE : E → Option E
  | .list [x, a, b] => if x.at = [114, 101, 99] then some (.list [x, a, b]) else none
  | _ => none
def rdLE (s : List UInt8) : Option E := match rdCE s with
  | some e => recE e
  | none => none
theorem S_l4Loop (s : List UInt8) : FSpec Tryz.prog n_spec_l4Loop [.v (.string (mk s))] [] (ParR (rdLE s) (rdLE s).isSome) := by
  refine F_spec_l4Loop _ ?_
  unfold t_spec_l4Loop
  refine wp_call (S_l1Closed s) (ParR.ne _ _ (fun h => h)) ?_
  rintro r o ⟨c, d, hd, rfl, hh⟩
  have hhas : hasL [.str, .sl] [.v (.string (mk c)), d] 0 := by simp [hasL, has_str, hd]
  simp only [↓zp, zs, hasK, zt]
  refine ⟨hhas, fun h => ?_, fun h => ?_⟩
  · obtain ⟨e, he, hce⟩ := hh h
    obtain ⟨t, h1, hA, h3, h4, h5, _⟩ := rdCE_full he
    have hce' := hce
    rw [sav_sp] at hce'
    simp only [AV.agg.injEq, List.cons.injEq, AV.v.injEq, Value.string.injEq, and_true] at hce'
    obtain ⟨hc1, rfl⟩ := hce'
    have hc2 := mk_inj hc1
    subst hc2
    have head : ∀ w : List UInt8, FSpec Tryz.prog n_spec_l1Head [.agg [.v (.string (mk e.at)), e.sp]] [] (Det (.v (.string (mk w)))) → (w = [114, 101, 99] ↔ (recE e).isSome = true) → ((recE e).isSome = true → recE e = some e) →
        wpT Tryz.prog 18 (Tree.call n_spec_l1Head [.agg [.v (.string (mk e.at)), e.sp]] [] fun r2 o2 => Tree.need (LK.str.has r2) (Tree.done 0 [.tup [.agg [.v (.string (mk e.at)), e.sp], .v (.bool (ByteArray.toList r2.toStr == [114, 101, 99]))]] [])) fun _ xs obs => ParR (rdLE s) (rdLE s).isSome (xs.headD .any) obs := by
      intro w hw h1 h2
      refine wp_det hw ?_
      simp only [↓zp, zs, hasK, zt]
      refine ⟨e.at, e.sp, hd, ?_, fun hs => ⟨e, ?_, (sav_sp e).symm⟩⟩
      · congr 3
        simp only [rdLE, he, AV.v.injEq, Value.bool.injEq, List.cons.injEq, and_true]
        rw [Bool.eq_iff_iff]; simpa using h1
      · simp only [rdLE, he] at hs ⊢; exact h2 hs
    have hl : ∀ x l, e = .list (x :: l) → FSpec Tryz.prog n_spec_l1Head [.agg [.v (.string (mk e.at)), e.sp]] [] (Det (.v (.string (mk x.at)))) := by
      rintro x l rfl; exact S_l1Head x l
    have ha : ∀ s0, e = .atom s0 → FSpec Tryz.prog n_spec_l1Head [.agg [.v (.string (mk e.at)), e.sp]] [] (Det (.v (.string (mk [])))) := by
      rintro s0 rfl; exact S_l1Head_atom s0 _ ((has_slnil).mpr trivial) hA.ok
    rcases ty_cases hA.wf hA.ty with ⟨hb, _⟩ | ⟨u, g, rfl, _, hg⟩
    · rcases ty_shapes hA.ty hb hA.cl with ⟨rfl, rfl⟩ | ⟨rfl, rfl⟩ | ⟨s0, rfl, rfl, hp, h0, h1⟩ | ⟨x, a, b, t1, t2, rfl, hx, rfl, ha', hbb⟩ | ⟨x, a, b, t1, t2, rfl, hx, rfl, ha', hbb⟩ | ⟨x, a, b, t1, rfl, hx, rfl⟩
      · exact head _ (ha _ rfl) (by simp [recE]) (by simp [recE])
      · exact head _ (ha _ rfl) (by simp [recE]) (by simp [recE])
      · exact head _ (ha _ rfl) (by simp [recE]) (by simp [recE])
      · exact head _ (hl _ _ rfl) (by simp [recE, hx]) (by simp [recE, hx])
      · exact head _ (hl _ _ rfl) (by simp [recE, hx]) (by simp [recE, hx])
      · exact head _ (hl _ _ rfl) (by simp [recE, hx]) (by simp [recE, hx])
    · simp at hg
  · have hn : rdCE s = none := by cases hq : rdCE s <;> simp [hq] at h ⊢
    refine ⟨c, d, hd, ?_, fun h => ?_⟩
    · simp [rdLE, hn]
    · simp [rdLE, hn] at h
/-- The reference reads the same loop types. -/
theorem rdLE_rdL (s : List UInt8) : (rdLE s).isSome = (rdLp s).isSome := by
  unfold rdLE rdLp
  cases h : rdCE s with
  | none => rw [rdCE_none h]; rfl
  | some e =>
    obtain ⟨t, h1, hA, h3, h4, h5, _⟩ := rdCE_full h
    rw [h1]
    simp only
    rcases ty_cases hA.wf hA.ty with ⟨hb, _⟩ | ⟨u, g, rfl, _, hg⟩
    · rcases ty_shapes hA.ty hb hA.cl with ⟨rfl, rfl⟩ | ⟨rfl, rfl⟩ | ⟨s0, rfl, rfl, hp, h0, h1⟩ | ⟨x, a, b, t1, t2, rfl, hx, rfl, ha', hbb⟩ | ⟨x, a, b, t1, t2, rfl, hx, rfl, ha', hbb⟩ | ⟨x, a, b, t1, rfl, hx, rfl⟩ <;> simp_all [recE]
    · simp at hg
theorem LV.le {s v : List UInt8} {w : Vl} {a : Ty} {x A B : E} (h : LV s v w a x A B) : rdLE s = some (.list [x, A, B]) := by
  unfold rdLE; rw [h.ce]; simp [recE, h.hx]
def chAV (l : List Pt) : List (List AV) := l.map fun p => [.sl (intsAV p.2), .v (.string (mk p.1.txt)), .v (.string (mk []))]
theorem chAV_len (l : List Pt) : (chAV l).length = l.length := by simp [chAV]
theorem chAV_get {l : List Pt} {i : Nat} (hi : i < l.length) : (chAV l).getD i [] = [.sl (intsAV (l[i]).2), .v (.string (mk (l[i]).1.txt)), .v (.string (mk []))] := by simp [chAV, List.getD_eq_getElem?_getD, hi]
theorem chAV_one (out : List Pt) (p : Pt) : chAV out ++ [[.sl (intsAV p.2), .v (.string (mk p.1.txt)), .v (.string (mk []))]] = chAV (out ++ [p]) := by simp [chAV]
theorem len3 (a b c : AV) : allLen 3 [[a, b, c]] := fun x hx => by simp at hx; rw [hx]; rfl
/-- The reference's holes of what is in a value of a loop type. -/
theorem S_kidsS (n : Nat) (v : Vl) (x A B : E) (a : Ty) (hA : Ask B [.mk A.at (.list [x, A, B]) []] a) (hx : x.at = [114, 101, 99]) (w : Vl) (hw : v = .f w) (hv : vis n v (.list [x, A, B], []) = true) (hl : v.nodes < 90000) :
    FSpec Tryz.prog n_spec_l4Holes [.agg [.v (.string (mk B.at)), B.sp], .v (.string (mk A.at)), .agg [.v (.string (mk w.toE.at)), w.toE.sp]] [] (Det (.sl (sAV (kids a v)))) := by
  subst hw
  obtain ⟨w', e, hw'⟩ := vis_rec .nil hx hv
  cases e
  simp only [Vl.nodes] at hl
  have hnm : names [Fr.mk A.at (.list [x, A, B]) []] = [] ++ [A.at] := rfl
  have h := S_l4Holes_n n w.nodes w (Nat.le_refl _) B _ a hA hw' (by simp; omega) A.at (by rw [hnm]; right; rw [lastOf_same]; rfl)
  rw [hnm, tgS_same] at h
  exact h
def specR (x A B : E) (a : Ty) (n : Nat) (q : Pt) : Prop := ∀ out : List Pt, out.length + q.1.nodes ≤ 600 → FSpec Tryz.prog n_spec_l7Parts [.agg [.v (.string (mk [])), (E.list [x, A, B]).sp], .agg [.v (.string (mk q.1.toE.at)), q.1.toE.sp], .sl (intsAV q.2), .vec 0] [.vec 3 (chAV out)] (DetO (.vec 1) [.dead, .vec 3 (chAV (specN n a out q))])
abbrev stepS (n : Nat) (a : Ty) : List Pt → Pt → List Pt := fun o q => if o.length ≤ 100 then specN n a o q else o
theorem stepS_stop (n : Nat) (a : Ty) : ∀ (l : List Pt) (o : List Pt), 100 < o.length → l.foldl (stepS n a) o = o
  | [], _, _ => rfl
  | q :: l, o, h => by rw [List.foldl_cons, stepS, if_neg (by omega)]; exact stepS_stop n a l o h
theorem LS_specP (x A B : E) (a : Ty) (n : Nat) (pl : List Nat) (hpl : pl.length ≤ 1000) (l : List Hl) (hl : l.length ≤ 1000) (ih : ∀ q, q ∈ subs pl l 0 → specR x A B a n q) (hn : ∀ q, q ∈ subs pl l 0 → q.1.nodes ≤ n) : ∀ (k i : Nat) (out : List Pt), i + k = l.length → out.length + nsum (l.drop i) ≤ 600 → (∀ q, q ∈ subs pl (l.drop i) i → q ∈ subs pl l 0) →
    LS_spec_l7Parts_1 [.sl (intsAV pl), .sl (sAV l), .v (.int .i64 (i : Int))] [.cells [.v (.string (mk [])), (E.list [x, A, B]).sp], .vec 3 (chAV out)] (LIs 1 [] [.vec 3 (chAV ((subs pl (l.drop i) i).foldl (stepS n a) out))])
  | 0, i, out, hi, ho, hm => by
    refine G_spec_l7Parts_1 _ _ _ _ _ _ ?_
    have : i = l.length := by omega
    subst this
    simp only [r_spec_l7Parts_1, ↓zp, zs, hasK, sAV_len, sp_has]
    exact ⟨fun h => by omega, fun _ => by simp [LIs, subs]⟩
  | k + 1, i, out, hi, ho, hm => by
    have hlt : i < l.length := by omega
    have hd := subs_drop pl l hlt
    rw [hd] at hm ⊢
    have hq := hm _ List.mem_cons_self
    have hsum : nsum (l.drop i) = (l[i]).2.nodes + nsum (l.drop (i + 1)) := by rw [List.drop_eq_getElem_cons hlt]; rfl
    have hw := (specN_ok n a ((l[i]).2, pl ++ [i]) (hn _ hq) out).2.2.2
    have hp := partsN_len n a ((l[i]).2, pl ++ [i])
    simp only at hw hp
    refine G_spec_l7Parts_1 _ _ _ _ _ _ ?_
    simp only [r_spec_l7Parts_1, ↓zp, zs, hasK, zt, sAV_len, sAV_get hlt, sp_hasL, sp_has, List.nil_append, intsAV_len, intsAV_one, chAV_len]
    refine ⟨fun _ => ⟨fun hle => ?_, fun hgt => ?_⟩, fun h => by omega⟩
    · repeat refine ⟨by omega, ?_⟩
      refine ⟨⟨allLen_ints _, by omega⟩, ⟨allLen1 _, by omega⟩, ?_⟩
      have hcall := ih _ hq out (by show out.length + (l[i]).2.nodes ≤ 600; omega)
      refine wp_detO hcall ?_
      simp only [↓zp, zs, hasK]
      rw [wrap_succ i (by omega), List.foldl_cons, show stepS n a out ((l[i]).2, pl ++ [i]) = specN n a out ((l[i]).2, pl ++ [i]) from if_pos (by omega)]
      exact LS_specP x A B a n pl hpl l hl ih hn k (i + 1) _ (by omega) (by omega) (fun q hq => hm q (List.mem_cons_of_mem _ hq))
    · rw [stepS_stop n a _ _ (by omega)]
      simp [LIs]
theorem S_spec7 (c : Nat) (x A B : E) (a : Ty) (hA : Ask B [.mk A.at (.list [x, A, B]) []] a) (hx : x.at = [114, 101, 99]) : ∀ (n : Nat) (q : Pt), q.1.nodes ≤ n → n ≤ 200 → q.2.length + n ≤ 200 → q.1.bel 100 → vis c q.1 (.list [x, A, B], []) = true → specR x A B a n q
  | 0, q, h, _, _, _, _ => by have := nodes_pos q.1; omega
  | n + 1, q, h, hn, hpl, hb, hv => by
    intro out ho
    have hk := kids_nsum a q.1
    have hkl := len_nsum (kids a q.1)
    have htx := txt_len q.1 hb
    obtain ⟨w, hqw, hw⟩ := vis_rec .nil hx hv
    have hP := P3.of x A B
    have hW := P2.of (.atom [102]) w.toE
    have hqe : q.1.toE = .list [.atom [102], w.toE] := by rw [hqw]; rfl
    have htext := S_l1Text q.1.toE (toE_ok _) (by show q.1.txt.length ≤ 900000; omega)
    rw [sav_sp] at htext
    refine F_spec_l7Parts _ _ _ _ _ _ ((sp_has _).mpr trivial) ((sp_has _).mpr trivial) ((has_sl _).mpr trivial) ?_
    unfold t_spec_l7Parts
    refine wp_det htext ?_
    have ol : (out ++ [q]).length = out.length + 1 := by simp
    rw [hqe]
    simp only [↓zp, zs, hasK, zt, chAV_len, toNat_one, toNat_two, hP.1, hP.2.1, hP.2.2.1, hP.2.2.2, hW.1, hW.2.1, hW.2.2, sp_hasL]
    refine ⟨⟨len3 _ _ _, by omega⟩, ?_⟩
    repeat refine ⟨by omega, ?_⟩
    refine wp_det (S_kidsS c q.1 x A B a hA hx w hqw hv (by omega)) ?_
    simp only [↓zp, zs, hasK]
    have hl := LS_specP x A B a n q.2 (by omega) (kids a q.1) (by omega) (fun r hr => by
        obtain ⟨k, h1, h2⟩ := subs_mem hr
        have := kids_sz h1
        have hlen : r.2.length = q.2.length + 1 := by
          have : ∀ (l : List Hl) (i : Nat), r ∈ subs q.2 l i → r.2.length = q.2.length + 1 := by
            intro l
            induction l with
            | nil => intro i hh; cases hh
            | cons k l ih =>
              intro i hh
              rcases List.mem_cons.1 hh with rfl | hh
              · simp
              · exact ih _ hh
          exact this _ _ hr
        exact S_spec7 c x A B a hA hx n r (by rw [h2]; omega) (by omega) (by omega) (by rw [h2]; exact (kids_bel hb h1).2) (by rw [h2]; exact kids_vis hA .nil hx hv h1)) (fun r hr => by
        obtain ⟨k, h1, h2⟩ := subs_mem hr
        have := kids_sz h1
        rw [h2]; omega) (kids a q.1).length 0 (out ++ [q]) (by omega) (by rw [nsum_drop, ol]; omega) (fun r hr => hr)
    rw [List.drop_zero] at hl
    rw [show chAV out ++ [[.sl (intsAV q.2), .v (.string (mk (txE (.list [.atom [102], w.toE])))), .v (.string (mk []))]] = chAV (out ++ [q]) by rw [← hqe]; exact chAV_one out q]
    refine wp_loop1 hl ?_
    rw [specN]; simp [↓zp, zs, hasK, DetO]
theorem S_l7All (s v : List UInt8) : FSpec Tryz.prog n_spec_l7All [.v (.string (mk s)), .v (.string (mk v))] [] (PoR chAV s v) := by
  refine F_spec_l7All _ _ ?_
  unfold t_spec_l7All
  refine wp_call (S_l4Loop s) (ParR.ne _ _ (fun h => h)) ?_
  rintro r o ⟨c, d, hd, rfl, hh⟩
  have hhas : hasL [.str, .sl] [.v (.string (mk c)), d] 0 := by simp [hasL, has_str, hd]
  simp only [↓zp, zs, hasK, zt]
  refine ⟨hhas, ?_⟩
  refine wp_call (S_l2Value v) (ParR.ne _ _ (fun h => by cases hq : rdV v <;> simp [hq] at h ⊢)) ?_
  rintro r o ⟨c', d', hd', rfl, hh'⟩
  have hhas' : hasL [.str, .sl] [.v (.string (mk c')), d'] 0 := by simp [hasL, has_str, hd']
  simp only [↓zp, zs, hasK, zt]
  have none1 : partsR s v = none → PoR chAV s v (.tup [.sl [], .v (.bool false)]) [] := fun hn => ⟨rfl, .sl [], (has_sl _).mpr trivial, by rw [hn]; rfl, fun l hl => by rw [hn] at hl; cases hl⟩
  refine ⟨hhas', fun h => none1 ?_, fun h => ?_⟩
  · rw [rdLE_rdL] at h
    have : rdLp s = none := by cases hq : rdLp s <;> simp [hq] at h ⊢
    unfold partsR; rw [this]
  · refine wp_det (S_ValueIsS s v 100) ?_
    simp only [↓zp, zs, hasK]
    refine ⟨fun h2 => none1 ?_, fun h2 => ?_⟩
    · have : vOK s v 100 = none := by cases hq : vOK s v 100 <;> simp [hq] at h2 ⊢
      have : lvOK s v = none := by unfold lvOK; rw [this]; cases rdLp s <;> rfl
      unfold partsR; rw [this]; cases rdLp s <;> rfl
    · obtain ⟨w, hw⟩ := Option.isSome_iff_exists.1 h2
      rw [rdLE_rdL] at h
      obtain ⟨a0, ha0⟩ := Option.isSome_iff_exists.1 h
      have hlv : lvOK s v = some w := by unfold lvOK; rw [ha0]; exact hw
      obtain ⟨a, x, A, B, L⟩ := lvOK_some hlv
      obtain ⟨e, he, hce⟩ := hh (by rw [L.le]; rfl)
      rw [L.le] at he; cases he
      obtain ⟨e2, he2, hce2⟩ := hh' (by rw [L.v]; rfl)
      rw [L.v] at he2; cases he2
      rw [hce, hce2, sav_sp, sav_sp]
      have hnd := L.nodes
      obtain ⟨p1, p2, p3⟩ := parts_spec a w
      have hs := S_spec7 100 x A B a L.body L.hx w.nodes (w, []) (Nat.le_refl _) hnd (by simp; omega) L.bel L.vis [] (by simp; omega)
      refine wp_detO hs ?_
      simp only [↓zp, zs, hasK, chAV_len]
      refine ⟨rfl, .sl (chAV (specN w.nodes a [] (w, []))), (has_sl _).mpr trivial, ?_, fun l hl => ?_⟩
      · congr 4
        have : partsR s v = if (parts a w).length ≤ 100 then some (parts a w) else none := by unfold partsR; rw [L.l, hlv]
        rw [this]
        by_cases hc : (parts a w).length ≤ 100
        · rw [if_pos hc, p1 hc]; simp; omega
        · rw [if_neg hc]; have := p2 (by omega); simp; omega
      · unfold partsR at hl
        rw [L.l, hlv] at hl
        simp only at hl
        split at hl
        · rename_i hc
          cases hl
          rw [p1 hc]
        · cases hl
end Go.Proofs.Trees
