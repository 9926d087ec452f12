/-
  Part of a proof: laws over values.
-/
import Derived.Test.YtcbmbafopahijabGreatDoorL2
set_option linter.unusedVariables false
set_option linter.unusedSimpArgs false
namespace Go.Proofs.Trees
open Go Go.VL Go.RowKit
/-! ### The parts, as the reference has them -/
def recE : E → Option E
  | .list [x, a, b] => if x.at = [114, 101, 99] then some (.list [x, a, b]) else none
  | _ => none
def rdLE (s : List UInt8) : Option E := match rdCE s with
  | some e => recE e
  | none => none
theorem S_l4Loop (s : List UInt8) : FSpec Tryz.prog n_spec_l4Loop [.v (.string (mk s))] [] (ParR (rdLE s) (rdLE s).isSome) := by
  refine F_spec_l4Loop _ ?_
  unfold t_spec_l4Loop
  refine wp_call (S_l1Closed s) (ParR.ne _ _ (fun h => h)) ?_
  rintro r o ⟨c, d, hd, rfl, hh⟩
  have hhas : hasL [.str, .sl] [.v (.string (mk c)), d] 0 := by simp [hasL, has_str, hd]
  simp only [↓zp, zs, hasK, zt]
  refine ⟨hhas, fun h => ?_, fun h => ?_⟩
  · obtain ⟨e, he, hce⟩ := hh h
    obtain ⟨t, h1, hA, h3, h4, h5, _⟩ := rdCE_full he
    have hce' := hce
    rw [sav_sp] at hce'
    simp only [AV.agg.injEq, List.cons.injEq, AV.v.injEq, Value.string.injEq, and_true] at hce'
    obtain ⟨hc1, rfl⟩ := hce'
    have hc2 := mk_inj hc1
    subst hc2
    have head : ∀ w : List UInt8, FSpec Tryz.prog n_spec_l1Head [.agg [.v (.string (mk e.at)), e.sp]] [] (Det (.v (.string (mk w)))) → (w = [114, 101, 99] ↔ (recE e).isSome = true) → ((recE e).isSome = true → recE e = some e) →
        wpT Tryz.prog 18 (Tree.call n_spec_l1Head [.agg [.v (.string (mk e.at)), e.sp]] [] fun r2 o2 => Tree.need (LK.str.has r2) (Tree.done 0 [.tup [.agg [.v (.string (mk e.at)), e.sp], .v (.bool (ByteArray.toList r2.toStr == [114, 101, 99]))]] [])) fun _ xs obs => ParR (rdLE s) (rdLE s).isSome (xs.headD .any) obs := by
      intro w hw h1 h2
      refine wp_det hw ?_
      simp only [↓zp, zs, hasK, zt]
      refine ⟨e.at, e.sp, hd, ?_, fun hs => ⟨e, ?_, (sav_sp e).symm⟩⟩
      · congr 3
        simp only [rdLE, he, AV.v.injEq, Value.bool.injEq, List.cons.injEq, and_true]
        rw [Bool.eq_iff_iff]; simpa using h1
      · simp only [rdLE, he] at hs ⊢; exact h2 hs
    have hl : ∀ x l, e = .list (x :: l) → FSpec Tryz.prog n_spec_l1Head [.agg [.v (.string (mk e.at)), e.sp]] [] (Det (.v (.string (mk x.at)))) := by
      rintro x l rfl; exact S_l1Head x l
    have ha : ∀ s0, e = .atom s0 → FSpec Tryz.prog n_spec_l1Head [.agg [.v (.string (mk e.at)), e.sp]] [] (Det (.v (.string (mk [])))) := by
      rintro s0 rfl; exact S_l1Head_atom s0 _ ((has_slnil).mpr trivial) hA.ok
    rcases ty_cases hA.wf hA.ty with ⟨hb, _⟩ | ⟨u, g, rfl, _, hg⟩
    · rcases ty_shapes hA.ty hb hA.cl with ⟨rfl, rfl⟩ | ⟨rfl, rfl⟩ | ⟨s0, rfl, rfl, hp, h0, h1⟩ | ⟨x, a, b, t1, t2, rfl, hx, rfl, ha', hbb⟩ | ⟨x, a, b, t1, t2, rfl, hx, rfl, ha', hbb⟩ | ⟨x, a, b, t1, rfl, hx, rfl⟩
      · exact head _ (ha _ rfl) (by simp [recE]) (by simp [recE])
      · exact head _ (ha _ rfl) (by simp [recE]) (by simp [recE])
      · exact head _ (ha _ rfl) (by simp [recE]) (by simp [recE])
      · exact head _ (hl _ _ rfl) (by simp [recE, hx]) (by simp [recE, hx])
      · exact head _ (hl _ _ rfl) (by simp [recE, hx]) (by simp [recE, hx])
      · exact head _ (hl _ _ rfl) (by simp [recE, hx]) (by simp [recE, hx])
    · simp at hg
  · have hn : rdCE s = none := by cases hq : rdCE s <;> simp [hq] at h ⊢
    refine ⟨c, d, hd, ?_, fun h => ?_⟩
    · simp [rdLE, hn]
    · simp [rdLE, hn] at h
/-- The reference reads the same loop types. -/
theorem rdLE_rdL (s : List UInt8) : (rdLE s).isSome = (rdLp s).isSome := by
  unfold rdLE rdLp
  cases h : rdCE s with
  | none => rw [rdCE_none h]; rfl
  | some e =>
    obtain ⟨t, h1, hA, h3, h4, h5, _⟩ := rdCE_full h
    rw [h1]
    simp only
    rcases ty_cases hA.wf hA.ty with ⟨hb, _⟩ | ⟨u, g, rfl, _, hg⟩
    · rcases ty_shapes hA.ty hb hA.cl with ⟨rfl, rfl⟩ | ⟨rfl, rfl⟩ | ⟨s0, rfl, rfl, hp, h0, h1⟩ | ⟨x, a, b, t1, t2, rfl, hx, rfl, ha', hbb⟩ | ⟨x, a, b, t1, t2, rfl, hx, rfl, ha', hbb⟩ | ⟨x, a, b, t1, rfl, hx, rfl⟩ <;> simp_all [recE]
    · simp at hg
theorem LV.le {s v : List UInt8} {w : Vl} {a : Ty} {x A B : E} (h : LV s v w a x A B) : rdLE s = some (.list [x, A, B]) := by
  unfold rdLE; rw [h.ce]; simp [recE, h.hx]
def chAV (l : List Pt) : List (List AV) := l.map fun p => [.sl (intsAV p.2), .v (.string (mk p.1.txt)), .v (.string (mk []))]
theorem chAV_len (l : List Pt) : (chAV l).length = l.length := by simp [chAV]
theorem chAV_get {l : List Pt} {i : Nat} (hi : i < l.length) : (chAV l).getD i [] = [.sl (intsAV (l[i]).2), .v (.string (mk (l[i]).1.txt)), .v (.string (mk []))] := by simp [chAV, List.getD_eq_getElem?_getD, hi]
theorem chAV_one (out : List Pt) (p : Pt) : chAV out ++ [[.sl (intsAV p.2), .v (.string (mk p.1.txt)), .v (.string (mk []))]] = chAV (out ++ [p]) := by simp [chAV]
theorem len3 (a b c : AV) : allLen 3 [[a, b, c]] := fun x hx => by simp at hx; rw [hx]; rfl
/-- The reference's holes of what is in a value of a loop type. -/
theorem S_kidsS (n : Nat) (v : Vl) (x A B : E) (a : Ty) (hA : Ask B [.mk A.at (.list [x, A, B]) []] a) (hx : x.at = [114, 101, 99]) (w : Vl) (hw : v = .f w) (hv : vis n v (.list [x, A, B], []) = true) (hl : v.nodes < 90000) :
    FSpec Tryz.prog n_spec_l4Holes [.agg [.v (.string (mk B.at)), B.sp], .v (.string (mk A.at)), .agg [.v (.string (mk w.toE.at)), w.toE.sp]] [] (Det (.sl (sAV (kids a v)))) := by
  subst hw
  obtain ⟨w', e, hw'⟩ := vis_rec .nil hx hv
  cases e
  simp only [Vl.nodes] at hl
  have hnm : names [Fr.mk A.at (.list [x, A, B]) []] = [] ++ [A.at] := rfl
  have h := S_l4Holes_n n w.nodes w (Nat.le_refl _) B _ a hA hw' (by simp; omega) A.at (by rw [hnm]; right; rw [lastOf_same]; rfl)
  rw [hnm, tgS_same] at h
  exact h
def specR (x A B : E) (a : Ty) (n : Nat) (q : Pt) : Prop := ∀ out : List Pt, out.length + q.1.nodes ≤ 600 → FSpec Tryz.prog n_spec_l7Parts [.agg [.v (.string (mk [])), (E.list [x, A, B]).sp], .agg [.v (.string (mk q.1.toE.at)), q.1.toE.sp], .sl (intsAV q.2), .vec 0] [.vec 3 (chAV out)] (DetO (.vec 1) [.dead, .vec 3 (chAV (specN n a out q))])
abbrev stepS (n : Nat) (a : Ty) : List Pt → Pt → List Pt := fun o q => if o.length ≤ 100 then specN n a o q else o
theorem stepS_stop (n : Nat) (a : Ty) : ∀ (l : List Pt) (o : List Pt), 100 < o.length → l.foldl (stepS n a) o = o
  | [], _, _ => rfl
  | q :: l, o, h => by rw [List.foldl_cons, stepS, if_neg (by omega)]; exact stepS_stop n a l o h
end Go.Proofs.Trees
