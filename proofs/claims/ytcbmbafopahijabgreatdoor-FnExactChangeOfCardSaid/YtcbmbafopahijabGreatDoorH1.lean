/-
  Part of a proof: laws over values.
-/
import Derived.Test.YtcbmbafopahijabGreatDoorE4
import Derived.Test.YtcbmbafopahijabGreatDoorH0
set_option linter.unusedVariables false
set_option linter.unusedSimpArgs false
namespace Go.Proofs.Trees
open Go Go.VL Go.RowKit
/-! ### Names and places -/
def nmAt (ar : List (List UInt8)) (k : Nat) : List UInt8 := ar.getD (ar.length - 1 - k) []
theorem lastOf_at {s : List UInt8} {ar : List (List UInt8)} : ∀ (i u : Nat), i ≤ ar.length → lastOf s ar i = some u → u < ar.length ∧ nmAt ar u = s
  | 0, u, _, h => by cases h
  | i + 1, u, hi, h => by
    rw [lastOf] at h
    split at h
    · rename_i e
      cases h
      refine ⟨by omega, ?_⟩
      rw [nmAt, show ar.length - 1 - (ar.length - 1 - i) = i by omega]; exact e
    · exact lastOf_at i u (by omega) h
/-- Does it stand there at all? -/
def occ : Ty → Tg → Bool
  | .plus a b, tg => occ a tg || occ b tg
  | .times a b, tg => occ a tg || occ b tg
  | .rc a, tg => occ a tg.up
  | t, tg => isAt t tg
theorem holes_occ : ∀ (n : Nat) (v : Vl), v.nodes ≤ n → ∀ (t : Ty) (tg : Tg), occ t tg = false → holes t tg v = []
  | 0, v, h => by have := nodes_pos v; omega
  | n + 1, v, hn => by
    intro t tg ho
    cases hm : stuck t v with
    | true =>
      refine holes_no ?_ hm
      cases t <;> first | exact ho | rfl
    | false =>
      unfold stuck at hm
      split at hm
      · simp only [Vl.nodes] at hn
        simp only [occ, Bool.or_eq_false_iff] at ho
        rw [holes_l, holes_occ n _ (by omega) _ _ ho.1]; rfl
      · simp only [Vl.nodes] at hn
        simp only [occ, Bool.or_eq_false_iff] at ho
        rw [holes_r, holes_occ n _ (by omega) _ _ ho.2]; rfl
      · simp only [Vl.nodes] at hn
        simp only [occ, Bool.or_eq_false_iff] at ho
        rw [holes_p, holes_occ n _ (by omega) _ _ ho.1, holes_occ n _ (by omega) _ _ ho.2]; rfl
      · rename_i a w
        simp only [Vl.nodes] at hn
        have ho' : occ a tg.up = false := ho
        rw [holes_f, holes_occ n _ (by omega) _ _ ho']
        have : (holes a (.bd 0) w).flatMap (fun h => inC (fun c => .f (.r (.p h.1 c))) (holes (.rc a) tg h.2)) = (holes a (.bd 0) w).flatMap (fun _ => []) := flat_congr fun h hh => by
          have := (holes_sz hh).1
          rw [holes_occ n h.2 (by omega) (.rc a) tg ho]; rfl
        rw [this]
        induction holes a (.bd 0) w <;> simp_all [inC]
      · cases hm
theorem occ_last : ∀ (e : E) (ar : List (List UInt8)) (t : Ty) (k : Nat), tyOf e ar = some t → occ t (.bd k) = true → k < ar.length ∧ lastOf (nmAt ar k) ar ar.length = some k
  | .atom s, ar, t, k, ht, ho => by
    simp only [tyOf] at ht
    split at ht
    · cases ht; cases ho
    · split at ht
      · cases ht; cases ho
      · split at ht
        · cases ht; cases ho
        · split at ht
          · split at ht
            · rename_i u hu
              cases ht
              have : u = k := by simpa [occ, isAt] using ho
              subst this
              obtain ⟨h1, h2⟩ := lastOf_at _ _ (Nat.le_refl _) hu
              exact ⟨h1, by rw [h2]; exact hu⟩
            · cases ht; cases ho
          · cases ht
  | .list [x, a, b], ar, t, k, ht, ho => by
    by_cases h0 : x.at = [43]
    · obtain ⟨t1, t2, h1, h2, rfl⟩ := tyOf_plus_inv h0 ht
      simp only [occ, Bool.or_eq_true] at ho
      rcases ho with ho | ho
      · exact occ_last a ar t1 k h1 ho
      · exact occ_last b ar t2 k h2 ho
    · by_cases h1 : x.at = [42]
      · obtain ⟨t1, t2, h1, h2, rfl⟩ := tyOf_times_inv h1 ht
        simp only [occ, Bool.or_eq_true] at ho
        rcases ho with ho | ho
        · exact occ_last a ar t1 k h1 ho
        · exact occ_last b ar t2 k h2 ho
      · by_cases h2 : x.at = [114, 101, 99]
        · obtain ⟨t1, _, h3, rfl⟩ := tyOf_rec_inv h2 ht
          obtain ⟨q1, q2⟩ := occ_last b (ar ++ [a.at]) t1 (k + 1) h3 ho
          simp only [List.length_append, List.length_cons, List.length_nil] at q1
          have hk : k < ar.length := by omega
          have e : nmAt (ar ++ [a.at]) (k + 1) = nmAt ar k := by
            unfold nmAt
            rw [List.length_append, show ar.length + [a.at].length - 1 - (k + 1) = ar.length - 1 - k by simp; omega]
            simp [List.getD_eq_getElem?_getD, List.getElem?_append_left (show ar.length - 1 - k < ar.length by omega)]
          rw [e] at q2
          refine ⟨hk, ?_⟩
          have e2 : (ar ++ [a.at]).length = ar.length + 1 := by simp
          rw [e2, lastOf] at q2
          split at q2
          · rw [e2] at q2; simp at q2
          · rw [lastOf_snoc _ _ _ _ (Nat.le_refl _)] at q2
            cases hq : lastOf (nmAt ar k) ar ar.length with
            | none => rw [hq] at q2; cases q2
            | some u => rw [hq] at q2; simpa using q2
        · rw [tyOf_no _ h0 h1 h2] at ht; cases ht
  | .list [], ar, t, k, ht, ho => by cases ht
  | .list [_], ar, t, k, ht, ho => by cases ht
  | .list [_, _], ar, t, k, ht, ho => by cases ht
  | .list (_ :: _ :: _ :: _ :: _), ar, t, k, ht, ho => by cases ht
theorem lastOf_same (w : List UInt8) (ar : List (List UInt8)) : lastOf w (ar ++ [w]) (ar ++ [w]).length = some 0 := by
  have e2 : (ar ++ [w]).length = ar.length + 1 := by simp
  rw [e2, lastOf, if_pos (by simp [List.getD_eq_getElem?_getD]), e2]; simp
theorem lastOf_other {s w : List UInt8} (ar : List (List UInt8)) (h : w ≠ s) : lastOf s (ar ++ [w]) (ar ++ [w]).length = (lastOf s ar ar.length).map (· + 1) := by
  have e2 : (ar ++ [w]).length = ar.length + 1 := by simp
  rw [e2, lastOf, if_neg (by simpa [List.getD_eq_getElem?_getD] using h), lastOf_snoc _ _ _ _ (Nat.le_refl _)]
/-- A name that is bound anew hides the other one. -/
theorem shadow {b : E} {ar : List (List UInt8)} {w : List UInt8} {t : Ty} {k : Nat} (hb : tyOf b (ar ++ [w]) = some t) (hk : lastOf w ar ar.length = some k) : occ t (.bd (k + 1)) = false := by
  cases h : occ t (.bd (k + 1)) with
  | false => rfl
  | true =>
    obtain ⟨_, q2⟩ := occ_last _ _ _ _ hb h
    obtain ⟨h1, h2⟩ := lastOf_at _ _ (Nat.le_refl _) hk
    have e : nmAt (ar ++ [w]) (k + 1) = nmAt ar k := by
      unfold nmAt
      rw [List.length_append, show ar.length + [w].length - 1 - (k + 1) = ar.length - 1 - k by simp; omega]
      simp [List.getD_eq_getElem?_getD, List.getElem?_append_left (show ar.length - 1 - k < ar.length by omega)]
    rw [e, h2, lastOf_same] at q2
    cases q2
def tgS (s : List UInt8) (ar : List (List UInt8)) : Tg := match lastOf s ar ar.length with | some u => .bd u | none => .nm s
theorem tgS_same (w : List UInt8) (ar : List (List UInt8)) : tgS w (ar ++ [w]) = .bd 0 := by rw [tgS, lastOf_same]
theorem tgS_other {s w : List UInt8} (ar : List (List UInt8)) (h : w ≠ s) : tgS s (ar ++ [w]) = (tgS s ar).up := by
  rw [tgS, tgS, lastOf_other ar h]
  cases lastOf s ar ar.length <;> rfl
/-- What is left out is of the type of its place. -/
theorem vis_hole (n : Nat) : ∀ (m : Nat) (v : Vl), v.nodes ≤ m → ∀ (e : E) (env : List Fr) (t : Ty), Ask e env t → vis n v (e, env) = true → ∀ (k : Nat) (f : Fr), env[k]? = some f → ∀ h, h ∈ holes t (.bd k) v → vis n h.2 (f.ex, f.out) = true
  | 0, v, hm => by have := nodes_pos v; omega
  | m + 1, v, hm => by
    intro e env t A hv k f hf h hh
    rcases ty_cases A.wf A.ty with ⟨hb, hq⟩ | ⟨u, g, rfl, hq, hu⟩
    · have hhd : hd e env = (e, env) := hd_none hq
      rcases ty_shapes A.ty hb A.cl with ⟨rfl, rfl⟩ | ⟨rfl, rfl⟩ | ⟨s, rfl, rfl, hp, h0, h1⟩ | ⟨x, a, b, t1, t2, rfl, hx, rfl, ha, hbb⟩ | ⟨x, a, b, t1, t2, rfl, hx, rfl, ha, hbb⟩ | ⟨x, a, b, t1, rfl, hx, rfl⟩
      · rw [holes_no rfl (by cases v <;> rfl)] at hh; cases hh
      · rw [holes_no rfl (by cases v <;> rfl)] at hh; cases hh
      · rw [holes_no rfl (by cases v <;> rfl)] at hh; cases hh
      · obtain ⟨ok1, ok2, ok3, _⟩ := A.ok
        obtain ⟨f1, f2⟩ := freeLoo_plus A.cl
        cases v with
        | l w =>
          simp only [vis, hhd, hx, beq_self_eq_true, Bool.true_and] at hv
          simp only [Vl.nodes] at hm
          rw [holes_l] at hh
          obtain ⟨h2, h3, rfl⟩ := mem_inC hh
          exact vis_hole n m w (by omega) a env t1 ⟨ok2, A.wf, ha, f1⟩ hv k f hf h2 h3
        | r w =>
          simp only [vis, hhd, hx, beq_self_eq_true, Bool.true_and] at hv
          simp only [Vl.nodes] at hm
          rw [holes_r] at hh
          obtain ⟨h2, h3, rfl⟩ := mem_inC hh
          exact vis_hole n m w (by omega) b env t2 ⟨ok3, A.wf, hbb, f2⟩ hv k f hf h2 h3
        | _ => rw [holes_no rfl rfl] at hh; cases hh
      · obtain ⟨ok1, ok2, ok3, _⟩ := A.ok
        obtain ⟨f1, f2⟩ := freeLoo_times A.cl
        cases v with
        | p w w' =>
          simp only [vis, hhd, hx, beq_self_eq_true, Bool.true_and, Bool.and_eq_true] at hv
          simp only [Vl.nodes] at hm
          rw [holes_p] at hh
          rcases List.mem_append.1 hh with hh | hh
          · obtain ⟨h2, h3, rfl⟩ := mem_inC hh
            exact vis_hole n m w (by omega) a env t1 ⟨ok2, A.wf, ha, f1⟩ hv.1 k f hf h2 h3
          · obtain ⟨h2, h3, rfl⟩ := mem_inC hh
            exact vis_hole n m w' (by omega) b env t2 ⟨ok3, A.wf, hbb, f2⟩ hv.2 k f hf h2 h3
        | _ => rw [holes_no rfl rfl] at hh; cases hh
      · obtain ⟨t1', he1, h1, f1, hw1⟩ := wf_enter A.wf A.ok hx A.ty A.cl
        cases he1
        obtain ⟨ok1, ok2, ok3, _⟩ := A.ok
        cases v with
        | f w =>
          simp only [vis, hhd, hx, beq_self_eq_true, Bool.true_and] at hv
          simp only [Vl.nodes] at hm
          rw [holes_f] at hh
          have A' : Ask b (.mk a.at (.list [x, a, b]) env :: env) t1 := ⟨ok3, hw1, h1, f1⟩
          rcases List.mem_append.1 hh with hh | hh
          · obtain ⟨h2, h3, rfl⟩ := mem_inC hh
            exact vis_hole n m w (by omega) b _ t1 A' hv (k + 1) f (by simpa using hf) h2 h3
          · obtain ⟨kd, h2, h3⟩ := List.mem_flatMap.1 hh
            obtain ⟨h4, h5, rfl⟩ := mem_inC h3
            have hkd := vis_hole n m w (by omega) b _ t1 A' hv 0 _ rfl kd h2
            have := (holes_sz h2).1
            exact vis_hole n m kd.2 (by omega) (.list [x, a, b]) env _ A hkd k f hf h4 h5
        | _ => rw [holes_no rfl rfl] at hh; cases hh
    · by_cases huk : u = k
      · subst huk
        rw [hu] at hf; cases hf
        rw [holes_at v (by simp [isAt])] at hh
        simp only [List.mem_singleton] at hh
        subst hh
        obtain ⟨x, a, b, t', hfe, hok, hx, ht', hf', hwf, hlt⟩ := findF_wf A.wf hq
        rw [← vis_hd n v (hd_some hq) (by rw [hfe]; exact hd_rec hwf)]; exact hv
      · rw [holes_no (by simpa [isAt] using huk) (by cases v <;> rfl)] at hh; cases hh
end Go.Proofs.Trees
