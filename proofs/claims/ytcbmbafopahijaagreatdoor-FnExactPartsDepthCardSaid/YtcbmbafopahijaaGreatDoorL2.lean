/-
  Part of a proof: laws over values.
-/
import Derived.Test.YtcbmbafopahijaaGreatDoorL1
import Derived.Test.YtcbmbafopahijaaGreatDoorT1
set_option linter.unusedVariables false
set_option linter.unusedSimpArgs false
namespace Go.Proofs.Trees
open Go Go.VL Go.RowKit
/-! ### The parts, as they are told -/
def partsR (s v : List UInt8) : Option (List Pt) := match rdLp s, lvOK s v with
  | some a, some w => if (parts a w).length ≤ 100 then some (parts a w) else none
  | _, _ => none
theorem partsN_mem : ∀ (n : Nat) (a : Ty) (p q : Pt), q ∈ partsN n a p → q.1.nodes ≤ p.1.nodes ∧ (∀ m, p.1.bel m → q.1.bel m)
  | 0, a, p, q, h => by cases h
  | n + 1, a, p, q, h => by
    rcases List.mem_cons.1 h with rfl | h
    · exact ⟨Nat.le_refl _, fun m h => h⟩
    · obtain ⟨r, h1, h2⟩ := List.mem_flatMap.1 h
      obtain ⟨k, h3, h4⟩ := subs_mem h1
      obtain ⟨q1, q2⟩ := partsN_mem n a r q h2
      have := kids_sz h3
      rw [h4] at q1 q2
      exact ⟨by omega, fun m hm => q2 m (kids_bel hm h3).2⟩
theorem partsR_mem {s v : List UInt8} {l : List Pt} (h : partsR s v = some l) : l.length ≤ 100 ∧ ∀ q, q ∈ l → q.1.nodes ≤ 200 ∧ q.1.bel 100 ∧ q.1.txt.length ≤ 40000 := by
  unfold partsR at h
  split at h
  · rename_i a w ha hw
    obtain ⟨a', x, A, B, L⟩ := lvOK_some hw
    split at h
    · rename_i hl
      cases h
      refine ⟨hl, fun q hq => ?_⟩
      obtain ⟨h1, h2⟩ := partsN_mem _ _ _ _ hq
      have hb := h2 100 L.bel
      have hn := L.nodes
      have := txt_len q.1 hb
      simp only at h1
      exact ⟨by omega, hb, by omega⟩
    · cases h
  · cases h
theorem parts_depth : ∀ (n : Nat) (a : Ty) (p q : Pt), q ∈ partsN n a p → q.2.length ≤ p.2.length + n
  | 0, a, p, q, h => by cases h
  | n + 1, a, p, q, h => by
    rcases List.mem_cons.1 h with rfl | h
    · omega
    · obtain ⟨r, h1, h2⟩ := List.mem_flatMap.1 h
      have := parts_depth n a r q h2
      have hlen : ∀ (l : List Hl) (i : Nat), r ∈ subs p.2 l i → r.2.length = p.2.length + 1 := by
        intro l
        induction l with
        | nil => intro i hh; cases hh
        | cons k l ih =>
          intro i hh
          rcases List.mem_cons.1 hh with rfl | hh
          · simp
          · exact ih _ hh
      have := hlen _ _ h1
      omega
theorem partsR_depth {s v : List UInt8} {l : List Pt} (h : partsR s v = some l) : ∀ q, q ∈ l → q.2.length ≤ 200 := by
  unfold partsR at h
  split at h
  · rename_i a w ha hw
    obtain ⟨a', x, A, B, L⟩ := lvOK_some hw
    split at h
    · cases h
      intro q hq
      have := parts_depth _ _ _ _ hq
      have hn := L.nodes
      simp at this; omega
    · cases h
  · cases h
def PoR (f : List Pt → List (List AV)) (s v : List UInt8) : AV → List Ob → Prop := fun r o => o = [] ∧ ∃ x, LK.sl.has x ∧ r = .tup [x, .v (.bool (partsR s v).isSome)] ∧ ∀ l, partsR s v = some l → x = .sl (f l)
theorem PoR.ne (f : List Pt → List (List AV)) (s v : List UInt8) : ∃ r o, PoR f s v r o := by
  cases h : partsR s v with
  | none => exact ⟨_, _, rfl, .sl [], (has_sl _).mpr trivial, rfl, fun l hl => by rw [h] at hl; cases hl⟩
  | some l => exact ⟨_, _, rfl, .sl (f l), (has_sl _).mpr trivial, rfl, fun l' hl => by rw [h] at hl; cases hl; rfl⟩
theorem S_partsOf (s v : List UInt8) : FSpec Tryz.prog n_impl_partsOf [.v (.string (mk s)), .v (.string (mk v))] [] (PoR pAV s v) := by
  refine F_impl_partsOf _ _ ?_
  unfold t_impl_partsOf
  refine wp_det (S_loopValue s v) ?_
  have hT : LK.has .ptr (lvT s) = True := by unfold lvT; cases rdLp s <;> simp [ty_has, has_nil]
  cases h : lvOK s v with
  | none =>
    have hn : partsR s v = none := by unfold partsR; rw [h]; cases rdLp s <;> rfl
    simp only [↓zp, zs, hasK, optV, hT]
    exact ⟨fun _ => ⟨rfl, .v (.slice none 0 0), (has_slnil).mpr trivial, by simp [hn], fun l hl => by rw [hn] at hl; cases hl⟩, fun h => (by cases h)⟩
  | some w =>
    obtain ⟨a, x, A, B, L⟩ := lvOK_some h
    have hnd := L.nodes
    have hTa : lvT s = (Ty.rc a).av := by unfold lvT; rw [L.l]
    obtain ⟨p1, p2, p3⟩ := parts_tell a w
    have htell := S_tell 100 x A B a L.body L.hx w.nodes (w, []) (Nat.le_refl _) hnd (by simp; omega) L.vis [] (by simp; omega)
    simp only [↓zp, zs, hasK, optV, hTa, ty_has, vl_has, vl_nil]
    refine ⟨fun h => (by cases h), fun _ => ?_⟩
    refine wp_detO htell ?_
    simp only [↓zp, zs, hasK, hasC, ty_has, pAV_len]
    refine ⟨rfl, .sl (pAV (tellN w.nodes a [] (w, []))), (has_sl _).mpr trivial, ?_, fun l hl => ?_⟩
    · congr 4
      have : partsR s v = if (parts a w).length ≤ 100 then some (parts a w) else none := by unfold partsR; rw [L.l, h]
      rw [this]
      by_cases hc : (parts a w).length ≤ 100
      · rw [if_pos hc, p1 hc]; simp; omega
      · rw [if_neg hc]; have := p2 (by omega); simp; omega
    · unfold partsR at hl
      rw [L.l, h] at hl
      simp only at hl
      split at hl
      · rename_i hc
        cases hl
        rw [p1 hc]
      · cases hl
/-- The longest place. -/
def deep : List Pt → Nat → Nat
  | [], d => d
  | p :: l, d => deep l (if p.2.length > d then p.2.length else d)
def depR (s v : List UInt8) : Int := match partsR s v with
  | some l => (deep l 0 : Nat)
  | none => -1
theorem pAV_get {l : List Pt} {i : Nat} (hi : i < l.length) : (pAV l).getD i [] = [(l[i]).1.iav, plAV (l[i]).2] := by simp [pAV, List.getD_eq_getElem?_getD, hi]
theorem LS_depth (l : List Pt) (hl : l.length ≤ 1000) : ∀ (k i d : Nat), i + k = l.length → LS_impl_PartsDepth_1 [.v (.int .i64 (d : Int)), .sl (pAV l), .v (.int .i64 (l.length : Int)), .v (.int .i64 (i : Int))] [] (LIs 1 [.v (.int .i64 (deep (l.drop i) d : Nat))] [])
  | 0, i, d, hi => by
    refine G_impl_PartsDepth_1 _ _ _ _ ?_
    have : i = l.length := by omega
    subst this
    simp only [r_impl_PartsDepth_1, ↓zp, zs, hasK]
    exact ⟨fun h => by omega, fun _ => by simp [LIs, deep]⟩
  | k + 1, i, d, hi => by
    have hlt : i < l.length := by omega
    refine G_impl_PartsDepth_1 _ _ _ _ ?_
    simp only [r_impl_PartsDepth_1, ↓zp, zs, hasK, zt, pAV_len, pAV_get hlt, vl_has, plAV_has, plAV_el, intsAV_len, hasL]
    refine ⟨fun _ => ?_, fun h => by omega⟩
    repeat refine ⟨by omega, ?_⟩
    rw [wrap_succ i (by omega), List.drop_eq_getElem_cons hlt, deep]
    have := LS_depth l hl k (i + 1) (if (l[i]).2.length > d then (l[i]).2.length else d) (by omega)
    have e : (if ((l[i]).2.length : Int) > (d : Int) then ((l[i]).2.length : Int) else (d : Int)) = ((if (l[i]).2.length > d then (l[i]).2.length else d : Nat) : Int) := by split <;> split <;> omega
    rw [e]; exact this
theorem S_PartsDepthI (s v : List UInt8) : FSpec Tryz.prog n_impl_PartsDepth [.v (.string (mk s)), .v (.string (mk v))] [] (Det (.v (.int .i64 (depR s v)))) := by
  refine F_impl_PartsDepth _ _ ?_
  unfold t_impl_PartsDepth
  refine wp_call (S_partsOf s v) (PoR.ne _ s v) ?_
  rintro r o ⟨rfl, x, hx, rfl, hl⟩
  cases h : partsR s v with
  | none => simp [↓zp, zs, hasK, hx, depR, h, Det]
  | some l =>
    rw [hl l h]
    have := (partsR_mem h).1
    simp only [↓zp, zs, hasK, Option.isSome_some, pAV_len]
    refine ⟨fun h => (by cases h), fun _ => ?_⟩
    refine wp_loop1 (LS_depth l (by omega) l.length 0 0 (by omega)) ?_
    simp [↓zp, zs, hasK, depR, h, Det]
/-- The texts of the parts. -/
def ptxts (l : List Pt) : List (List UInt8) := l.map fun p => p.1.txt
def optL (f : List Pt → List (List AV)) (e : AV) : Option (List Pt) → AV
  | some l => .tup [.sl (f l), .v (.bool true)]
  | none => .tup [e, .v (.bool false)]
def placesAV (f : List Nat → AV) (l : List Pt) : List (List AV) := l.map fun p => [f p.2]
theorem placesAV_len (f : List Nat → AV) (l : List Pt) : (placesAV f l).length = l.length := by simp [placesAV]
theorem placesAV_one (f : List Nat → AV) (out : List Pt) (p : Pt) : placesAV f out ++ [[f p.2]] = placesAV f (out ++ [p]) := by simp [placesAV]
end Go.Proofs.Trees
