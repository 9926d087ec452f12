/-
  Part of a proof: laws over values.
-/
import Derived.Test.YtcbmbafopahijaaGreatDoorL1
import Derived.Test.YtcbmbafopahijaaGreatDoorT1
set_option linter.unusedVariables false
set_option linter.unusedSimpArgs false
namespace Go.Proofs.Trees
open Go Go.VL Go.RowKit
/-! ### The parts, as they are told -/
def partsR (s v : List UInt8) : Option (List Pt) := match rdLp s, lvOK s v with
  | some a, some w => if (parts a w).length ≤ 100 then some (parts a w) else none
  | _, _ => none
theorem partsN_mem : ∀ (n : Nat) (a : Ty) (p q : Pt), q ∈ partsN n a p → q.1.nodes ≤ p.1.nodes ∧ (∀ m, p.1.bel m → q.1.bel m)
  | 0, a, p, q, h => by cases h
  | n + 1, a, p, q, h => by
    rcases List.mem_cons.1 h with rfl | h
    · exact ⟨Nat.le_refl _, fun m h => h⟩
    · obtain ⟨r, h1, h2⟩ := List.mem_flatMap.1 h
      obtain ⟨k, h3, h4⟩ := subs_mem h1
      obtain ⟨q1, q2⟩ := partsN_mem n a r q h2
      have := kids_sz h3
      rw [h4] at q1 q2
      exact ⟨by omega, fun m hm => q2 m (kids_bel hm h3).2⟩
theorem partsR_mem {s v : List UInt8} {l : List Pt} (h : partsR s v = some l) : l.length ≤ 100 ∧ ∀ q, q ∈ l → q.1.nodes ≤ 200 ∧ q.1.bel 100 ∧ q.1.txt.length ≤ 40000 := by
  unfold partsR at h
  split at h
  · rename_i a w ha hw
    obtain ⟨a', x, A, B, L⟩ := lvOK_some hw
    split at h
    · rename_i hl
      cases h
      refine ⟨hl, fun q hq => ?_⟩
      obtain ⟨h1, h2⟩ := partsN_mem _ _ _ _ hq
      have hb := h2 100 L.bel
      have hn := L.nodes
      have := txt_len q.1 hb
      simp only at h1
      exact ⟨by omega, hb, by omega⟩
    · cases h
  · cases h
theorem parts_depth : ∀ (n : Nat) (a : Ty) (p q : Pt), q ∈ partsN n a p → q.2.length ≤ p.2.length + n
  | 0, a, p, q, h => by cases h
  | n + 1, a, p, q, h => by
    rcases List.mem_cons.1 h with rfl | h
    · omega
    · obtain ⟨r, h1, h2⟩ := List.mem_flatMap.1 h
      have := parts_depth n a r q h2
      have hlen : ∀ (l : List Hl) (i : Nat), r ∈ subs p.2 l i → r.2.length = p.2.length + 1 := by
        intro l
        induction l with
        | nil => intro i hh; cases hh
        | cons k l ih =>
          intro i hh
          rcases List.mem_cons.1 hh with rfl | hh
          · simp
          · exact ih _ hh
      have := hlen _ _ h1
      omega
theorem partsR_depth {s v : List UInt8} {l : List Pt} (h : partsR s v = some l) : ∀ q, q ∈ l → q.2.length ≤ 200 := by
  unfold partsR at h
  split at h
  · rename_i a w ha hw
    obtain ⟨a', x, A, B, L⟩ := lvOK_some hw
    split at h
    · cases h
      intro q hq
      have := parts_depth _ _ _ _ hq
      have hn := L.nodes
      simp at this; omega
    · cases h
  · cases h
def PoR (f : List Pt → List (List AV)) (s v : List UInt8) : AV → List Ob → Prop := fun r o => o = [] ∧ ∃ x, LK.sl.has x ∧ r = .tup [x, .v (.bool (partsR s v).isSome)] ∧ ∀ l, partsR s v = some l → x = .sl (f l)
theorem PoR.ne (f : List Pt → List (List AV)) (s v : List UInt8) : ∃ r o, PoR f s v r o := by
  cases h : partsR s v with
  | none => exact ⟨_, _, rfl, .sl [], (has_sl _).mpr trivial, rfl, fun l hl => by rw [h] at hl; cases hl⟩
  | some l => exact ⟨_, _, rfl, .sl (f l), (has_sl _).mpr trivial, rfl, fun l' hl => by rw [h] at hl; cases hl; rfl⟩
theorem S_partsOf (s v : List UInt8) : FSpec Tryz.prog n_impl_partsOf [.v (.string (mk s)), .v (.string (mk v))] [] (PoR pAV s v) := by
  refine F_impl_partsOf _ _ ?_
  unfold t_impl_partsOf
  refine wp_det (S_loopValue s v) ?_
  have hT : LK.has .ptr (lvT s) = True := by unfold lvT; cases rdLp s <;> simp [ty_has, has_nil]
  cases h : lvOK s v with
  | none =>
    have hn : partsR s v = none := by unfold partsR; rw [h]; cases rdLp s <;> rfl
    simp only [↓zp, zs, hasK, optV, hT]
    exact ⟨fun _ => ⟨rfl, .v (.slice none 0 0), (has_slnil).mpr trivial, by simp [hn], fun l hl => by rw [hn] at hl; cases hl⟩, fun h => (by cases h)⟩
  | some w =>
    obtain ⟨a, x, A, B, L⟩ := lvOK_some h
    have hnd := L.nodes
    have hTa : lvT s = (Ty.rc a).av := by unfold lvT; rw [L.l]
    obtain ⟨p1, p2, p3⟩ := parts_tell a w
    have htell := S_tell 100 x A B a L.body L.hx w.nodes (w, []) (Nat.le_refl _) hnd (by simp; omega) L.vis [] (by simp; omega)
    simp only [↓zp, zs, hasK, optV, hTa, ty_has, vl_has, vl_nil]
    refine ⟨fun h => (by cases h), fun _ => ?_⟩
    refine wp_detO htell ?_
    simp only [↓zp, zs, hasK, hasC, ty_has, pAV_len]
    refine ⟨rfl, .sl (pAV (tellN w.nodes a [] (w, []))), (has_sl _).mpr trivial, ?_, fun l hl => ?_⟩
    · congr 4
      have : partsR s v = if (parts a w).length ≤ 100 then some (parts a w) else none := by unfold partsR; rw [L.l, h]
      rw [this]
      by_cases hc : (parts a w).length ≤ 100
      · rw [if_pos hc, p1 hc]; simp; omega
      · rw [if_neg hc]; have := p2 (by omega); simp; omega
    · unfold partsR at hl
      rw [L.l, h] at hl
      simp only at hl
      split at hl
      · rename_i hc
        cases hl
        rw [p1 hc]
      · cases hl
/-- The longest place. -/
def deep : List Pt → Nat → Nat
  | [], d => d
  | p :: l, d => deep l (if p.2.length > d then p.2.length else d)
def depR (s v : List UInt8) : Int := match partsR s v with
  | some l => (deep l 0 : Nat)
  | none => -1
theorem pAV_get {l : List Pt} {i : Nat} (hi : i < l.length) : (pAV l).getD i [] = [(l[i]).1.iav, plAV (l[i]).2] := by simp [pAV, List.getD_eq_getElem?_getD, hi]
/-- The texts of the parts. -/
def ptxts (l : List Pt) : List (List UInt8) := l.map fun p => p.1.txt
def optL (f : List Pt → List (List AV)) (e : AV) : Option (List Pt) → AV
  | some l => .tup [.sl (f l), .v (.bool true)]
  | none => .tup [e, .v (.bool false)]
theorem LS_ptx (l : List Pt) (hl : l.length ≤ 1000) (ht : ∀ q, q ∈ l → q.1.txt.length ≤ 40000) : ∀ (k i : Nat) (out : List (List UInt8)), i + k = l.length → out.length + k ≤ 1000 →
    LS_impl_PartsOf_1 [.sl (pAV l), .v (.int .i64 (l.length : Int)), .v (.int .i64 (i : Int))] [.vec 1 (strsAV out)] (LIs 1 [] [.vec 1 (strsAV (out ++ ptxts (l.drop i)))])
  | 0, i, out, hi, ho => by
    refine G_impl_PartsOf_1 _ _ _ _ ?_
    have : i = l.length := by omega
    subst this
    simp only [r_impl_PartsOf_1, ↓zp, zs, hasK]
    exact ⟨fun h => by omega, fun _ => by simp [LIs, ptxts]⟩
  | k + 1, i, out, hi, ho => by
    have hlt : i < l.length := by omega
    have hm : l[i] ∈ l := List.getElem_mem _
    refine G_impl_PartsOf_1 _ _ _ _ ?_
    have hlen : (strsAV out).length = out.length := by simp [strsAV]
    simp only [r_impl_PartsOf_1, ↓zp, zs, hasK, zt, pAV_len, pAV_get hlt, vl_has, plAV_has, hasL, hlen, S_append]
    refine ⟨fun _ => ?_, fun h => by omega⟩
    repeat refine ⟨by omega, ?_⟩
    refine wp_det (S_vtext (l[i]).1 (by have := ht _ hm; omega)) ?_
    simp only [↓zp, zs, hasK, S_append]
    refine ⟨⟨allLen1 _, by omega⟩, ?_⟩
    have := LS_ptx l hl ht k (i + 1) (out ++ [(l[i]).1.txt]) (by omega) (by simp; omega)
    rw [wrap_succ i (by omega), List.drop_eq_getElem_cons hlt]
    rw [List.append_assoc] at this
    exact this
/-- The texts of all parts, none if that fails. -/
def ptx (s v : List UInt8) : List (List UInt8) := match partsR s v with
  | some l => ptxts l
  | none => []
theorem ptx_len (s v : List UInt8) : (ptx s v).length ≤ 1000 := by
  unfold ptx
  cases h : partsR s v with
  | none => simp
  | some l => have := (partsR_mem h).1; simp [ptxts]; omega
theorem S_PartsOfI (s v : List UInt8) : FSpec Tryz.prog n_impl_PartsOf [.v (.string (mk s)), .v (.string (mk v))] [] (DetO (.tup [.vec 0, .v (.bool (partsR s v).isSome)]) [.vec 1 (strsAV (ptx s v))]) := by
  refine F_impl_PartsOf _ _ ?_
  unfold t_impl_PartsOf
  refine wp_call (S_partsOf s v) (PoR.ne _ s v) ?_
  rintro r o ⟨rfl, x, hx, rfl, hl⟩
  cases h : partsR s v with
  | none => simp [↓zp, zs, hasK, hx, h, DetO, ptx, strsAV]
  | some l =>
    rw [hl l h]
    obtain ⟨h1, h2⟩ := partsR_mem h
    simp only [↓zp, zs, hasK, Option.isSome_some, pAV_len]
    refine ⟨fun h => (by cases h), fun _ => ?_⟩
    have := LS_ptx l (by omega) (fun q hq => (h2 q hq).2.2) l.length 0 [] (by omega) (by simp; omega)
    rw [List.drop_zero, List.nil_append] at this
    refine wp_loop1 this ?_
    simp [↓zp, zs, hasK, DetO, ptx, h, Ob.es]
def placesAV (f : List Nat → AV) (l : List Pt) : List (List AV) := l.map fun p => [f p.2]
theorem placesAV_len (f : List Nat → AV) (l : List Pt) : (placesAV f l).length = l.length := by simp [placesAV]
theorem placesAV_one (f : List Nat → AV) (out : List Pt) (p : Pt) : placesAV f out ++ [[f p.2]] = placesAV f (out ++ [p]) := by simp [placesAV]
end Go.Proofs.Trees
