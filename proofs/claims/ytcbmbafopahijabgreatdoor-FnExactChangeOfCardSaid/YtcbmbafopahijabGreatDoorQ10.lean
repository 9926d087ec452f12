/-
  Part of a proof: laws over values.
-/
import Derived.Test.YtcbmbafopahijabGreatDoorQ9
set_option linter.unusedVariables false
set_option linter.unusedSimpArgs false
namespace Go.Proofs.Trees
open Go Go.VL
/-! ### Both read the same -/
def freeLoo : Ty → Bool
  | .name s => isLoo s
  | .plus a b => freeLoo a || freeLoo b
  | .times a b => freeLoo a || freeLoo b
  | .rc a => freeLoo a
  | _ => false
theorem any_namesOf : ∀ (t : Ty) (out : List (List UInt8)), (namesOf t out).any isLoo = (out.any isLoo || freeLoo t)
  | .name s, out => by
    simp only [namesOf, addN, freeLoo]
    split
    · rename_i h
      cases hs : isLoo s with
      | false => simp
      | true => rw [Bool.or_true, List.any_eq_true]; exact ⟨s, h, hs⟩
    · simp
  | .plus a b, out => by simp only [namesOf, freeLoo, any_namesOf a, any_namesOf b, Bool.or_assoc]
  | .times a b, out => by simp only [namesOf, freeLoo, any_namesOf a, any_namesOf b, Bool.or_assoc]
  | .rc a, out => by simp only [namesOf, freeLoo, any_namesOf a]
  | .zero, out => by simp [namesOf, freeLoo]
  | .one, out => by simp [namesOf, freeLoo]
  | .bound u, out => by simp [namesOf, freeLoo]
theorem closed_eq (t : Ty) : t.closed = !freeLoo t := by simp [Ty.closed, any_namesOf]
def pl : Ty → Bool
  | .name s => decide (s.length ≤ 1)
  | .plus a b => pl a && pl b
  | .times a b => pl a && pl b
  | .rc a => false
  | _ => true
theorem plainV_eq : ∀ (t : Ty) (b : Bool), plainV t b = (b && pl t)
  | .name s, b => by simp [plainV, pl]
  | .plus a c, b => by simp only [plainV, pl, plainV_eq a, plainV_eq c, Bool.and_assoc]
  | .times a c, b => by simp only [plainV, pl, plainV_eq a, plainV_eq c, Bool.and_assoc]
  | .rc a, b => by simp [plainV, pl, plainV_eq a]
  | .zero, b => by simp [plainV, pl]
  | .one, b => by simp [plainV, pl]
  | .bound u, b => by simp [plainV, pl]
theorem named_cons {lo hi : Nat} {s : List UInt8} (h : named lo hi s = true) : ∃ c r, s = c :: r ∧ lo ≤ c.toNat ∧ c.toNat ≤ hi := by
  cases s with
  | nil => cases h
  | cons c r => simp only [named, Bool.and_eq_true, decide_eq_true_eq] at h; exact ⟨c, r, rfl, by omega, by omega⟩
theorem b_eq {c : UInt8} {n : Nat} (hn : n < 256) : c = UInt8.ofNat n ↔ c.toNat = n := by
  constructor
  · rintro rfl; simp; omega
  · intro h; rw [← h]; simp
theorem plE_name {s : List UInt8} (h0 : s ≠ [48]) (h1 : s ≠ [49]) (h : isPar s = true ∨ isLoo s = true) : plE (.atom s) = (decide (s.length ≤ 1) && !isLoo s) := by
  have key : ∀ c : UInt8, ([c] == [(120 : UInt8)] || [c] == [121] || [c] == [122]) = decide (120 ≤ c.toNat ∧ c.toNat ≤ 122) := by
    intro c
    rw [Bool.eq_iff_iff]
    simp [← UInt8.toNat_inj]
    omega
  rcases h with h | h
  · obtain ⟨c, r, rfl, hc1, hc2⟩ := named_cons h
    have hl : isLoo (c :: r) = false := by
      cases hq : isLoo (c :: r) with
      | false => rfl
      | true => obtain ⟨c', r', he, h3, h4⟩ := named_cons hq; cases he; omega
    rw [hl]
    cases r with
    | nil =>
      have := key c
      simp only [plE]
      rw [beq_eq_false_iff_ne.2 h0, beq_eq_false_iff_ne.2 h1, Bool.or_assoc, Bool.or_assoc, Bool.or_assoc, ← Bool.or_assoc ([c] == [120]), this]
      simp; omega
    | cons d r => simp [plE]
  · obtain ⟨c, r, rfl, hc1, hc2⟩ := named_cons h
    rw [h]
    cases r with
    | nil =>
      have := key c
      simp only [plE]
      rw [beq_eq_false_iff_ne.2 h0, beq_eq_false_iff_ne.2 h1, Bool.or_assoc, Bool.or_assoc, Bool.or_assoc, ← Bool.or_assoc ([c] == [120]), this]
      simp; omega
    | cons d r => simp [plE]
theorem tyOf_plus_inv {x a b : E} {ar : List (List UInt8)} {t : Ty} (hx : x.at = [43]) (h : tyOf (.list [x, a, b]) ar = some t) : ∃ t1 t2, tyOf a ar = some t1 ∧ tyOf b ar = some t2 ∧ t = .plus t1 t2 := by
  rw [tyOf_plus ar hx] at h
  split at h
  · rename_i t1 t2 e1 e2; cases h; exact ⟨t1, t2, e1, e2, rfl⟩
  · cases h
theorem tyOf_times_inv {x a b : E} {ar : List (List UInt8)} {t : Ty} (hx : x.at = [42]) (h : tyOf (.list [x, a, b]) ar = some t) : ∃ t1 t2, tyOf a ar = some t1 ∧ tyOf b ar = some t2 ∧ t = .times t1 t2 := by
  rw [tyOf_times ar hx] at h
  split at h
  · rename_i t1 t2 e1 e2; cases h; exact ⟨t1, t2, e1, e2, rfl⟩
  · cases h
theorem tyOf_rec_inv {x a b : E} {ar : List (List UInt8)} {t : Ty} (hx : x.at = [114, 101, 99]) (h : tyOf (.list [x, a, b]) ar = some t) : ∃ t1, isLoo a.at = true ∧ tyOf b (ar ++ [a.at]) = some t1 ∧ t = .rc t1 := by
  rw [tyOf_rec ar hx] at h
  split at h
  · rename_i hl
    split at h
    · rename_i t1 e1; cases h; exact ⟨t1, hl, e1, rfl⟩
    · cases h
  · cases h
theorem plE_eq : ∀ (e : E) (t : Ty), tyOf e [] = some t → plE e = (pl t && !freeLoo t)
  | .atom s, t, h => by
    simp only [tyOf] at h
    split at h
    · rename_i h0; cases h; simp [plE, h0, pl, freeLoo]
    · rename_i h0
      split at h
      · rename_i h1; cases h; simp [plE, h1, pl, freeLoo]
      · rename_i h1
        split at h
        · rename_i h2; cases h; exact plE_name h0 h1 (.inl h2)
        · split at h
          · rename_i h2
            simp only [List.length_nil, lastOf] at h
            cases h; exact plE_name h0 h1 (.inr h2)
          · cases h
  | .list [], _, h => by cases h
  | .list [_], _, h => by cases h
  | .list [_, _], _, h => by cases h
  | .list (_ :: _ :: _ :: _ :: _), _, h => by cases h
  | .list [x, a, b], t, h => by
    rw [plE]
    by_cases h0 : x.at = [43]
    · obtain ⟨t1, t2, e1, e2, rfl⟩ := tyOf_plus_inv h0 h
      rw [plE_eq a t1 e1, plE_eq b t2 e2, h0, pl, freeLoo]
      cases pl t1 <;> cases pl t2 <;> cases freeLoo t1 <;> cases freeLoo t2 <;> rfl
    · by_cases h1 : x.at = [42]
      · obtain ⟨t1, t2, e1, e2, rfl⟩ := tyOf_times_inv h1 h
        rw [plE_eq a t1 e1, plE_eq b t2 e2, h1, pl, freeLoo]
        cases pl t1 <;> cases pl t2 <;> cases freeLoo t1 <;> cases freeLoo t2 <;> rfl
      · by_cases h2 : x.at = [114, 101, 99]
        · obtain ⟨t1, hl, e1, rfl⟩ := tyOf_rec_inv h2 h
          rw [h2]; rfl
        · rw [tyOf_no [] h0 h1 h2] at h; cases h
/-- What the reference reads, and what the program reads. -/
theorem rdY_of {s : List UInt8} : rdY s = match rdE s with | none => none | some e => tyOf e [] := by
  unfold rdY rdE
  cases he : rdT s with
  | none => rfl
  | some e =>
    have hs := tyOf_some e []
    simp only
    cases ht : tyOf e [] with
    | none =>
      rw [ht] at hs
      rw [if_neg (by rw [← hs]; simp)]
    | some t =>
      rw [ht] at hs
      have ha := tyOf_ats e [] t ht
      by_cases h4 : e.ats ≤ 400
      · rw [if_pos ⟨hs.symm, h4⟩]; dsimp only; rw [if_neg (by omega)]; exact ht.symm
      · rw [if_neg (fun h => h4 h.2)]; dsimp only; rw [if_pos (by omega)]
theorem rdP_of (s : List UInt8) : rdP s = match rdPE s with | none => none | some e => tyOf e [] := by
  unfold rdP rdC rdPE
  rw [rdY_of]
  cases he : rdE s with
  | none => rfl
  | some e =>
    obtain ⟨h1, h2, h3⟩ := rdE_ok he
    have hs := tyOf_some e []
    rw [h2] at hs
    obtain ⟨t, ht⟩ := Option.isSome_iff_exists.1 hs
    have hp := plE_eq e t ht
    simp only [ht, closed_eq, plainV_eq, Bool.true_and, hp]
    cases hf : freeLoo t <;> cases hpl : pl t <;> simp [ht, plainV_eq, hpl]
theorem rdP_some (s : List UInt8) : (rdPE s).isSome = (rdP s).isSome := by
  rw [rdP_of]
  cases he : rdPE s with
  | none => rfl
  | some e =>
    unfold rdPE at he
    split at he
    · cases he
    · rename_i e' h'
      split at he
      · cases he
        obtain ⟨h1, h2, h3⟩ := rdE_ok h'
        simp only [tyOf_some e [], h2]; rfl
      · cases he
end Go.Proofs.Trees
