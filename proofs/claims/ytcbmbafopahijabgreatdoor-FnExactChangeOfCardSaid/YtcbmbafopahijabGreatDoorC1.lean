/-
  Part of a proof: laws over values.
-/
import Derived.Test.YtcbmbafopahijabGreatDoorQ10
set_option linter.unusedVariables false
set_option linter.unusedSimpArgs false
namespace Go.Proofs.Trees
open Go Go.VL
/-! ### Counts -/
/-- A plain type. -/
def pure : Ty → Bool
  | .zero => true
  | .one => true
  | .name s => (s == [120]) || (s == [121]) || (s == [122])
  | .plus a b => pure a && pure b
  | .times a b => pure a && pure b
  | _ => false
theorem pure_of : ∀ (e : E) (t : Ty), tyOf e [] = some t → plE e = true → pure t = true
  | .atom s, t, h, hp => by
    simp only [tyOf] at h
    simp only [plE] at hp
    split at h
    · cases h; rfl
    · rename_i h0
      split at h
      · cases h; rfl
      · rename_i h1
        rw [beq_eq_false_iff_ne.2 h0, beq_eq_false_iff_ne.2 h1] at hp
        split at h
        · cases h; simpa [pure] using hp
        · split at h
          · simp only [List.length_nil, lastOf] at h
            cases h; simpa [pure] using hp
          · cases h
  | .list [], _, h, _ => by cases h
  | .list [_], _, h, _ => by cases h
  | .list [_, _], _, h, _ => by cases h
  | .list (_ :: _ :: _ :: _ :: _), _, h, _ => by cases h
  | .list [x, a, b], t, h, hp => by
    rw [plE] at hp
    simp only [Bool.and_eq_true] at hp
    by_cases h0 : x.at = [43]
    · obtain ⟨t1, t2, e1, e2, rfl⟩ := tyOf_plus_inv h0 h
      simp only [pure, pure_of a t1 e1 hp.2.1, pure_of b t2 e2 hp.2.2, Bool.and_self]
    · by_cases h1 : x.at = [42]
      · obtain ⟨t1, t2, e1, e2, rfl⟩ := tyOf_times_inv h1 h
        simp only [pure, pure_of a t1 e1 hp.2.1, pure_of b t2 e2 hp.2.2, Bool.and_self]
      · by_cases h2 : x.at = [114, 101, 99]
        · rw [h2] at hp; simp at hp
        · rw [tyOf_no [] h0 h1 h2] at h; cases h
/-- What both sides have of a plain text. -/
theorem rdPE_ok {s : List UInt8} {e : E} (h : rdPE s = some e) : rdE s = some e ∧ plE e = true := by
  unfold rdPE at h
  split at h
  · cases h
  · split at h
    · rename_i h1 h2; cases h; exact ⟨h1, h2⟩
    · cases h
theorem rdPE_full {s : List UInt8} {e : E} (h : rdPE s = some e) : ∃ t, rdP s = some t ∧ tyOf e [] = some t ∧ pure t = true ∧ e.ok ∧ e.sz ≤ 8000 ∧ isTy e = true ∧ plE e = true ∧ t.atoms ≤ 400 ∧ rdT s = some e := by
  obtain ⟨h1, h2⟩ := rdPE_ok h
  obtain ⟨h3, h4, h5⟩ := rdE_ok h1
  obtain ⟨hok, hsz⟩ := rdT_ok h3
  have hs := tyOf_some e []
  rw [h4] at hs
  obtain ⟨t, ht⟩ := Option.isSome_iff_exists.1 hs
  refine ⟨t, ?_, ht, pure_of e t ht h2, hok, hsz, h4, h2, ?_, h3⟩
  · rw [rdP_of, h]; exact ht
  · rw [← tyOf_ats e [] t ht]; exact h5
theorem rdPE_none {s : List UInt8} (h : rdPE s = none) : rdP s = none := by rw [rdP_of, h]
def capC (v : Nat) : Option Nat := if v ≤ 1000000000 then some v else none
/-- The number of values. -/
def cnt (n : Nat) : Ty → Option Nat
  | .zero => some 0
  | .one => some 1
  | .name _ => some n
  | .plus a b => match cnt n a, cnt n b with | some x, some y => capC (x + y) | _, _ => none
  | .times a b => match cnt n a, cnt n b with | some x, some y => capC (x * y) | _, _ => none
  | _ => none
theorem cnt_le (n : Nat) (hn : n ≤ 100) : ∀ (t : Ty) (c : Nat), cnt n t = some c → c ≤ 1000000000
  | .zero, c, h => by cases h; omega
  | .one, c, h => by cases h; omega
  | .name s, c, h => by cases h; omega
  | .bound u, c, h => by cases h
  | .rc a, c, h => by cases h
  | .plus a b, c, h => by
    simp only [cnt] at h
    split at h
    · unfold capC at h; split at h <;> cases h; omega
    · cases h
  | .times a b, c, h => by
    simp only [cnt] at h
    split at h
    · unfold capC at h; split at h <;> cases h; omega
    · cases h
def optN : Option Nat → AV
  | some c => .tup [.v (.int .i64 (c : Int)), .v (.bool true)]
  | none => .tup [.v (.int .i64 0), .v (.bool false)]
theorem mul_le9 {x y : Nat} (hx : x ≤ 1000000000) (hy : y ≤ 1000000000) : x * y ≤ 1000000000000000000 := by
  have := Nat.mul_le_mul hx hy; omega
/-- What the reference returns. -/
def CntR (x : Option Nat) : AV → List Ob → Prop := fun r o => ∃ v : Int, r = .tup [.v (.int .i64 v), .v (.bool x.isSome)] ∧ ∀ c, x = some c → v = (c : Int)
theorem CntR.ne (x : Option Nat) : ∃ r o, CntR x r o := by
  cases x with
  | none => exact ⟨_, [], 0, rfl, fun c h => by cases h⟩
  | some c => exact ⟨_, [], (c : Int), rfl, fun c' h => by cases h; rfl⟩
/-- What both sides count. -/
def cntS (s : List UInt8) (n : Int) : Option Nat := if 0 ≤ n ∧ n ≤ 100 then (match rdP s with | some t => cnt n.toNat t | none => none) else none
theorem cntS_some' {s : List UInt8} {n : Int} {N : Nat} (h : cntS s n = some N) : ∃ (m : Nat) (t : Ty), n = (m : Int) ∧ m ≤ 100 ∧ rdP s = some t ∧ cnt m t = some N := by
  unfold cntS at h
  split at h
  · rename_i hn
    split at h
    · rename_i t ht
      exact ⟨n.toNat, t, by omega, by omega, ht, h⟩
    · cases h
  · cases h
end Go.Proofs.Trees
