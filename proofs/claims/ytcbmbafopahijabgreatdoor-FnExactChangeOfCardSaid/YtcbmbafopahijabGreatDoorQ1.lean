/-
  Part of a proof: laws over values.
-/
import Derived.Test.YtcbmbafopahijabGreatDoorTrees
import Derived.Test.YtcbmbafopahijabGreatDoorVLSet
set_option linter.unusedVariables false
set_option linter.unusedSimpArgs false
namespace Go.Proofs.Trees
open Go Go.VL
theorem wrap_succ (i : Nat) (h : i < 1000000000000) : IntKind.wrap .i64 ((i : Int) + 1) = ((i + 1 : Nat) : Int) := by rw [wrap64] <;> omega
/-! ### What is read -/
inductive E where
  | atom (s : List UInt8)
  | list (l : List E)
mutual
def E.iav : E → AV
  | .atom s => .ptr [.v (.string (mk s)), .v (.slice none 0 0)]
  | .list l => .ptr [.v (.string (mk [])), .sl (E.iavs l)]
def E.iavs : List E → List (List AV)
  | [] => []
  | e :: l => [e.iav] :: E.iavs l
end
mutual
def E.scells : E → List AV
  | .atom s => [.v (.string (mk s)), .v (.slice none 0 0)]
  | .list l => [.v (.string (mk [])), .sl (E.scellss l)]
def E.scellss : List E → List (List AV)
  | [] => []
  | e :: l => e.scells :: E.scellss l
end
def E.sav (e : E) : AV := .agg e.scells
theorem iavs_app (l r : List E) : E.iavs (l ++ r) = E.iavs l ++ E.iavs r := by
  induction l with
  | nil => rfl
  | cons e l ih => simp [E.iavs, ih]
theorem scellss_app (l r : List E) : E.scellss (l ++ r) = E.scellss l ++ E.scellss r := by
  induction l with
  | nil => rfl
  | cons e l ih => simp [E.scellss, ih]
theorem iavs_len (l : List E) : (E.iavs l).length = l.length := by
  induction l with
  | nil => rfl
  | cons e l ih => simp [E.iavs, ih]
theorem scellss_len (l : List E) : (E.scellss l).length = l.length := by
  induction l with
  | nil => rfl
  | cons e l ih => simp [E.scellss, ih]
def isA (b : UInt8) : Bool := decide ((97 ≤ b.toNat ∧ b.toNat ≤ 122) ∨ (48 ≤ b.toNat ∧ b.toNat ≤ 57) ∨ b.toNat = 43 ∨ b.toNat = 42)
/-- The parts of a list: f reads one. -/
def rdL (f : List UInt8 → Option (E × List UInt8)) : Nat → List UInt8 → List E → Option (E × List UInt8)
  | 0, _, _ => none
  | n + 1, s, acc => match f s with
    | some (p, c :: r) => if c.toNat = 41 then some (.list (acc ++ [p]), r) else if c.toNat = 32 then rdL f n r (acc ++ [p]) else none
    | _ => none
def rd : Nat → List UInt8 → Option (E × List UInt8)
  | 0, s => if s.takeWhile isA = [] then none else some (.atom (s.takeWhile isA), s.dropWhile isA)
  | k + 1, s => if s.takeWhile isA = [] then (match s with
      | c :: r => if c.toNat = 40 then rdL (rd k) (r.length + 1) r [] else none
      | [] => none) else some (.atom (s.takeWhile isA), s.dropWhile isA)
theorem rdL_lt {f : List UInt8 → Option (E × List UInt8)} (hf : ∀ s e r, f s = some (e, r) → r.length < s.length) : ∀ (n : Nat) (s : List UInt8) (acc : List E) (e : E) (r : List UInt8), rdL f n s acc = some (e, r) → r.length < s.length
  | 0, s, acc, e, r, h => by cases h
  | n + 1, s, acc, e, r, h => by
    simp only [rdL] at h
    split at h
    · rename_i p c r' hs
      have := hf _ _ _ hs
      simp only [List.length_cons] at this
      split at h
      · cases h; omega
      · split at h
        · have := rdL_lt hf n _ _ _ _ h; omega
        · cases h
    · cases h
theorem dropWhile_lt {s : List UInt8} (h : ¬ s.takeWhile isA = []) : (s.dropWhile isA).length < s.length := by
  have h1 := congrArg List.length (List.takeWhile_append_dropWhile (p := isA) (l := s))
  simp only [List.length_append] at h1
  have : 0 < (s.takeWhile isA).length := List.length_pos_iff.2 h
  omega
theorem rd_lt : ∀ (k : Nat) (s : List UInt8) (e : E) (r : List UInt8), rd k s = some (e, r) → r.length < s.length
  | 0, s, e, r, h => by
    simp only [rd] at h
    split at h
    · cases h
    · rename_i hn; cases h; exact dropWhile_lt hn
  | k + 1, s, e, r, h => by
    simp only [rd] at h
    split at h
    · split at h
      · split at h
        · have := rdL_lt (rd_lt k) _ _ _ _ _ h
          simp only [List.length_cons]; omega
        · cases h
      · cases h
    · rename_i hn; cases h; exact dropWhile_lt hn
/-! ### The program's parser -/
theorem S_isAtomByte (b : UInt8) : FSpec Tryz.prog n_impl_isAtomByte [.v (.int .u8 (b.toNat : Int))] [] (Det (.v (.bool (isA b)))) := by
  refine F_impl_isAtomByte _ ?_
  simp only [t_impl_isAtomByte, ↓zp, zs, hasK, Det, isA]
  repeat' (apply And.intro <;> intro _)
  all_goals first | (congr 2; rw [Bool.eq_iff_iff]; simp; omega) | (congr 2; simp; omega)
theorem tw_step {s : List UInt8} {i : Nat} (hi : i < s.length) (hb : isA (s.getD i 0) = true) : ((s.drop i).takeWhile isA).length = ((s.drop (i + 1)).takeWhile isA).length + 1 := by
  have e : s.drop i = s.getD i 0 :: s.drop (i + 1) := by
    rw [List.drop_eq_getElem_cons hi]; simp [List.getD_eq_getElem?_getD, hi]
  rw [e, List.takeWhile_cons_of_pos hb]; simp
theorem tw_stop {s : List UInt8} {i : Nat} (hi : i < s.length) (hb : isA (s.getD i 0) = false) : (s.drop i).takeWhile isA = [] := by
  have e : s.drop i = s.getD i 0 :: s.drop (i + 1) := by
    rw [List.drop_eq_getElem_cons hi]; simp [List.getD_eq_getElem?_getD, hi]
  rw [e, List.takeWhile_cons_of_neg (by rw [hb]; simp)]
theorem LS_readExpr1 (s : List UInt8) (hs : s.length ≤ 8000) (d : Int) : ∀ (k i : Nat), i + k = s.length → LS_impl_readExpr_1 [.v (.string (mk s)), .v (.int .i64 d), .v (.int .i64 (i : Int))] [] (LIs 1 [.v (.string (mk s)), .v (.int .i64 d), .v (.int .i64 ((i + ((s.drop i).takeWhile isA).length : Nat) : Int))] [])
  | 0, i, hi => by
    refine G_impl_readExpr_1 _ _ _ ?_
    have hd : s.drop i = [] := List.drop_eq_nil_of_le (by omega)
    simp only [r_impl_readExpr_1, ↓zp, zs, hasK, zt]
    exact ⟨fun h => by omega, fun _ => by simp [LIs, hd]⟩
  | k + 1, i, hi => by
    have hlt : i < s.length := by omega
    refine G_impl_readExpr_1 _ _ _ ?_
    simp only [r_impl_readExpr_1, ↓zp, zs, hasK, zt, bt_mk s i hlt]
    refine ⟨fun _ => ⟨by omega, ?_⟩, fun h => by omega⟩
    refine wp_det (S_isAtomByte _) ?_
    simp only [↓zp, zs, hasK]
    refine ⟨fun hb => ?_, fun hb => ?_⟩
    · rw [wrap_succ i (by omega)]
      have := LS_readExpr1 s hs d k (i + 1) (by omega)
      rw [tw_step hlt hb, show i + (((s.drop (i + 1)).takeWhile isA).length + 1) = i + 1 + ((s.drop (i + 1)).takeWhile isA).length by omega]
      exact this
    · simp [LIs, tw_stop hlt hb]
/-- What the program's reader returns. -/
def iRes (s : List UInt8) : Option (E × List UInt8) → AV
  | some (e, r) => .tup [e.iav, .v (.string (mk r))]
  | none => .tup [.v (.pointer none), .v (.string (mk s))]
theorem iav_has (e : E) : LK.has .ptr e.iav = True := by cases e <;> simp [E.iav, has_ptr]
theorem iav_nil (e : E) : e.iav.isNil = false := by cases e <;> rfl
theorem take_tw (s : List UInt8) : s.take (s.takeWhile isA).length = s.takeWhile isA := by
  have h := List.takeWhile_append_dropWhile (p := isA) (l := s)
  have : (s.takeWhile isA ++ s.dropWhile isA).take (s.takeWhile isA).length = s.takeWhile isA := List.take_left
  rw [h] at this; exact this
theorem drop_tw (s : List UInt8) : s.drop (s.takeWhile isA).length = s.dropWhile isA := by
  have h := List.takeWhile_append_dropWhile (p := isA) (l := s)
  have : (s.takeWhile isA ++ s.dropWhile isA).drop (s.takeWhile isA).length = s.dropWhile isA := List.drop_left
  rw [h] at this; exact this
theorem drop1 (c : UInt8) (r : List UInt8) : (List.take (r.length + 1) (c :: r)).drop (Int.toNat 1) = r := by simp
theorem LS_readExpr2 (s0 : List UInt8) (k : Nat) (hk : k < 300) (ih : ∀ s, s.length ≤ 8000 → FSpec Tryz.prog n_impl_readExpr [.v (.string (mk s)), .v (.int .i64 ((300 - k : Nat) : Int))] [] (Det (iRes s (rd k s)))) :
    ∀ (n : Nat) (s : List UInt8) (acc : List E), s.length < n → s.length + acc.length ≤ 8000 → LS_impl_readExpr_2 [.v (.string (mk s0)), .v (.int .i64 ((300 - (k + 1) : Nat) : Int)), .v (.string (mk s))] [.cells [.v (.string (mk [])), .any], .vec 1 (E.iavs acc)]
      (LBy (match rdL (rd k) n s acc with | some (e, r) => (2, [e.iav, .v (.string (mk r))], []) | none => (2, [.v (.pointer none), .v (.string (mk s0))], [])))
  | 0, s, acc, hn, _ => by omega
  | n + 1, s, acc, hn, hl => by
    refine G_impl_readExpr_2 _ _ _ _ _ ?_
    simp only [r_impl_readExpr_2, ↓zp, zs, hasK, es_vec]
    have hd : IntKind.wrap .i64 (((300 - (k + 1) : Nat) : Int) + 1) = ((300 - k : Nat) : Int) := by rw [wrap64] <;> omega
    rw [hd]
    refine wp_det (ih s (by omega)) ?_
    have hlt := rd_lt k s
    cases hr : rd k s with
    | none =>
      simp only [iRes, ↓zp, zs, hasK, rdL, hr]
      simp [LBy]
    | some q =>
      obtain ⟨e, r⟩ := q
      have := hlt e r hr
      cases r with
      | nil =>
        simp only [iRes, ↓zp, zs, hasK, zt, rdL, hr, iav_has, iav_nil]
        simp [LBy]
      | cons c r =>
        simp only [List.length_cons] at this
        have hb := bt_mk (c :: r) 0 (by simp)
        simp only [Int.ofNat_eq_natCast, Int.cast_ofNat_Int] at hb
        have e2 : (List.take (c :: r).length (c :: r)).drop 1 = r := by simp
        simp only [iRes, ↓zp, zs, hasK, zt, rdL, hr, iav_has, iav_nil, hb, e2, iavs_len]
        refine ⟨fun h => (by cases h), fun _ => ⟨fun h => (by cases h), fun _ => ⟨⟨fun c hc => (by simp at hc; rw [hc]; rfl), by omega⟩, by omega, by omega, fun h41 => ?_, fun h41 => ⟨by omega, fun h32 => ?_, fun h32 => ?_⟩⟩⟩⟩
        · have h41' : c.toNat = 41 := by omega
          rw [drop1, if_pos h41']
          simp [LBy, E.iav, iavs_app, E.iavs]
        · have h41' : ¬ c.toNat = 41 := by omega
          have h32' : ¬ c.toNat = 32 := by omega
          rw [if_neg h41', if_neg h32']
        · have h41' : ¬ c.toNat = 41 := by omega
          have h32' : c.toNat = 32 := by omega
          rw [drop1, if_neg h41', if_pos h32']
          have := LS_readExpr2 s0 k hk ih n r (acc ++ [e]) (by omega) (by simp; omega)
          simpa [iavs_app, E.iavs] using this
theorem S_readExpr : ∀ (k : Nat), k ≤ 300 → ∀ s : List UInt8, s.length ≤ 8000 → FSpec Tryz.prog n_impl_readExpr [.v (.string (mk s)), .v (.int .i64 ((300 - k : Nat) : Int))] [] (Det (iRes s (rd k s))) := by
  intro k
  induction k with
  | zero =>
    intro hk s hs
    refine F_impl_readExpr _ _ ?_
    unfold t_impl_readExpr
    refine wp_loop1 (LS_readExpr1 s hs _ s.length 0 (by omega)) ?_
    simp only [↓zp, zs, hasK, zt, Nat.zero_add, Det]
    have hw : (s.takeWhile isA).length ≤ s.length := by
      have := congrArg List.length (List.takeWhile_append_dropWhile (p := isA) (l := s))
      simp only [List.length_append] at this; omega
    refine ⟨fun h => ⟨by omega, by omega, ?_⟩, fun h => ?_⟩
    · have hne : ¬ s.takeWhile isA = [] := fun e => by rw [e] at h; simp at h
      simp only [rd, if_neg hne, iRes, E.iav, take_tw, drop_tw]
    · have hnil : s.takeWhile isA = [] := List.eq_nil_of_length_eq_zero (by omega)
      simp only [rd, if_pos hnil, iRes]
      refine ⟨fun _ => trivial, fun hne => ⟨?_, ?_⟩⟩
      · cases s with
        | nil => exact absurd rfl hne
        | cons c s => simp
      · exact ⟨fun _ => trivial, fun _ => ⟨fun _ => trivial, fun h => absurd rfl h⟩⟩
  | succ k ih =>
    intro hk s hs
    refine F_impl_readExpr _ _ ?_
    unfold t_impl_readExpr
    refine wp_loop1 (LS_readExpr1 s hs _ s.length 0 (by omega)) ?_
    simp only [↓zp, zs, hasK, zt, Nat.zero_add, Det]
    have hw : (s.takeWhile isA).length ≤ s.length := by
      have := congrArg List.length (List.takeWhile_append_dropWhile (p := isA) (l := s))
      simp only [List.length_append] at this; omega
    refine ⟨fun h => ⟨by omega, by omega, ?_⟩, fun h => ?_⟩
    · have hne : ¬ s.takeWhile isA = [] := fun e => by rw [e] at h; simp at h
      simp only [rd, if_neg hne, iRes, E.iav, take_tw, drop_tw]
    · have hnil : s.takeWhile isA = [] := List.eq_nil_of_length_eq_zero (by omega)
      simp only [rd, if_pos hnil]
      cases s with
      | nil => simp [iRes]
      | cons c s =>
        have hb := bt_mk (c :: s) 0 (by simp)
        simp only [Int.ofNat_eq_natCast, Int.cast_ofNat_Int] at hb
        simp only [List.length_cons] at hs
        simp only [↓zp, zs, hasK, hb, drop1]
        refine ⟨fun h => (by cases h), fun _ => ⟨by omega, fun h40 => ?_, fun h40 => ⟨fun h300 => ?_, fun h300 => ⟨by omega, ?_⟩⟩⟩⟩
        · have : ¬ c.toNat = 40 := by omega
          rw [if_neg this]; rfl
        · omega
        · have h40' : c.toNat = 40 := by omega
          rw [if_pos h40']
          refine wp_loopB (LS_readExpr2 (c :: s) k (by omega) (ih (by omega)) (s.length + 1) s [] (by omega) (by simp; omega)) (fun ys o e => ?_) (fun ys o e => ?_)
          · split at e <;> cases e
          · split at e <;> cases e
            · rename_i e' r' hr
              simp only [↓zp, zs, hasK, iav_has]
              simp only [hr, iRes]
            · rename_i hr
              simp only [↓zp, zs, hasK]
              simp only [hr, iRes]
end Go.Proofs.Trees
