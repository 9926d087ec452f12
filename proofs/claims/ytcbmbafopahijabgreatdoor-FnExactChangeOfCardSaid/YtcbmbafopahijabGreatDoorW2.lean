/-
  Part of a proof: laws over values.
-/
import Derived.Test.YtcbmbafopahijabGreatDoorV3
set_option linter.unusedVariables false
set_option linter.unusedSimpArgs false
namespace Go.Proofs.Trees
open Go Go.VL
/-! ### What is printed is read back -/
mutual
def E.pr : E → Prop
  | .atom s => s ≠ [] ∧ s.all isA = true
  | .list l => l ≠ [] ∧ E.prs l
def E.prs : List E → Prop
  | [] => True
  | e :: l => e.pr ∧ E.prs l
end
mutual
def E.dp : E → Nat
  | .atom _ => 0
  | .list l => 1 + E.dps l
def E.dps : List E → Nat
  | [] => 0
  | e :: l => max e.dp (E.dps l)
end
def stp (r : List UInt8) : Prop := ∀ c t, r = c :: t → isA c = false
theorem stp_nil : stp [] := by intro c t h; cases h
theorem tw_app {s r : List UInt8} (hs : s.all isA = true) (hr : stp r) : (s ++ r).takeWhile isA = s ∧ (s ++ r).dropWhile isA = r := by
  induction s with
  | nil =>
    cases r with
    | nil => exact ⟨rfl, rfl⟩
    | cons c t => have := hr c t rfl; simp [List.takeWhile, List.dropWhile, this]
  | cons c s ih =>
    simp only [List.all_cons, Bool.and_eq_true] at hs
    have := ih hs.2
    simp [List.takeWhile, List.dropWhile, hs.1, this.1, this.2]
theorem stp_txEs (l : List E) (r : List UInt8) : stp (txEs l ++ 41 :: r) := by
  intro c t h
  cases l with
  | nil => simp only [txEs, List.nil_append, List.cons.injEq] at h; rw [← h.1]; decide
  | cons e l => simp only [txEs, List.cons_append, List.cons.injEq] at h; rw [← h.1]; decide
theorem rdL_tx {f : List UInt8 → Option (E × List UInt8)} (r : List UInt8) : ∀ (l : List E) (e : E) (acc : List E) (n : Nat), l.length < n → (∀ x, x = e ∨ x ∈ l → ∀ r, stp r → f (txE x ++ r) = some (x, r)) →
    rdL f n (txE e ++ (txEs l ++ 41 :: r)) acc = some (.list (acc ++ e :: l), r)
  | l, e, acc, 0, hn, hf => by omega
  | [], e, acc, n + 1, hn, hf => by
    simp only [rdL]
    rw [hf e (.inl rfl) _ (stp_txEs [] r)]
    simp [txEs]
  | x :: l, e, acc, n + 1, hn, hf => by
    simp only [rdL]
    rw [hf e (.inl rfl) _ (stp_txEs (x :: l) r)]
    simp only [List.length_cons] at hn
    have ih := rdL_tx r l x (acc ++ [e]) n (by omega) (fun y hy => hf y (.inr (by cases hy with | inl h => rw [h]; exact List.mem_cons_self | inr h => exact List.mem_cons_of_mem _ h)))
    simp only [List.append_assoc, List.cons_append, List.nil_append] at ih
    simp only [txEs, List.cons_append, List.append_assoc]
    simp [ih]
theorem prs_mem {l : List E} {k : Nat} : E.prs l → E.dps l ≤ k → ∀ x, x ∈ l → x.pr ∧ x.dp ≤ k := by
  induction l with
  | nil => intro _ _ x h; cases h
  | cons e l ih =>
    intro h hd x hx
    simp only [E.prs, E.dps] at h hd
    cases hx with
    | head => exact ⟨h.1, by omega⟩
    | tail _ hx => exact ih h.2 (by omega) x hx
theorem rd_tx : ∀ (k : Nat) (e : E) (r : List UInt8), e.pr → e.dp ≤ k → stp r → rd k (txE e ++ r) = some (e, r)
  | 0, .atom s, r, hp, hd, hr => by
    have h := tw_app hp.2 hr
    simp only [txE, rd, h.1, h.2, hp.1, if_false]
  | k + 1, .atom s, r, hp, hd, hr => by
    have h := tw_app hp.2 hr
    simp only [txE, rd, h.1, h.2, hp.1, if_false]
  | 0, .list l, r, hp, hd, hr => by simp only [E.dp] at hd; omega
  | k + 1, .list [], r, hp, hd, hr => by exact absurd rfl hp.1
  | k + 1, .list (e :: l), r, hp, hd, hr => by
    have hs : isA 40 = false := by decide
    simp only [E.dp, E.pr] at hd hp
    have hm := prs_mem (k := k) hp.2 (by omega)
    have := rdL_tx (f := rd k) r l e [] ((txE e ++ (txEs l ++ 41 :: r)).length + 1) (by have := txEs_len l; simp only [List.length_append, List.length_cons]; omega)
      (fun x hx r hr => rd_tx k x r (hm x (by cases hx with | inl h => rw [h]; exact List.mem_cons_self | inr h => exact List.mem_cons_of_mem _ h)).1 (hm x (by cases hx with | inl h => rw [h]; exact List.mem_cons_self | inr h => exact List.mem_cons_of_mem _ h)).2 hr)
    simp only [txE, List.cons_append, List.append_assoc, List.nil_append] at *
    simp only [rd, List.takeWhile, hs, if_true]
    simpa using this
/-- Two texts are one only for one expression. -/
theorem tx_inj {e e' : E} (h : e.pr) (h' : e'.pr) (ht : txE e = txE e') : e = e' := by
  have a := rd_tx (max e.dp e'.dp) e [] h (by omega) stp_nil
  have b := rd_tx (max e.dp e'.dp) e' [] h' (by omega) stp_nil
  rw [ht, b] at a; cases a; rfl
theorem rdT_tx {e : E} (h : e.pr) (hd : e.dp ≤ 300) (hl : (txE e).length ≤ 8000) : rdT (txE e) = some e := by
  have := rd_tx 300 e [] h hd stp_nil
  rw [List.append_nil] at this
  rw [rdT, this]; simp; omega
/-! The other way: what is read was printed. -/
theorem tw_all (s : List UInt8) : (s.takeWhile isA).all isA = true := by
  induction s with
  | nil => rfl
  | cons c s ih => cases h : isA c
                   · simp [List.takeWhile, h]
                   · simp only [List.takeWhile, h, List.all_cons, ih]; rfl
theorem txEs_app (l r : List E) : txEs (l ++ r) = txEs l ++ txEs r := by
  induction l with
  | nil => rfl
  | cons e l ih => simp [txEs, ih]
theorem prs_app (l r : List E) : E.prs (l ++ r) ↔ E.prs l ∧ E.prs r := by
  induction l with
  | nil => simp [E.prs]
  | cons e l ih => simp [E.prs, ih, and_assoc]
theorem dps_app (l r : List E) : E.dps (l ++ r) = max (E.dps l) (E.dps r) := by
  induction l with
  | nil => simp [E.dps]
  | cons e l ih => simp [E.dps, ih, Nat.max_assoc]
theorem txE_app {l : List E} (h : l ≠ []) : 32 :: (txE (.list l)).drop 1 = txEs l ++ [41] := by
  cases l with
  | nil => exact absurd rfl h
  | cons e l => simp [txE, txEs]
theorem rdL_was {k : Nat} {f : List UInt8 → Option (E × List UInt8)} (hf : ∀ s e r, f s = some (e, r) → s = txE e ++ r ∧ e.pr ∧ e.dp ≤ k) : ∀ (n : Nat) (s : List UInt8) (acc : List E) (e : E) (r : List UInt8), rdL f n s acc = some (e, r) → E.prs acc → E.dps acc ≤ k →
    ∃ l, e = .list (acc ++ l) ∧ l ≠ [] ∧ 32 :: s = txEs l ++ 41 :: r ∧ E.prs l ∧ E.dps l ≤ k
  | 0, s, acc, e, r, h, hp, hd => by cases h
  | n + 1, s, acc, e, r, h, hp, hd => by
    simp only [rdL] at h
    split at h
    · rename_i p c r' hs
      obtain ⟨h1, h2, h3⟩ := hf _ _ _ hs
      split at h
      · rename_i hc
        have hc : c = 41 := UInt8.toNat_inj.mp hc
        cases h
        exact ⟨[p], rfl, by simp, by simp [txEs, h1, hc], ⟨h2, trivial⟩, by simp [E.dps]; omega⟩
      · split at h
        · rename_i hc
          have hc : c = 32 := UInt8.toNat_inj.mp hc
          obtain ⟨l, g1, g2, g3, g4, g5⟩ := rdL_was hf n _ _ _ _ h ((prs_app _ _).mpr ⟨hp, h2, trivial⟩) (by rw [dps_app]; simp [E.dps]; omega)
          refine ⟨p :: l, by simpa using g1, by simp, ?_, ⟨h2, g4⟩, by simp only [E.dps]; omega⟩
          rw [h1, hc, g3]; simp [txEs]
        · cases h
    · cases h
theorem rd_was : ∀ (k : Nat) (s : List UInt8) (e : E) (r : List UInt8), rd k s = some (e, r) → s = txE e ++ r ∧ e.pr ∧ e.dp ≤ k
  | 0, s, e, r, h => by
    simp only [rd] at h
    split at h
    · cases h
    · rename_i hs; cases h
      exact ⟨(List.takeWhile_append_dropWhile).symm, ⟨hs, tw_all s⟩, Nat.le_refl _⟩
  | k + 1, s, e, r, h => by
    simp only [rd] at h
    split at h
    · split at h
      · rename_i c r' _
        split at h
        · rename_i hc
          have hc : c = 40 := UInt8.toNat_inj.mp hc
          obtain ⟨l, g1, g2, g3, g4, g5⟩ := rdL_was (k := k) (fun s e r h => rd_was k s e r h) _ _ _ _ _ h trivial (Nat.zero_le _)
          simp only [List.nil_append] at g1
          subst g1; subst hc
          refine ⟨?_, ⟨g2, g4⟩, by simp only [E.dp]; omega⟩
          cases l with
          | nil => exact absurd rfl g2
          | cons x l =>
            simp only [txEs, List.cons_append, List.append_assoc, List.cons.injEq, true_and] at g3
            rw [g3]; simp [txE]
        · cases h
      · cases h
    · rename_i hs; cases h
      exact ⟨(List.takeWhile_append_dropWhile).symm, ⟨hs, tw_all s⟩, by simp [E.dp]⟩
theorem rdT_was {s : List UInt8} {e : E} (h : rdT s = some e) : s = txE e ∧ e.pr ∧ e.dp ≤ 300 ∧ s.length ≤ 8000 := by
  unfold rdT at h
  split at h
  · cases h
  · rename_i hl
    split at h
    · rename_i e' hr
      cases h
      have := rd_was _ _ _ _ hr
      exact ⟨by simpa using this.1, this.2.1, this.2.2, by omega⟩
    · cases h
/-! ### Values -/
theorem isA_dg {k : Nat} (h : k < 10) : isA (UInt8.ofNat (48 + k)) = true := by
  have : ∀ k : Fin 10, isA (UInt8.ofNat (48 + k.val)) = true := by decide
  exact this ⟨k, h⟩
theorem dd_isA : ∀ (n k : Nat), k < n → (dd k).all isA = true
  | 0, k, h => by omega
  | n + 1, k, h => by
    by_cases hk : k < 10
    · rw [dd_one hk, List.all_cons, isA_dg hk]; rfl
    · rw [dd_more hk]
      have := dd_isA n (k / 10) (by omega)
      rw [List.all_append, this, List.all_cons, isA_dg (Nat.mod_lt k (by omega : 0 < 10))]; rfl
theorem elS_pr (k : Nat) : (E.atom (elS k)).pr := ⟨by simp, by have := dd_isA (k + 1) k (by omega); simp only [elS, List.all_cons, this]; decide⟩
theorem toE_pr : ∀ v : Vl, v.toE.pr
  | .u => ⟨by simp, by decide⟩
  | .el k => elS_pr k
  | .l v => ⟨by simp, ⟨by simp, by decide⟩, toE_pr v, trivial⟩
  | .r v => ⟨by simp, ⟨by simp, by decide⟩, toE_pr v, trivial⟩
  | .f v => ⟨by simp, ⟨by simp, by decide⟩, toE_pr v, trivial⟩
  | .p a b => ⟨by simp, ⟨by simp, by decide⟩, toE_pr a, toE_pr b, trivial⟩
theorem toE_dp : ∀ v : Vl, v.toE.dp < v.nodes + 1
  | .u => by simp [Vl.toE, E.dp, Vl.nodes]
  | .el k => by simp [Vl.toE, E.dp, Vl.nodes]
  | .l v => by have := toE_dp v; simp only [Vl.toE, E.dp, E.dps, Vl.nodes] at *; omega
  | .r v => by have := toE_dp v; simp only [Vl.toE, E.dp, E.dps, Vl.nodes] at *; omega
  | .f v => by have := toE_dp v; simp only [Vl.toE, E.dp, E.dps, Vl.nodes] at *; omega
  | .p a b => by have := toE_dp a; have := toE_dp b; simp only [Vl.toE, E.dp, E.dps, Vl.nodes] at *; omega
theorem dd_len2 (k : Nat) (h : k < 100) : (dd k).length ≤ 2 := by
  by_cases hk : k < 10
  · rw [dd_one hk]; simp
  · rw [dd_more hk, dd_one (by omega : k / 10 < 10)]; simp
theorem txt_len5 : ∀ v : Vl, v.bel 100 → v.txt.length ≤ 5 * v.nodes
  | .u, _ => by simp [Vl.txt, Vl.toE, txE, Vl.nodes]
  | .el k, h => by
    have := dd_len2 k h
    simp only [Vl.txt, Vl.toE, txE, Vl.nodes, List.length_cons]; omega
  | .l v, h => by have := txt_len5 v h; simp only [Vl.txt, Vl.toE, txE, txEs, Vl.nodes, List.length_cons, List.length_append, List.length_nil] at this ⊢; omega
  | .r v, h => by have := txt_len5 v h; simp only [Vl.txt, Vl.toE, txE, txEs, Vl.nodes, List.length_cons, List.length_append, List.length_nil] at this ⊢; omega
  | .f v, h => by have := txt_len5 v h; simp only [Vl.txt, Vl.toE, txE, txEs, Vl.nodes, List.length_cons, List.length_append, List.length_nil] at this ⊢; omega
  | .p a b, h => by have := txt_len5 a h.1; have := txt_len5 b h.2; simp only [Vl.txt, Vl.toE, txE, txEs, Vl.nodes, List.length_cons, List.length_append, List.length_nil] at *; omega
theorem elS_ne (k : Nat) : elS k ≠ [117] := by simp [elS]
theorem vlOf_of : ∀ v : Vl, v.bel 100 → vlOf v.toE = some v
  | .u, _ => by simp [Vl.toE, vlOf]
  | .el k, h => by simp only [Vl.toE, vlOf, elS_ne, if_false, elNum_of k h]
  | .l v, h => by simp only [Vl.toE, vlOf, vlOf_of v h, E.at]; simp
  | .r v, h => by simp only [Vl.toE, vlOf, vlOf_of v h, E.at]; simp
  | .f v, h => by simp only [Vl.toE, vlOf, vlOf_of v h, E.at]; simp
  | .p a b, h => by simp only [Vl.toE, vlOf, vlOf_of a h.1, vlOf_of b h.2, E.at]; simp
/-- A value's text is read back. -/
theorem rdV_txt {v : Vl} (h : v.bel 100) (hn : v.nodes ≤ 200) : rdV v.txt = some v := by
  have hd := toE_dp v
  have hl := txt_len5 v h
  rw [rdV, rdT_tx (toE_pr v) (by omega) (by show v.txt.length ≤ 8000; omega)]
  simp only [vlOf_of v h]
  rw [if_neg (by omega)]
theorem txt_inj {v w : Vl} (h : v.bel 100) (h' : w.bel 100) (ht : v.txt = w.txt) : v = w := by
  have := tx_inj (toE_pr v) (toE_pr w) ht
  have a := vlOf_of v h
  rw [this, vlOf_of w h'] at a; cases a; rfl
theorem rdV_was {s : List UInt8} {v : Vl} (h : rdV s = some v) : s = v.txt := (rdT_was (rdV_ok h).1).1
end Go.Proofs.Trees
