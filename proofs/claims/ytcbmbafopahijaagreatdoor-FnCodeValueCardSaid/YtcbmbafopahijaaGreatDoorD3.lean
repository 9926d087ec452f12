/-
  Part of a proof: laws over values.
-/
import Derived.Test.YtcbmbafopahijaaGreatDoorD2
set_option linter.unusedVariables false
set_option linter.unusedSimpArgs false
namespace Go.Proofs.Trees
open Go Go.VL Go.RowKit
/-! ### Draws of types, of plain types -/
theorem Drw.mono {b : AV} {p c c' : Nat} {X Y : AV → Prop} (hc : c ≤ c') (h : ∀ r, X r → Y r) {r : AV} {o : List Ob} (hr : Drw b p c X r o) : Drw b p c' Y r o := by
  obtain ⟨q, h1, h2, h3, h4⟩ := hr; exact ⟨q, h1, by omega, h r h3, h4⟩
theorem isTxt.le {n m : Nat} (h : n ≤ m) {r : AV} (hr : isTxt n r) : isTxt m r := by obtain ⟨s, h1, h2⟩ := hr; exact ⟨s, h1, by omega⟩
theorem S_l91Type (b : AV) (l : List UInt8) (hb : RdA b l) (p : Nat) (hp : p < far) : FSpec Tryz.prog n_spec_l91Type [.ref 0 0] [.cells [b, .v (.int .i64 (p : Int))]] (Drw b p 100 (isTxt 200)) := by
  refine F_spec_l91Type _ _ hb.has ?_
  unfold t_spec_l91Type
  have hfar : far = 1000000000 := rfl
  refine wp_call (S_pick b l hb p 12 (by omega) (by decide)) (Drw.ne ⟨0, rfl, fun h => by omega, by omega⟩) ?_
  rintro r o ⟨q, h1, h2, ⟨k, rfl, _, _⟩, rfl⟩
  have kn : ∀ (c m : Nat) (r : AV) (o : List Ob), c ≤ 90 → m ≤ 200 → Drw b q c (isTxt m) r o → ∃ q' : Nat, ∃ s : List UInt8, r = .v (.string (mk s)) ∧ o = [.cells [b, .v (.int .i64 (q' : Int))]] ∧ Drw b p 100 (isTxt 200) (.v (.string (mk s))) [.cells [b, .v (.int .i64 (q' : Int))]] := by
    rintro c m r o hc hm ⟨q', g1, g2, ⟨s, rfl, hs⟩, rfl⟩
    exact ⟨q', s, rfl, rfl, q', by omega, by omega, ⟨s, rfl, by omega⟩, rfl⟩
  simp only [↓zp, zs, hasK, hasC, hb.has]
  refine ⟨fun _ => ?_, fun _ => ⟨fun _ => ?_, fun _ => ⟨fun _ => ?_, fun _ => ⟨fun _ => ?_, fun _ => ⟨fun _ => ?_, fun _ => ?_⟩⟩⟩⟩⟩
  · refine wp_call (S_of b l hb q (by omega) _ _ (.of [_, _, _, _, _, _, _, _, _]) (by simp) (by simp)) (Drw.ne ⟨_, List.mem_cons_self, rfl⟩) ?_
    intro r o hr
    obtain ⟨q', s, rfl, rfl, hd⟩ := kn 1 20 r o (by omega) (by omega) (hr.mono (Nat.le_refl _) fun r h => isOne.txt (n := 20) (by decide) h)
    simp only [↓zp, zs, hasK, hasC, hb.has]; exact hd
  · refine wp_call (S_l91Known b l hb q (by omega)) (Drw.ne ⟨[], rfl, by simp⟩) ?_
    intro r o hr
    obtain ⟨q', s, rfl, rfl, hd⟩ := kn _ _ r o (by omega) (by omega) hr
    simp only [↓zp, zs, hasK, hasC, hb.has]; exact hd
  · refine wp_call (S_l91Known b l hb q (by omega)) (Drw.ne ⟨[], rfl, by simp⟩) ?_
    intro r o hr
    obtain ⟨q', s, rfl, rfl, hd⟩ := kn _ _ r o (by omega) (by omega) hr
    simp only [↓zp, zs, hasK, hasC, hb.has]; exact hd
  · refine wp_call (S_l91Known b l hb q (by omega)) (Drw.ne ⟨[], rfl, by simp⟩) ?_
    intro r o hr
    obtain ⟨q', s, rfl, rfl, hd⟩ := kn _ _ r o (by omega) (by omega) hr
    simp only [↓zp, zs, hasK, hasC, hb.has]; exact hd
  · refine wp_call (S_l91Shape b l hb 2 (by omega) q [[116], [116, 49]] _ (StrsA.of [[116], [116, 49]]) (by decide) (by simp) (by simp [Csh]; omega)) (Drw.ne ⟨[], rfl, by simp⟩) ?_
    intro r o hr
    obtain ⟨q', s, rfl, rfl, hd⟩ := kn _ _ r o (by simp [Csh]) (by simp [Lsh]) hr
    simp only [↓zp, zs, hasK, hasC, hb.has]; exact hd
  · refine wp_call (S_l91Shape b l hb 3 (by omega) q [] _ (StrsA.of []) (by simp) (by simp) (by simp [Csh]; omega)) (Drw.ne ⟨[], rfl, by simp⟩) ?_
    intro r o hr
    obtain ⟨q', s, rfl, rfl, hd⟩ := kn _ _ r o (by simp [Csh]) (by simp [Lsh]) hr
    simp only [↓zp, zs, hasK, hasC, hb.has]; exact hd
def Lpl : Nat → Nat
  | 0 => 200
  | d + 1 => 2 * Lpl d + 10
def Cpl : Nat → Nat
  | 0 => 102
  | d + 1 => 2 * Cpl d + 110
theorem Lpl2 (d : Nat) : 200 ≤ Lpl d := by induction d <;> simp only [Lpl] <;> omega
theorem Cpl2 (d : Nat) : 102 ≤ Cpl d := by induction d <;> simp only [Cpl] <;> omega
theorem Lpl_le : ∀ d : Nat, d ≤ 5 → Lpl d ≤ 100000 ∧ Cpl d ≤ 100000
  | 0, _ => by decide
  | 1, _ => by decide
  | 2, _ => by decide
  | 3, _ => by decide
  | 4, _ => by decide
  | 5, _ => by decide
  | d + 6, h => by omega
theorem S_l92Plain (b : AV) (l : List UInt8) (hb : RdA b l) : ∀ (d : Nat), d ≤ 5 → ∀ (p : Nat), p + Cpl d < far →
    FSpec Tryz.prog n_spec_l92Plain [.ref 0 0, .v (.int .i64 (d : Int))] [.cells [b, .v (.int .i64 (p : Int))]] (Drw b p (Cpl d) (isTxt (Lpl d))) := by
  intro d
  have hfar : far = 1000000000 := rfl
  have one : ∀ (p : Nat) (L C : Nat) (q : Nat), 2 ≤ L → p ≤ q → q + 1 ≤ p + C → ∀ (r : AV) (o : List Ob) (ls : List (List UInt8)), (∀ s, s ∈ ls → s.length ≤ 2) → Drw b q 1 (isOne ls) r o → ∃ q' : Nat, ∃ s : List UInt8, r = .v (.string (mk s)) ∧ o = [.cells [b, .v (.int .i64 (q' : Int))]] ∧ Drw b p C (isTxt L) (.v (.string (mk s))) [.cells [b, .v (.int .i64 (q' : Int))]] := by
    rintro p L C q hL hpq hC r o ls hls ⟨q', g1, g2, hr, rfl⟩
    obtain ⟨s, rfl, hs⟩ := isOne.txt hls hr
    exact ⟨q', s, rfl, rfl, q', by omega, by omega, ⟨s, rfl, by omega⟩, rfl⟩
  induction d with
  | zero =>
    intro hd p hp
    simp only [Cpl] at hp
    refine F_spec_l92Plain _ _ _ hb.has ?_
    simp only [t_spec_l92Plain, ↓zp, zs, hasK]
    refine ⟨fun _ => ?_, fun h => by omega⟩
    refine wp_call (S_of b l hb p (by omega) _ _ (.of [_, _, _, _, _, _, _]) (by simp) (by simp)) (Drw.ne ⟨_, List.mem_cons_self, rfl⟩) ?_
    intro r o hr
    obtain ⟨q', s, rfl, rfl, hd⟩ := one p (Lpl 0) (Cpl 0) p (by decide) (by omega) (by simp [Cpl]) r o _ (by decide) hr
    simp only [↓zp, zs, hasK, hasC, hb.has]; exact hd
  | succ d ih =>
    intro hd p hp
    have hL := Lpl2 d
    have hC := Cpl2 d
    obtain ⟨hL8, hC8⟩ := Lpl_le d (by omega)
    have eL : Lpl (d + 1) = 2 * Lpl d + 10 := rfl
    have eC : Cpl (d + 1) = 2 * Cpl d + 110 := rfl
    have ih := ih (by omega)
    have ed : IntKind.wrap .i64 (((d + 1 : Nat) : Int) - 1) = (d : Int) := by rw [VL.wrap64] <;> omega
    refine F_spec_l92Plain _ _ _ hb.has ?_
    simp only [t_spec_l92Plain, ↓zp, zs, hasK, ed]
    refine ⟨fun h => by omega, fun _ => ?_⟩
    refine wp_call (S_pick b l hb p 4 (by omega) (by decide)) (Drw.ne ⟨0, rfl, fun h => by omega, by omega⟩) ?_
    rintro r o ⟨q0, a1, a2, ⟨k0, rfl, _, _⟩, rfl⟩
    simp only [↓zp, zs, hasK, hasC, hb.has]
    refine ⟨fun _ => ?_, fun _ => ?_⟩
    · refine wp_call (S_of b l hb q0 (by omega) _ _ (.of [_, _, _, _, _, _, _]) (by simp) (by simp)) (Drw.ne ⟨_, List.mem_cons_self, rfl⟩) ?_
      intro r o hr
      obtain ⟨q', s, rfl, rfl, hd⟩ := one p (Lpl (d + 1)) (Cpl (d + 1)) q0 (by omega) (by omega) (by omega) r o _ (by decide) hr
      simp only [↓zp, zs, hasK, hasC, hb.has]; exact hd
    · refine wp_call (S_pick b l hb q0 24 (by omega) (by decide)) (Drw.ne ⟨0, rfl, fun h => by omega, by omega⟩) ?_
      rintro r o ⟨q1, b1, b2, ⟨k1, rfl, _, _⟩, rfl⟩
      simp only [↓zp, zs, hasK, hasC, hb.has]
      refine ⟨fun _ => ?_, fun _ => ?_⟩
      · refine wp_call (S_l91Type b l hb q1 (by omega)) (Drw.ne ⟨[], rfl, by simp⟩) ?_
        rintro r o ⟨q2, d1, d2, ⟨s1, rfl, d3⟩, rfl⟩
        simp only [↓zp, zs, hasK, hasC, hb.has]
        exact ⟨q2, by omega, by omega, ⟨s1, rfl, by omega⟩, rfl⟩
      · refine wp_call (S_of b l hb q1 (by omega) _ _ (.of [_, _]) (by simp) (by simp)) (Drw.ne ⟨_, List.mem_cons_self, rfl⟩) ?_
        rintro r o ⟨q2, d1, d2, hr, rfl⟩
        obtain ⟨s, rfl, hs⟩ := isOne.txt (n := 3) (by decide) hr
        simp only [↓zp, zs, hasK, hasC, hb.has]
        refine wp_call (ih q2 (by omega)) (Drw.ne ⟨[], rfl, by simp⟩) ?_
        rintro r o ⟨q3, e1, e2, ⟨s1, rfl, e3⟩, rfl⟩
        simp only [↓zp, zs, hasK, zt, hasC, hb.has]
        repeat refine ⟨by first | omega | (simp only [List.length_append, List.length_cons, List.length_nil]; omega), ?_⟩
        refine wp_call (ih q3 (by omega)) (Drw.ne ⟨[], rfl, by simp⟩) ?_
        rintro r o ⟨q4, f1, f2, ⟨s2, rfl, f3⟩, rfl⟩
        simp only [↓zp, zs, hasK, zt, hasC, hb.has]
        have fin : ∀ s : List UInt8, s.length ≤ Lpl (d + 1) → Drw b p (Cpl (d + 1)) (isTxt (Lpl (d + 1))) (.v (.string (mk s))) [.cells [b, .v (.int .i64 (q4 : Int))]] := fun s hs => ⟨q4, by omega, by omega, ⟨s, rfl, hs⟩, rfl⟩
        repeat (first | exact fin _ (by simp only [List.length_append, List.length_cons, List.length_nil]; omega) | refine ⟨by first | omega | (simp only [List.length_append, List.length_cons, List.length_nil]; omega), ?_⟩)
/-- A law's bytes. -/
def CodeA (a : AV) : Prop := LK.sl.has a ∧ ∃ l : List UInt8, a.elems = bysAV l
def RdO (r : AV) (o : List Ob) : Prop := ∃ (b : AV) (l : List UInt8), RdA b l ∧ r = .ref 0 0 ∧ o = [.cells [b, .v (.int .i64 0)]]
theorem RdO.ne : ∃ r o, RdO r o := ⟨_, _, .v (.slice none 0 0), [], ⟨(has_slnil).mpr trivial, rfl, by simp⟩, rfl, rfl⟩
theorem S_l6Open (a : AV) (ha : CodeA a) : FSpec Tryz.prog n_spec_l6Open [a] [] RdO := by
  obtain ⟨hs, l, hl⟩ := ha
  have hln : a.elems.length = l.length := by rw [hl]; simp [bysAV]
  refine F_spec_l6Open _ hs ?_
  simp only [t_spec_l6Open, ↓zp, zs, hasK, hln]
  refine ⟨hs, fun h => ⟨⟨hs, by omega⟩, ?_⟩, fun h => ?_⟩
  · refine ⟨_, l.take 2000, ⟨(has_sl _).mpr trivial, ?_, ?_⟩, rfl, rfl⟩
    · rw [elems_sl, hl]; simp [bysAV]
    · simp; omega
  · exact ⟨a, l, ⟨hs, hl, by omega⟩, rfl, rfl⟩
end Go.Proofs.Trees
