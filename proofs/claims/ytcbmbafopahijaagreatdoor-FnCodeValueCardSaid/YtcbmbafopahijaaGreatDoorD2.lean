/-
  Part of a proof: laws over values.
-/
import Derived.Test.YtcbmbafopahijaaGreatDoorD1
import Derived.Test.YtcbmbafopahijaaGreatDoorE4
set_option linter.unusedVariables false
set_option linter.unusedSimpArgs false
namespace Go.Proofs.Trees
open Go Go.VL Go.RowKit
/-! ### Draws of types -/
def Lsh : Nat → Nat
  | 0 => 2
  | d + 1 => 2 * Lsh d + 15
def Csh : Nat → Nat
  | 0 => 3
  | d + 1 => 2 * Csh d + 8
theorem Lsh2 (d : Nat) : 2 ≤ Lsh d := by cases d <;> simp only [Lsh] <;> omega
theorem Csh3 (d : Nat) : 3 ≤ Csh d := by cases d <;> simp only [Csh] <;> omega
theorem Lsh_le : ∀ d : Nat, d ≤ 10 → Lsh d ≤ 100000000
  | 0, _ => by decide
  | 1, _ => by decide
  | 2, _ => by decide
  | 3, _ => by decide
  | 4, _ => by decide
  | 5, _ => by decide
  | 6, _ => by decide
  | 7, _ => by decide
  | 8, _ => by decide
  | 9, _ => by decide
  | 10, _ => by decide
  | d + 11, h => by omega
theorem S_l91Known (b : AV) (l : List UInt8) (hb : RdA b l) (p : Nat) (hp : p < 2 * far) : FSpec Tryz.prog n_spec_l91Known [.ref 0 0] [.cells [b, .v (.int .i64 (p : Int))]] (Drw b p 1 (isTxt 60)) := by
  refine F_spec_l91Known _ _ hb.has ?_
  unfold t_spec_l91Known
  refine wp_call (S_of b l hb p hp _ _ (.of [_, _, _, _, _, _, _]) (by simp) (by simp)) (Drw.ne ⟨_, List.mem_cons_self, rfl⟩) ?_
  rintro r o ⟨q, h1, h2, hr, rfl⟩
  obtain ⟨s, rfl, hs⟩ := isOne.txt (n := 60) (by decide) hr
  simp only [↓zp, zs, hasK, hasC, hb.has]
  exact ⟨q, h1, h2, ⟨s, rfl, hs⟩, rfl⟩
theorem S_l91Shape (b : AV) (l : List UInt8) (hb : RdA b l) : ∀ (d : Nat), d ≤ 10 → ∀ (p : Nat) (ls : List (List UInt8)) (a : AV), StrsA a ls → (∀ s, s ∈ ls → s.length ≤ 2) → ls.length + d ≤ 100 → p + Csh d < 2 * far →
    FSpec Tryz.prog n_spec_l91Shape [.ref 0 0, a, .v (.int .i64 (d : Int))] [.cells [b, .v (.int .i64 (p : Int))]] (Drw b p (Csh d) (isTxt (Lsh d))) := by
  intro d
  induction d with
  | zero =>
    intro hd p ls a ha hls hll hp
    simp only [Csh] at hp
    refine F_spec_l91Shape _ _ _ _ ha.1 hb.has ?_
    simp only [t_spec_l91Shape, ↓zp, zs, hasK, ha.len]
    refine ⟨fun _ => ⟨ha.1, fun hpos => ?_, fun _ => ?_⟩, fun h => by omega⟩

    · refine wp_call (S_pick b l hb p 3 (by omega) (by decide)) (Drw.ne ⟨0, rfl, fun h => by omega, by omega⟩) ?_
      rintro r o ⟨q1, h1, h2, ⟨k, rfl, h3, h4⟩, rfl⟩
      simp only [↓zp, zs, hasK, hasC, hb.has]
      refine ⟨fun _ => ⟨ha.1, ?_⟩, fun _ => ?_⟩
      · refine wp_call (S_pick b l hb q1 ls.length (by omega) (by simp [far]; omega)) (Drw.ne ⟨0, rfl, fun h => by omega, by omega⟩) ?_
        rintro r o ⟨q2, g1, g2, ⟨k2, rfl, g3, g4⟩, rfl⟩
        have hk := g3 (by omega)
        simp only [↓zp, zs, hasK, hasC, hb.has, Int.toNat_natCast, ha.idx hk]
        have : Drw b p (Csh 0) (isTxt (Lsh 0)) (.v (.string (mk (ls.getD k2 [])))) [.cells [b, .v (.int .i64 (q2 : Int))]] := ⟨q2, by omega, by simp only [Csh]; omega, ⟨_, rfl, by
          have := hls (ls.getD k2 []) (by simp [List.getD_eq_getElem?_getD, hk]); simp only [Lsh]; omega⟩, rfl⟩
        refine ⟨⟨ha.1, by omega⟩, ?_⟩
        repeat (first | exact this | refine ⟨by omega, ?_⟩)
      · refine wp_call (S_of b l hb q1 (by omega) _ _ (.of [_, _, _, _, _, _]) (by simp) (by simp)) (Drw.ne ⟨_, List.mem_cons_self, rfl⟩) ?_
        rintro r o ⟨q2, g1, g2, hr, rfl⟩
        obtain ⟨s, rfl, hs⟩ := isOne.txt (n := 2) (by decide) hr
        simp only [↓zp, zs, hasK, hasC, hb.has]
        exact ⟨q2, by omega, by simp only [Csh]; omega, ⟨s, rfl, by simp only [Lsh]; omega⟩, rfl⟩
    · refine wp_call (S_of b l hb p (by omega) _ _ (.of [_, _, _, _, _, _]) (by simp) (by simp)) (Drw.ne ⟨_, List.mem_cons_self, rfl⟩) ?_
      rintro r o ⟨q2, g1, g2, hr, rfl⟩
      obtain ⟨s, rfl, hs⟩ := isOne.txt (n := 2) (by decide) hr
      simp only [↓zp, zs, hasK, hasC, hb.has]
      exact ⟨q2, by omega, by simp only [Csh]; omega, ⟨s, rfl, by simp only [Lsh]; omega⟩, rfl⟩

  | succ d ih =>
    intro hd p ls a ha hls hll hp
    simp only [Csh] at hp
    have hL := Lsh2 d
    have hC := Csh3 d
    have ih := ih (by omega)
    have hL8 := Lsh_le d (by omega)
    have ed : IntKind.wrap .i64 (((d + 1 : Nat) : Int) - 1) = (d : Int) := by rw [VL.wrap64] <;> omega
    refine F_spec_l91Shape _ _ _ _ ha.1 hb.has ?_
    simp only [t_spec_l91Shape, ↓zp, zs, hasK, ha.len, ed]
    refine ⟨fun h => by omega, fun _ => ?_⟩
    refine wp_call (S_pick b l hb p 4 (by omega) (by decide)) (Drw.ne ⟨0, rfl, fun h => by omega, by omega⟩) ?_
    rintro r o ⟨q0, a1, a2, ⟨k0, rfl, _, _⟩, rfl⟩
    simp only [↓zp, zs, hasK, hasC, hb.has]
    refine ⟨fun _ => ⟨ha.1, fun hpos => ?_, fun _ => ?_⟩, fun _ => ?_⟩
    · refine wp_call (S_pick b l hb q0 3 (by omega) (by decide)) (Drw.ne ⟨0, rfl, fun h => by omega, by omega⟩) ?_
      rintro r o ⟨q1, h1, h2, ⟨k, rfl, h3, h4⟩, rfl⟩
      simp only [↓zp, zs, hasK, hasC, hb.has]
      refine ⟨fun _ => ⟨ha.1, ?_⟩, fun _ => ?_⟩
      · refine wp_call (S_pick b l hb q1 ls.length (by omega) (by simp [far]; omega)) (Drw.ne ⟨0, rfl, fun h => by omega, by omega⟩) ?_
        rintro r o ⟨q2, g1, g2, ⟨k2, rfl, g3, g4⟩, rfl⟩
        have hk := g3 (by omega)
        simp only [↓zp, zs, hasK, hasC, hb.has, Int.toNat_natCast, ha.idx hk]
        have : Drw b p (Csh (d + 1)) (isTxt (Lsh (d + 1))) (.v (.string (mk (ls.getD k2 [])))) [.cells [b, .v (.int .i64 (q2 : Int))]] := ⟨q2, by omega, by simp only [Csh]; omega, ⟨_, rfl, by
          have := hls (ls.getD k2 []) (by simp [List.getD_eq_getElem?_getD, hk]); simp only [Lsh]; omega⟩, rfl⟩
        refine ⟨⟨ha.1, by omega⟩, ?_⟩
        repeat (first | exact this | refine ⟨by omega, ?_⟩)
      · refine wp_call (S_of b l hb q1 (by omega) _ _ (.of [_, _, _, _, _, _]) (by simp) (by simp)) (Drw.ne ⟨_, List.mem_cons_self, rfl⟩) ?_
        rintro r o ⟨q2, g1, g2, hr, rfl⟩
        obtain ⟨s, rfl, hs⟩ := isOne.txt (n := 2) (by decide) hr
        simp only [↓zp, zs, hasK, hasC, hb.has]
        exact ⟨q2, by omega, by simp only [Csh]; omega, ⟨s, rfl, by simp only [Lsh]; omega⟩, rfl⟩
    · refine wp_call (S_of b l hb q0 (by omega) _ _ (.of [_, _, _, _, _, _]) (by simp) (by simp)) (Drw.ne ⟨_, List.mem_cons_self, rfl⟩) ?_
      rintro r o ⟨q2, g1, g2, hr, rfl⟩
      obtain ⟨s, rfl, hs⟩ := isOne.txt (n := 2) (by decide) hr
      simp only [↓zp, zs, hasK, hasC, hb.has]
      exact ⟨q2, by omega, by simp only [Csh]; omega, ⟨s, rfl, by simp only [Lsh]; omega⟩, rfl⟩
    · refine wp_call (S_pick b l hb q0 5 (by omega) (by decide)) (Drw.ne ⟨0, rfl, fun h => by omega, by omega⟩) ?_
      rintro r o ⟨q1, b1, b2, ⟨k1, rfl, c3, _⟩, rfl⟩
      have hk1 := c3 (by omega)
      obtain rfl | rfl | rfl | rfl | rfl : k1 = 0 ∨ k1 = 1 ∨ k1 = 2 ∨ k1 = 3 ∨ k1 = 4 := by omega

      · simp only [↓zp, zs, hasK, hasC, hb.has]
        refine ⟨fun _ => ?_, fun h => absurd rfl h⟩
        refine wp_call (ih q1 ls a ha hls (by omega) (by omega)) (Drw.ne ⟨[], rfl, by simp⟩) ?_
        rintro r o ⟨q2, d1, d2, ⟨s1, rfl, d3⟩, rfl⟩
        simp only [↓zp, zs, hasK, zt, hasC, hb.has, List.length_append]
        repeat refine ⟨by first | omega | (simp only [List.length_append, List.length_cons, List.length_nil]; omega), ?_⟩
        refine wp_call (ih q2 ls a ha hls (by omega) (by omega)) (Drw.ne ⟨[], rfl, by simp⟩) ?_
        rintro r o ⟨q3, e1, e2, ⟨s2, rfl, e3⟩, rfl⟩
        simp only [↓zp, zs, hasK, zt, hasC, hb.has, List.length_append]
        have fin : ∀ s : List UInt8, s.length ≤ Lsh (d + 1) → Drw b p (Csh (d + 1)) (isTxt (Lsh (d + 1))) (.v (.string (mk s))) [.cells [b, .v (.int .i64 (q3 : Int))]] := fun s hs => ⟨q3, by omega, by simp only [Csh]; omega, ⟨s, rfl, hs⟩, rfl⟩
        repeat (first | exact fin _ (by simp only [List.length_append, List.length_cons, List.length_nil, Lsh]; omega) | refine ⟨by first | omega | (simp only [List.length_append, List.length_cons, List.length_nil]; omega), ?_⟩)

      · simp only [↓zp, zs, hasK, hasC, hb.has]
        refine ⟨fun h => by omega, fun _ => ⟨fun _ => ?_, fun h => absurd rfl h⟩⟩
        refine wp_call (ih q1 ls a ha hls (by omega) (by omega)) (Drw.ne ⟨[], rfl, by simp⟩) ?_
        rintro r o ⟨q2, d1, d2, ⟨s1, rfl, d3⟩, rfl⟩
        simp only [↓zp, zs, hasK, zt, hasC, hb.has, List.length_append]
        repeat refine ⟨by first | omega | (simp only [List.length_append, List.length_cons, List.length_nil]; omega), ?_⟩
        refine wp_call (ih q2 ls a ha hls (by omega) (by omega)) (Drw.ne ⟨[], rfl, by simp⟩) ?_
        rintro r o ⟨q3, e1, e2, ⟨s2, rfl, e3⟩, rfl⟩
        simp only [↓zp, zs, hasK, zt, hasC, hb.has, List.length_append]
        have fin : ∀ s : List UInt8, s.length ≤ Lsh (d + 1) → Drw b p (Csh (d + 1)) (isTxt (Lsh (d + 1))) (.v (.string (mk s))) [.cells [b, .v (.int .i64 (q3 : Int))]] := fun s hs => ⟨q3, by omega, by simp only [Csh]; omega, ⟨s, rfl, hs⟩, rfl⟩
        repeat (first | exact fin _ (by simp only [List.length_append, List.length_cons, List.length_nil, Lsh]; omega) | refine ⟨by first | omega | (simp only [List.length_append, List.length_cons, List.length_nil]; omega), ?_⟩)

      · simp only [↓zp, zs, hasK, hasC, hb.has]
        refine ⟨fun h => by omega, fun _ => ⟨fun h => by omega, fun _ => ⟨fun _ => ?_, fun h => absurd rfl h⟩⟩⟩
        refine wp_call (ih q1 ls a ha hls (by omega) (by omega)) (Drw.ne ⟨[], rfl, by simp⟩) ?_
        rintro r o ⟨q2, d1, d2, ⟨s1, rfl, d3⟩, rfl⟩
        simp only [↓zp, zs, hasK, zt, hasC, hb.has, List.length_append]
        repeat refine ⟨by first | omega | (simp only [List.length_append, List.length_cons, List.length_nil]; omega), ?_⟩
        refine wp_call (ih q2 ls a ha hls (by omega) (by omega)) (Drw.ne ⟨[], rfl, by simp⟩) ?_
        rintro r o ⟨q3, e1, e2, ⟨s2, rfl, e3⟩, rfl⟩
        simp only [↓zp, zs, hasK, zt, hasC, hb.has, List.length_append]
        have fin : ∀ s : List UInt8, s.length ≤ Lsh (d + 1) → Drw b p (Csh (d + 1)) (isTxt (Lsh (d + 1))) (.v (.string (mk s))) [.cells [b, .v (.int .i64 (q3 : Int))]] := fun s hs => ⟨q3, by omega, by simp only [Csh]; omega, ⟨s, rfl, hs⟩, rfl⟩
        repeat (first | exact fin _ (by simp only [List.length_append, List.length_cons, List.length_nil, Lsh]; omega) | refine ⟨by first | omega | (simp only [List.length_append, List.length_cons, List.length_nil]; omega), ?_⟩)

      · simp only [↓zp, zs, hasK, hasC, hb.has]
        refine ⟨fun h => by omega, fun _ => ⟨fun h => by omega, fun _ => ⟨fun h => by omega, fun _ => ⟨fun _ => ?_, fun h => absurd rfl h⟩⟩⟩⟩
        refine wp_call (ih q1 ls a ha hls (by omega) (by omega)) (Drw.ne ⟨[], rfl, by simp⟩) ?_
        rintro r o ⟨q2, d1, d2, ⟨s1, rfl, d3⟩, rfl⟩
        simp only [↓zp, zs, hasK, zt, hasC, hb.has, List.length_append]
        repeat refine ⟨by first | omega | (simp only [List.length_append, List.length_cons, List.length_nil]; omega), ?_⟩
        refine wp_call (ih q2 ls a ha hls (by omega) (by omega)) (Drw.ne ⟨[], rfl, by simp⟩) ?_
        rintro r o ⟨q3, e1, e2, ⟨s2, rfl, e3⟩, rfl⟩
        simp only [↓zp, zs, hasK, zt, hasC, hb.has, List.length_append]
        have fin : ∀ s : List UInt8, s.length ≤ Lsh (d + 1) → Drw b p (Csh (d + 1)) (isTxt (Lsh (d + 1))) (.v (.string (mk s))) [.cells [b, .v (.int .i64 (q3 : Int))]] := fun s hs => ⟨q3, by omega, by simp only [Csh]; omega, ⟨s, rfl, hs⟩, rfl⟩
        repeat (first | exact fin _ (by simp only [List.length_append, List.length_cons, List.length_nil, Lsh]; omega) | refine ⟨by first | omega | (simp only [List.length_append, List.length_cons, List.length_nil]; omega), ?_⟩)

      · simp only [↓zp, zs, hasK, hasC, hb.has]
        refine ⟨fun h => by omega, fun _ => ⟨fun h => by omega, fun _ => ⟨fun h => by omega, fun _ => ⟨fun h => by omega, fun _ => ?_⟩⟩⟩⟩
        refine wp_call (S_of b l hb q1 (by omega) _ _ (.of [_, _, _]) (by simp) (by simp)) (Drw.ne ⟨_, List.mem_cons_self, rfl⟩) ?_
        rintro r o ⟨q2, g1, g2, hr, rfl⟩
        obtain ⟨s, rfl, hs⟩ := isOne.txt (n := 2) (by decide) hr
        simp only [↓zp, zs, hasK, zt, hasC, hb.has]
        repeat refine ⟨by first | omega | (simp only [List.length_append, List.length_cons, List.length_nil]; omega), ?_⟩
        refine wp_det (S_l1With ls a ha s (by omega)) ?_
        simp only [↓zp, zs, hasK]
        refine wp_call (ih q2 (ls ++ [s]) _ (.of _) (fun w hw => by
          rcases List.mem_append.1 hw with hw | hw
          · exact hls w hw
          · simp at hw; rw [hw]; exact hs) (by simp; omega) (by omega)) (Drw.ne ⟨[], rfl, by simp⟩) ?_
        rintro r o ⟨q3, e1, e2, ⟨s2, rfl, e3⟩, rfl⟩
        simp only [↓zp, zs, hasK, zt, hasC, hb.has, List.length_append]
        have fin : ∀ s : List UInt8, s.length ≤ Lsh (d + 1) → Drw b p (Csh (d + 1)) (isTxt (Lsh (d + 1))) (.v (.string (mk s))) [.cells [b, .v (.int .i64 (q3 : Int))]] := fun s hs => ⟨q3, by omega, by simp only [Csh]; omega, ⟨s, rfl, hs⟩, rfl⟩
        repeat (first | exact fin _ (by simp only [List.length_append, List.length_cons, List.length_nil, Lsh]; omega) | refine ⟨by first | omega | (simp only [List.length_append, List.length_cons, List.length_nil]; omega), ?_⟩)

end Go.Proofs.Trees
