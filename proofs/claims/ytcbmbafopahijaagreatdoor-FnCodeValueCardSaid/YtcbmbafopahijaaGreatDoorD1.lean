/-
  Part of a proof: laws over values.
-/
import Derived.Test.YtcbmbafopahijaaGreatDoorQ4
set_option linter.unusedVariables false
set_option linter.unusedSimpArgs false
namespace Go.Proofs.Trees
open Go Go.VL Go.RowKit
/-! ### Draws: a number below a bound, and the place goes on -/
def bysAV (l : List UInt8) : List (List AV) := l.map fun (x : UInt8) => [.v (.int .u8 (x.toNat : Int))]
/-- A row of bytes that is read. -/
structure RdA (b : AV) (l : List UInt8) : Prop where
  has : LK.sl.has b
  el : b.elems = bysAV l
  len : l.length ≤ 2000
theorem RdA.ln {b : AV} {l : List UInt8} (h : RdA b l) : b.elems.length = l.length := by rw [h.el]; simp [bysAV]
theorem RdA.get {b : AV} {l : List UInt8} (h : RdA b l) {i : Nat} (hi : i < l.length) : b.elems.getD i [] = [.v (.int .u8 ((l[i]).toNat : Int))] := by rw [h.el]; simp [bysAV, List.getD_eq_getElem?_getD, hi]
/-- What a draw does: its result is so, and the place goes on by at most 'c'. -/
def Drw (b : AV) (p c : Nat) (X : AV → Prop) : AV → List Ob → Prop := fun r o => ∃ q : Nat, p ≤ q ∧ q ≤ p + c ∧ X r ∧ o = [.cells [b, .v (.int .i64 (q : Int))]]
theorem Drw.ne {b : AV} {p c : Nat} {X : AV → Prop} {r : AV} (h : X r) : ∃ r o, Drw b p c X r o := ⟨r, _, p, Nat.le_refl _, Nat.le_add_right _ _, h, rfl⟩
theorem xor_nat {a b : Int} (ha : 0 ≤ a) (hb : 0 ≤ b) (ha' : a < 9223372036854775808) (hb' : b < 9223372036854775808) : ∃ W : Nat, xorI .i64 a b = (W : Int) := by
  obtain ⟨x, rfl⟩ : ∃ x : Nat, a = (x : Int) := ⟨a.toNat, by omega⟩
  obtain ⟨y, rfl⟩ : ∃ y : Nat, b = (y : Int) := ⟨b.toNat, by omega⟩
  have e1 : (BitVec.ofInt 64 (x : Int)).toNat = x := by simp; omega
  have e2 : (BitVec.ofInt 64 (y : Int)).toNat = y := by simp; omega
  have hlt : x ^^^ y < 2 ^ 63 := Nat.xor_lt_two_pow (by omega) (by omega)
  refine ⟨x ^^^ y, ?_⟩
  unfold xorI
  have e3 : (BitVec.ofInt (IntKind.bits .i64) (x : Int) ^^^ BitVec.ofInt (IntKind.bits .i64) (y : Int)).toNat = x ^^^ y := by
    show (BitVec.ofInt 64 (x : Int) ^^^ BitVec.ofInt 64 (y : Int)).toNat = _
    rw [BitVec.toNat_xor, e1, e2]
  rw [e3, VL.wrap64] <;> omega
theorem tdiv_nn (a b : Nat) : Int.tdiv (a : Int) (b : Int) = ((a / b : Nat) : Int) := (Int.ofNat_tdiv a b).symm
theorem tmod_nn (a b : Nat) : Int.tmod (a : Int) (b : Int) = ((a % b : Nat) : Int) := (Int.ofNat_tmod a b).symm
theorem wrapN (n : Nat) (h : n < 9223372036854775808) : IntKind.wrap .i64 (n : Int) = (n : Int) := VL.wrap64 _ (by omega) (by omega)
def isNum (n : Nat) : AV → Prop := fun r => ∃ k : Nat, r = .v (.int .i64 (k : Int)) ∧ (1 ≤ n → k < n) ∧ k ≤ n
abbrev far : Nat := 1000000000
theorem S_pick (b : AV) (l : List UInt8) (hb : RdA b l) (p n : Nat) (hp : p < 2 * far) (hn : n < far) : FSpec Tryz.prog n_spec_l6Rd_pick [.ref 0 0, .v (.int .i64 (n : Int))] [.cells [b, .v (.int .i64 (p : Int))]] (Drw b p 1 (isNum n)) := by
  refine F_spec_l6Rd_pick _ _ _ hb.has ?_
  have e1 : IntKind.wrap .i64 ((p : Int) + 1) = ((p + 1 : Nat) : Int) := by rw [VL.wrap64] <;> simp [far] at hp <;> omega
  have e2 : IntKind.wrap .i64 (((p + 1 : Nat) : Int) - 1) = (p : Int) := by rw [VL.wrap64] <;> simp [far] at hp <;> omega
  have fin : ∀ k : Nat, (1 ≤ n → k < n) → k ≤ n → Drw b p 1 (isNum n) (.v (.int .i64 (k : Int))) [.cells [b, .v (.int .i64 ((p + 1 : Nat) : Int))]] := fun k h h' => ⟨p + 1, by omega, Nat.le_refl _, ⟨k, rfl, h, h'⟩, rfl⟩
  simp only [t_spec_l6Rd_pick, ↓zp, zs, hasK, e1, e2, hb.ln, tdiv_nn, tmod_nn]
  refine ⟨fun h => fin 0 (fun h' => by omega) (Nat.zero_le _), fun h => ⟨hb.has, fun h0 => fin 0 (fun h' => by omega) (Nat.zero_le _), fun h0 => ?_⟩⟩
  have hl : 0 < l.length := by omega
  have hll := hb.len
  refine ⟨hb.has, fun hlt => ?_, fun hge => ?_⟩
  · have hlt : p < l.length := by omega
    have hx := (l[p]).toNat_lt
    simp only [Int.toNat_natCast, hb.get hlt, hb.has, ↓zp, zs, hasK]
    rw [wrapN _ (by omega), tmod_nn]
    have := fin ((l[p]).toNat % n) (fun h' => Nat.mod_lt _ (by omega)) (Nat.le_of_lt (Nat.mod_lt _ (by omega)))
    repeat (first | exact this | refine ⟨by omega, ?_⟩)
  · have h1 : p % l.length < l.length := Nat.mod_lt _ hl
    have e3 : IntKind.wrap .i64 ((p : Int) * 7) = ((p * 7 : Nat) : Int) := by rw [VL.wrap64] <;> simp [far] at hp <;> omega
    have e4 : IntKind.wrap .i64 (((p * 7 : Nat) : Int) + 3) = ((p * 7 + 3 : Nat) : Int) := by rw [VL.wrap64] <;> simp [far] at hp <;> omega
    have h2 : (p * 7 + 3) % l.length < l.length := Nat.mod_lt _ hl
    have hx := (l[p % l.length]).toNat_lt
    have hy := (l[(p * 7 + 3) % l.length]).toNat_lt
    have hq : p / l.length ≤ p := Nat.div_le_self _ _
    simp only [e3, e4, tmod_nn, Int.toNat_natCast, hb.get h1, hb.get h2, hb.has, ↓zp, zs, hasK]
    generalize hxx : (l[p % l.length]).toNat = x at hx ⊢
    generalize hyy : (l[(p * 7 + 3) % l.length]).toNat = y at hy ⊢
    generalize hqq : p / l.length = q at hq ⊢
    have f1 : IntKind.wrap .i64 ((x : Int)) = (x : Int) := wrapN _ (by omega)
    have f2 : IntKind.wrap .i64 ((y : Int)) = (y : Int) := wrapN _ (by omega)
    have f3 : IntKind.wrap .i64 ((x : Int) * 131) = ((x * 131 : Nat) : Int) := by rw [VL.wrap64] <;> omega
    have f4 : IntKind.wrap .i64 ((y : Int) * 1117) = ((y * 1117 : Nat) : Int) := by rw [VL.wrap64] <;> omega
    have f5 : IntKind.wrap .i64 (((x * 131 : Nat) : Int) + ((y * 1117 : Nat) : Int)) = ((x * 131 + y * 1117 : Nat) : Int) := by rw [VL.wrap64] <;> omega
    have f6 : IntKind.wrap .i64 ((p : Int) * 29) = ((p * 29 : Nat) : Int) := by rw [VL.wrap64] <;> simp [far] at hp <;> omega
    have f7 : IntKind.wrap .i64 (((x * 131 + y * 1117 : Nat) : Int) + ((p * 29 : Nat) : Int)) = ((x * 131 + y * 1117 + p * 29 : Nat) : Int) := by rw [VL.wrap64] <;> simp [far] at hp <;> omega
    have f8 : IntKind.wrap .i64 ((q : Int)) = (q : Int) := wrapN _ (by simp [far] at hp; omega)
    have f9 : IntKind.wrap .i64 ((q : Int) * 53) = ((q * 53 : Nat) : Int) := by rw [VL.wrap64] <;> simp [far] at hp <;> omega
    have f10 : IntKind.wrap .i64 (((x * 131 + y * 1117 + p * 29 : Nat) : Int) + ((q * 53 : Nat) : Int)) = ((x * 131 + y * 1117 + p * 29 + q * 53 : Nat) : Int) := by rw [VL.wrap64] <;> simp [far] at hp <;> omega
    simp only [f1, f2, f3, f4, f5, f6, f7, f8, f9, f10]
    generalize hV : x * 131 + y * 1117 + p * 29 + q * 53 = V
    have hVl : V < 1000000000000 := by simp [far] at hp; omega
    have f11 : IntKind.wrap .i64 (Int.tdiv (V : Int) 64) = ((V / 64 : Nat) : Int) := by
      have : Int.tdiv (V : Int) 64 = ((V / 64 : Nat) : Int) := tdiv_nn V 64
      rw [this, wrapN _ (by omega)]
    rw [f11]
    obtain ⟨W, hW⟩ := xor_nat (a := (V : Int)) (b := ((V / 64 : Nat) : Int)) (by omega) (by omega) (by omega) (by omega)
    rw [hW, tmod_nn]
    have := fin (W % n) (fun h' => Nat.mod_lt _ (by omega)) (Nat.le_of_lt (Nat.mod_lt _ (by omega)))
    repeat (first | exact this | refine ⟨by omega, ?_⟩)
/-- One of some texts. -/
def isOne (L : List (List UInt8)) : AV → Prop := fun r => ∃ s, s ∈ L ∧ r = .v (.string (mk s))
theorem S_of (b : AV) (l : List UInt8) (hb : RdA b l) (p : Nat) (hp : p < 2 * far) (L : List (List UInt8)) (a : AV) (ha : StrsA a L) (hL : 0 < L.length) (hLl : L.length < 1000000) : FSpec Tryz.prog n_spec_l6Rd_of [.ref 0 0, a] [.cells [b, .v (.int .i64 (p : Int))]] (Drw b p 1 (isOne L)) := by
  refine F_spec_l6Rd_of _ _ _ ha.1 hb.has ?_
  unfold t_spec_l6Rd_of
  simp only [↓zp, zs, hasK, ha.len]
  refine ⟨ha.1, ?_⟩
  have hpk := S_pick b l hb p L.length hp (by simp [far]; omega)
  refine wp_call hpk (Drw.ne ⟨0, rfl, fun h => h, Nat.zero_le _⟩) ?_
  rintro r o ⟨q, h1, h2, ⟨k, rfl, h3, h4⟩, rfl⟩
  have hk := h3 hL
  simp only [↓zp, zs, hasK, zt, hasC, hb.has, ha.idx hk, Int.toNat_natCast]
  refine ⟨⟨ha.1, by omega⟩, ?_⟩
  have : Drw b p 1 (isOne L) (.v (.string (mk (L.getD k [])))) [.cells [b, .v (.int .i64 (q : Int))]] := ⟨q, h1, h2, ⟨_, by simp [List.getD_eq_getElem?_getD, hk], rfl⟩, rfl⟩
  repeat (first | exact this | refine ⟨by omega, ?_⟩)
/-- A text of at most so many bytes. -/
def isTxt (n : Nat) : AV → Prop := fun r => ∃ s : List UInt8, r = .v (.string (mk s)) ∧ s.length ≤ n
theorem isOne.txt {L : List (List UInt8)} {n : Nat} (h : ∀ s, s ∈ L → s.length ≤ n) {r : AV} (hr : isOne L r) : isTxt n r := by
  obtain ⟨s, h1, h2⟩ := hr; exact ⟨s, h2, h s h1⟩
end Go.Proofs.Trees
