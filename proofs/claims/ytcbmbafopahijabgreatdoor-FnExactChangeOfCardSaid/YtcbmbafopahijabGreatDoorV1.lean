/-
  Part of a proof: laws over values.
-/
import Derived.Test.YtcbmbafopahijabGreatDoorC1
set_option linter.unusedVariables false
set_option linter.unusedSimpArgs false
namespace Go.Proofs.Trees
open Go Go.VL Go.RowKit
/-! ### Numbers as texts -/
abbrev dd (n : Nat) : List UInt8 := Lib.decDigits n
theorem dd_one {k : Nat} (h : k < 10) : dd k = [UInt8.ofNat (48 + k)] := by rw [dd, Lib.decDigits, dif_pos h]
theorem dd_more {k : Nat} (h : ¬ k < 10) : dd k = dd (k / 10) ++ [UInt8.ofNat (48 + k % 10)] := by rw [dd, Lib.decDigits, dif_neg h]
theorem dd_len : ∀ (n k : Nat), k < n → (dd k).length ≤ k + 1
  | 0, k, h => by omega
  | n + 1, k, h => by
    by_cases h1 : k < 10
    · rw [dd_one h1]; simp
    · rw [dd_more h1]
      have := dd_len n (k / 10) (by omega)
      simp only [List.length_append, List.length_cons, List.length_nil]; omega
theorem byte_of (d : Nat) (h : d < 10) : (Value.int .u8 (IntKind.wrap .u8 (IntKind.wrap .i64 (48 + (d : Int))))) = .int .u8 ((UInt8.ofNat (48 + d)).toNat : Int) := by
  have : d = 0 ∨ d = 1 ∨ d = 2 ∨ d = 3 ∨ d = 4 ∨ d = 5 ∨ d = 6 ∨ d = 7 ∨ d = 8 ∨ d = 9 := by omega
  rcases this with rfl | rfl | rfl | rfl | rfl | rfl | rfl | rfl | rfl | rfl <;> rfl
theorem bytesOf_one (b : UInt8) : bytesOf [[.v (.int .u8 (b.toNat : Int))]] = [b] := by simp [bytesOf, toInt_v]
theorem allU8_one (b : UInt8) : allU8 [[.v (.int .u8 (b.toNat : Int))]] := ⟨rfl, (has_int _ _).mpr trivial, trivial⟩
theorem S_l1Head_atom (s : List UInt8) (d : AV) (hd : LK.sl.has d) (h : s ≠ []) : FSpec Tryz.prog n_spec_l1Head [.agg [.v (.string (mk s)), d]] [] (Det (.v (.string (mk [])))) := by
  refine F_spec_l1Head _ _ hd ?_
  simp only [t_spec_l1Head, ↓zp, zs, hasK, zt, Det]
  exact ⟨fun _ => trivial, fun h' => absurd h' h⟩
theorem sav_agg (e : E) : AV.agg [.v (.string ((e.sav.cs.getD 0 .any).toStr)), e.sav.cs.getD 1 .any] = e.sav := by cases e <;> rfl
/-! ### Texts -/
mutual
def txE : E → List UInt8
  | .atom s => s
  | .list [] => [40, 41]
  | .list (e :: l) => 40 :: (txE e ++ (txEs l ++ [41]))
def txEs : List E → List UInt8
  | [] => []
  | e :: l => 32 :: (txE e ++ txEs l)
end
theorem txEs_drop : ∀ (l : List E) (i : Nat) (h : i < l.length), txEs (l.drop i) = 32 :: (txE l[i] ++ txEs (l.drop (i + 1))) := by
  intro l i h
  rw [List.drop_eq_getElem_cons h, txEs]
theorem LS_l1Text (l : List E) (hll : l.length < 1000000) (ih : ∀ i (h : i < l.length), FSpec Tryz.prog n_spec_l1Text [(l[i]).sav] [] (Det (.v (.string (mk (txE l[i])))))) :
    ∀ (k i : Nat) (out : List UInt8), i + k = l.length → 1 ≤ i → out.length + (txEs (l.drop i)).length ≤ 1000000000000 → LS_spec_l1Text_1 [.v (.string (mk out)), .v (.int .i64 (i : Int))] [.cells [.v (.string (mk [])), .sl (E.scellss l)]] (LIs 1 [.v (.string (mk (out ++ txEs (l.drop i))))] [])
  | 0, i, out, hi, h1, hn => by
    refine G_spec_l1Text_1 _ _ _ _ ?_
    simp only [r_spec_l1Text_1, ↓zp, zs, hasK, scellss_len]
    have : l.drop i = [] := List.drop_eq_nil_of_le (by omega)
    refine ⟨fun h => by omega, fun _ => ?_⟩
    simp [LIs, this, txEs]
  | k + 1, i, out, hi, h1, hn => by
    have hlt : i < l.length := by omega
    have hd := txEs_drop l i hlt
    rw [hd] at hn
    simp only [List.length_cons, List.length_append] at hn
    refine G_spec_l1Text_1 _ _ _ _ ?_
    simp only [r_spec_l1Text_1, ↓zp, zs, hasK, zt, scellss_len, scellss_getD l i hlt, sc_len, sc_has, sc_agg, Nat.le_refl]
    refine ⟨fun _ => ⟨fun _ => ⟨by omega, by omega, ?_⟩, fun h => by omega⟩, fun h => by omega⟩
    refine wp_det (ih i hlt) ?_
    simp only [↓zp, zs, hasK, zt]
    refine ⟨by simp; omega, ?_⟩
    rw [wrap_succ i (by omega), hd]
    have := LS_l1Text l hll ih k (i + 1) (out ++ [32] ++ txE l[i]) (by omega) (by omega) (by simp; omega)
    simpa using this
theorem txE_get : ∀ (l : List E) (i : Nat) (h : i < l.length), (txE l[i]).length ≤ (txEs l).length
  | e :: l, 0, _ => by simp only [txEs, List.getElem_cons_zero, List.length_cons, List.length_append]; omega
  | e :: l, i + 1, h => by have := txE_get l i (by simpa using h); simp only [txEs, List.getElem_cons_succ, List.length_cons, List.length_append]; omega
theorem txEs_len : ∀ l : List E, l.length ≤ (txEs l).length
  | [] => by simp [txEs]
  | e :: l => by have := txEs_len l; simp only [txEs, List.length_cons, List.length_append]; omega
theorem S_l1Text_n : ∀ (n : Nat) (e : E), e.sz < n → e.ok → (txE e).length ≤ 900000 → FSpec Tryz.prog n_spec_l1Text [e.sav] [] (Det (.v (.string (mk (txE e)))))
  | 0, e, hn, _, _ => by omega
  | n + 1, .atom s, hn, hok, hl => by
    refine F_spec_l1Text _ _ ((has_slnil).mpr trivial) ?_
    have hne : s ≠ [] := hok
    simp only [t_spec_l1Text, ↓zp, zs, hasK, zt, Det]
    exact ⟨fun _ => rfl, fun h => absurd h hne⟩
  | n + 1, .list [], hn, hok, hl => by
    refine F_spec_l1Text _ _ ((has_sl _).mpr trivial) ?_
    simp only [t_spec_l1Text, ↓zp, zs, hasK, zt, Det]
    refine ⟨fun h => absurd rfl h, fun _ => ?_⟩
    have h1 : LS_spec_l1Text_1 [.v (.string (mk [40])), .v (.int .i64 0)] [.cells [.v (.string (mk [])), .sl (E.scellss [])]] (LIs 1 [.v (.string (mk [40]))] []) := by
      refine G_spec_l1Text_1 _ _ _ _ ?_
      simp [r_spec_l1Text_1, ↓zp, zs, hasK, E.scellss, LIs]
    refine wp_loop1 h1 ?_
    simp only [↓zp, zs, hasK, zt]
    exact ⟨by simp, rfl⟩
  | n + 1, .list (x :: l), hn, hok, hl => by
    refine F_spec_l1Text _ _ ((has_sl _).mpr trivial) ?_
    simp only [E.sz, E.szs] at hn
    simp only [txE, List.length_cons, List.length_append, List.length_nil] at hl
    have h2 := txEs_len l
    simp only [t_spec_l1Text, ↓zp, zs, hasK, zt, Det]
    refine ⟨fun h => absurd rfl h, fun _ => ?_⟩
    have hL : LS_spec_l1Text_1 [.v (.string (mk [40])), .v (.int .i64 0)] [.cells [.v (.string (mk [])), .sl (E.scellss (x :: l))]] (LIs 1 [.v (.string (mk ([40] ++ txE x ++ txEs l)))] []) := by
      refine G_spec_l1Text_1 _ _ _ _ ?_
      simp only [r_spec_l1Text_1, E.scellss, Int.toNat_zero, ↓zp, zs, hasK, zt, scellss_len, sc_len, sc_has, sc_agg, Nat.le_refl]
      refine ⟨fun _ => ⟨fun h => by omega, fun _ => ⟨by omega, ?_⟩⟩, fun h => by omega⟩
      refine wp_det (S_l1Text_n n x (by omega) hok.1 (by omega)) ?_
      simp only [↓zp, zs, hasK, zt]
      refine ⟨by simp; omega, ?_⟩
      have := LS_l1Text (x :: l) (by simp; omega) (fun i hi => by
        have h3 := sz_get (x :: l) i hi
        simp only [E.szs] at h3
        refine S_l1Text_n n _ (by omega) (oks_get _ i hi hok) ?_
        have h4 := txE_get (x :: l) i hi
        simp only [txEs, List.length_cons, List.length_append] at h4
        omega) l.length 1 ([40] ++ txE x) (by simp; omega) (by omega) (by simp; omega)
      rw [show IntKind.wrap .i64 (0 + 1) = 1 from rfl]
      simpa [E.scellss] using this
    refine wp_loop1 hL ?_
    simp only [↓zp, zs, hasK, zt]
    refine ⟨by simp; omega, ?_⟩
    simp [txE]
theorem S_l1Text (e : E) (h : e.ok) (hl : (txE e).length ≤ 900000) : FSpec Tryz.prog n_spec_l1Text [e.sav] [] (Det (.v (.string (mk (txE e))))) := S_l1Text_n (e.sz + 1) e (by omega) h hl
/-! ### Nodes -/
mutual
def E.nd : E → Nat
  | .atom _ => 1
  | .list [] => 1
  | .list (_ :: l) => 1 + E.nds l
def E.nds : List E → Nat
  | [] => 0
  | e :: l => e.nd + E.nds l
end
mutual
theorem nd_le : ∀ e : E, e.nd ≤ e.sz
  | .atom s => by simp [E.nd, E.sz]
  | .list [] => by simp [E.nd, E.sz, E.szs]
  | .list (x :: l) => by have := nds_le l; simp only [E.nd, E.sz, E.szs]; omega
theorem nds_le : ∀ l : List E, E.nds l ≤ E.szs l
  | [] => by simp [E.nds, E.szs]
  | e :: l => by have := nd_le e; have := nds_le l; simp only [E.nds, E.szs]; omega
end
theorem nds_drop : ∀ (l : List E) (i : Nat) (h : i < l.length), E.nds (l.drop i) = (l[i]).nd + E.nds (l.drop (i + 1)) := by
  intro l i h
  rw [List.drop_eq_getElem_cons h]; rfl
theorem nds_all : ∀ (l : List E) (i : Nat), E.nds (l.drop i) ≤ E.nds l
  | [], i => by simp
  | e :: l, 0 => by simp
  | e :: l, i + 1 => by have := nds_all l i; simp only [List.drop_succ_cons, E.nds]; omega
theorem LS_l2Size (l : List E) (hl : E.nds l < 1000000) (hll : l.length < 1000000) (ih : ∀ i (h : i < l.length), FSpec Tryz.prog n_spec_l2Size [(l[i]).sav] [] (Det (.v (.int .i64 ((l[i]).nd : Int))))) :
    ∀ (k i n : Nat), i + k = l.length → n + E.nds (l.drop i) ≤ 1 + E.nds l → LS_spec_l2Size_1 [.v (.int .i64 (n : Int)), .v (.int .i64 (i : Int))] [.cells [.v (.string (mk [])), .sl (E.scellss l)]] (LIs 1 [.v (.int .i64 ((n + E.nds (l.drop i) : Nat) : Int))] [])
  | 0, i, n, hi, hn => by
    refine G_spec_l2Size_1 _ _ _ _ ?_
    simp only [r_spec_l2Size_1, ↓zp, zs, hasK, scellss_len]
    have : l.drop i = [] := List.drop_eq_nil_of_le (by omega)
    refine ⟨fun h => by omega, fun _ => ?_⟩
    simp [LIs, this, E.nds]
  | k + 1, i, n, hi, hn => by
    have hlt : i < l.length := by omega
    refine G_spec_l2Size_1 _ _ _ _ ?_
    simp only [r_spec_l2Size_1, ↓zp, zs, hasK, zt, scellss_len, scellss_getD l i hlt, sc_len, sc_has, sc_agg, Nat.le_refl]
    refine ⟨fun _ => ⟨by omega, ?_⟩, fun h => by omega⟩
    refine wp_det (ih i hlt) ?_
    have h1 := nds_drop l i hlt
    simp only [↓zp, zs, hasK]
    rw [wrap_succ i (by omega), wrap64 _ (by omega) (by omega)]
    have := LS_l2Size l hl hll ih k (i + 1) (n + (l[i]).nd) (by omega) (by omega)
    rw [h1, ← Nat.add_assoc]
    simpa using this
theorem S_l2Size_n : ∀ (n : Nat) (e : E), e.sz < n → e.sz < 900000 → FSpec Tryz.prog n_spec_l2Size [e.sav] [] (Det (.v (.int .i64 (e.nd : Int))))
  | 0, e, hn, _ => by omega
  | n + 1, .atom s, hn, hl => by
    refine F_spec_l2Size _ _ ((has_slnil).mpr trivial) ?_
    simp only [t_spec_l2Size]
    have hL : LS_spec_l2Size_1 [.v (.int .i64 1), .v (.int .i64 1)] [.cells [.v (.string (mk s)), .v (.slice none 0 0)]] (LIs 1 [.v (.int .i64 1)] []) := by
      refine G_spec_l2Size_1 _ _ _ _ ?_
      simp [r_spec_l2Size_1, ↓zp, zs, hasK, LIs]
    refine wp_loop1 hL ?_
    simp [↓zp, zs, hasK, Det, E.nd]
  | n + 1, .list l, hn, hl => by
    refine F_spec_l2Size _ _ ((has_sl _).mpr trivial) ?_
    simp only [E.sz] at hn hl
    simp only [t_spec_l2Size]
    match l, hn, hl with
    | [], hn, hl =>
      have hL : LS_spec_l2Size_1 [.v (.int .i64 1), .v (.int .i64 1)] [.cells [.v (.string (mk [])), .sl (E.scellss [])]] (LIs 1 [.v (.int .i64 1)] []) := by
        refine G_spec_l2Size_1 _ _ _ _ ?_
        simp [r_spec_l2Size_1, ↓zp, zs, hasK, LIs, E.scellss]
      refine wp_loop1 hL ?_
      simp [↓zp, zs, hasK, Det, E.nd]
    | x :: l, hn, hl =>
      simp only [E.szs] at hn hl
      have h1 := nds_le l
      have h2 := len_szs l
      have h0 := nd_le x
      refine wp_loop1 (LS_l2Size (x :: l) (by simp only [E.nds]; omega) (by simp; omega) (fun i hi => ?_) l.length 1 1 (by simp; omega) (by simp [E.nds])) ?_
      · have := sz_get (x :: l) i hi
        simp only [E.szs] at this
        exact S_l2Size_n n _ (by omega) (by omega)
      · simp [↓zp, zs, hasK, E.nd, Det]
theorem S_l2Size (e : E) (hl : e.sz < 900000) : FSpec Tryz.prog n_spec_l2Size [e.sav] [] (Det (.v (.int .i64 (e.nd : Int)))) := S_l2Size_n (e.sz + 1) e (by omega) hl
/-! ### Values -/
inductive Vl where
  | u
  | el (k : Nat)
  | l (v : Vl)
  | r (v : Vl)
  | f (v : Vl)
  | p (a b : Vl)
abbrev elS (k : Nat) : List UInt8 := 101 :: dd k
abbrev nilp : AV := .v (.pointer none)
def Vl.iav : Vl → AV
  | .u => .ptr [.v (.int .u8 117), .v (.string (mk [])), nilp, nilp]
  | .el k => .ptr [.v (.int .u8 101), .v (.string (mk (elS k))), nilp, nilp]
  | .l v => .ptr [.v (.int .u8 108), .v (.string (mk [])), v.iav, nilp]
  | .r v => .ptr [.v (.int .u8 114), .v (.string (mk [])), v.iav, nilp]
  | .f v => .ptr [.v (.int .u8 102), .v (.string (mk [])), v.iav, nilp]
  | .p a b => .ptr [.v (.int .u8 112), .v (.string (mk [])), a.iav, b.iav]
def Vl.toE : Vl → E
  | .u => .atom [117]
  | .el k => .atom (elS k)
  | .l v => .list [.atom [108], v.toE]
  | .r v => .list [.atom [114], v.toE]
  | .f v => .list [.atom [102], v.toE]
  | .p a b => .list [.atom [112], a.toE, b.toE]
def Vl.nodes : Vl → Nat
  | .l v => 1 + v.nodes
  | .r v => 1 + v.nodes
  | .f v => 1 + v.nodes
  | .p a b => 1 + a.nodes + b.nodes
  | _ => 1
/-- Its elements are below n. -/
def Vl.bel (n : Nat) : Vl → Prop
  | .el k => k < n
  | .l v => v.bel n
  | .r v => v.bel n
  | .f v => v.bel n
  | .p a b => a.bel n ∧ b.bel n
  | .u => True
abbrev Vl.txt (v : Vl) : List UInt8 := txE v.toE
theorem vl_has (v : Vl) : LK.has .ptr v.iav = True := by cases v <;> simp [Vl.iav, has_ptr]
theorem vl_nil (v : Vl) : v.iav.isNil = false := by cases v <;> rfl
theorem toE_ok : ∀ v : Vl, v.toE.ok
  | .u => by simp [Vl.toE, E.ok]
  | .el k => by simp [Vl.toE, E.ok]
  | .l v => ⟨by simp [E.ok], toE_ok v, trivial⟩
  | .r v => ⟨by simp [E.ok], toE_ok v, trivial⟩
  | .f v => ⟨by simp [E.ok], toE_ok v, trivial⟩
  | .p a b => ⟨by simp [E.ok], toE_ok a, toE_ok b, trivial⟩
theorem toE_nd : ∀ v : Vl, v.toE.nd = v.nodes
  | .u => rfl
  | .el k => rfl
  | .l v => by simp [Vl.toE, E.nd, E.nds, Vl.nodes, toE_nd v]
  | .r v => by simp [Vl.toE, E.nd, E.nds, Vl.nodes, toE_nd v]
  | .f v => by simp [Vl.toE, E.nd, E.nds, Vl.nodes, toE_nd v]
  | .p a b => by simp [Vl.toE, E.nd, E.nds, Vl.nodes, toE_nd a, toE_nd b, Nat.add_assoc]
theorem toE_sz : ∀ v : Vl, v.toE.sz ≤ 3 * v.nodes
  | .u => by simp [Vl.toE, E.sz, Vl.nodes]
  | .el k => by simp [Vl.toE, E.sz, Vl.nodes]
  | .l v => by have := toE_sz v; simp only [Vl.toE, E.sz, E.szs, Vl.nodes]; omega
  | .r v => by have := toE_sz v; simp only [Vl.toE, E.sz, E.szs, Vl.nodes]; omega
  | .f v => by have := toE_sz v; simp only [Vl.toE, E.sz, E.szs, Vl.nodes]; omega
  | .p a b => by have := toE_sz a; have := toE_sz b; simp only [Vl.toE, E.sz, E.szs, Vl.nodes]; omega
theorem txt_len : ∀ v : Vl, v.bel 100 → v.txt.length ≤ 200 * v.nodes
  | .u, _ => by simp [Vl.txt, Vl.toE, txE, Vl.nodes]
  | .el k, h => by
    have h' : k < 100 := h
    have := dd_len 1000 k (by omega)
    simp only [Vl.txt, Vl.toE, txE, Vl.nodes, List.length_cons]; omega
  | .l v, h => by have := txt_len v h; simp only [Vl.txt, Vl.toE, txE, txEs, Vl.nodes, List.length_cons, List.length_append, List.length_nil] at this ⊢; omega
  | .r v, h => by have := txt_len v h; simp only [Vl.txt, Vl.toE, txE, txEs, Vl.nodes, List.length_cons, List.length_append, List.length_nil] at this ⊢; omega
  | .f v, h => by have := txt_len v h; simp only [Vl.txt, Vl.toE, txE, txEs, Vl.nodes, List.length_cons, List.length_append, List.length_nil] at this ⊢; omega
  | .p a b, h => by have := txt_len a h.1; have := txt_len b h.2; simp only [Vl.txt, Vl.toE, txE, txEs, Vl.nodes, List.length_cons, List.length_append, List.length_nil] at *; omega
theorem S_pair (a b : AV) (h : LK.ptr.has a) (h' : LK.ptr.has b) : FSpec Tryz.prog n_impl_pair [a, b] [] (Det (.ptr [.v (.int .u8 112), .v (.string (mk [])), a, b])) := by
  refine F_impl_pair _ _ h h' ?_
  simp [t_impl_pair, ↓zp, zs, hasK, Det]
theorem nodes_pos (v : Vl) : 1 ≤ v.nodes := by cases v <;> simp [Vl.nodes] <;> omega
theorem S_nodes : ∀ (v : Vl), v.nodes < 1000000 → FSpec Tryz.prog n_impl_val_nodes [v.iav] [] (Det (.v (.int .i64 (v.nodes : Int))))
  | .u, h => by refine F_impl_val_nodes _ ((vl_has _).mpr trivial) ?_; simp [t_impl_val_nodes, Vl.iav, ↓zp, zs, hasK, Det, Vl.nodes]
  | .el k, h => by refine F_impl_val_nodes _ ((vl_has _).mpr trivial) ?_; simp [t_impl_val_nodes, Vl.iav, ↓zp, zs, hasK, Det, Vl.nodes]
  | .l v, h => by
    simp only [Vl.nodes] at h
    refine F_impl_val_nodes _ ((vl_has _).mpr trivial) ?_
    simp only [t_impl_val_nodes, Vl.iav, ↓zp, zs, hasK, vl_has, vl_nil]
    refine ⟨by omega, fun _ => ⟨by omega, ?_⟩, fun h => (by cases h)⟩
    refine wp_det (S_nodes v (by omega)) ?_
    simp only [↓zp, zs, hasK, Det, Vl.nodes]
    rw [wrap64 _ (by omega) (by omega)]
    simp
  | .r v, h => by
    simp only [Vl.nodes] at h
    refine F_impl_val_nodes _ ((vl_has _).mpr trivial) ?_
    simp only [t_impl_val_nodes, Vl.iav, ↓zp, zs, hasK, vl_has, vl_nil]
    refine ⟨by omega, fun _ => ⟨by omega, ?_⟩, fun h => (by cases h)⟩
    refine wp_det (S_nodes v (by omega)) ?_
    simp only [↓zp, zs, hasK, Det, Vl.nodes]
    rw [wrap64 _ (by omega) (by omega)]
    simp
  | .f v, h => by
    simp only [Vl.nodes] at h
    refine F_impl_val_nodes _ ((vl_has _).mpr trivial) ?_
    simp only [t_impl_val_nodes, Vl.iav, ↓zp, zs, hasK, vl_has, vl_nil]
    refine ⟨by omega, fun _ => ⟨by omega, ?_⟩, fun h => (by cases h)⟩
    refine wp_det (S_nodes v (by omega)) ?_
    simp only [↓zp, zs, hasK, Det, Vl.nodes]
    rw [wrap64 _ (by omega) (by omega)]
    simp
  | .p a b, h => by
    simp only [Vl.nodes] at h
    refine F_impl_val_nodes _ ((vl_has _).mpr trivial) ?_
    simp only [t_impl_val_nodes, Vl.iav, ↓zp, zs, hasK, vl_has, vl_nil]
    refine ⟨by omega, fun _ => ⟨by omega, ?_⟩, fun h => (by cases h)⟩
    refine wp_det (S_nodes a (by omega)) ?_
    simp only [↓zp, zs, hasK, vl_has, vl_nil]
    rw [wrap64 (1 + (a.nodes : Int)) (by omega) (by omega)]
    refine ⟨by omega, fun _ => ⟨by omega, ?_⟩, fun h => (by cases h)⟩
    refine wp_det (S_nodes b (by omega)) ?_
    simp only [↓zp, zs, hasK, Det, Vl.nodes]
    rw [wrap64 _ (by omega) (by omega)]
    congr 2
end Go.Proofs.Trees
