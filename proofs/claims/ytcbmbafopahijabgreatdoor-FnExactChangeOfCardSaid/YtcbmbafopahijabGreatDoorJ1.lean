/-
  Part of a proof: laws over values.
-/
import Derived.Test.YtcbmbafopahijabGreatDoorI3
import Derived.Test.YtcbmbafopahijabGreatDoorC2
set_option linter.unusedVariables false
set_option linter.unusedSimpArgs false
namespace Go.Proofs.Trees
open Go Go.VL Go.RowKit
/-! ### The reference's lists of holes -/
def sAV (l : List Hl) : List (List AV) := l.map fun h => [.v (.string (mk h.1.toE.at)), h.1.toE.sp, .v (.string (mk h.2.toE.at)), h.2.toE.sp]
theorem sAV_len (l : List Hl) : (sAV l).length = l.length := by simp [sAV]
theorem sAV_get {l : List Hl} {i : Nat} (hi : i < l.length) : (sAV l).getD i [] = [.v (.string (mk (l[i]).1.toE.at)), (l[i]).1.toE.sp, .v (.string (mk (l[i]).2.toE.at)), (l[i]).2.toE.sp] := by simp [sAV, List.getD_eq_getElem?_getD, hi]
theorem sAV_one (out : List Hl) (a b : Vl) : sAV out ++ [[.v (.string (mk a.toE.at)), a.toE.sp, .v (.string (mk b.toE.at)), b.toE.sp]] = sAV (out ++ [(a, b)]) := by simp [sAV]
theorem len4 (a b c d : AV) : allLen 4 [[a, b, c, d]] := fun x hx => by simp at hx; rw [hx]; rfl
theorem sp_hasL (s : ByteArray) (e : E) : hasL [.str, .sl] [.v (.string s), e.sp] 0 = True := by simp [hasL, has_str, sp_has]
theorem sp_hasL4 (s : ByteArray) (e : E) (x y : AV) : hasL [.str, .sl] [.v (.string s), e.sp, x, y] 0 = True := by simp [hasL, has_str, sp_has]
theorem S_mk1 (w : List UInt8) (e : E) : FSpec Tryz.prog n_spec_l1List [.v (.string (mk w)), .sl [[.v (.string (mk e.at)), e.sp]]] [] (Det (.agg [.v (.string (mk [])), (E.list [.atom w, e]).sp])) := by
  have := S_l1List w [e] (by simp)
  simpa only [E.scellss, scells_sp, sav_sp, E.at] using this
theorem S_mk2 (w : List UInt8) (e e' : E) : FSpec Tryz.prog n_spec_l1List [.v (.string (mk w)), .sl [[.v (.string (mk e.at)), e.sp], [.v (.string (mk e'.at)), e'.sp]]] [] (Det (.agg [.v (.string (mk [])), (E.list [.atom w, e, e']).sp])) := by
  have := S_l1List w [e, e'] (by simp)
  simpa only [E.scellss, scells_sp, sav_sp, E.at] using this
def P3 (pv : AV) (a b : E) : Prop := LK.sl.has pv ∧ pv.elems.length = 3 ∧ pv.elems.getD 1 [] = [.v (.string (mk a.at)), a.sp] ∧ pv.elems.getD 2 [] = [.v (.string (mk b.at)), b.sp]
theorem P3.of (x a b : E) : P3 (E.list [x, a, b]).sp a b := ⟨by simp [E.sp, has_sl], by simp [E.sp, E.scellss, elems_sl], by simp [E.sp, E.scellss, elems_sl, scells_sp], by simp [E.sp, E.scellss, elems_sl, scells_sp]⟩
def P2 (pv : AV) (a : E) : Prop := LK.sl.has pv ∧ pv.elems.length = 2 ∧ pv.elems.getD 1 [] = [.v (.string (mk a.at)), a.sp]
theorem P2.of (x a : E) : P2 (E.list [x, a]).sp a := ⟨by simp [E.sp, has_sl], by simp [E.sp, E.scellss, elems_sl], by simp [E.sp, E.scellss, elems_sl, scells_sp]⟩
theorem LS_within (w : List UInt8) (g : Vl → Vl) (hg : ∀ c, (g c).toE = .list [.atom w, c.toE]) (l : List Hl) (hl : l.length ≤ 1000000) : ∀ (k i : Nat) (out : List Hl), i + k = l.length → out.length + k ≤ 1000000 →
    LS_spec_l4Within_1 [.sl (sAV l), .v (.string (mk w)), .v (.int .i64 (i : Int))] [.vec 4 (sAV out)] (LIs 1 [] [.vec 4 (sAV (out ++ inC g (l.drop i)))])
  | 0, i, out, hi, ho => by
    refine G_spec_l4Within_1 _ _ _ _ ?_
    have : i = l.length := by omega
    subst this
    simp only [r_spec_l4Within_1, ↓zp, zs, hasK, sAV_len]
    exact ⟨fun h => by omega, fun _ => by simp [LIs, inC]⟩
  | k + 1, i, out, hi, ho => by
    have hlt : i < l.length := by omega
    refine G_spec_l4Within_1 _ _ _ _ ?_
    simp only [r_spec_l4Within_1, ↓zp, zs, hasK, zt, sAV_len, sAV_get hlt, sp_hasL4, sp_hasL]
    refine ⟨fun _ => ?_, fun h => by omega⟩
    repeat refine ⟨by omega, ?_⟩
    refine wp_det (S_mk1 _ _) ?_
    simp only [↓zp, zs, hasK, sp_hasL]
    repeat refine ⟨by omega, ?_⟩
    refine ⟨⟨len4 _ _ _ _, by omega⟩, ?_⟩
    rw [wrap_succ i (by omega)]
    have := LS_within w g hg l hl k (i + 1) (out ++ [(g (l[i]).1, (l[i]).2)]) (by omega) (by simp; omega)
    rw [List.append_assoc, ← sAV_one, hg] at this
    rw [inC_drop g l hlt]
    exact this
theorem S_within (w : List UInt8) (g : Vl → Vl) (hg : ∀ c, (g c).toE = .list [.atom w, c.toE]) (l out : List Hl) (hl : out.length + l.length ≤ 1000000) :
    FSpec Tryz.prog n_spec_l4Within [.sl (sAV l), .v (.string (mk w)), .vec 0] [.vec 4 (sAV out)] (DetO (.vec 1) [.dead, .vec 4 (sAV (out ++ inC g l))]) := by
  refine F_spec_l4Within _ _ _ ((has_sl _).mpr trivial) ?_
  simp only [t_spec_l4Within, ↓zp, zs, hasK]
  have h := LS_within w g hg l (by omega) l.length 0 out (by omega) (by omega)
  rw [List.drop_zero] at h
  refine wp_loop1 h ?_
  simp [↓zp, zs, hasK, DetO]

theorem LS_hol1 (s : List UInt8) (ta : ByteArray) (tp : AV) (ht : LK.sl.has tp) (va : ByteArray) (vp : AV) (x y : Vl) (hp : P3 vp x.toE y.toE) (l : List Hl) (hl : l.length ≤ 1000000) : ∀ (k i : Nat) (out : List Hl), i + k = l.length → out.length + k ≤ 1000000 →
    LS_spec_l4Holes_1 [.v (.string (mk s)), .sl (sAV l), .v (.int .i64 (i : Int))] [.cells [.v (.string ta), tp], .cells [.v (.string va), vp], .vec 4 (sAV out)] (LIs 1 [.v (.string (mk s))] [.cells [.v (.string ta), tp], .cells [.v (.string va), vp], .vec 4 (sAV (out ++ inC (fun c => Vl.l (.p c y)) (l.drop i)))])
  | 0, i, out, hi, ho => by
    refine G_spec_l4Holes_1 _ _ _ _ _ _ _ _ ?_
    have : i = l.length := by omega
    subst this
    simp only [r_spec_l4Holes_1, ↓zp, zs, hasK, sAV_len, ht, sp_has, hasK, hp.1]
    exact ⟨fun h => by omega, fun _ => by simp [LIs, inC]⟩
  | k + 1, i, out, hi, ho => by
    have hlt : i < l.length := by omega
    refine G_spec_l4Holes_1 _ _ _ _ _ _ _ _ ?_
    simp only [r_spec_l4Holes_1, ↓zp, zs, hasK, zt, sAV_len, sAV_get hlt, sp_hasL4, sp_hasL, sAV_get, ht, sp_has, hasK, hp.1, toNat_one, toNat_two, hp.1, hp.2.1, hp.2.2.1, hp.2.2.2]
    refine ⟨fun _ => ?_, fun h => by omega⟩
    repeat refine ⟨by omega, ?_⟩
    refine wp_det (S_mk2 _ _ _) ?_
    simp only [↓zp, zs, hasK, sp_hasL]
    repeat refine ⟨by omega, ?_⟩
    refine wp_det (S_mk1 [108] (E.list [.atom [112], (l[i]).1.toE, y.toE])) ?_
    simp only [↓zp, zs, hasK, sp_hasL]
    repeat refine ⟨by omega, ?_⟩
    refine ⟨⟨len4 _ _ _ _, by omega⟩, ?_⟩
    rw [wrap_succ i (by omega)]
    have := LS_hol1 s ta tp ht va vp x y hp l hl k (i + 1) (out ++ [((fun c => Vl.l (.p c y)) (l[i]).1, (l[i]).2)]) (by omega) (by simp; omega)
    rw [List.append_assoc, ← sAV_one] at this
    rw [inC_drop (fun c => Vl.l (.p c y)) l hlt]
    exact this

theorem LS_hol2 (va : ByteArray) (vp : AV) (x y : Vl) (hp : P3 vp x.toE y.toE) (l : List Hl) (hl : l.length ≤ 1000000) : ∀ (k i : Nat) (out : List Hl), i + k = l.length → out.length + k ≤ 1000000 →
    LS_spec_l4Holes_2 [.sl (sAV l), .v (.int .i64 (i : Int))] [.cells [.v (.string va), vp], .vec 4 (sAV out)] (LIs 1 [] [.vec 4 (sAV (out ++ inC (fun c => Vl.r (.p x c)) (l.drop i)))])
  | 0, i, out, hi, ho => by
    refine G_spec_l4Holes_2 _ _ _ _ _ ?_
    have : i = l.length := by omega
    subst this
    simp only [r_spec_l4Holes_2, ↓zp, zs, hasK, sAV_len, sp_has, hasK, hp.1]
    exact ⟨fun h => by omega, fun _ => by simp [LIs, inC]⟩
  | k + 1, i, out, hi, ho => by
    have hlt : i < l.length := by omega
    refine G_spec_l4Holes_2 _ _ _ _ _ ?_
    simp only [r_spec_l4Holes_2, ↓zp, zs, hasK, zt, sAV_len, sAV_get hlt, sp_hasL4, sp_hasL, sAV_get, sp_has, hasK, hp.1, toNat_one, toNat_two, hp.1, hp.2.1, hp.2.2.1, hp.2.2.2]
    refine ⟨fun _ => ?_, fun h => by omega⟩
    repeat refine ⟨by omega, ?_⟩
    refine wp_det (S_mk2 _ _ _) ?_
    simp only [↓zp, zs, hasK, sp_hasL]
    repeat refine ⟨by omega, ?_⟩
    refine wp_det (S_mk1 [114] (E.list [.atom [112], x.toE, (l[i]).1.toE])) ?_
    simp only [↓zp, zs, hasK, sp_hasL]
    repeat refine ⟨by omega, ?_⟩
    refine ⟨⟨len4 _ _ _ _, by omega⟩, ?_⟩
    rw [wrap_succ i (by omega)]
    have := LS_hol2 va vp x y hp l hl k (i + 1) (out ++ [((fun c => Vl.r (.p x c)) (l[i]).1, (l[i]).2)]) (by omega) (by simp; omega)
    rw [List.append_assoc, ← sAV_one] at this
    rw [inC_drop (fun c => Vl.r (.p x c)) l hlt]
    exact this

theorem LS_hol3 (s s2 : List UInt8) (ta : ByteArray) (tp : AV) (ht : LK.sl.has tp) (va : ByteArray) (vp : AV) (hp : LK.sl.has vp) (l : List Hl) (hl : l.length ≤ 1000000) : ∀ (k i : Nat) (out : List Hl), i + k = l.length → out.length + k ≤ 1000000 →
    LS_spec_l4Holes_3 [.v (.string (mk s)), .v (.string (mk s2)), .sl (sAV l), .v (.int .i64 (i : Int))] [.cells [.v (.string ta), tp], .cells [.v (.string va), vp], .vec 4 (sAV out)] (LIs 1 [.v (.string (mk s)), .v (.string (mk s2))] [.cells [.v (.string ta), tp], .cells [.v (.string va), vp], .vec 4 (sAV (out ++ inC (fun c => Vl.f (.l c)) (l.drop i)))])
  | 0, i, out, hi, ho => by
    refine G_spec_l4Holes_3 _ _ _ _ _ _ _ _ _ ?_
    have : i = l.length := by omega
    subst this
    simp only [r_spec_l4Holes_3, ↓zp, zs, hasK, sAV_len, ht, sp_has, hasK, hp]
    exact ⟨fun h => by omega, fun _ => by simp [LIs, inC]⟩
  | k + 1, i, out, hi, ho => by
    have hlt : i < l.length := by omega
    refine G_spec_l4Holes_3 _ _ _ _ _ _ _ _ _ ?_
    simp only [r_spec_l4Holes_3, ↓zp, zs, hasK, zt, sAV_len, sAV_get hlt, sp_hasL4, sp_hasL, sAV_get, ht, sp_has, hasK, hp]
    refine ⟨fun _ => ?_, fun h => by omega⟩
    repeat refine ⟨by omega, ?_⟩
    refine wp_det (S_mk1 _ _) ?_
    simp only [↓zp, zs, hasK, sp_hasL]
    repeat refine ⟨by omega, ?_⟩
    refine wp_det (S_mk1 [102] (E.list [.atom [108], (l[i]).1.toE])) ?_
    simp only [↓zp, zs, hasK, sp_hasL]
    repeat refine ⟨by omega, ?_⟩
    refine ⟨⟨len4 _ _ _ _, by omega⟩, ?_⟩
    rw [wrap_succ i (by omega)]
    have := LS_hol3 s s2 ta tp ht va vp hp l hl k (i + 1) (out ++ [((fun c => Vl.f (.l c)) (l[i]).1, (l[i]).2)]) (by omega) (by simp; omega)
    rw [List.append_assoc, ← sAV_one] at this
    rw [inC_drop (fun c => Vl.f (.l c)) l hlt]
    exact this

theorem LS_hol5 (s : List UInt8) (L : AV) (q : Nat) (kc : Vl) (kv : Vl) (hL : LK.sl.has L) (hq : q < L.elems.length) (hg : L.elems.getD q [] = [.v (.string (mk kc.toE.at)), kc.toE.sp, .v (.string (mk kv.toE.at)), kv.toE.sp]) (ta : ByteArray) (tp : AV) (ht : LK.sl.has tp) (l : List Hl) (hl : l.length ≤ 1000000) : ∀ (k i : Nat) (out : List Hl), i + k = l.length → out.length + k ≤ 1000000 →
    LS_spec_l4Holes_5 [.v (.string (mk s)), L, .v (.int .i64 (q : Int)), .sl (sAV l), .v (.int .i64 (i : Int))] [.cells [.v (.string ta), tp], .vec 4 (sAV out)] (LIs 1 [.v (.string (mk s)), L, .v (.int .i64 (q : Int))] [.cells [.v (.string ta), tp], .vec 4 (sAV (out ++ inC (fun c => Vl.f (.r (.p kc c))) (l.drop i)))])
  | 0, i, out, hi, ho => by
    refine G_spec_l4Holes_5 _ _ _ _ _ _ _ _ ?_
    have : i = l.length := by omega
    subst this
    simp only [r_spec_l4Holes_5, ↓zp, zs, hasK, sAV_len, ht, sp_has, hasK, hL]
    exact ⟨fun h => by omega, fun _ => by simp [LIs, inC]⟩
  | k + 1, i, out, hi, ho => by
    have hlt : i < l.length := by omega
    refine G_spec_l4Holes_5 _ _ _ _ _ _ _ _ ?_
    simp only [r_spec_l4Holes_5, ↓zp, zs, hasK, zt, sAV_len, sAV_get hlt, sp_hasL4, sp_hasL, sAV_get, ht, sp_has, hasK, hL, hg]
    refine ⟨fun _ => ?_, fun h => by omega⟩
    repeat refine ⟨by omega, ?_⟩
    refine wp_det (S_mk2 _ _ _) ?_
    simp only [↓zp, zs, hasK, sp_hasL]
    repeat refine ⟨by omega, ?_⟩
    refine wp_det (S_mk1 [114] (E.list [.atom [112], kc.toE, (l[i]).1.toE])) ?_
    simp only [↓zp, zs, hasK, sp_hasL]
    repeat refine ⟨by omega, ?_⟩
    refine wp_det (S_mk1 [102] (E.list [.atom [114], E.list [.atom [112], kc.toE, (l[i]).1.toE]])) ?_
    simp only [↓zp, zs, hasK, sp_hasL]
    repeat refine ⟨by omega, ?_⟩
    refine ⟨⟨len4 _ _ _ _, by omega⟩, ?_⟩
    rw [wrap_succ i (by omega)]
    have := LS_hol5 s L q kc kv hL hq hg ta tp ht l hl k (i + 1) (out ++ [((fun c => Vl.f (.r (.p kc c))) (l[i]).1, (l[i]).2)]) (by omega) (by simp; omega)
    rw [List.append_assoc, ← sAV_one] at this
    rw [inC_drop (fun c => Vl.f (.r (.p kc c))) l hlt]
    exact this

theorem LS_hol4 (s : List UInt8) (te : E) (a : Ty) (tg : Tg) (l : List Hl) (hl : l.length ≤ 1000000) (ih : ∀ h, h ∈ l → FSpec Tryz.prog n_spec_l4Holes [.agg [.v (.string (mk te.at)), te.sp], .v (.string (mk s)), .agg [.v (.string (mk h.2.toE.at)), h.2.toE.sp]] [] (Det (.sl (sAV (holes (.rc a) tg h.2))))) :
    ∀ (k i : Nat) (out : List Hl), i + k = l.length → (out ++ (l.drop i).flatMap (chn a tg)).length ≤ 1000000 →
    LS_spec_l4Holes_4 [.v (.string (mk s)), .sl (sAV l), .v (.int .i64 (i : Int))] [.cells [.v (.string (mk te.at)), te.sp], .vec 4 (sAV out)] (LIs 1 [] [.vec 4 (sAV (out ++ (l.drop i).flatMap (chn a tg)))])
  | 0, i, out, hi, ho => by
    refine G_spec_l4Holes_4 _ _ _ _ _ _ ?_
    have : i = l.length := by omega
    subst this
    simp only [r_spec_l4Holes_4, ↓zp, zs, hasK, sAV_len, sp_has, hasK]
    exact ⟨fun h => by omega, fun _ => by simp [LIs]⟩
  | k + 1, i, out, hi, ho => by
    have hlt : i < l.length := by omega
    have hd : (l.drop i).flatMap (chn a tg) = chn a tg (l[i]) ++ (l.drop (i + 1)).flatMap (chn a tg) := by rw [List.drop_eq_getElem_cons hlt, List.flatMap_cons]
    rw [hd] at ho ⊢
    refine G_spec_l4Holes_4 _ _ _ _ _ _ ?_
    simp only [r_spec_l4Holes_4, ↓zp, zs, hasK, zt, sAV_len, sAV_get hlt, sp_hasL4, sp_hasL, sp_has, hasK]
    refine ⟨fun _ => ?_, fun h => by omega⟩
    repeat refine ⟨by omega, ?_⟩
    refine wp_det (ih _ (hl_eta l hlt)) ?_
    simp only [↓zp, zs, hasK]
    have hb : out.length + (holes (.rc a) tg (l[i]).2).length ≤ 1000000 := by
      simp only [List.length_append, inC_len] at ho; omega
    have h5 := LS_hol5 s (.sl (sAV l)) i (l[i]).1 (l[i]).2 ((has_sl _).mpr trivial) (by rw [elems_sl, sAV_len]; omega) (by rw [elems_sl, sAV_get hlt]) (mk te.at) te.sp ((sp_has _).mpr trivial) (holes (.rc a) tg (l[i]).2) (by omega) (holes (.rc a) tg (l[i]).2).length 0 out (by omega) (by omega)
    rw [List.drop_zero] at h5
    refine wp_loop1 h5 ?_
    simp only [↓zp, zs, hasK, sp_has, hasK]
    repeat refine ⟨by omega, ?_⟩
    rw [wrap_succ i (by omega), ← List.append_assoc]
    exact LS_hol4 s te a tg l hl ih k (i + 1) _ (by omega) (by rw [List.append_assoc]; exact ho)

end Go.Proofs.Trees
