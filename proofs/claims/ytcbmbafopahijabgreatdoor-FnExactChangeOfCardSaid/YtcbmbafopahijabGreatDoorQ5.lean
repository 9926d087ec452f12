/-
  Part of a proof: laws over values.
-/
import Derived.Test.YtcbmbafopahijabGreatDoorQ4
set_option linter.unusedVariables false
set_option linter.unusedSimpArgs false
namespace Go.Proofs.Trees
open Go Go.VL
theorem iav_at (e : E) : e.iav.deref.headD .any = .v (.string (mk e.at)) := by cases e <;> rfl
theorem iav_len (e : E) : 1 ≤ e.iav.deref.length := by cases e <;> simp [E.iav, deref_ptr]
theorem toNat_one : Int.toNat 1 = 1 := rfl
theorem toNat_two : Int.toNat 2 = 2 := rfl
theorem S_append {ar : List (List UInt8)} (s : List UInt8) : strsAV ar ++ [[.v (.string (mk s))]] = strsAV (ar ++ [s]) := by simp [strsAV]
theorem allLen_strs (ar : List (List UInt8)) : allLen 1 (strsAV ar) := fun c hc => by
  obtain ⟨s, _, rfl⟩ := List.mem_map.1 hc; rfl
theorem tyOf_plus {x a b : E} (ar : List (List UInt8)) (hx : x.at = [43]) : tyOf (.list [x, a, b]) ar = match tyOf a ar, tyOf b ar with | some t, some u => some (.plus t u) | _, _ => none := by rw [tyOf, if_pos hx]; cases tyOf a ar <;> cases tyOf b ar <;> rfl
theorem tyOf_times {x a b : E} (ar : List (List UInt8)) (hx : x.at = [42]) : tyOf (.list [x, a, b]) ar = match tyOf a ar, tyOf b ar with | some t, some u => some (.times t u) | _, _ => none := by rw [tyOf, if_neg (by rw [hx]; decide), if_pos hx]; cases tyOf a ar <;> cases tyOf b ar <;> rfl
theorem tyOf_rec {x a b : E} (ar : List (List UInt8)) (hx : x.at = [114, 101, 99]) : tyOf (.list [x, a, b]) ar = if isLoo a.at = true then (match tyOf b (ar ++ [a.at]) with | some t => some (.rc t) | none => none) else none := by rw [tyOf, if_neg (by rw [hx]; decide), if_neg (by rw [hx]; decide), if_pos hx]; cases tyOf b (ar ++ [a.at]) <;> rfl
theorem tyOf_no {x a b : E} (ar : List (List UInt8)) (h1 : x.at ≠ [43]) (h2 : x.at ≠ [42]) (h3 : x.at ≠ [114, 101, 99]) : tyOf (.list [x, a, b]) ar = none := by rw [tyOf, if_neg h1, if_neg h2, if_neg h3]
theorem S_typeOf : ∀ (e : E) (ar : List (List UInt8)) (a : AV), e.ok → StrsA a ar → ar.length + e.sz < 100000 → FSpec Tryz.prog n_impl_typeOf [e.iav, a] [] (Det (optT (tyOf e ar)))
  | .atom s, ar, a, hok, ha, hl => by
    simp only [E.sz] at hl
    refine F_impl_typeOf _ _ ((iav_has _).mpr trivial) ha.1 ?_
    have hd := iav_at (.atom s)
    have hlen := iav_len (.atom s)
    simp only [E.at] at hd
    simp only [t_impl_typeOf, ↓zp, zs, hasK, zt, Det, iav_has, iav_nil, hd, tyOf]
    refine ⟨hlen, fun h => ⟨hlen, ?_, ?_⟩, fun h => ⟨hlen, fun h1 => ⟨hlen, ?_, ?_⟩, fun h1 => ⟨hlen, ?_⟩⟩⟩
    · rw [h]; decide
    · rw [if_pos h, h]; rfl
    · rw [h1]; decide
    · rw [if_neg h, if_pos h1, h1]; rfl
    · rw [if_neg h, if_neg h1]
      refine wp_det (S_isParameter s) ?_
      simp only [↓zp, zs, hasK]
      refine ⟨fun hp => ⟨hlen, ?_⟩, fun hp => ⟨hlen, ?_⟩⟩
      · rw [if_pos hp]; rfl
      · rw [if_neg (by rw [hp]; simp)]
        refine wp_det (S_isLoopName s) ?_
        simp only [↓zp, zs, hasK, ha.len]
        refine ⟨fun hq => ⟨ha.1, ?_⟩, fun hq => ?_⟩
        · rw [if_pos hq, wrap64 _ (by omega) (by omega)]
          refine wp_loopB (LS_typeOf (.atom s) a ar ha (by omega) ar.length (by omega)) (fun ys o e => ?_) (fun ys o e => ?_)
          · simp only [E.at] at e
            cases hq2 : lastOf s ar ar.length <;> rw [hq2] at e <;> cases e
            simp only [↓zp, zs, hasK, zt, iav_has, iav_nil, hd]
            exact ⟨hlen, rfl⟩
          · simp only [E.at] at e
            cases hq2 : lastOf s ar ar.length <;> rw [hq2] at e <;> cases e
            simp only [↓zp, zs, hasK, zt, LK.has]
            simp [optT, Ty.av, hasK, LK.has]
        · rw [if_neg (by rw [hq]; simp)]
          refine wp_det (S_isCall (.atom s) [43]) ?_
          simp only [↓zp, zs, hasK]
          refine ⟨fun h => (by simp at h), fun _ => ?_⟩
          refine wp_det (S_isCall (.atom s) [42]) ?_
          simp only [↓zp, zs, hasK]
          refine ⟨fun h => (by simp at h), fun _ => ?_⟩
          refine wp_det (S_isCall (.atom s) [114, 101, 99]) ?_
          simp only [↓zp, zs, hasK]
          refine ⟨fun h => (by simp at h), fun _ => ?_⟩
          trivial
  | .list l, ar, a, hok, ha, hl => by
    simp only [E.sz] at hl
    refine F_impl_typeOf _ _ ((iav_has _).mpr trivial) ha.1 ?_
    have hd := iav_at (.list l)
    have hlen := iav_len (.list l)
    simp only [E.at] at hd
    have hp : isPar [] = false := rfl
    have hq : isLoo [] = false := rfl
    simp only [t_impl_typeOf, ↓zp, zs, hasK, zt, Det, iav_has, iav_nil, hd]
    refine ⟨hlen, fun h => (by simp at h), fun h => ⟨hlen, fun h1 => (by simp at h1), fun h1 => ⟨hlen, ?_⟩⟩⟩
    refine wp_det (S_isParameter []) ?_
    simp only [↓zp, zs, hasK, hp]
    refine ⟨fun h => (by simp at h), fun _ => ⟨hlen, ?_⟩⟩
    refine wp_det (S_isLoopName []) ?_
    simp only [↓zp, zs, hasK, hq]
    refine ⟨fun h => (by simp at h), fun _ => ?_⟩
    refine wp_det (S_isCall (.list l) [43]) ?_
    match l, hok, hl with
    | [x, y, z], hok, hl =>
      simp only [E.szs] at hl
      obtain ⟨ok1, ok2, ok3, _⟩ := hok
      have iy := S_typeOf y ar a ok2 ha (by omega)
      have iz := S_typeOf z ar a ok3 ha (by omega)
      have hds : ((E.list [x, y, z]).iav.deref.drop 1).headD .any = .sl [[x.iav], [y.iav], [z.iav]] := rfl
      have hdl : 1 ≤ ((E.list [x, y, z]).iav.deref.drop 1).length := by simp [E.iav, deref_ptr]
      have hxd := iav_at x
      have hxl := iav_len x
      have hyd := iav_at y
      have hyl := iav_len y
      have bin : ∀ (c : UInt8) (mkT : Ty → Ty → Ty), (∀ t u : Ty, (mkT t u).av = .ptr [.v (.int .u8 (c.toNat : Int)), .v (.string (mk [])), .v (.int .i64 0), t.av, u.av]) → x.at = [c] → bt (mk x.at) 0 = (c.toNat : Int) := fun c _ _ hx => by
        have := bt_mk x.at 0 (by rw [hx]; simp)
        simp only [Int.ofNat_eq_natCast, Int.cast_ofNat_Int] at this
        rw [this, hx]; rfl
      simp only [↓zp, zs, hasK, zt, hds, hdl, iav_has, iav_nil, toNat_one, toNat_two, hxd, hyd, nil_mk]
      refine ⟨fun hx => ?_, fun hx => ?_⟩
      · refine ⟨by omega, by omega, ?_⟩
        refine wp_det iy ?_
        simp only [↓zp, zs, hasK, optT_has]
        refine ⟨by omega, by omega, ?_⟩
        refine wp_det iz ?_
        have hb := bin 43 Ty.plus (fun _ _ => rfl) hx
        rw [tyOf_plus ar hx]
        simp only [↓zp, zs, hasK, zt, optT_has]
        cases h1 : tyOf y ar with
        | none => simp [optT, isNil_nil]
        | some t =>
          cases h2 : tyOf z ar with
          | none => simp [optT, isNil_nil, ty_nil]
          | some u =>
            simp only [optT, ty_nil, hb]
            refine ⟨fun h => (by cases h), fun _ => ⟨fun h => (by cases h), fun _ => ⟨by omega, by omega, hxl, ⟨by omega, by rw [hx]; simp⟩, rfl⟩⟩⟩
      · refine wp_det (S_isCall (.list [x, y, z]) [42]) ?_
        simp only [↓zp, zs, hasK, hds, hdl, iav_has, iav_nil, toNat_one, toNat_two, hxd, hyd, nil_mk]
        refine ⟨fun hx2 => ?_, fun hx2 => ?_⟩
        · refine ⟨by omega, by omega, ?_⟩
          refine wp_det iy ?_
          simp only [↓zp, zs, hasK, optT_has]
          refine ⟨by omega, by omega, ?_⟩
          refine wp_det iz ?_
          have hb := bin 42 Ty.times (fun _ _ => rfl) hx2
          rw [tyOf_times ar hx2]
          simp only [↓zp, zs, hasK, zt, optT_has]
          cases h1 : tyOf y ar with
          | none => simp [optT, isNil_nil]
          | some t =>
            cases h2 : tyOf z ar with
            | none => simp [optT, isNil_nil, ty_nil]
            | some u =>
              simp only [optT, ty_nil, hb]
              refine ⟨fun h => (by cases h), fun _ => ⟨fun h => (by cases h), fun _ => ⟨by omega, by omega, hxl, ⟨by omega, by rw [hx2]; simp⟩, rfl⟩⟩⟩
        · refine wp_det (S_isCall (.list [x, y, z]) [114, 101, 99]) ?_
          simp only [↓zp, zs, hasK, zt, hds, hdl, iav_has, iav_nil, toNat_one, toNat_two, hxd, hyd, nil_mk]
          refine ⟨fun hx3 => ⟨by omega, by omega, hyl, ?_⟩, fun hx3 => ?_⟩
          · refine wp_det (S_isLoopName y.at) ?_
            rw [tyOf_rec ar hx3]
            simp only [↓zp, zs, hasK]
            have hal : allLen 1 a.elems := by rw [ha.2]; exact allLen_strs ar
            have hal1 : allLen 1 [[AV.v (.string (mk y.at))]] := fun c hc => by simp at hc; rw [hc]; rfl
            refine ⟨fun hlo => ⟨by omega, by omega, ⟨ha.1, hal, by rw [ha.len]; omega⟩, by omega, by omega, hyl, ⟨hal1, by rw [List.nil_append, ha.len]; omega⟩, ?_⟩, fun hlo => ?_⟩
            · rw [List.nil_append, ha.2, S_append, if_pos hlo]
              refine wp_det (S_typeOf z (ar ++ [y.at]) _ ok3 (.of _) (by simp; omega)) ?_
              simp only [↓zp, zs, hasK, optT_has]
              cases h2 : tyOf z (ar ++ [y.at]) with
              | none => simp [optT, isNil_nil]
              | some u =>
                simp only [optT, ty_nil]
                refine ⟨fun h => (by cases h), fun _ => rfl⟩
            · rw [if_neg (by rw [hlo]; simp)]; rfl
          · rw [tyOf_no ar hx hx2 hx3]; rfl
    | [], _, _ =>
      simp only [↓zp, zs, hasK]
      refine ⟨fun h => (by cases h), fun _ => ?_⟩
      refine wp_det (S_isCall (.list []) [42]) ?_
      simp only [↓zp, zs, hasK]
      refine ⟨fun h => (by cases h), fun _ => ?_⟩
      refine wp_det (S_isCall (.list []) [114, 101, 99]) ?_
      simp only [↓zp, zs, hasK]
      refine ⟨fun h => (by cases h), fun _ => ?_⟩
      rfl
    | [x1], _, _ =>
      simp only [↓zp, zs, hasK]
      refine ⟨fun h => (by cases h), fun _ => ?_⟩
      refine wp_det (S_isCall (.list [x1]) [42]) ?_
      simp only [↓zp, zs, hasK]
      refine ⟨fun h => (by cases h), fun _ => ?_⟩
      refine wp_det (S_isCall (.list [x1]) [114, 101, 99]) ?_
      simp only [↓zp, zs, hasK]
      refine ⟨fun h => (by cases h), fun _ => ?_⟩
      rfl
    | [x1, x2], _, _ =>
      simp only [↓zp, zs, hasK]
      refine ⟨fun h => (by cases h), fun _ => ?_⟩
      refine wp_det (S_isCall (.list [x1, x2]) [42]) ?_
      simp only [↓zp, zs, hasK]
      refine ⟨fun h => (by cases h), fun _ => ?_⟩
      refine wp_det (S_isCall (.list [x1, x2]) [114, 101, 99]) ?_
      simp only [↓zp, zs, hasK]
      refine ⟨fun h => (by cases h), fun _ => ?_⟩
      rfl
    | x1 :: x2 :: x3 :: x4 :: l, _, _ =>
      simp only [↓zp, zs, hasK]
      refine ⟨fun h => (by cases h), fun _ => ?_⟩
      refine wp_det (S_isCall (.list (x1 :: x2 :: x3 :: x4 :: l)) [42]) ?_
      simp only [↓zp, zs, hasK]
      refine ⟨fun h => (by cases h), fun _ => ?_⟩
      refine wp_det (S_isCall (.list (x1 :: x2 :: x3 :: x4 :: l)) [114, 101, 99]) ?_
      simp only [↓zp, zs, hasK]
      refine ⟨fun h => (by cases h), fun _ => ?_⟩
      rfl
end Go.Proofs.Trees
