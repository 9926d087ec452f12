/-
  Part of a proof: laws over values.
-/
import Derived.Test.YtcbmbafopahijabGreatDoorH1
set_option linter.unusedVariables false
set_option linter.unusedSimpArgs false
namespace Go.Proofs.Trees
open Go Go.VL Go.RowKit
/-! ### Frames that are told apart -/
/-- The bound names around, the frames told apart. -/
inductive EnvA : AV → List Nat → Prop
  | nil : EnvA nilp []
  | cons {m : Nat} {cs : List AV} {e : AV} {ids : List Nat} (hm : m ∉ ids) (h : EnvA e ids) : EnvA (.ptr [.pid m cs, e]) (m :: ids)
theorem EnvA.has {a : AV} {ids : List Nat} (h : EnvA a ids) : LK.has .ptr a := by
  cases h
  · exact (has_nil).mpr trivial
  · exact (has_ptr _).mpr trivial
theorem EnvA.inM {M : Mem} {a : AV} {ids : List Nat} (h : EnvA a ids) : ∀ {v : Value}, Rep M noLo a v → ∀ b, b ∈ ids → M.p b := by
  induction h with
  | nil => intro v _ b hb; cases hb
  | @cons m cs e ids hm h ih =>
    intro v hr b hb
    cases hr with
    | ptr _ _ _ off us hc hr =>
      have h0 := hr 0 (by simp)
      have h1 := hr 1 (by simp)
      simp only [List.getD_cons_zero, List.getD_cons_succ] at h0 h1
      rcases List.mem_cons.1 hb with rfl | hb
      · generalize us 0 = u0 at h0
        cases h0 with
        | pid _ _ _ us hp _ _ => exact hp
      · exact ih h1 b hb
theorem EnvA.nodup {a : AV} {ids : List Nat} (h : EnvA a ids) : ids.Nodup := by
  induction h with
  | nil => simp
  | cons hm h ih => exact List.nodup_cons.2 ⟨hm, ih⟩
theorem TI_inside (a b : AV) (S : Nat → Prop) (R : AV → Prop) : mainI tab cfg fd_impl_closure_inside (bodyOf fd_impl_closure_inside) [.agg [.x a, .x b]] S (fun o => Nat.beq o 7) R =
    .need (LK.has .ptr a ∧ a.isNil = false) (.need (LK.has .ptr a ∧ a.isNil = false) (.need (LK.has .ptr ((a.deref.drop 3).headD .any) ∧ 1 ≤ (a.deref.drop 3).length)
      (.need (∀ ids : Nat → Nat, (∀ o, ¬ S (ids o)) → (True ∧ R (.tup [.agg [(a.deref.drop 3).headD .any, .ptr [.pid (ids 7) [a, b], b]], .pid (ids 7) [a, b]]))) (.done 0 [] [])))) := by kernel_rfl
def InR (t : Ty) (ea : AV) (ids : List Nat) : AV → List Ob → Prop := fun r o => (∃ m, m ∉ ids ∧ r = .tup [.agg [t.av, .ptr [.pid m [(Ty.rc t).av, ea], ea]], .pid m [(Ty.rc t).av, ea]]) ∧ o = []
theorem InR.ne (t : Ty) (ea : AV) (ids : List Nat) : ∃ r o, InR t ea ids r o := by
  have : ∃ m, m ∉ ids := ⟨ids.foldr max 0 + 1, fun h => by
    have key : ∀ (l : List Nat) (x : Nat), x ∈ l → x ≤ l.foldr max 0 := by
      intro l
      induction l with
      | nil => intro x hx; cases hx
      | cons y l ih =>
        intro x hx
        rcases List.mem_cons.1 hx with rfl | hx
        · simp only [List.foldr_cons]; omega
        · have := ih x hx; simp only [List.foldr_cons]; omega
    have := key _ _ h
    omega⟩
  obtain ⟨m, hm⟩ := this
  exact ⟨_, _, ⟨m, hm, rfl⟩, rfl⟩
theorem S_insideI (t : Ty) (ea : AV) (ids : List Nat) (he : EnvA ea ids) : FSpec Tryz.prog n_impl_closure_inside [.agg [(Ty.rc t).av, ea]] [] (InR t ea ids) := by
  have hup : UpL [.agg [(Ty.rc t).av, ea]] [.agg [.x (Ty.rc t).av, .x ea]] := up_cons (up_agg (up_cons (up_ptr ((ty_has _).mpr trivial)) (up_cons (up_ptr he.has) up_nil))) up_nil
  refine FSpec.up hup ?_
  refine FSpec.ofI (cfg := cfg) (F := fd_impl_closure_inside) (S := fun b => b ∈ ids) (sel := fun o => Nat.beq o 7) tab_ok mixed (by kernel_rfl) (by kernel_rfl) (c := bodyOf fd_impl_closure_inside) (by kernel_rfl) (by kernel_rfl) (fun M β vs hr b hb => ?_) ?_
  · have h0 := hr 0 (by simp)
    simp only [List.getD_cons_zero] at h0
    obtain ⟨us, _, hl, hq, _⟩ := rep_agg h0
    have h1 := hq 1 (by simp at hl ⊢)
    simp only [List.getD_cons_succ, List.getD_cons_zero] at h1
    cases h1 with
    | x _ _ _ _ h => exact he.inM h b hb
  · rw [TI_inside]
    simp only [Ty.av, ↓zp, zs, hasK, ty_has]
    exact ⟨by omega, fun ids' hf => ⟨ids' 7, hf 7, rfl⟩⟩
theorem LS_boundI (u : Nat) (hu : u < 1000000) : ∀ (k i : Nat) (ea : AV) (ids : List Nat), i + k = u → EnvA ea ids → k ≤ ids.length → LS_impl_closure_bound_1 [ea, .v (.int .i64 (u : Int)), .v (.int .i64 (i : Int))] [] (fun t ys o => t = 1 ∧ ∃ e', EnvA e' (ids.drop k) ∧ ys = [e'] ∧ o = [])
  | 0, i, ea, ids, hi, he, hk => by
    refine G_impl_closure_bound_1 _ _ _ ?_
    have : i = u := by omega
    subst this
    simp only [r_impl_closure_bound_1, ↓zp, zs, hasK]
    exact ⟨he.has, fun h => by omega, fun _ => ⟨ea, he, rfl⟩⟩
  | k + 1, i, ea, ids, hi, he, hk => by
    refine G_impl_closure_bound_1 _ _ _ ?_
    cases he with
    | nil => simp at hk
    | @cons m cs e ids' hm h =>
      simp only [r_impl_closure_bound_1, ↓zp, zs, hasK, h.has]
      refine ⟨fun _ => ⟨by omega, ?_⟩, fun h => by omega⟩
      rw [wrap_succ i (by omega)]
      exact LS_boundI u hu k (i + 1) e ids' (by omega) h (by simpa using hk)
theorem S_boundI (u : Nat) (ea : AV) (ids : List Nat) (he : EnvA ea ids) (hu : u < ids.length) (hl : ids.length < 1000000) : FSpec Tryz.prog n_impl_closure_bound [.agg [(Ty.bound u).av, ea]] [] (fun r o => (∃ cs, r = .pid (ids.getD u 0) cs) ∧ o = []) := by
  refine F_impl_closure_bound _ _ ((ty_has _).mpr trivial) he.has ?_
  simp only [t_impl_closure_bound, Ty.av, ↓zp, zs, hasK, he.has]
  refine ⟨by omega, wpt_loop (LS_boundI u (by omega) u 0 ea ids (by omega) he (by omega)) ?_ (fun ys o h => by cases h.1)⟩
  rintro ys o ⟨_, e', he', rfl, rfl⟩
  have hd : ids.drop u = ids.getD u 0 :: ids.drop (u + 1) := by
    rw [List.drop_eq_getElem_cons hu]; simp [List.getD_eq_getElem?_getD, hu]
  rw [hd] at he'
  cases he' with
  | @cons m cs e ids' hm h =>
    have hp : LK.has .ptr (AV.pid (ids.getD u 0) cs) := .inr (.inr ⟨_, _, rfl⟩)
    simp only [↓zp, zs, hasK, hp]
    exact ⟨by omega, cs, rfl⟩
/-- What is looked for, as the program has it. -/
inductive TgA : Tg → List Nat → List UInt8 → AV → Prop
  | nm (s : List UInt8) (ids : List Nat) : TgA (.nm s) ids s nilp
  | bd {k : Nat} {ids : List Nat} (hk : k < ids.length) (cs : List AV) (s : List UInt8) : TgA (.bd k) ids s (.pid (ids.getD k 0) cs)
theorem TgA.has {tg : Tg} {ids : List Nat} {s : List UInt8} {fr : AV} (h : TgA tg ids s fr) : LK.has .ptr fr := by
  cases h
  · exact (has_nil).mpr trivial
  · exact .inr (.inr ⟨_, _, rfl⟩)
theorem TgA.push {tg : Tg} {ids : List Nat} {s : List UInt8} {fr : AV} (h : TgA tg ids s fr) (m : Nat) : TgA tg.up (m :: ids) s fr := by
  cases h with
  | nm => exact .nm _ _
  | @bd k _ hk cs =>
    have := TgA.bd (k := k + 1) (ids := m :: ids) (by simpa using hk) cs s
    simpa [Tg.up] using this
theorem nodup_inj {ids : List Nat} (h : ids.Nodup) {i j : Nat} (hi : i < ids.length) (hj : j < ids.length) (he : ids.getD i 0 = ids.getD j 0) : i = j := by
  have e1 : ids.getD i 0 = ids[i] := by simp [List.getD_eq_getElem?_getD, hi]
  have e2 : ids.getD j 0 = ids[j] := by simp [List.getD_eq_getElem?_getD, hj]
  rw [e1, e2] at he
  have hp := List.pairwise_iff_getElem.1 h
  rcases Nat.lt_trichotomy i j with hlt | rfl | hlt
  · exact absurd he (hp i j hi hj hlt)
  · rfl
  · exact absurd he.symm (hp j i hj hi hlt)
theorem S_isAt (t : Ty) (tg : Tg) (ea : AV) (ids : List Nat) (s : List UInt8) (fr : AV) (he : EnvA ea ids) (ht : TgA tg ids s fr) (hu : ∀ u, t = .bound u → u < ids.length) (hl : ids.length < 1000000) :
    FSpec Tryz.prog n_impl_target_isAt [.agg [.v (.string (mk s)), fr], .agg [t.av, ea]] [] (Det (.v (.bool (isAt t tg)))) := by
  refine F_impl_target_isAt _ _ _ _ ht.has ((ty_has _).mpr trivial) he.has ?_
  cases ht with
  | nm s =>
    cases t <;> simp [t_impl_target_isAt, Ty.av, ↓zp, zs, hasK, zt, Det, isAt]
    rw [Bool.eq_iff_iff]; simp
  | @bd k _ hk cs s =>
    generalize hm0 : ids.getD k 0 = m0
    have hp : LK.has .ptr (AV.pid m0 cs) := .inr (.inr ⟨_, _, rfl⟩)
    have hn : (AV.pid m0 cs).isNil = false := rfl
    cases t with
    | bound u =>
      have hu := hu u rfl
      simp only [t_impl_target_isAt, Ty.av, ↓zp, zs, hasK, hp, hn]
      refine ⟨fun _ => ⟨by omega, fun _ => ?_, fun h => absurd rfl h⟩, fun h => by cases h⟩
      have hb := S_boundI u ea ids he hu hl
      simp only [Ty.av] at hb
      refine wp_call hb ⟨_, _, ⟨[], rfl⟩, rfl⟩ ?_
      rintro r o ⟨⟨cs', rfl⟩, rfl⟩
      have hp' : LK.has .ptr (AV.pid (ids.getD u 0) cs') := .inr (.inr ⟨_, _, rfl⟩)
      simp only [↓zp, zs, hasK, hp', AV.idOk, AV.idEq, Det, isAt]
      congr 2
      rw [Bool.eq_iff_iff, Nat.beq_eq, decide_eq_true_eq, ← hm0]
      exact ⟨fun h => nodup_inj he.nodup hu hk h, fun h => by rw [h]⟩
    | _ => simp [t_impl_target_isAt, Ty.av, ↓zp, zs, hasK, hp, hn, Det, isAt]
end Go.Proofs.Trees
