/-
  Part of a proof: laws over values.
-/
import Derived.Test.YtcbmbafopahijabGreatDoorV3
set_option linter.unusedVariables false
set_option linter.unusedSimpArgs false
namespace Go.Proofs.Trees
open Go Go.VL Go.RowKit
/-! ### Names with what they stand for -/
/-- A bound name, its rec type, the bound names around it; the innermost comes first. -/
inductive Fr where
  | mk (s : List UInt8) (e : E) (o : List Fr)
def Fr.nm : Fr → List UInt8 | .mk s _ _ => s
def Fr.ex : Fr → E | .mk _ e _ => e
def Fr.out : Fr → List Fr | .mk _ _ o => o
def names : List Fr → List (List UInt8)
  | [] => []
  | f :: r => names r ++ [f.nm]
def tyD (e : E) (o : List Fr) : Ty := (tyOf e (names o)).getD .zero
def E.sp : E → AV
  | .atom _ => .v (.slice none 0 0)
  | .list l => .sl (E.scellss l)
theorem scells_sp (e : E) : e.scells = [.v (.string (mk e.at)), e.sp] := by cases e <;> rfl
theorem sav_sp (e : E) : e.sav = .agg [.v (.string (mk e.at)), e.sp] := by cases e <;> rfl
theorem sp_has (e : E) : LK.has .sl e.sp = True := by cases e <;> simp [E.sp, has_slnil, has_sl]
mutual
/-- As the reference has it. -/
def Fr.cells : Fr → List AV
  | .mk s e o => [.v (.string (mk s)), .v (.string (mk e.at)), e.sp, .sl (envS o)]
def envS : List Fr → List (List AV)
  | [] => []
  | f :: r => envS r ++ [f.cells]
end
mutual
/-- As the program has it. -/
def Fr.iav : Fr → AV
  | .mk s e o => .ptr [(tyD e o).av, envI o]
def envI : List Fr → AV
  | [] => nilp
  | f :: r => .ptr [f.iav, envI r]
end
inductive WF : List Fr → Prop
  | nil : WF []
  | cons {s : List UInt8} {x a b : E} {t : Ty} {r : List Fr} (hs : isLoo s = true) (hok : (E.list [x, a, b]).ok) (hx : x.at = [114, 101, 99]) (ht : tyOf (.list [x, a, b]) (names r) = some t) (hf : freeLoo t = false) (hr : WF r) : WF (.mk s (.list [x, a, b]) r :: r)
theorem names_len : ∀ env : List Fr, (names env).length = env.length
  | [] => rfl
  | f :: r => by simp [names, names_len r]
theorem envS_len : ∀ env : List Fr, (envS env).length = env.length
  | [] => rfl
  | f :: r => by simp [envS, envS_len r]
theorem envI_has (env : List Fr) : LK.has .ptr (envI env) = True := by cases env <;> simp [envI, has_nil, has_ptr]
theorem fr_has (f : Fr) : LK.has .ptr f.iav = True := by cases f; simp [Fr.iav, has_ptr]
theorem fr_nil (f : Fr) : f.iav.isNil = false := by cases f; rfl
def findF (s : List UInt8) : List Fr → Option Fr
  | [] => none
  | f :: r => if f.nm = s then some f else findF s r
def hd (e : E) (env : List Fr) : E × List Fr := match findF e.at env with | some f => (f.ex, f.out) | none => (e, env)
theorem findF_nil {env : List Fr} (h : WF env) : findF [] env = none := by
  induction h with
  | nil => rfl
  | @cons s x a b t r hs hok hx ht hf hr ih =>
    rw [findF, if_neg (show ¬ (Fr.mk s (.list [x, a, b]) r).nm = [] from loo_ne hs)]; exact ih
theorem findF_loo {env : List Fr} (h : WF env) {s : List UInt8} {f : Fr} (hf : findF s env = some f) : isLoo s = true := by
  induction h with
  | nil => cases hf
  | cons hs hok hx ht hf' hr ih =>
    rw [findF] at hf
    split at hf
    · rename_i e; exact e ▸ hs
    · exact ih hf
/-- What is found is a rec type. -/
theorem findF_wf {env : List Fr} (h : WF env) {s : List UInt8} {f : Fr} (hf : findF s env = some f) : ∃ x a b t, f.ex = .list [x, a, b] ∧ (E.list [x, a, b]).ok ∧ x.at = [114, 101, 99] ∧ tyOf f.ex (names f.out) = some t ∧ freeLoo t = false ∧ WF f.out ∧ f.out.length < env.length := by
  induction h with
  | nil => cases hf
  | cons hs hok hx ht hf' hr ih =>
    rw [findF] at hf
    split at hf
    · cases hf; exact ⟨_, _, _, _, rfl, hok, hx, ht, hf', hr, by simp [Fr.out]⟩
    · obtain ⟨x, a, b, t, h1, h2, h3, h4, h5, h6, h7⟩ := ih hf
      exact ⟨x, a, b, t, h1, h2, h3, h4, h5, h6, by simp; omega⟩
theorem lastOf_snoc (s w : List UInt8) (ar : List (List UInt8)) : ∀ i, i ≤ ar.length → lastOf s (ar ++ [w]) i = (lastOf s ar i).map (· + 1)
  | 0, _ => rfl
  | i + 1, hi => by
    have hlt : i < ar.length := by omega
    have e : (ar ++ [w]).getD i [] = ar.getD i [] := by simp [List.getD_eq_getElem?_getD, List.getElem?_append_left hlt]
    rw [lastOf, lastOf, e, lastOf_snoc s w ar i (by omega)]
    split
    · simp only [List.length_append, List.length_cons, List.length_nil, Option.map_some, Option.some.injEq]; omega
    · rfl
theorem lastOf_cons (s : List UInt8) (f : Fr) (r : List Fr) : lastOf s (names (f :: r)) (names (f :: r)).length = if f.nm = s then some 0 else (lastOf s (names r) (names r).length).map (· + 1) := by
  have e : (names (f :: r)).length = (names r).length + 1 := by simp [names]
  rw [e, lastOf]
  have e2 : (names (f :: r)).getD (names r).length [] = f.nm := by simp [names, List.getD_eq_getElem?_getD]
  rw [e2]
  split
  · rw [e]; simp
  · rw [names, lastOf_snoc _ _ _ _ (Nat.le_refl _)]
/-- A place among the names is that of what is found. -/
theorem lastOf_findF (s : List UInt8) : ∀ env : List Fr, lastOf s (names env) (names env).length = none ∧ findF s env = none ∨ ∃ (u : Nat) (f : Fr), lastOf s (names env) (names env).length = some u ∧ findF s env = some f ∧ env[u]? = some f
  | [] => .inl ⟨rfl, rfl⟩
  | f :: r => by
    rw [lastOf_cons, findF]
    split
    · exact .inr ⟨0, f, rfl, rfl, rfl⟩
    · rcases lastOf_findF s r with ⟨h1, h2⟩ | ⟨u, g, h1, h2, h3⟩
      · exact .inl ⟨by rw [h1]; rfl, h2⟩
      · exact .inr ⟨u + 1, g, by rw [h1]; rfl, h2, by simpa using h3⟩
def Ty.isB : Ty → Bool
  | .bound _ => true
  | _ => false
/-- A type is bound, or it is its own head. -/
theorem ty_cases {e : E} {env : List Fr} {t : Ty} (hw : WF env) (ht : tyOf e (names env) = some t) :
    (t.isB = false ∧ findF e.at env = none) ∨ ∃ (u : Nat) (f : Fr), t = .bound u ∧ findF e.at env = some f ∧ env[u]? = some f := by
  cases e with
  | list l =>
    left
    refine ⟨?_, findF_nil hw⟩
    match l, ht with
    | [x, a, b], ht =>
      by_cases h0 : x.at = [43]
      · obtain ⟨t1, t2, _, _, rfl⟩ := tyOf_plus_inv h0 ht; rfl
      · by_cases h1 : x.at = [42]
        · obtain ⟨t1, t2, _, _, rfl⟩ := tyOf_times_inv h1 ht; rfl
        · by_cases h2 : x.at = [114, 101, 99]
          · obtain ⟨t1, _, _, rfl⟩ := tyOf_rec_inv h2 ht; rfl
          · rw [tyOf_no _ h0 h1 h2] at ht; cases ht
    | [], ht => cases ht
    | [_], ht => cases ht
    | [_, _], ht => cases ht
    | _ :: _ :: _ :: _ :: _, ht => cases ht
  | atom s =>
    simp only [tyOf] at ht
    have hno : isLoo s = false → findF s env = none := fun h => by
      cases hq : findF s env with
      | none => rfl
      | some f => rw [findF_loo hw hq] at h; cases h
    split at ht
    · rename_i h; cases ht; subst h; exact .inl ⟨rfl, hno rfl⟩
    · split at ht
      · rename_i h; cases ht; subst h; exact .inl ⟨rfl, hno rfl⟩
      · split at ht
        · rename_i h
          cases ht
          refine .inl ⟨rfl, hno ?_⟩
          cases hq : isLoo s with
          | false => rfl
          | true =>
            obtain ⟨c, r, rfl, h1, h2⟩ := named_cons h
            obtain ⟨c', r', he, h3, h4⟩ := named_cons hq
            cases he; omega
        · split at ht
          · rcases lastOf_findF s env with ⟨h1, h2⟩ | ⟨u, f, h1, h2, h3⟩
            · rw [h1] at ht; cases ht; exact .inl ⟨rfl, h2⟩
            · rw [h1] at ht; cases ht; exact .inr ⟨u, f, rfl, h2, h3⟩
          · cases ht
/-! ### Is a value of a type -/
def vis (n : Nat) : Vl → E × List Fr → Bool
  | .u, p => match hd p.1 p.2 with | (.atom s, _) => s == [49] | _ => false
  | .el k, p => match hd p.1 p.2 with | (.atom s, _) => !(s == [49]) && (isPar s && decide (k < n)) | _ => false
  | .l w, p => match hd p.1 p.2 with | (.list [x, a, b], o) => (x.at == [43]) && vis n w (a, o) | _ => false
  | .r w, p => match hd p.1 p.2 with | (.list [x, a, b], o) => (x.at == [43]) && vis n w (b, o) | _ => false
  | .f w, p => match hd p.1 p.2 with | (.list [x, a, b], o) => (x.at == [114, 101, 99]) && vis n w (b, .mk a.at (.list [x, a, b]) o :: o) | _ => false
  | .p v w, p => match hd p.1 p.2 with | (.list [x, a, b], o) => (x.at == [42]) && (vis n v (a, o) && vis n w (b, o)) | _ => false
theorem hd_none {e : E} {env : List Fr} (h : findF e.at env = none) : hd e env = (e, env) := by rw [hd, h]
theorem hd_some {e : E} {env : List Fr} {f : Fr} (h : findF e.at env = some f) : hd e env = (f.ex, f.out) := by rw [hd, h]
theorem hd_rec {x a b : E} {o : List Fr} (h : WF o) : hd (.list [x, a, b]) o = (.list [x, a, b], o) := hd_none (findF_nil h)
/-- A value is of a type if it is of its head. -/
theorem vis_hd (n : Nat) (v : Vl) {e e' : E} {env o : List Fr} (h : hd e env = (e', o)) (h' : hd e' o = (e', o)) : vis n v (e, env) = vis n v (e', o) := by
  cases v <;> simp only [vis, h, h']
/-- What is in a rec type. -/
theorem wf_enter {x a b : E} {env : List Fr} {t : Ty} (hw : WF env) (hok : (E.list [x, a, b]).ok) (hx : x.at = [114, 101, 99]) (ht : tyOf (.list [x, a, b]) (names env) = some t) (hf : freeLoo t = false) :
    ∃ t1, t = .rc t1 ∧ tyOf b (names (.mk a.at (.list [x, a, b]) env :: env)) = some t1 ∧ freeLoo t1 = false ∧ WF (.mk a.at (.list [x, a, b]) env :: env) := by
  obtain ⟨t1, hl, h1, rfl⟩ := tyOf_rec_inv hx ht
  exact ⟨t1, rfl, h1, hf, .cons hl hok hx ht hf hw⟩
/-! ### The program -/
theorem S_left (a b env : AV) (n : Int) (s : ByteArray) (u : Int) (ha : LK.ptr.has a) (he : LK.ptr.has env) : FSpec Tryz.prog n_impl_closure_left [.agg [.ptr [.v (.int .u8 n), .v (.string s), .v (.int .i64 u), a, b], env]] [] (Det (.agg [a, env])) := by
  refine F_impl_closure_left _ _ ((has_ptr _).mpr trivial) he ?_
  simp only [t_impl_closure_left, ↓zp, zs, hasK, Det]
  exact ⟨ha, by omega⟩
theorem S_right (a b env : AV) (n : Int) (s : ByteArray) (u : Int) (hb : LK.ptr.has b) (he : LK.ptr.has env) : FSpec Tryz.prog n_impl_closure_right [.agg [.ptr [.v (.int .u8 n), .v (.string s), .v (.int .i64 u), a, b], env]] [] (Det (.agg [b, env])) := by
  refine F_impl_closure_right _ _ ((has_ptr _).mpr trivial) he ?_
  simp only [t_impl_closure_right, ↓zp, zs, hasK, Det]
  exact ⟨hb, by omega⟩
theorem S_inside (t : Ty) (env : List Fr) (s : List UInt8) (e : E) (ht : tyD e env = .rc t) : FSpec Tryz.prog n_impl_closure_inside [.agg [(Ty.rc t).av, envI env]] [] (Det (.tup [.agg [t.av, envI (.mk s e env :: env)], (Fr.mk s e env).iav])) := by
  refine F_impl_closure_inside _ _ ((ty_has _).mpr trivial) ((envI_has _).mpr trivial) ?_
  simp only [t_impl_closure_inside, Ty.av, ↓zp, zs, hasK, ty_has, Det, envI, Fr.iav, ht]
  omega
theorem envI_drop (env : List Fr) (i : Nat) (f : Fr) (h : env[i]? = some f) : envI (env.drop i) = .ptr [f.iav, envI (env.drop (i + 1))] := by
  obtain ⟨hlt, he⟩ := List.getElem?_eq_some_iff.1 h
  rw [List.drop_eq_getElem_cons hlt, he, envI]
theorem LS_bound (env : List Fr) (u : Nat) (hu : u < env.length) (hl : env.length < 1000000) : ∀ (k i : Nat), i + k = u → LS_impl_closure_bound_1 [envI (env.drop i), .v (.int .i64 (u : Int)), .v (.int .i64 (i : Int))] [] (LIs 1 [envI (env.drop u)] [])
  | 0, i, hi => by
    refine G_impl_closure_bound_1 _ _ _ ?_
    have : i = u := by omega
    subst this
    simp only [r_impl_closure_bound_1, ↓zp, zs, hasK, envI_has]
    exact ⟨fun h => by omega, fun _ => by simp [LIs]⟩
  | k + 1, i, hi => by
    refine G_impl_closure_bound_1 _ _ _ ?_
    have hlt : i < env.length := by omega
    have hg : env[i]? = some env[i] := List.getElem?_eq_getElem hlt
    have hd := envI_drop env i _ hg
    rw [hd]
    simp only [r_impl_closure_bound_1, ↓zp, zs, hasK, envI_has]
    refine ⟨fun _ => ⟨by omega, ?_⟩, fun h => by omega⟩
    rw [wrap_succ i (by omega)]
    exact LS_bound env u hu hl k (i + 1) (by omega)
theorem S_bound (env : List Fr) (u : Nat) (f : Fr) (hf : env[u]? = some f) (hl : env.length < 1000000) : FSpec Tryz.prog n_impl_closure_bound [.agg [(Ty.bound u).av, envI env]] [] (Det f.iav) := by
  refine F_impl_closure_bound _ _ ((ty_has _).mpr trivial) ((envI_has _).mpr trivial) ?_
  obtain ⟨hlt, he⟩ := List.getElem?_eq_some_iff.1 hf
  simp only [t_impl_closure_bound, Ty.av, ↓zp, zs, hasK]
  refine ⟨by omega, ?_⟩
  have h := LS_bound env u hlt hl u 0 (by omega)
  simp only [List.drop_zero] at h
  refine wp_loop1 h ?_
  rw [envI_drop env u f hf]
  simp only [↓zp, zs, hasK, fr_has, Det]
  omega
theorem atoi_dd (k : Nat) (h : k < 100) : Lib.atoi (dd k) = some (k : Int) := by
  have e : ∀ k, k < 100 → dd k = if k < 10 then [UInt8.ofNat (48 + k)] else [UInt8.ofNat (48 + k / 10), UInt8.ofNat (48 + k % 10)] := by
    intro k hk
    by_cases h1 : k < 10
    · rw [dd_one h1, if_pos h1]
    · rw [dd_more h1, dd_one (by omega), if_neg h1]; rfl
  have key : ∀ k : Fin 100, Lib.atoi (if k.val < 10 then [UInt8.ofNat (48 + k.val)] else [UInt8.ofNat (48 + k.val / 10), UInt8.ofNat (48 + k.val % 10)]) = some (k.val : Int) := by decide +kernel
  rw [e k h]; exact key ⟨k, h⟩
theorem S_Atoi (k : Nat) (hk : k < 100) : FSpec Tryz.prog n_strconv_Atoi [.v (.string (mk (dd k)))] [] (Det (.tup [.v (.int .i64 (k : Int)), .v .nilIface])) := by
  have hl := dd_len 1000 k (by omega)
  have hl2 : (dd k).length ≤ 18 := by
    have e : (dd k).length ≤ 2 := by
      by_cases h1 : k < 10
      · rw [dd_one h1]; simp
      · rw [dd_more h1, dd_one (by omega)]; simp
    omega
  refine FSpec.libA (xs := [.string (mk (dd k))]) (v := .tuple #[.int .i64 (k : Int), .nilIface]) ⟨fd_strconv_Atoi, by kernel_rfl, by kernel_rfl, by kernel_rfl⟩ (fun M => ?_) fun w => ?_
  · refine Rep.tup _ _ [.int .i64 (k : Int), .nilIface] rfl fun i hi => ?_
    match i, hi with
    | 0, _ => exact .v _ _
    | 1, _ => exact .v _ _
  · have := Any.strconv_Atoi Tryz.lays172 (mk (dd k)) (k : Int) (by rw [size_mk]; exact hl2) (by
      have : (mk (dd k)).data.toList = dd k := by simp [mk]
      rw [this]; exact atoi_dd k hk) w
    refine Calls.mono this fun e w' ⟨h1, t, h2⟩ => ⟨h1, ?_⟩
    subst h2
    refine ⟨rfl, rfl, rfl, ?_, fun b hb => Lib.bytesWorld_at_old _ _ _ _ hb⟩
    simp [Lib.bytesWorld, World.freeze]
end Go.Proofs.Trees
