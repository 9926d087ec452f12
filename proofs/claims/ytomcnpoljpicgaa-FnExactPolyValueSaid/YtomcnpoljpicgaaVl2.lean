/-
  Part of a proof: a reading of Go functions by values, and that it is sound.
-/
import Derived.Test.YtomcnpoljpicgaaVl1
import Derived.ChangeArms
import Derived.Deep.Slices
import Derived.WideKeyArgs
import Derived.ChangeSame
import Derived.OpenShut
set_option linter.unusedVariables false
set_option linter.unusedSimpArgs false
namespace Go.VL
open Go Go.RowKit
section
variable {P : Program} {M : Mem} {β β2 : Lo} {w w' : World} {n : Nat} {A : Amb} {s : St} {a : Act}

/-- A new state's objects, out of the old state's: 'U': the old names that are used. -/
structure Bld (s : St) (w : World) (M : Mem) (β : Lo) (U : List Nat) (f : Nat → Option Ob) (β2 : Lo) : Prop where
  own : ∀ m x, f m = some x → Own M β2 w m x
  non : ∀ m, f m = none → β2 m = none
  src : ∀ m x b, f m = some x → x.live = true → blk β2 m = some b → ∃ o x0, o ∈ U ∧ s.ob o = some x0 ∧ x0.live = true ∧ blk β o = some b
  apart : ∀ m m' x x' b, m ≠ m' → f m = some x → x.live = true → f m' = some x' → x'.live = true → blk β2 m = some b → blk β2 m' ≠ some b
theorem Bld.nil : Bld s w M β [] (fun _ => none) noLo := ⟨fun m x h => (by cases h), fun _ _ => rfl, fun m x b h => (by cases h), fun m m' x x' b _ h => (by cases h)⟩
theorem Bld.le {U : List Nat} {f : Nat → Option Ob} (h : Bld s w M β U f β2) {m : Nat} (hm : f m = none) (l : Loc) : Lo.le β2 (upd β2 m (some l)) := fun o q hq => by
  by_cases ho : o = m
  · subst ho; rw [h.non o hm] at hq; cases hq
  · rw [upd_ne _ _ _ _ ho]; exact hq
theorem Bld.add (g : Gam n A s a w M β) {U : List Nat} {f : Nat → Option Ob} (h : Bld s w M β U f β2) {m : Nat} (hm : f m = none) {l : Loc} {x : Ob} (hx : Own M (upd β2 m (some l)) w m x) (o : Nat) (ho : o ∉ U)
    (hs : ∀ b, l.block = some b → ∃ x0, s.ob o = some x0 ∧ x0.live = true ∧ blk β o = some b) : Bld s w M β (o :: U) (upd f m (some x)) (upd β2 m (some l)) := by
  have hβ := h.le hm l
  have hbd : ∀ q b, q ≠ m → blk (upd β2 m (some l)) q = some b → blk β2 q = some b := fun q b hq hb => by unfold blk at hb ⊢; rw [upd_ne _ _ _ _ hq] at hb; exact hb
  have hdd : blk (upd β2 m (some l)) m = l.block := by unfold blk; rw [upd_same]; rfl
  have hf : ∀ q y, q ≠ m → upd f m (some x) q = some y → f q = some y := fun q y hq hy => by rw [upd_ne _ _ _ _ hq] at hy; exact hy
  refine ⟨fun q y hy => ?_, fun q hq => ?_, fun q y b hy hl hb => ?_, ?_⟩
  · by_cases e : q = m
    · subst e; rw [upd_same] at hy; cases hy; exact hx
    · exact (h.own q y (hf q y e hy)).mono (Mem.le.refl _) hβ fun b hl hb => ⟨rfl, (h.own q y (hf q y e hy)).noM hl hb⟩
  · by_cases e : q = m
    · subst e; rw [upd_same] at hq; cases hq
    · rw [upd_ne _ _ _ _ e] at hq ⊢; exact h.non q hq
  · by_cases e : q = m
    · subst e
      rw [hdd] at hb
      obtain ⟨x0, h1, h2, h3⟩ := hs b hb
      exact ⟨o, x0, List.mem_cons_self, h1, h2, h3⟩
    · obtain ⟨o', x0, h1, h2⟩ := h.src q y b (hf q y e hy) hl (hbd q b e hb)
      exact ⟨o', x0, List.mem_cons_of_mem _ h1, h2⟩
  · have key : ∀ q y b, q ≠ m → f q = some y → y.live = true → blk β2 q = some b → l.block ≠ some b := fun q y b hq hy hl hb hb' => by
      obtain ⟨o', x0, h1, h2, h3, h4⟩ := h.src q y b hy hl hb
      obtain ⟨x1, h5, h6, h7⟩ := hs b hb'
      exact g.apart o o' x1 x0 b (fun e => ho (by rw [e]; exact h1)) h5 h6 h2 h3 h7 h4
    intro q q' y y' b hne hy hl hy' hl' hb hb'
    by_cases e : q = m
    · subst e
      rw [hdd] at hb
      exact key q' y' b (Ne.symm hne) (hf q' y' (Ne.symm hne) hy') hl' (hbd q' b (Ne.symm hne) hb') hb
    · by_cases e' : q' = m
      · subst e'
        rw [hdd] at hb'
        exact key q y b e (hf q y e hy) hl (hbd q b e hb) hb'
      · exact h.apart q q' y y' b hne (hf q y e hy) hl (hf q' y' e' hy') hl' (hbd q b e hb) (hbd q' b e' hb')
theorem Bld.gam (g : Gam n A s a w M β) {U : List Nat} {f : Nat → Option Ob} (h : Bld s w M β U f β2) {tm : Nat → AV} (ht : ∀ t, Rep M β2 (tm t) (a.tmps.getD t undef)) :
    Gam n A { tm := tm, ob := f, us := fun x => (f x).isSome } a w M β2 :=
  { size := g.size, defs := g.defs, tm := ht, le := g.le, new := g.new, agree := g.agree, own := h.own,
    place := fun o x b hx hl hb => by obtain ⟨o', x0, _, h2, h3, h4⟩ := h.src o x b hx hl hb; exact g.place o' x0 b h2 h3 h4
    apart := h.apart
    us := fun o hu => by
      have : f o = none := by simpa using hu
      exact ⟨h.non o this, this⟩
    keep := g.keep }

/-- A slice of the call's own under a new name. -/
theorem Bld.vec (g : Gam n A s a w M β) {U : List Nat} {f : Nat → Option Ob} (h : Bld s w M β U f β2) {m o sz : Nat} {es : List (List AV)} (hm : f m = none) (ho : o ∉ U) (hx : s.ob o = some (.vec sz es)) :
    ∃ β3, Bld s w M β (o :: U) (upd f m (some (.vec sz es))) β3 ∧ Lo.le β2 β3 ∧ ∀ v, Rep M β (.vec o) v → Rep M β3 (.vec m) v := by
  obtain ⟨v, h1, h2, h3⟩ := g.own o _ hx
  refine ⟨upd β2 m (some (.vec v sz)), h.add g hm (l := .vec v sz) (x := .vec sz es) ⟨v, upd_same _ _ _, h2, h3⟩ o ho (fun b hb => ⟨_, hx, rfl, by simp [blk, h1]; exact hb⟩), h.le hm _, fun u hu => ?_⟩
  cases hu with
  | vec _ _ _ sz' hov hb => rw [h1] at hb; cases hb; exact .vec _ _ _ _ hov (upd_same _ _ _)
theorem Bld.vecNil (g : Gam n A s a w M β) {U : List Nat} {f : Nat → Option Ob} (h : Bld s w M β U f β2) {m o sz : Nat} (hm : f m = none) (ho : o ∉ U) :
    ∃ β3, Bld s w M β (o :: U) (upd f m (some (.vec sz []))) β3 ∧ Lo.le β2 β3 ∧ Rep M β3 (.vec m) (.slice none 0 0) :=
  ⟨upd β2 m (some (.vec (.slice none 0 0) sz)), h.add g hm (l := .vec (.slice none 0 0) sz) (x := .vec sz []) ⟨_, upd_same _ _ _, fun i hi => by simp at hi, .inl ⟨rfl, rfl⟩⟩ o ho (fun b hb => by simp [Loc.block] at hb), h.le hm _, .vec _ _ _ _ rfl (upd_same _ _ _)⟩

theorem nodup_cons {x : Nat} {l : List Nat} (h : nodup (x :: l) = true) : x ∉ l ∧ nodup l = true := by
  simp only [nodup, Bool.and_eq_true, Bool.not_eq_true'] at h
  refine ⟨fun hx => ?_, h.2⟩
  have := h.1
  rw [List.any_eq_false] at this
  exact this x hx (Nat.beq_refl x)
theorem nodup_app {l r : List Nat} (h : nodup (l ++ r) = true) : nodup l = true ∧ nodup r = true ∧ ∀ x, x ∈ l → x ∉ r := by
  induction l with
  | nil => exact ⟨rfl, h, fun x hx => by cases hx⟩
  | cons y l ih =>
    obtain ⟨h1, h2⟩ := nodup_cons h
    obtain ⟨q1, q2, q3⟩ := ih h2
    refine ⟨?_, q2, fun x hx => ?_⟩
    · simp only [nodup, Bool.and_eq_true, Bool.not_eq_true', List.any_eq_false]
      exact ⟨fun z hz e => h1 (List.mem_append_left _ (by rw [Nat.eq_of_beq_eq_true e]; exact hz)), q1⟩
    · rcases List.mem_cons.1 hx with rfl | hx
      · exact fun hr => h1 (List.mem_append_right _ hr)
      · exact q3 x hx

/-- The cells of an object, behind the cut. -/
theorem backC_ok (g : Gam n A s a w M β) : ∀ (ks : List CK) {cs as : List AV} {obs : List Ob} {os : List Nat} {j : Nat}, giveC s.ob ks cs j = some (as, obs, os) →
    ∀ {U : List Nat} {f : Nat → Option Ob} {β2 : Lo} {full : List AV} {i nm : Nat} {rest : List Ob}, Bld s w M β U f β2 → (∀ q, q < ks.length → full.getD (i + q) .any = (maskC ks as).getD q .any) → hasK ks full i (obs ++ rest) → (∀ m, nm ≤ m → f m = none) → nodup os = true → (∀ o, o ∈ os → o ∉ U) →
    ∃ β3 U', Bld s w M β U' (updL f (backC ks full i (obs ++ rest) nm).2.1) β3 ∧ Lo.le β2 β3 ∧ (∀ o, o ∈ U' → o ∈ os ∨ o ∈ U) ∧ (backC ks full i (obs ++ rest) nm).2.2 = (rest, nm + nVec ks) ∧ (backC ks full i (obs ++ rest) nm).1.length = cs.length ∧
      (∀ q v, q < cs.length → Rep M β (cs.getD q .any) v → Rep M β3 ((backC ks full i (obs ++ rest) nm).1.getD q .any) v) ∧ (∀ m, nm + nVec ks ≤ m → updL f (backC ks full i (obs ++ rest) nm).2.1 m = none) ∧ (∀ m, m < nm → updL f (backC ks full i (obs ++ rest) nm).2.1 m = f m) ∧ full.length = i + ks.length ∧ ks.length = cs.length
  | [], cs, as, obs, os, j, h, U, f, β2, full, i, nm, rest, hB, hfull, hk, hnm, hnd, hU => by
    cases cs with
    | nil =>
      simp only [giveC, Option.some.injEq, Prod.mk.injEq] at h
      obtain ⟨rfl, rfl, rfl⟩ := h
      exact ⟨β2, U, hB, Lo.le.refl _, fun o ho => .inr ho, rfl, rfl, fun q v hq => by simp at hq, fun m hm => hnm m (by simpa [nVec] using hm), fun m _ => rfl, hk, rfl⟩
    | cons c cs => simp [giveC] at h
  | .lk k :: ks, cs, as, obs, os, j, h, U, f, β2, full, i, nm, rest, hB, hfull, hk, hnm, hnd, hU => by
    cases cs with
    | nil => simp [giveC] at h
    | cons c cs =>
      simp only [giveC] at h
      split at h
      · rename_i a1 as1 obs1 os1 h1 h2
        cases h
        obtain ⟨hk1, hk2⟩ := hk
        have e0 : full.getD i .any = a1 := by simpa [maskC] using hfull 0 (by simp)
        obtain ⟨β3, U', b1, b2, b3, b4, b5, b6, b7, b8, b9, b10⟩ := backC_ok g ks h2 (i := i + 1) (nm := nm) (full := full) hB (fun q hq => by
          have := hfull (q + 1) (by simpa using hq)
          rw [show i + (q + 1) = i + 1 + q by omega] at this
          simpa [maskC] using this) hk2 hnm hnd hU
        refine ⟨β3, U', b1, b2, b3, b4, by simp [backC, b5], fun q v hq hr => ?_, b7, b8, by simp; omega, by simp [b10]⟩
        cases q with
        | zero =>
          have hr' : Rep M noLo a1 v := ext_ok h1 (by simpa using hr)
          rw [e0] at hk1
          show Rep M β3 ((k.cast (full.getD i .any) :: _).getD 0 .any) v
          rw [List.getD_cons_zero, e0]
          exact LK.cast_rep (β := β3) hr' hk1
        | succ q => simpa [backC] using b6 q v (by simpa using hq) (by simpa using hr)
      · cases h
  | .vec hsz :: ks, cs, as, obs, os, j, h, U, f, β2, full, i, nm, rest, hB, hfull, hk, hnm, hnd, hU => by
    cases cs with
    | nil => simp [giveC] at h
    | cons c cs =>
      have cont : ∀ (es : List (List AV)) (o : Nat) (as1 : List AV) (obs1 : List Ob) (os1 : List Nat), giveC s.ob ks cs (j + 1) = some (as1, obs1, os1) → as = .vec j :: as1 → obs = .vec hsz es :: obs1 → os = o :: os1 → (∃ β3, Bld s w M β (o :: U) (upd f nm (some (.vec hsz es))) β3 ∧ Lo.le β2 β3 ∧ ∀ v, Rep M β c v → Rep M β3 (.vec nm) v) →
          ∃ β3 U', Bld s w M β U' (updL f (backC (.vec hsz :: ks) full i (obs ++ rest) nm).2.1) β3 ∧ Lo.le β2 β3 ∧ (∀ o, o ∈ U' → o ∈ os ∨ o ∈ U) ∧ (backC (.vec hsz :: ks) full i (obs ++ rest) nm).2.2 = (rest, nm + nVec (.vec hsz :: ks)) ∧ (backC (.vec hsz :: ks) full i (obs ++ rest) nm).1.length = (c :: cs).length ∧
      (∀ q v, q < (c :: cs).length → Rep M β ((c :: cs).getD q .any) v → Rep M β3 ((backC (.vec hsz :: ks) full i (obs ++ rest) nm).1.getD q .any) v) ∧ (∀ m, nm + nVec (.vec hsz :: ks) ≤ m → updL f (backC (.vec hsz :: ks) full i (obs ++ rest) nm).2.1 m = none) ∧ (∀ m, m < nm → updL f (backC (.vec hsz :: ks) full i (obs ++ rest) nm).2.1 m = f m) ∧ full.length = i + (CK.vec hsz :: ks).length ∧ (CK.vec hsz :: ks).length = (c :: cs).length := by
        intro es o as1 obs1 os1 h2 ea eo eos ⟨β3, c1, c2, c3⟩
        subst ea; subst eo; subst eos
        obtain ⟨n1, n2⟩ := nodup_cons hnd
        obtain ⟨β4, U', b1, b2, b3, b4, b5, b6, b7, b8, b9, b10⟩ := backC_ok g ks h2 (i := i + 1) (nm := nm + 1) (full := full) (rest := rest) c1 (fun q hq => by
          have := hfull (q + 1) (by simpa using hq)
          rw [show i + (q + 1) = i + 1 + q by omega] at this
          simpa [maskC] using this) hk.2 (fun m hm => by rw [upd_ne _ _ _ _ (by omega)]; exact hnm m (by omega)) n2 (fun q hq => by
            intro hh
            rcases List.mem_cons.1 hh with rfl | hh
            · exact n1 hq
            · exact hU q (List.mem_cons_of_mem _ hq) hh)
        have eb : backC (.vec hsz :: ks) full i ((.vec hsz es :: obs1) ++ rest) nm = (.vec nm :: (backC ks full (i + 1) (obs1 ++ rest) (nm + 1)).1, (nm, some (.vec hsz es)) :: (backC ks full (i + 1) (obs1 ++ rest) (nm + 1)).2.1, (backC ks full (i + 1) (obs1 ++ rest) (nm + 1)).2.2) := rfl
        rw [eb]
        refine ⟨β4, U', b1, fun o l hl => b2 o l (c2 o l hl), fun q hq => ?_, ?_, by simp [b5], fun q v hq hr => ?_, fun m hm => ?_, fun m hm => ?_, by simp; omega, by simp [b10]⟩
        · rcases b3 q hq with h | h
          · exact .inl (List.mem_cons_of_mem _ h)
          · rcases List.mem_cons.1 h with rfl | h
            · exact .inl List.mem_cons_self
            · exact .inr h
        · simp only [b4, nVec]; congr 1; omega
        · cases q with
          | zero => simpa using (c3 v (by simpa using hr)).mono (Mem.le.refl _) b2
          | succ q => simpa using b6 q v (by simpa using hq) (by simpa using hr)
        · exact b7 m (by simp only [nVec] at hm; omega)
        · have := b8 m (by omega)
          rw [upd_ne _ _ _ _ (by omega)] at this
          exact this
      cases c <;> first | (simp [giveC] at h; done) | skip
      · rename_i x
        cases x <;> first | (simp [giveC] at h; done) | skip
        rename_i ad ln cp
        cases ad <;> first | (simp [giveC] at h; done) | skip
        cases ln <;> first | (simp [giveC] at h; done) | skip
        cases cp <;> first | (simp [giveC] at h; done) | skip
        simp only [giveC] at h
        split at h
        · rename_i as1 obs1 os1 h2
          cases h
          obtain ⟨β3, c1, c2, c3⟩ := Bld.vecNil g hB (m := nm) (o := nilName + j) (sz := hsz) (hnm nm (Nat.le_refl _)) (hU _ List.mem_cons_self)
          exact cont [] _ as1 obs1 os1 h2 rfl rfl rfl ⟨β3, c1, c2, fun v hv => by rw [rep_v hv]; exact c3⟩
        · cases h
      · rename_i o
        simp only [giveC] at h
        split at h
        · rename_i sz es as1 obs1 os1 h1 h2
          cases h
          have e1 : sz = hsz := by
            have := hk.1
            simp only [List.cons_append, List.headD_cons, Ob.vec.injEq] at this
            exact this.1
          subst e1
          obtain ⟨β3, c1, c2, c3⟩ := Bld.vec g hB (m := nm) (hnm nm (Nat.le_refl _)) (hU _ List.mem_cons_self) h1
          exact cont es o as1 obs1 os1 h2 rfl rfl rfl ⟨β3, c1, c2, c3⟩
        · cases h
end
end Go.VL

namespace Go.VL
open Go Go.RowKit
section
variable {P : Program} {M : Mem} {β β2 : Lo} {w w' : World} {n : Nat} {A : Amb} {s : St} {a : Act}

theorem giveC_len {ob : Nat → Option Ob} : ∀ (ks : List CK) {cs as : List AV} {obs : List Ob} {os : List Nat} {j : Nat}, giveC ob ks cs j = some (as, obs, os) → obs.length = nVec ks
  | [], cs, as, obs, os, j, h => by
    cases cs with
    | nil => simp only [giveC, Option.some.injEq, Prod.mk.injEq] at h; obtain ⟨rfl, rfl, rfl⟩ := h; rfl
    | cons c cs => simp [giveC] at h
  | .lk k :: ks, cs, as, obs, os, j, h => by
    cases cs with
    | nil => simp [giveC] at h
    | cons c cs =>
      simp only [giveC] at h
      split at h
      · rename_i h1 h2; cases h; exact giveC_len ks h2
      · cases h
  | .vec hsz :: ks, cs, as, obs, os, j, h => by
    cases cs with
    | nil => simp [giveC] at h
    | cons c cs =>
      cases c <;> first | (simp [giveC] at h; done) | skip
      · rename_i x
        cases x <;> first | (simp [giveC] at h; done) | skip
        rename_i ad ln cp
        cases ad <;> first | (simp [giveC] at h; done) | skip
        cases ln <;> first | (simp [giveC] at h; done) | skip
        cases cp <;> first | (simp [giveC] at h; done) | skip
        simp only [giveC] at h
        split at h
        · rename_i h2; cases h; simp [nVec, giveC_len ks h2]
        · cases h
      · simp only [giveC] at h
        split at h
        · rename_i h1 h2; cases h; simp [nVec, giveC_len ks h2]
        · cases h

theorem mkOb_ok (g : Gam n A s a w M β) : ∀ (objs : List (Nat × List CK)) {obs : List Ob} {os : List Nat}, cutOb s.ob objs = some (obs, os) → ∀ {U : List Nat} {f : Nat → Option Ob} {β2 : Lo} {nm : Nat} {rest : List Ob},
    Bld s w M β U f β2 → AllP (needOb objs (obs ++ rest)) → (∀ m, nm ≤ m → f m = none) → (∀ p, p ∈ objs → f p.1 = none ∧ p.1 < nm) → nodup (objs.map (·.1)) = true → nodup os = true → (∀ o, o ∈ os → o ∉ U) →
    ∃ β3 U', Bld s w M β U' (mkOb objs (obs ++ rest) f nm).1 β3 ∧ Lo.le β2 β3 ∧ (∀ o, o ∈ U' → o ∈ os ∨ o ∈ U) ∧ (mkOb objs (obs ++ rest) f nm).2 = rest ∧ (∀ p, p ∈ objs → ∃ b, β p.1 = some (.cells b) ∧ β3 p.1 = some (.cells b)) ∧ (∀ m, nm + nVecs objs ≤ m → (mkOb objs (obs ++ rest) f nm).1 m = none) ∧ obs.length = nOb objs
  | [], obs, os, h, U, f, β2, nm, rest, hB, hp, hnm, hf, hnd, hno, hU => by
    simp only [cutOb, Option.some.injEq, Prod.mk.injEq] at h
    obtain ⟨rfl, rfl⟩ := h
    exact ⟨β2, U, hB, Lo.le.refl _, fun o ho => .inr ho, rfl, fun p hp => (by cases hp), fun m hm => hnm m (by simpa [nVecs] using hm), rfl⟩
  | (o, ks) :: r, obs, os, h, U, f, β2, nm, rest, hB, hp, hnm, hf, hnd, hno, hU => by
    simp only [cutOb] at h
    split at h
    · rename_i cs ho
      split at h
      · rename_i as obs1 os1 obs' os' h1 h2
        cases h
        have hl1 := giveC_len ks h1
        have eo : ((.cells (maskC ks as) :: obs1 ++ obs') ++ rest : List Ob) = .cells (maskC ks as) :: (obs1 ++ (obs' ++ rest)) := by simp
        rw [eo] at hp ⊢
        obtain ⟨_, hp2, hp3⟩ := hp
        simp only [List.headD_cons, List.tail_cons, Ob.cs] at hp2 hp3
        have hdrop : (obs1 ++ (obs' ++ rest)).drop (nVec ks) = obs' ++ rest := by rw [← hl1]; simp
        rw [hdrop] at hp3
        have hno' : nodup (o :: (os1 ++ os')) = true := by simpa using hno
        obtain ⟨n1, n2⟩ := nodup_cons hno'
        obtain ⟨n3, n4, n5⟩ := nodup_app n2
        have hnd' : nodup (o :: r.map (·.1)) = true := hnd
        obtain ⟨d1, d2⟩ := nodup_cons hnd'
        obtain ⟨hfo, hlo⟩ := hf (o, ks) List.mem_cons_self
        simp only at hfo hlo
        obtain ⟨β3, U1, b1, b2, b3, b4, b5, b6, b7, b8, b9, b10⟩ := backC_ok g ks h1 (U := U) (f := f) (β2 := β2) (full := maskC ks as) (i := 0) (nm := nm) (rest := obs' ++ rest) hB (fun q _ => by rw [Nat.zero_add]) hp2 hnm n3 (fun q hq => hU q (by simp [hq]))
        obtain ⟨b, vs, e, q1, q2, q3, q4, q5, q6⟩ := g.own o _ ho
        have hfo' : updL f (backC ks (maskC ks as) 0 (obs1 ++ (obs' ++ rest)) nm).2.1 o = none := by rw [b8 o hlo]; exact hfo
        have hB2 := b1.add g hfo' (l := .cells b) (x := .cells (backC ks (maskC ks as) 0 (obs1 ++ (obs' ++ rest)) nm).1)
          ⟨b, vs, e, upd_same _ _ _, q2, by rw [q3, b5], fun i hi => (b6 i _ (by omega) (q4 i (by omega))).mono (Mem.le.refl _) (b1.le hfo' _), q5, q6⟩ o
          (fun hh => by
            rcases b3 o hh with h | h
            · exact n1 (List.mem_append_left _ h)
            · exact hU o (by simp) h)
          (fun b' hb' => by
            simp only [Loc.block, Option.some.injEq] at hb'
            subst hb'
            exact ⟨_, ho, rfl, by simp [blk, q1, Loc.block]⟩)
        obtain ⟨β4, U2, c1, c2, c3, c4, c5, c6, c7⟩ := mkOb_ok g r h2 (rest := rest) (nm := nm + nVec ks) hB2 hp3 (fun m hm => by
            rw [upd_ne _ _ _ _ (by omega)]; exact b7 m hm) (fun p hp => by
            obtain ⟨r1, r2⟩ := hf p (List.mem_cons_of_mem _ hp)
            have hne : p.1 ≠ o := fun e => d1 (by rw [← e]; exact List.mem_map.2 ⟨p, hp, rfl⟩)
            exact ⟨by rw [upd_ne _ _ _ _ hne, b8 _ r2]; exact r1, by omega⟩) d2 n4 (fun q hq hh => by
            rcases List.mem_cons.1 hh with rfl | hh
            · exact n1 (List.mem_append_right _ hq)
            · rcases b3 q hh with h | h
              · exact n5 q h hq
              · exact hU q (by simp [hq]) h)
        have em : mkOb ((o, ks) :: r) (.cells (maskC ks as) :: (obs1 ++ (obs' ++ rest))) f nm = mkOb r (backC ks (maskC ks as) 0 (obs1 ++ (obs' ++ rest)) nm).2.2.1 (upd (updL f (backC ks (maskC ks as) 0 (obs1 ++ (obs' ++ rest)) nm).2.1) o (some (.cells (backC ks (maskC ks as) 0 (obs1 ++ (obs' ++ rest)) nm).1))) (backC ks (maskC ks as) 0 (obs1 ++ (obs' ++ rest)) nm).2.2.2 := rfl
        rw [em, b4]
        refine ⟨β4, U2, c1, fun q l hl => c2 q l (b1.le hfo' _ q l (b2 q l hl)), fun q hq => ?_, c4, fun p hp => ?_, fun m hm => c6 m (by simp only [nVecs] at hm; omega), by simp [nOb, hl1, c7]; omega⟩
        · rcases c3 q hq with h | h
          · exact .inl (by simp [h])
          · rcases List.mem_cons.1 h with rfl | h
            · exact .inl (by simp)
            · rcases b3 q h with h | h
              · exact .inl (by simp [h])
              · exact .inr h
        · rcases List.mem_cons.1 hp with rfl | hp
          · exact ⟨b, q1, c2 _ _ (upd_same _ _ _)⟩
          · exact c5 p hp
      · cases h
    · cases h

theorem mkVc_ok (g : Gam n A s a w M β) : ∀ (vecs : List (Nat × Nat)) {obs : List Ob} {os : List Nat}, cutVc s.ob s.tm vecs = some (obs, os) → ∀ {U : List Nat} {f : Nat → Option Ob} {β2 : Lo} {nm : Nat} {tm : Nat → AV},
    Bld s w M β U f β2 → AllP (needVc vecs obs) → (∀ m, nm ≤ m → f m = none) → nodup os = true → (∀ o, o ∈ os → o ∉ U) → (∀ t, Rep M β2 (tm t) (a.tmps.getD t undef)) →
    ∃ β3 U', Bld s w M β U' (mkVc vecs obs tm f nm).2 β3 ∧ ∀ t, Rep M β3 ((mkVc vecs obs tm f nm).1 t) (a.tmps.getD t undef)
  | [], obs, os, h, U, f, β2, nm, tm, hB, hp, hnm, hno, hU, ht => ⟨β2, U, hB, ht⟩
  | (t, sz) :: r, obs, os, h, U, f, β2, nm, tm, hB, hp, hnm, hno, hU, ht => by
    have cont : ∀ (o : Nat) (es : List (List AV)) (obs1 : List Ob) (os1 : List Nat), cutVc s.ob s.tm r = some (obs1, os1) → obs = .vec sz es :: obs1 → os = o :: os1 → (∃ β3, Bld s w M β (o :: U) (upd f nm (some (.vec sz es))) β3 ∧ Lo.le β2 β3 ∧ Rep M β3 (.vec nm) (a.tmps.getD t undef)) →
        ∃ β3 U', Bld s w M β U' (mkVc ((t, sz) :: r) obs tm f nm).2 β3 ∧ ∀ q, Rep M β3 ((mkVc ((t, sz) :: r) obs tm f nm).1 q) (a.tmps.getD q undef) := by
      intro o es obs1 os1 h2 eo eos ⟨β3, c1, c2, c3⟩
      subst eo; subst eos
      obtain ⟨n1, n2⟩ := nodup_cons hno
      exact mkVc_ok g r h2 (nm := nm + 1) (tm := upd tm t (.vec nm)) c1 hp.2 (fun m hm => by rw [upd_ne _ _ _ _ (by omega)]; exact hnm m (by omega)) n2 (fun q hq hh => by
        rcases List.mem_cons.1 hh with rfl | hh
        · exact n1 hq
        · exact hU q (List.mem_cons_of_mem _ hq) hh) (fun q => by
        by_cases e : q = t
        · subst e; rw [upd_same]; exact c3
        · rw [upd_ne _ _ _ _ e]; exact (ht q).mono (Mem.le.refl _) c2)
    simp only [cutVc] at h
    split at h
    · rename_i e
      split at h
      · rename_i obs1 os1 h2
        cases h
        obtain ⟨β3, c1, c2, c3⟩ := Bld.vecNil g hB (m := nm) (o := 2 * nilName + t) (sz := sz) (hnm nm (Nat.le_refl _)) (hU _ List.mem_cons_self)
        have hv := g.tm t
        rw [e] at hv
        exact cont _ [] obs1 os1 h2 rfl rfl ⟨β3, c1, c2, by rw [rep_v hv]; exact c3⟩
      · cases h
    · rename_i o e
      split at h
      · rename_i sz' es obs1 os1 h1 h2
        cases h
        have e1 : sz' = sz := by
          have := hp.1
          simp only [List.headD_cons, Ob.vec.injEq] at this
          exact this.1
        subst e1
        obtain ⟨β3, c1, c2, c3⟩ := Bld.vec g hB (m := nm) (hnm nm (Nat.le_refl _)) (hU _ List.mem_cons_self) h1
        have hv := g.tm t
        rw [e] at hv
        exact cont o es obs1 os1 h2 rfl rfl ⟨β3, c1, c2, c3 _ hv⟩
      · cases h
    · cases h
theorem SK.cast_rep {β0 : Lo} {k : SK} {a : AV} {v : Value} (h : Rep M noLo a v) (hk : k.has a) : Rep M β0 (k.cast a) v := by
  cases k with
  | k k => exact LK.cast_rep h hk
  | agg ks =>
    obtain ⟨h1, h2, h3⟩ := hk
    rw [h1] at h
    obtain ⟨vs, rfl, hl, hr, ho⟩ := rep_agg h
    have e : vs = (List.range ks.length).map fun i => vs.getD i undef := by
      apply List.ext_getElem
      · simp; omega
      · intro i h1 h2
        simp [List.getD_eq_getElem?_getD, h1]
    show Rep M β0 (.agg (castL ks a.cs 0)) (.agg vs.toArray)
    rw [e]
    exact castL_rep h3 (fun i hi => ho i (by omega)) fun i hi => by simpa using hr i (by omega)
theorem mkSl_ok {β0 : Lo} (g : Gam n A s a w M β) : ∀ (sl : List (Nat × SK)) {xs : List AV}, cutSl s.ob s.tm sl = some xs → AllP (needSl sl xs) → ∀ {tm : Nat → AV}, (∀ t, Rep M β0 (tm t) (a.tmps.getD t undef)) → ∀ t, Rep M β0 (mkSl sl xs tm t) (a.tmps.getD t undef)
  | [], xs, h, hp, tm, ht => ht
  | (t, k) :: r, xs, h, hp, tm, ht => by
    simp only [cutSl] at h
    split at h
    · rename_i x as h1 h2
      cases h
      refine mkSl_ok g r h2 hp.2 fun q => ?_
      by_cases e : q = t
      · subst e; rw [upd_same]; exact SK.cast_rep (ext_ok h1 (g.tm q)) hp.1
      · rw [upd_ne _ _ _ _ e]; exact ht q
    · cases h
theorem mkRf_ok {β0 : Lo} (g : Gam n A s a w M β) : ∀ (rf : List (Nat × Nat)), cutRf s.tm rf = true → (∀ p, p ∈ rf → ∀ b, β p.2 = some (.cells b) → β0 p.2 = some (.cells b)) → ∀ {tm : Nat → AV}, (∀ t, Rep M β0 (tm t) (a.tmps.getD t undef)) → ∀ t, Rep M β0 (mkRf rf tm t) (a.tmps.getD t undef)
  | [], h, hb, tm, ht => ht
  | (t, o) :: r, h, hb, tm, ht => by
    simp only [cutRf, Bool.and_eq_true] at h
    refine mkRf_ok g r h.2 (fun p hp => hb p (List.mem_cons_of_mem _ hp)) fun q => ?_
    by_cases e : q = t
    · subst e
      rw [upd_same]
      have h1 := h.1
      split at h1
      · rename_i o' e'
        have := Nat.eq_of_beq_eq_true h1
        subst this
        have hv := g.tm q
        rw [e'] at hv
        obtain ⟨b, h2, h3⟩ := rep_ref hv
        rw [h3]
        exact .ref _ _ _ _ (hb (q, o) List.mem_cons_self b h2)
      · cases h1
    · rw [upd_ne _ _ _ _ e]; exact ht q

theorem allP_app : ∀ {l r : List Prop}, AllP (l ++ r) → AllP l ∧ AllP r
  | [], r, h => ⟨trivial, h⟩
  | p :: l, r, h => by obtain ⟨h1, h2⟩ := h; obtain ⟨h3, h4⟩ := allP_app h2; exact ⟨⟨h1, h3⟩, h4⟩
/-- Behind the cut the state is what the shape makes of it. -/
theorem cut_ok (g : Gam n A s a w M β) {h : Shape} {xs : List AV} {obs : List Ob} (hc : cutS h s = some (xs, obs)) (hp : AllP (needS h xs obs)) : GamE n A (mkS h xs obs) a w := by
  unfold cutS at hc
  split at hc
  · rename_i xs' o1 n1 o2 n2 h1 h2 h3
    cases hq : (cutRf s.tm h.refs && (nodup (n1 ++ n2) && shapeOk h)) with
    | false => rw [hq] at hc; cases hc
    | true =>
      rw [hq] at hc
      simp only [cond_true, Option.some.injEq, Prod.mk.injEq] at hc
      obtain ⟨rfl, rfl⟩ := hc
      simp only [Bool.and_eq_true, shapeOk] at hq
      obtain ⟨q1, q2, q3, q4, q5, q6⟩ := hq
      obtain ⟨m1, m2, m3⟩ := nodup_app q2
      have hp' : AllP (needSl h.slots xs' ++ (needOb h.objs (o1 ++ o2) ++ needVc h.vecs ((o1 ++ o2).drop (nOb h.objs)))) := by
        have : needS h xs' (o1 ++ o2) = needSl h.slots xs' ++ needOb h.objs (o1 ++ o2) ++ needVc h.vecs ((o1 ++ o2).drop (nOb h.objs)) := rfl
        rw [this, List.append_assoc] at hp; exact hp
      obtain ⟨p1, p23⟩ := allP_app hp'
      obtain ⟨p2, p3⟩ := allP_app p23
      rw [List.all_eq_true] at q3 q6
      obtain ⟨β3, U, b1, b2, b3, b4, b5, b6, b7⟩ := mkOb_ok g h.objs h2 (nm := headName) (rest := o2) Bld.nil p2 (fun _ _ => rfl) (fun p hp => ⟨rfl, Nat.le_of_ble_eq_true (q3 p hp)⟩) q4 m1 (fun _ _ hh => by cases hh)
      have hdrop : (o1 ++ o2).drop (nOb h.objs) = o2 := by rw [← b7]; simp
      rw [hdrop] at p3
      have htm : ∀ t, Rep M β3 (mkRf h.refs (mkSl h.slots xs' (fun _ => .any)) t) (a.tmps.getD t undef) :=
        mkRf_ok g h.refs q1 (fun p hp b hb => by
          have := q6 p hp
          rw [List.any_eq_true] at this
          obtain ⟨q, hq, he⟩ := this
          have he := Nat.eq_of_beq_eq_true he
          obtain ⟨b', c1, c2⟩ := b5 q hq
          rw [he] at c1 c2
          rw [hb] at c1; cases c1; exact c2) (mkSl_ok g h.slots h1 p1 fun t => .any _ _)
      have hle := Nat.le_of_ble_eq_true q5
      obtain ⟨β4, U', c1, c2⟩ := mkVc_ok g h.vecs h3 (nm := vecName) b1 p3 (fun m hm => b6 m (by omega)) m2 (fun o ho hh => by
        rcases b3 o hh with hh | hh
        · exact m3 o hh ho
        · cases hh) htm
      refine ⟨M, β4, ?_⟩
      have := c1.gam g c2
      unfold mkS
      simp only
      rw [b4]
      exact this
  · cases hc
end
end Go.VL

namespace Go.VL
open Go Go.RowKit
section
variable {P : Program} {w w' : World} {n : Nat} {A : Amb} {s : St} {a : Act}

def exOf : Ex → Exit
  | .normal => .normal
  | .exit i => .exit i
  | .ret => .ret
/-- What is known of a region: whoever runs it comes to what the tree says. -/
def RegOk (P : Program) (n : Nat) (A : Amb) (T : Tab) (cfg : Nat → FC) (Φ : Nat → List AV → List Ob → Prop) : Prop :=
  ∀ (id : Nat) (ops : Array Oper) (draw : Bool) (K : St → Tree) (Q : Exit → Act → World → Prop), (∀ s a w, GamE n A s a w → wpT P n (K s) Φ → Q .normal a w) →
    ∀ s a w, GamE n A s a w → wpT P n (goOps T cfg n draw ops.toList ops.toList [] s K) Φ → (Code.region id ops draw).wp P Q a w

theorem go_ok {T : Tab} {cfg : Nat → FC} {Φ : Nat → List AV → List Ob → Prop} (hreg : RegOk P n A T cfg Φ) (lis : List (Nat × LI)) :
    ∀ (c : Code) (s : St) (K : Ex → St → Tree) (Q : Exit → Act → World → Prop), (∀ ex s a w, GamE n A s a w → wpT P n (K ex s) Φ → Q (exOf ex) a w) →
      ∀ a w, GamE n A s a w → wpT P n (go T cfg n lis c s K) Φ → c.wp P Q a w := by
  intro c
  induction c with
  | skip => intro s K Q hK a w g h; exact wp_skip (hK .normal s a w g h)
  | region id ops draw => intro s K Q hK a w g h; exact hreg id ops draw (K .normal) Q (fun s a w g h => hK .normal s a w g h) s a w g h
  | seq x y ihx ihy =>
    intro s K Q hK a w g h
    refine wp_seq (ihx s _ _ ?_ a w g h)
    intro ex s' a' w' g' h'
    cases ex with
    | normal => exact ihy s' K Q hK a' w' g' h'
    | exit i => exact hK (.exit i) s' a' w' g' h'
    | ret => exact hK .ret s' a' w' g' h'
  | cond c x y ihx ihy =>
    intro s K Q hK a w g h
    unfold go at h
    split at h
    · rename_i t
      split at h
      · rename_i e
        exact wp_cond_true (g.bool e) (ihx s K Q hK a w g h)
      · rename_i e
        exact wp_cond_false (g.bool e) (ihy s K Q hK a w g h)
      · rename_i b e
        obtain ⟨g', hb⟩ := g.test e
        obtain ⟨h1, h2⟩ := h
        cases b with
        | true => exact wp_cond_true hb (ihx _ K Q hK a w g' (h1 rfl))
        | false => exact wp_cond_false hb (ihy _ K Q hK a w g' (h2 rfl))
      · exact h.elim
    · exact wp_cond_true rfl (ihx s K Q hK a w g h)
    · exact wp_cond_false rfl (ihy s K Q hK a w g h)
    · exact h.elim
  | block id c ih =>
    intro s K Q hK a w g h
    refine wp_block (ih s _ _ ?_ a w g h)
    intro ex s' a' w' g' h'
    cases ex with
    | normal => exact hK .normal s' a' w' g' h'
    | exit i =>
      show if i = id then _ else _
      cases e : Nat.beq i id with
      | true =>
        simp only [e, cond_true] at h'
        rw [if_pos (Nat.eq_of_beq_eq_true e)]
        exact hK .normal s' a' w' g' h'
      | false =>
        simp only [e, cond_false] at h'
        rw [if_neg (fun h => by subst h; rw [Nat.beq_refl] at e; cases e)]
        exact hK (.exit i) s' a' w' g' h'
    | ret => exact hK .ret s' a' w' g' h'
  | loop c ih =>
    intro s K Q hK a w g h
    unfold go at h
    split at h
    · rename_i li _
      split at h
      · rename_i xs obs hcut
        obtain ⟨R, hL, hx, hr⟩ := h
        obtain ⟨M, β, g⟩ := g
        refine Code.wp_mono ?_ (hL A a w ⟨s, M, β, g, hcut⟩).wp
        intro e a' w' hq
        cases e with
        | exit i =>
          obtain ⟨rfl, ys, o, hR, s', M', β', g', hc'⟩ := hq
          obtain ⟨p, t⟩ := wpT_needs.1 (hx ys o hR)
          exact hK (.exit li.ex) _ a' w' (cut_ok g' hc' p) t
        | ret =>
          obtain ⟨ys, o, hR, s', M', β', g', hc'⟩ := hq
          obtain ⟨p, t⟩ := wpT_needs.1 (hr ys o hR)
          exact hK .ret _ a' w' (cut_ok g' hc' p) t
        | _ => exact hq.elim
      · exact h.elim
    · exact h.elim
  | exit i => intro s K Q hK a w g h; exact wp_exit (hK (.exit i) s a w g h)
  | label l => intro s K Q hK a w g h; exact wp_label (hK .normal s a w g h)
  | ret => intro s K Q hK a w g h; exact wp_ret (hK .ret s a w g h)
  | _ => intro s K Q hK a w g h; exact h.elim

/-- One more round of a loop. -/
theorem LSpec.step {T : Tab} {cfg : Nat → FC} {lis : List (Nat × LI)} {c : Code} {li : LI} {xs : List AV} {obs : List Ob} {R : Nat → List AV → List Ob → Prop}
    (hreg : ∀ A, RegOk P n A T cfg fun tag ys o => (tag = 0 → LSpec P n c li ys o R) ∧ (tag = 1 → R 1 ys o) ∧ (tag = 2 → R 2 ys o))
    (h : wpT P n (round T cfg n lis c li xs obs) fun tag ys o => (tag = 0 → LSpec P n c li ys o R) ∧ (tag = 1 → R 1 ys o) ∧ (tag = 2 → R 2 ys o)) : LSpec P n c li xs obs R := by
  intro A a w ⟨s, M, β, g, hcut⟩
  unfold round at h
  obtain ⟨p, h⟩ := wpT_needs.1 h
  refine LoopWp.unroll (go_ok (hreg A) lis c _ _ _ ?_ a w (cut_ok g hcut p) h)
  intro ex s' a' w' ⟨M', β', g'⟩ h'
  cases ex with
  | normal =>
    simp only at h'
    split at h'
    · rename_i ys o hc; exact (h'.1 rfl) A a' w' ⟨s', M', β', g', hc⟩
    · exact h'.elim
  | exit i =>
    simp only at h'
    cases e : Nat.beq i li.ex with
    | true =>
      simp only [e, cond_true] at h'
      split at h'
      · rename_i ys o hc; exact ⟨Nat.eq_of_beq_eq_true e, ys, o, h'.2.1 rfl, s', M', β', g', hc⟩
      · exact h'.elim
    | false => simp only [e, cond_false] at h'; exact h'.elim
  | ret =>
    simp only at h'
    split at h'
    · rename_i ys o hc; exact ⟨ys, o, h'.2.2 rfl, s', M', β', g', hc⟩
    · exact h'.elim

/-! ### A function -/
variable {M : Mem} {β : Lo}
theorem load_as {t : Nat} {v u : Value} (h : (Instr.loadAt t v).run P w = .ok u w) : (do loadVar t (← asAddr v) : Sem Value).run P w = .ok u w := by
  unfold Instr.loadAt at h
  cases v with
  | pointer ad =>
    cases ad with
    | none => simp [Instr.sureAddr, Sem.run_bind] at h
    | some ad => simpa [Instr.sureAddr, asAddr, Sem.run_bind] using h
  | _ => simp [Instr.sureAddr, Sem.run_bind] at h
def resFn (tmps : Array Value) : ResultVar → Sem Value
  | .tmp t => pure (tmps.getD t undef)
  | .cell q t => do loadVar t (← asAddr (tmps.getD q undef))
theorem results_eq (F : Func) (tmps : Array Value) : results F tmps = (do let vs ← F.results.mapM (resFn tmps); pure (if h : vs.size = 1 then vs[0] else .tuple vs)) := rfl
theorem resAt_ok {T : Tab} (hT : TabOk P T) (g : Gam n A s a w M β) : ∀ (rv : List ResultVar) {ps : List Prop} {as : List AV}, resAt T s rv = some (ps, as) → AllP ps →
    ∃ vs : List Value, (rv.mapM (resFn a.tmps)).run P w = .ok vs w ∧ as.length = vs.length ∧ ∀ i, i < as.length → Rep M β (as.getD i .any) (vs.getD i undef)
  | [], ps, as, h, hp => by
    simp only [resAt, Option.some.injEq, Prod.mk.injEq] at h
    obtain ⟨rfl, rfl⟩ := h
    exact ⟨[], by simp, rfl, fun i hi => by simp at hi⟩
  | .tmp t :: r, ps, as, h, hp => by
    simp only [resAt] at h
    cases e : resAt T s r with
    | none => rw [e] at h; cases h
    | some q =>
      rw [e] at h
      simp only [Option.map_some, Option.some.injEq, Prod.mk.injEq] at h
      obtain ⟨rfl, rfl⟩ := h
      obtain ⟨vs, h1, h2, h3⟩ := resAt_ok hT g r e hp
      refine ⟨a.tmps.getD t undef :: vs, ?_, by simp [h2], fun i hi => ?_⟩
      · simp only [List.mapM_cons, resFn, Sem.run_bind, Sem.run_pure, Result.andThen_ok, h1]
      · cases i with
        | zero => simpa using g.tm t
        | succ i => simpa using h3 i (by simpa using hi)
  | .cell q t :: r, ps, as, h, hp => by
    simp only [resAt] at h
    have hld := loadAt_ok (P := P) hT g.own g.agree (t := t) (g.tm q)
    have fin : ∀ (u : Value) (d : De) (p' : List Prop) (as' : List AV), resAt T s r = some (p', as') → AllP p' → as = d.val :: as' → (Instr.loadAt t (a.tmps.getD q undef)).run P w = .ok u w → Rep M β d.val u →
        ∃ vs : List Value, ((ResultVar.cell q t :: r).mapM (resFn a.tmps)).run P w = .ok vs w ∧ as.length = vs.length ∧ ∀ i, i < as.length → Rep M β (as.getD i .any) (vs.getD i undef) := by
      intro u d p' as' e hp' ea hu hr
      obtain ⟨vs, h1, h2, h3⟩ := resAt_ok hT g r e hp'
      subst ea
      refine ⟨u :: vs, ?_, by simp [h2], fun i hi => ?_⟩
      · rw [List.mapM_cons, Sem.run_bind, resFn, load_as hu]
        simp only [Result.andThen_ok, Sem.run_bind, h1, Sem.run_pure]
      · cases i with
        | zero => simpa using hr
        | succ i => simpa using h3 i (by simpa using hi)
    split at h
    · rename_i p d qq e1 e2
      cases h
      rw [e1] at hld
      obtain ⟨u, h1, h2⟩ := (hld hp.1).2.2
      exact fin u d qq.1 qq.2 e2 hp.2 rfl h1 h2
    · rename_i d qq e1 e2
      cases h
      rw [e1] at hld
      obtain ⟨u, h1, h2⟩ := hld.2.2
      exact fin u d qq.1 qq.2 e2 hp rfl h1 h2
    · cases h
theorem outL_ok {T : Tab} : ∀ (as : List AV) {ts : List Nat} {i k : Nat} {xs : List AV} {obs : List Ob} {os fz : List Nat}, outL T s [] ts as i k = some (xs, obs, os, fz) → obs = [] ∧ os = [] ∧ fzL (VL.freeze s.ob fzDepth) as = some (xs, fz)
  | [], ts, i, k, xs, obs, os, fz, h => by
    simp only [outL, Option.some.injEq, Prod.mk.injEq] at h
    obtain ⟨rfl, rfl, rfl, rfl⟩ := h
    exact ⟨rfl, rfl, rfl⟩
  | a :: as, ts, i, k, xs, obs, os, fz, h => by
    simp only [outL, List.any_nil, cond_false] at h
    split at h
    · rename_i x f xs' obs' os' fz' e1 e2
      cases h
      obtain ⟨h1, h2, h3⟩ := outL_ok as e2
      refine ⟨h1, h2, ?_⟩
      simp [fzL, e1, h3]
    · cases h
theorem setArgs_get : ∀ (as : List AV) (i : Nat) (f : Nat → AV) (t : Nat), setArgs as i f t = if i ≤ t ∧ t < i + as.length then as.getD (t - i) .any else f t
  | [], i, f, t => by rw [if_neg (by simp only [List.length_nil]; omega)]; rfl
  | x :: as, i, f, t => by
    rw [setArgs, setArgs_get as (i + 1) _ t]
    simp only [List.length_cons]
    by_cases h : i + 1 ≤ t ∧ t < i + 1 + as.length
    · rw [if_pos h, if_pos (by omega), show t - i = (t - (i + 1)) + 1 by omega]; rfl
    · rw [if_neg h]
      by_cases e : t = i
      · subst e; rw [upd_same, if_pos (by omega)]; simp
      · rw [upd_ne _ _ _ _ e, if_neg (by omega)]

/-- A function whose tree says 'R' is as 'R' says. -/
theorem main_ok {T : Tab} (hT : TabOk P T) {cfg : Nat → FC} {lis : List (Nat × LI)} {f : Nat} {F : Func} {as : List AV} {R : AV → List Ob → Prop} (hf : P.funcs[f]? = some F) (hnm : (F.name == "runtime.NumGoroutine") = false)
    (hreg : ∀ A, RegOk P F.ntmps A T cfg fun _ xs obs => R (xs.headD .any) obs)
    (h : wpT P F.ntmps (main T cfg lis {} F as []) fun _ xs obs => R (xs.headD .any) obs) : FSpec P f as [] R := by
  unfold main at h
  cases hb : F.body with
  | none => rw [hb] at h; exact h.elim
  | some c =>
    rw [hb] at h
    simp only at h
    cases hle : Nat.ble as.length F.ntmps with
    | false => rw [hle] at h; exact h.elim
    | true =>
      rw [hle] at h
      simp only [cond_true] at h
      have hle := Nat.le_of_ble_eq_true hle
      refine ⟨⟨F, hf, by simp [hb], hnm⟩, fun w M β vs hin => ?_⟩
      have hβ : ∀ j, β j = none := fun j => hin.none j (Nat.zero_le _)
      have hsz : vs.toArray.size = as.length := by simp [hin.len]
      have g0 : Gam F.ntmps ⟨w, M, fun b => ∃ i, i < 0 ∧ blk β i = some b⟩ (enter as []) { tmps := vs.toArray ++ Array.replicate (F.ntmps - vs.toArray.size) undef, defers := [] } w M β := by
        refine { size := by simp [hin.len]; omega, defs := rfl, tm := fun t => ?_, le := Mem.le.refl _, new := fun b k v h => .inl h, agree := hin.agree, own := fun o x h => (by cases h), place := fun o x b h => (by cases h), apart := fun o o' x x' b _ h => (by cases h), us := fun o _ => ⟨hβ o, rfl⟩, keep := ⟨rfl, rfl, rfl, Nat.le_refl _, fun _ _ _ => rfl⟩ }
        show Rep M β (setArgs as 0 (fun _ => .any) t) _
        rw [setArgs_get]
        by_cases ht : t < as.length
        · rw [if_pos (by omega), Nat.sub_zero]
          have e : (vs.toArray ++ Array.replicate (F.ntmps - vs.toArray.size) undef).getD t undef = vs.getD t undef := by
            have : t < vs.length := by rw [hin.len]; exact ht
            simp [Array.getElem?_append, this, List.getD_eq_getElem?_getD]
          rw [e]; exact hin.rep t ht
        · rw [if_neg (by omega)]; exact .any _ _
      refine calls_of_wp hf hb (go_ok (hreg _) lis c _ _ _ ?_ _ w ⟨M, β, g0⟩ h)
      intro ex s a w' ⟨M', β', g⟩ h'
      have fin : wpT P F.ntmps (finish T {} F.results.toList F.resultTypes.toList s) (fun _ xs obs => R (xs.headD .any) obs) →
          a.defers = [] ∧ ∃ v, (results F a.tmps).run P w' = .ok v w' ∧ ∃ v' r obs M'' β'', Ending.returned v = .returned v' ∧ R r obs ∧ Out w M β ([] : List Ob).length r obs v' w' M'' β'' := by
        intro h'
        unfold finish at h'
        split at h'
        · rename_i ps as' hres
          split at h'
          · rename_i obs' os' hkeep
            have hk : obs' = [] ∧ os' = [] := by
              have : keepM s.ob ({} : FC).mu 0 = some ([], []) := rfl
              rw [this] at hkeep; cases hkeep; exact ⟨rfl, rfl⟩
            obtain ⟨rfl, rfl⟩ := hk
            split at h'
            · rename_i xs obs os fz hout
              obtain ⟨rfl, rfl, hfz⟩ := outL_ok as' hout
              simp only [List.append_nil, nodup, List.any_nil, Bool.not_false, Bool.and_self, cond_true] at h'
              obtain ⟨hp, hR⟩ := wpT_needs.1 h'
              obtain ⟨rs, h1, h2, h3⟩ := resAt_ok hT g F.results.toList hres hp
              obtain ⟨M1, hM, g1⟩ := g.freeze fz
              obtain ⟨z1, z2⟩ := fzL_ok (M := M1) (β := β') (w := w') (ob := s.ob) (fun c a' os v => freeze_ok fzDepth c a' os v) _ _ _ hfz g1.fz
              have hrep : ∀ i, i < xs.length → Rep M1 noLo (xs.getD i .any) (rs.getD i undef) := fun i hi => z2 i _ (by omega) ((h3 i (by omega)).mono hM (Lo.le.refl _))
              have hrun : (results F a.tmps).run P w' = .ok (if h : rs.toArray.size = 1 then rs.toArray[0] else .tuple rs.toArray) w' := by
                rw [results_eq, Sem.run_bind, Array.mapM_eq_mapM_toList]
                simp only [Sem.run_map, h1]
                rfl
              refine ⟨g.defs, _, hrun, _, _, [], M1, noLo, rfl, hR, ?_⟩
              have hxl : xs.length = rs.length := by omega
              refine ⟨g1.le, g1.agree, ?_, fun j hj => by simp at hj, fun j b hj => by simp at hj, fun i j b _ hi => by simp at hi, fun j b hj => by simp at hj, fun b k v hc => g1.new b k v hc, g1.keep⟩
              match xs, rs, hxl, hrep with
              | [], [], _, _ => exact .any _ _
              | [x], [r], _, hrep => simpa using hrep 0 (by simp)
              | x :: y :: xs, r :: q :: rs, hl, hrep => exact .tup _ _ _ (by simpa using hl) hrep
            · exact h'.elim
          · exact h'.elim
        · exact h'.elim
      cases ex with
      | normal => exact fin h'
      | ret => exact fin h'
      | exit i => exact h'.elim
end
end Go.VL

namespace Go.VL
open Go Go.RowKit
section
variable {T : Tab} {e e' : Operand → AV} {ob ob' : Nat → Option Ob}

/-! ### Only operands are looked at -/
theorem fitsF_e {fs : List (Nat × Nat)} {m : Nat} : ∀ {ps : List (Nat × Operand)}, (∀ p, p ∈ ps → e p.2 = e' p.2) → fitsF T fs m e ps = fitsF T fs m e' ps
  | [], _ => rfl
  | p :: ps, h => by
    simp only [fitsF]
    rw [h p List.mem_cons_self, fitsF_e fun q hq => h q (List.mem_cons_of_mem _ hq)]
theorem fitsE_e {z m : Nat} : ∀ {ps : List (Nat × Operand)}, (∀ p, p ∈ ps → e p.2 = e' p.2) → fitsE z m e ps = fitsE z m e' ps
  | [], _ => rfl
  | p :: ps, h => by
    simp only [fitsE]
    rw [h p List.mem_cons_self, fitsE_e fun q hq => h q (List.mem_cons_of_mem _ hq)]
theorem foldl_e {f : Nat → Nat} : ∀ {ps : List (Nat × Operand)} {cs : List AV}, (∀ p, p ∈ ps → e p.2 = e' p.2) → ps.foldl (fun cs p => setL cs (f p.1) (flat (e p.2))) cs = ps.foldl (fun cs p => setL cs (f p.1) (flat (e' p.2))) cs
  | [], _, _ => rfl
  | p :: ps, cs, h => by
    simp only [List.foldl_cons]
    rw [h p List.mem_cons_self, foldl_e fun q hq => h q (List.mem_cons_of_mem _ hq)]
theorem map_e : ∀ {ps : List (Nat × Operand)}, (∀ p, p ∈ ps → e p.2 = e' p.2) → ps.map (fun p => e p.2) = ps.map fun p => e' p.2
  | [], _ => rfl
  | p :: ps, h => by simp only [List.map_cons]; rw [h p List.mem_cons_self, map_e fun q hq => h q (List.mem_cons_of_mem _ hq)]
theorem all_e : ∀ {ps : List (Nat × Operand)}, (∀ p, p ∈ ps → e p.2 = e' p.2) → (ps.all fun p => oneA (e p.2)) = ps.all fun p => oneA (e' p.2)
  | [], _ => rfl
  | p :: ps, h => by simp only [List.all_cons]; rw [h p List.mem_cons_self, all_e fun q hq => h q (List.mem_cons_of_mem _ hq)]
theorem mapx_e : ∀ {xs : List Operand}, (∀ x, x ∈ xs → e x = e' x) → xs.map e = xs.map e'
  | [], _ => rfl
  | x :: xs, h => by simp only [List.map_cons]; rw [h x List.mem_cons_self, mapx_e fun q hq => h q (List.mem_cons_of_mem _ hq)]
theorem lowOf_e {lo : Option Operand} (h : ∀ x, lo = some x → e x = e' x) : lowOf e lo = lowOf e' lo := by
  cases lo with
  | none => rfl
  | some x => simp only [lowOf]; rw [h x rfl]
theorem highOf_e {n : Nat} {lo : Option Operand} (h : ∀ x, lo = some x → e x = e' x) : highOf e n lo = highOf e' n lo := by
  cases lo with
  | none => rfl
  | some x => simp only [highOf]; rw [h x rfl]

theorem opD_e (o : Oper) (h : ∀ x, x ∈ o.op.operands → e x = e' x) : opD T e ob o = opD T e' ob o := by
  cases ho : o.op with
  | move x => have h1 := h x (by simp [ho, Op.operands]); unfold opD; rw [ho]; simp only [h1]
  | assign x => have h1 := h x (by simp [ho, Op.operands]); unfold opD; rw [ho]; simp only [h1]
  | pick c x y =>
    have h1 := h c (by simp [ho, Op.operands]); have h2 := h x (by simp [ho, Op.operands]); have h3 := h y (by simp [ho, Op.operands])
    unfold opD; rw [ho]; simp only [h1, h2, h3]
  | binOp op t x y t' => have h1 := h x (by simp [ho, Op.operands]); have h2 := h y (by simp [ho, Op.operands]); unfold opD; rw [ho]; simp only [h1, h2]
  | unOp op t x => have h1 := h x (by simp [ho, Op.operands]); cases op <;> (unfold opD; rw [ho]; try simp only [h1])
  | nilCheck x => have h1 := h x (by simp [ho, Op.operands]); unfold opD; rw [ho]; simp only [h1]
  | fieldAddr t x f => have h1 := h x (by simp [ho, Op.operands]); unfold opD; rw [ho]; simp only [h1]
  | field t x f => have h1 := h x (by simp [ho, Op.operands]); unfold opD; rw [ho]; simp only [h1]
  | load t x => have h1 := h x (by simp [ho, Op.operands]); unfold opD; rw [ho]; simp only [h1]
  | indexAddr t x i => have h1 := h x (by simp [ho, Op.operands]); have h2 := h i (by simp [ho, Op.operands]); unfold opD; rw [ho]; simp only [h1, h2]
  | index t x i => have h1 := h x (by simp [ho, Op.operands]); have h2 := h i (by simp [ho, Op.operands]); unfold opD; rw [ho]; simp only [h1, h2]
  | extract x i => have h1 := h x (by simp [ho, Op.operands]); unfold opD; rw [ho]; simp only [h1]
  | slice t x lo hi mx =>
    have h1 := h x (by simp [ho, Op.operands])
    have h2 : lowOf e lo = lowOf e' lo := lowOf_e fun y hy => h y (by simp [ho, Op.operands, hy])
    have h3 : ∀ n, highOf e n hi = highOf e' n hi := fun n => highOf_e fun y hy => h y (by simp [ho, Op.operands, hy])
    cases mx <;> (unfold opD; rw [ho]; try simp only [h1, h2, h3])
  | convert st dt x => have h1 := h x (by simp [ho, Op.operands]); unfold opD; rw [ho]; simp only [h1]
  | build t ps =>
    have hp : ∀ p, p ∈ ps.toList → e p.2 = e' p.2 := fun p hp => h p.2 (by rw [ho]; simp only [Op.operands, List.mem_toArray]; exact List.mem_map.2 ⟨p, hp, rfl⟩)
    unfold opD; rw [ho]
    simp only [fitsF_e hp, fitsE_e hp]
    congr 1
    split
    · rename_i fs _; simp only [foldl_e (f := fun i => (fs.getD i (0, 0)).1) hp]
    · rename_i m el _; simp only [foldl_e (f := fun i => i * (T el).sz) hp]
    · rfl
  | alloc t => unfold opD; rw [ho]
  | box t x => have h1 := h x (by simp [ho, Op.operands]); unfold opD; rw [ho]; simp only [h1]
  | store t x y => have h1 := h x (by simp [ho, Op.operands]); have h2 := h y (by simp [ho, Op.operands]); unfold opD; rw [ho]; simp only [h1, h2]
  | buildSlice t m ps =>
    have hp : ∀ p, p ∈ ps.toList → e p.2 = e' p.2 := fun p hp => h p.2 (by rw [ho]; simp only [Op.operands, List.mem_toArray]; exact List.mem_map.2 ⟨p, hp, rfl⟩)
    unfold opD; rw [ho]
    simp only [map_e hp, all_e hp]
  | makeSlice t l c => have h1 := h l (by simp [ho, Op.operands]); unfold opD; rw [ho]; simp only [h1]
  | call c =>
    obtain ⟨callee, xs, ts⟩ := c
    have hx : ∀ x, x ∈ xs → e x = e' x := fun x hx => h x (by rw [ho]; simp only [Op.operands, Call.operands]; exact Array.mem_append.2 (.inr hx))
    have hl : ∀ x, x ∈ xs.toList → e x = e' x := fun x h => hx x (by simpa using h)
    cases callee with
    | builtin b =>
      cases b with
      | len =>
        unfold opD; rw [ho]; simp only
        split
        · rename_i x t hxs hts
          simp only [hl x (by rw [hxs]; simp)]
        · rfl
      | append =>
        unfold opD; rw [ho]; simp only
        split
        · rename_i x y t t' d hxs hts hd
          simp only [hl x (by rw [hxs]; simp), hl y (by rw [hxs]; simp)]
        · rfl
      | max =>
        unfold opD; rw [ho]; simp only
        split
        · rename_i x y hxs
          simp only [hl x (by rw [hxs]; simp), hl y (by rw [hxs]; simp)]
        · rfl
      | min =>
        unfold opD; rw [ho]; simp only
        split
        · rename_i x y hxs
          simp only [hl x (by rw [hxs]; simp), hl y (by rw [hxs]; simp)]
        · rfl
      | _ => unfold opD; rw [ho]
    | _ => unfold opD; rw [ho]
  | makeFunc f fs cs =>
    have hl : ∀ x, x ∈ cs.toList → e x = e' x := fun x hx => h x (by rw [ho]; simp only [Op.operands]; exact Array.mem_append.2 (.inr (by simpa using hx)))
    cases f with
    | func f => unfold opD; rw [ho]; simp only [mapx_e hl]
    | _ => unfold opD; rw [ho]
  | _ => unfold opD; rw [ho]
end
end Go.VL

namespace Go.VL
open Go Go.RowKit
section
variable {T : Tab} {e : Operand → AV} {ob ob' : Nat → Option Ob}

/-! ### Only objects in the footprint are looked at -/
theorem fzL_o {f f' : AV → Option (AV × List Nat)} (hf : ∀ c a os, f c = some (a, os) → (∀ m, m ∈ os → ob' m = ob m) → f' c = some (a, os)) : ∀ {cs as : List AV} {os : List Nat}, fzL f cs = some (as, os) → (∀ m, m ∈ os → ob' m = ob m) → fzL f' cs = some (as, os)
  | [], as, os, h, _ => h
  | c :: cs, as, os, h, hm => by
    unfold fzL at h
    split at h
    · rename_i a1 o1 a2 o2 h1 h2
      cases h
      have q1 := hf _ _ _ h1 fun m h => hm m (List.mem_append_left _ h)
      have q2 := fzL_o hf h2 fun m h => hm m (List.mem_append_right _ h)
      simp [fzL, q1, q2]
    · cases h
theorem freeze_o : ∀ (k : Nat) (c a : AV) (os : List Nat), freeze ob k c = some (a, os) → (∀ m, m ∈ os → ob' m = ob m) → freeze ob' k c = some (a, os)
  | 0, c, a, os, h, _ => by simp [freeze] at h
  | k + 1, c, a, os, h, hm => by
    have ih := fun c a os => freeze_o k c a os
    unfold freeze at h ⊢
    cases c <;> first | exact h | skip
    · rename_i cs
      simp only at h ⊢
      cases e : fzL (freeze ob k) cs with
      | none => rw [e] at h; cases h
      | some r =>
        rw [e] at h
        simp only [Option.map_some, Option.some.injEq, Prod.mk.injEq] at h
        obtain ⟨rfl, rfl⟩ := h
        rw [fzL_o ih (by rw [e]) hm]; rfl
    · rename_i o j
      cases j with
      | succ j => exact h
      | zero =>
        simp only at h ⊢
        have key : ∀ cs, (ob o = some (.cells cs) ∨ ob o = some (.fcells cs)) → ((fzL (freeze ob k) cs).map fun r => (AV.ptr r.1, o :: r.2)) = some (a, os) → ob' o = ob o ∧ (fzL (freeze ob' k) cs).map (fun r => (AV.ptr r.1, o :: r.2)) = some (a, os) := by
          intro cs _ h
          cases e : fzL (freeze ob k) cs with
          | none => rw [e] at h; cases h
          | some r =>
            rw [e] at h
            simp only [Option.map_some, Option.some.injEq, Prod.mk.injEq] at h
            obtain ⟨rfl, rfl⟩ := h
            refine ⟨hm o List.mem_cons_self, ?_⟩
            rw [fzL_o ih (by rw [e]) fun m h => hm m (List.mem_cons_of_mem _ h)]; rfl
        split at h
        · rename_i cs ho
          obtain ⟨q1, q2⟩ := key cs (.inl ho) h
          rw [q1, ho]; exact q2
        · rename_i cs ho
          obtain ⟨q1, q2⟩ := key cs (.inr ho) h
          rw [q1, ho]; exact q2
        · cases h
    · rename_i o
      simp only at h ⊢
      split at h
      · rename_i sz es ho
        cases h
        rw [hm o List.mem_cons_self, ho]
      · rename_i es ho
        cases h
        rw [hm o List.mem_cons_self, ho]
      · cases h
theorem fzLL_o {f f' : AV → Option (AV × List Nat)} (hf : ∀ c a os, f c = some (a, os) → (∀ m, m ∈ os → ob' m = ob m) → f' c = some (a, os)) : ∀ {cs : List AV} {as : List (List AV)} {os : List Nat}, fzLL f cs = some (as, os) → (∀ m, m ∈ os → ob' m = ob m) → fzLL f' cs = some (as, os)
  | [], as, os, h, _ => h
  | c :: cs, as, os, h, hm => by
    unfold fzLL at h
    split at h
    · rename_i a1 o1 a2 o2 h1 h2
      cases h
      have q1 := fzL_o hf h1 fun m h => hm m (List.mem_append_left _ h)
      have q2 := fzLL_o hf h2 fun m h => hm m (List.mem_append_right _ h)
      simp [fzLL, q1, q2]
    · cases h
theorem frzU_o : ∀ {os : List Nat}, (∀ m, m ∈ os → ob' m = ob m) → frzU ob' os = frzU ob os
  | [], _ => rfl
  | o :: os, hm => by
    show (o, frozenOb (ob' o)) :: frzU ob' os = (o, frozenOb (ob o)) :: frzU ob os
    rw [hm o List.mem_cons_self, frzU_o fun m h => hm m (List.mem_cons_of_mem _ h)]
theorem elemsOf_o {x : AV} {p : Option Prop} {es : List (List AV)} {os : List Nat} (h : elemsOf ob x = some (p, es, os)) (hm : ∀ m, m ∈ os → ob' m = ob m) : elemsOf ob' x = some (p, es, os) := by
  unfold elemsOf at h ⊢
  split at h
  · exact h
  · exact h
  · exact h
  · rename_i o
    split at h
    · rename_i sz es' ho; cases h; rw [hm o List.mem_cons_self, ho]
    · rename_i es' ho; cases h; rw [hm o List.mem_cons_self, ho]
    · cases h
  · cases h

def fpD : DR → List Nat
  | .no => []
  | .yes d => d.rd ++ wrOf d
  | .ok _ d => d.rd ++ wrOf d
/-- 'r' is what an operation comes to; so is 'r'', where the objects that 'r' touched are the same. -/
def Same (ob ob' : Nat → Option Ob) (r r' : DR) : Prop := r = .no ∨ ((∀ m, m ∈ fpD r → ob' m = ob m) → r' = r)
theorem Same.refl (r : DR) : Same ob ob' r r := .inr fun _ => rfl
theorem same_okIf {q : Bool} {r r' : DR} (h : Same ob ob' r r') : Same ob ob' (okIf q r) (okIf q r') := by
  cases q
  · exact .inl rfl
  · exact h
theorem fpD_when {q : Option Prop} {r : DR} : fpD (r.when q) = fpD r := by
  cases q <;> cases r <;> rfl
theorem fpD_also {q : Prop} {r : DR} : fpD (r.also q) = fpD r := by cases r <;> rfl
theorem same_when {q : Option Prop} {r r' : DR} (h : Same ob ob' r r') : Same ob ob' (r.when q) (r'.when q) := by
  rcases h with rfl | h
  · left; cases q <;> rfl
  · right; rw [fpD_when]; intro hm; rw [h hm]
theorem same_reads {r : DR} {o : Nat} {r' : DR} (h : ob' o = ob o → r' = r.reads o) : Same ob ob' (r.reads o) r' := by
  cases r with
  | no => exact .inl rfl
  | yes d => exact .inr fun hm => h (hm o (by simp [DR.reads, fpD]))
  | ok p d => exact .inr fun hm => h (hm o (by simp [DR.reads, fpD]))
theorem loadAt_o (t : TI) (x : AV) : Same ob ob' (loadAt ob t x) (loadAt ob' t x) := by
  unfold loadAt
  cases x <;> first | exact .refl _ | skip
  · rename_i o k
    simp only
    cases ho : ob o with
    | none => exact .inl rfl
    | some y =>
      cases y <;> first | exact .inl rfl | skip
      · exact same_reads fun h => by rw [h, ho]
      · exact same_reads fun h => by rw [h, ho]
  · rename_i o k
    simp only
    cases ho : ob o with
    | none => exact .inl rfl
    | some y =>
      cases y <;> first | exact .inl rfl | skip
      · exact same_reads fun h => by rw [h, ho]
      · exact same_reads fun h => by rw [h, ho]
  · rename_i o i k
    simp only
    cases ho : ob o with
    | none => exact .inl rfl
    | some y =>
      cases y <;> first | exact .inl rfl | skip
      · exact same_reads fun h => by rw [h, ho]
      · exact same_reads fun h => by rw [h, ho]
theorem indexAt_o (t : TI) (x : AV) (i : Int) : Same ob ob' (indexAt T ob t x i) (indexAt T ob' t x i) := by
  unfold indexAt
  cases hk : t.k <;> cases x <;> first | exact .refl _ | skip
  rename_i el o
  refine same_okIf ?_
  cases ho : ob o with
  | none => exact .inl rfl
  | some y =>
    cases y <;> first | exact .inl rfl | skip
    · rename_i sz es
      cases hz : Nat.beq sz (T el).sz with
      | false => left; show okIf (Nat.beq sz (T el).sz) _ = _; rw [hz]; rfl
      | true =>
        refine .inr fun hm => ?_
        have := hm o (by show o ∈ fpD (okIf (Nat.beq sz (T el).sz) _); rw [hz]; simp [okIf, fpD])
        rw [this, ho]
    · refine .inr fun hm => ?_
      have := hm o (by simp [fpD])
      rw [this, ho]
theorem same_if {A : Option Prop} {r : DR} {os : List Nat} {r' : DR} (hsub : ∀ m, m ∈ os → m ∈ fpD r) (h : (∀ m, m ∈ os → ob' m = ob m) → r' = r) : Same ob ob' r r' :=
  .inr fun hm => h fun m hmm => hm m (hsub m hmm)

theorem opD_o (o : Oper) : Same ob ob' (opD T e ob o) (opD T e ob' o) := by
  cases ho : o.op with
  | load t x => unfold opD; rw [ho]; exact loadAt_o _ _
  | indexAddr t x i =>
    unfold opD; rw [ho]
    refine same_okIf ?_
    try simp only
    split
    · exact indexAt_o _ _ _
    · exact .inl rfl
  | slice t x lo hi mx =>
    cases mx with
    | some m => unfold opD; rw [ho]; exact .inl rfl
    | none =>
      unfold opD; rw [ho]
      refine same_okIf ?_
      try simp only
      split
      · exact .refl _
      · rename_i el o' hk hx
        refine same_okIf ?_
        cases hob : ob o' with
        | none => exact .inl rfl
        | some y =>
          cases y <;> first | exact .inl rfl | skip
          · rename_i sz es
            try simp only
            cases hz : Nat.beq sz (T el).sz with
            | false => exact .inl rfl
            | true =>
              simp only [okIf, cond_true]
              split
              · rename_i l h hl hh
                refine .inr fun hm => ?_
                rw [hm o' (by simp [fpD, wrOf]), hob]
                simp only [hz, cond_true, hl, hh]
              · exact .inl rfl
          · rename_i es
            try simp only
            split
            · rename_i l h hl hh
              refine .inr fun hm => ?_
              rw [hm o' (by rw [fpD_when]; simp [fpD]), hob]
              simp only [hl, hh]
            · exact .inl rfl
      · rename_i el hk hnv
        refine same_okIf ?_
        cases he : elemsOf ob (e x) with
        | none => exact .inl rfl
        | some q =>
          obtain ⟨p, es, os⟩ := q
          try simp only
          split
          · rename_i l h hl hh
            refine .inr fun hm => ?_
            rw [fpD_when, fpD_when] at hm
            rw [elemsOf_o he fun m hmm => hm m (by simp [fpD, hmm])]
            simp only [hl, hh]
          · exact .inl rfl
      · exact .inl rfl
  | convert st dt x =>
    unfold opD; rw [ho]
    refine same_okIf ?_
    try simp only
    split
    · refine same_okIf ?_
      cases he : elemsOf ob (e x) with
      | none => exact .inl rfl
      | some q =>
        obtain ⟨p, es, os⟩ := q
        try simp only
        refine .inr fun hm => ?_
        rw [fpD_when] at hm
        rw [elemsOf_o he fun m hmm => hm m (by simp [fpD, hmm])]
    · exact .refl _
    · exact .inl rfl
  | store t x y =>
    unfold opD; rw [ho]
    refine same_okIf (same_okIf ?_)
    try simp only
    split
    · rename_i m k hx
      cases hob : ob m with
      | none => exact .inl rfl
      | some z =>
        cases z <;> first | exact .inl rfl | skip
        rename_i cs
        try simp only
        cases hk : Nat.ble (k + (flat (e y)).length) cs.length with
        | false => exact .inl rfl
        | true =>
          refine .inr fun hm => ?_
          rw [hm m (by simp [okIf, fpD, wrOf]), hob]
          simp only [hk]
    · rename_i m k hx
      cases hob : ob m with
      | none => exact .inl rfl
      | some z =>
        cases z <;> first | exact .inl rfl | skip
        refine .inr fun hm => ?_
        rw [hm m (by simp [fpD, wrOf]), hob]
    · rename_i m i k hx
      cases hob : ob m with
      | none => exact .inl rfl
      | some z =>
        cases z <;> first | exact .inl rfl | skip
        try simp only
        split
        · rename_i xs hf
          refine .inr fun hm => ?_
          rw [hm m (by simp [fpD, wrOf]), hob]
          try simp only
          rw [fzL_o (ob := ob) (ob' := ob') (os := []) (fun c a os => freeze_o (ob := ob) (ob' := ob') fzDepth c a os) hf (fun m hmm => by simp at hmm)]
        · exact .inl rfl
    · exact .inl rfl
  | buildSlice t m ps =>
    unfold opD; rw [ho]
    refine same_okIf ?_
    try simp only
    split
    · refine same_okIf ?_
      split
      · rename_i as os hf
        rename_i el d _ _ _
        generalize hC : (ps.toList.map (·.1) == List.range m && Nat.ble (m * (T el).sz) 16777216 && as.all (fun a => Nat.beq a.length (T el).sz) && ps.toList.all fun p => oneA (e p.2)) = C
        cases C with
        | false => exact .inl rfl
        | true =>
          refine .inr fun hm => ?_
          have hos : ∀ q, q ∈ os → ob' q = ob q := fun q hq => hm q (by simp [okIf, fpD, wrOf, frzU, hq])
          rw [fzLL_o (ob := ob) (ob' := ob') (fun c a os => freeze_o (ob := ob) (ob' := ob') fzDepth c a os) hf hos]
          simp only [frzU_o hos, hC]
      · exact .inl rfl
    · exact .inl rfl
  | call c =>
    obtain ⟨callee, xs, ts⟩ := c
    cases callee with
    | builtin b =>
      cases b with
      | len =>
        unfold opD; rw [ho]; simp only
        split
        · rename_i x t hxs hts
          refine same_okIf ?_
          split
          · exact .refl _
          · exact .refl _
          · cases he : elemsOf ob (e x) with
            | none => exact .inl rfl
            | some q =>
              obtain ⟨p, es, os⟩ := q
              try simp only
              refine .inr fun hm => ?_
              rw [fpD_when] at hm
              rw [elemsOf_o he fun m hmm => hm m (by simp [fpD, hmm])]
          · exact .inl rfl
        · exact .inl rfl
      | append =>
        unfold opD; rw [ho]; simp only
        split
        · rename_i x y t t' d hxs hts hd
          refine same_okIf ?_
          cases he : elemsOf ob (e y) with
          | none => left; split <;> first | rfl | (rename_i h; cases h)
          | some q =>
            obtain ⟨p, fs, os⟩ := q
            cases hk : (T t).k <;> first | exact .inl rfl | skip
            rename_i el
            cases hb : ((T el).kn && Nat.blt 0 (T el).bytes) with
            | false => left; show okIf ((T el).kn && Nat.blt 0 (T el).bytes) _ = _; rw [hb]; rfl
            | true =>
              show Same ob ob' (okIf ((T el).kn && Nat.blt 0 (T el).bytes) _) _
              rw [hb]
              simp only [okIf, cond_true]
              split
              · rename_i m hx
                cases hob : ob m with
                | none => exact .inl rfl
                | some z =>
                  cases z <;> first | exact .inl rfl | skip
                  rename_i sz es
                  cases hz : Nat.beq sz (T el).sz with
                  | false => left; show cond (Nat.beq sz (T el).sz) _ _ = _; rw [hz]; rfl
                  | true =>
                    show Same ob ob' (cond (Nat.beq sz (T el).sz) _ _) _
                    rw [hz]
                    simp only [cond_true]
                    refine .inr fun hm => ?_
                    rw [fpD_when] at hm
                    rw [elemsOf_o he fun q hq => hm q (by simp [fpD, hq])]
                    simp only [hb, cond_true, hm m (by simp [fpD, wrOf]), hob, hz]
              · rename_i hx
                refine .inr fun hm => ?_
                rw [fpD_when] at hm
                rw [elemsOf_o he fun q hq => hm q (by simp [fpD, hq])]
                simp only [hb, cond_true]
              · exact .inl rfl
        · exact .inl rfl
      | _ => unfold opD; rw [ho]; exact .refl _
    | _ => unfold opD; rw [ho]; exact .refl _
  | unOp op t x => cases op <;> (unfold opD; rw [ho]; exact .refl _)
  | makeFunc f fs cs => cases f <;> (unfold opD; rw [ho]; exact .refl _)
  | _ => unfold opD; rw [ho]; exact .refl _
end
end Go.VL

namespace Go.VL
open Go Go.RowKit
section
variable {T : Tab} {cfg : Nat → FC} {e e' : Operand → AV} {ob ob' : Nat → Option Ob}

def fpR : Eff → List Nat
  | .d _ d => d.rd
  | _ => []
def fpW : Eff → List Nat
  | .d _ d => wrOf d
  | .c _ _ _ wr _ => wr
  | .no => []
theorem callE_o {o : Oper} {f : Nat} {as : List AV} (hc : cfg f = {}) (hne : callE T cfg e ob o f as ≠ .no) (hm : ∀ m, m ∈ fpW (callE T cfg e ob o f as) → ob' m = ob m) : callE T cfg e' ob' o f as = callE T cfg e ob o f as := by
  obtain ⟨as', fz, hf, hE⟩ := callE_nil hc rfl hne
  have hfz : ∀ m, m ∈ fz → ob' m = ob m := fun m h => hm m (by rw [hE]; exact List.mem_append_left _ h)
  have hf' := fzL_o (ob := ob) (ob' := ob') (fun c a os => freeze_o (ob := ob) (ob' := ob') fzDepth c a os) hf hfz
  unfold callE
  rw [hc, giveA_nil, giveA_nil, hf, hf']
  simp only [Option.map_some, frzU_o hfz]
theorem opE_o (hc : ∀ f, cfg f = {}) (o : Oper) (hne : opE T cfg e ob o ≠ .no) (he : ∀ x, x ∈ o.op.operands → e x = e' x) (hr : ∀ m, m ∈ fpR (opE T cfg e ob o) → ob' m = ob m) (hw : ∀ m, m ∈ fpW (opE T cfg e ob o) → ob' m = ob m) :
    opE T cfg e' ob' o = opE T cfg e ob o := by
  have plain : (∀ e ob, opE T cfg e ob o = match opD T e ob o with | .ok p d => .d (some p) d | .yes d => .d none d | .no => .no) → opE T cfg e' ob' o = opE T cfg e ob o := by
    intro h
    rw [h e ob] at hne hr hw ⊢
    rw [h e' ob', ← opD_e (ob := ob') o he]
    have := opD_o (T := T) (e := e) (ob := ob) (ob' := ob') o
    cases hq : opD T e ob o with
    | no => rw [hq] at hne; exact absurd rfl hne
    | yes d =>
      rw [hq] at this hr hw
      rcases this with h | h
      · cases h
      · rw [h fun m hm => by
          rcases List.mem_append.1 hm with hm | hm
          · exact hr m hm
          · exact hw m hm]
    | ok p d =>
      rw [hq] at this hr hw
      rcases this with h | h
      · cases h
      · rw [h fun m hm => by
          rcases List.mem_append.1 hm with hm | hm
          · exact hr m hm
          · exact hw m hm]
  cases ho : o.op with
  | call c =>
    obtain ⟨callee, xs, ts⟩ := c
    cases callee with
    | value x =>
      have hE : ∀ e ob, opE T cfg e ob o = (match e x with
        | .v (.func (.func f) fi cap) => bif Nat.beq fi.size 0 && Nat.beq cap.size 0 then callE T cfg e ob o f (xs.toList.map e) else .no
        | .fn f cap => callE T cfg e ob o f (xs.toList.map e ++ cap)
        | _ => .no) := fun e ob => by unfold opE; rw [ho]; try rfl
      have hx : e x = e' x := he x (by rw [ho]; simp [Op.operands, Call.operands])
      have hxs : xs.toList.map e = xs.toList.map e' := mapx_e fun y hy => he y (by rw [ho]; simp only [Op.operands, Call.operands]; exact Array.mem_append.2 (.inr (by simpa using hy)))
      rw [hE e ob] at hne hw ⊢
      rw [hE e' ob', ← hx, ← hxs]
      split at hne
      · rename_i f fi cap h
        simp only [h] at hw ⊢
        cases hq : (Nat.beq fi.size 0 && Nat.beq cap.size 0) with
        | false => rw [hq] at hne; exact absurd rfl hne
        | true =>
          rw [hq] at hne hw
          exact callE_o (e := e) (e' := e') (hc f) hne hw
      · rename_i f cap h
        simp only [h] at hw ⊢
        exact callE_o (e := e) (e' := e') (hc f) hne hw
      · exact absurd rfl hne
    | builtin b => exact plain fun e ob => by unfold opE; rw [ho]; try rfl
    | invoke r nm => exact plain fun e ob => by unfold opE; rw [ho]; try rfl
  | _ => exact plain fun e ob => by unfold opE; rw [ho]; try rfl

/-! ### Changes commute -/
theorem updL_not : ∀ (l : List (Nat × Option Ob)) (f : Nat → Option Ob) (o : Nat), o ∉ l.map (·.1) → updL f l o = f o
  | [], f, o, _ => rfl
  | (q, c) :: l, f, o, h => by
    show updL (upd f q c) l o = f o
    rw [updL_not l _ o fun hh => h (List.mem_cons_of_mem _ hh), upd_ne _ _ _ _ fun e => h (by subst e; exact List.mem_cons_self)]
theorem updL_at : ∀ (l : List (Nat × Option Ob)) (f g : Nat → Option Ob) (o : Nat), o ∈ l.map (·.1) → updL f l o = updL g l o
  | [], f, g, o, h => by cases h
  | (q, c) :: l, f, g, o, h => by
    show updL (upd f q c) l o = updL (upd g q c) l o
    by_cases hl : o ∈ l.map (·.1)
    · exact updL_at l _ _ o hl
    · rw [updL_not l _ o hl, updL_not l _ o hl]
      have : o = q := by rcases List.mem_cons.1 h with h | h; exact h; exact absurd h hl
      subst this; rw [upd_same, upd_same]
theorem updL_comm {l r : List (Nat × Option Ob)} (h : ∀ o, o ∈ l.map (·.1) → o ∉ r.map (·.1)) (f : Nat → Option Ob) : updL (updL f l) r = updL (updL f r) l := by
  funext o
  by_cases hl : o ∈ l.map (·.1)
  · rw [updL_not r _ o (h o hl)]
    exact updL_at l _ _ o hl
  · by_cases hr : o ∈ r.map (·.1)
    · rw [updL_not l _ o hl]
      exact updL_at r _ _ o hr
    · rw [updL_not r _ o hr, updL_not l _ o hl, updL_not l _ o hl, updL_not r _ o hr]
theorem useL_get : ∀ (l : List Nat) (f : Nat → Bool) (o : Nat), useL f l o = (f o || l.any (Nat.beq o))
  | [], f, o => by simp [useL]
  | q :: l, f, o => by
    rw [useL, useL_get l]
    simp only [upd, List.any_cons]
    cases Nat.beq o q <;> simp
theorem useL_comm (l r : List Nat) (f : Nat → Bool) : useL (useL f l) r = useL (useL f r) l := by
  funext o
  rw [useL_get, useL_get, useL_get, useL_get]
  cases f o <;> cases l.any (Nat.beq o) <;> cases r.any (Nat.beq o) <;> rfl
theorem setD_comm (tm : Nat → AV) {x y : Option Nat} (h : ∀ t, x = some t → y ≠ some t) (v u : AV) : setD (setD tm x v) y u = setD (setD tm y u) x v := by
  funext t
  cases x with
  | none => rfl
  | some d =>
    cases y with
    | none => rfl
    | some d' =>
      have hne : d ≠ d' := fun e => h d rfl (by rw [e])
      simp only [setD]
      by_cases h1 : t = d
      · subst h1
        rw [upd_ne _ _ _ _ hne, upd_same, upd_same]
      · by_cases h2 : t = d'
        · subst h2; rw [upd_same, upd_ne _ _ _ _ h1, upd_same]
        · rw [upd_ne _ _ _ _ h2, upd_ne _ _ _ _ h1, upd_ne _ _ _ _ h1, upd_ne _ _ _ _ h2]
theorem app_eq (s : St) (dst : Option Nat) (d : De) : s.app dst d = { tm := setD s.tm dst d.val, ob := updL s.ob d.upd, us := useL s.us d.new } := by
  unfold St.app; cases dst <;> rfl
end
end Go.VL

namespace Go.VL
open Go Go.RowKit
section
variable {P : Program} {T : Tab} {cfg : Nat → FC} {n : Nat} {all : List Oper}

def nb : AV → AV | .b b => .v (.bool b) | a => a
/-- The guard's temporary is looked at. -/
def resS (all : List Oper) (o : Oper) (s : St) : St :=
  match guardTmp o all with
  | [t] => (match s.tm t with | .b b => s.set t (.v (.bool b)) | _ => s)
  | _ => s
def skipD : De := { val := .v (.tuple #[]) }
/-- An operation's effect, its guard in sight. -/
def gE (T : Tab) (cfg : Nat → FC) (all : List Oper) (o : Oper) (s : St) : Eff :=
  match o.guard with
  | none => opE T cfg (ev s) s.ob o
  | some (g, want) => match (all[g]?).map (·.dst) with
    | some (some t) => match nb (s.tm t) with
      | .v (.bool b) => bif b == want then opE T cfg (ev (resS all o s)) s.ob o else .d none skipD
      | .v (.tuple _) => .d none skipD
      | _ => .no
    | _ => .no
/-- All outcomes of an effect. -/
def effD (P : Program) (E : Eff) (X : De → Prop) : Prop :=
  match E with
  | .no => False
  | .d p d => (∀ q, p = some q → q) ∧ X d
  | .c f as ins _ k => ∃ R, FSpec P f as ins R ∧ (∃ r obs, R r obs) ∧ ∀ r obs, R r obs → AllP (k r obs).1 ∧ X (k r obs).2
def isC : Eff → Bool | .c .. => true | _ => false
theorem effD_mono {E : Eff} {X Y : De → Prop} (h : effD P E X) (hxy : ∀ d, X d → Y d) : effD P E Y := by
  cases E with
  | no => exact h
  | d p d => exact ⟨h.1, hxy d h.2⟩
  | c f as ins wr k =>
    obtain ⟨R, h1, h2, h3⟩ := h
    exact ⟨R, h1, h2, fun r obs hr => ⟨(h3 r obs hr).1, hxy _ (h3 r obs hr).2⟩⟩
theorem effD_some {E : Eff} {X : De → Prop} (h : effD P E X) : E ≠ .no ∧ ∃ d, X d := by
  cases E with
  | no => exact h.elim
  | d p d => exact ⟨by simp, d, h.2⟩
  | c f as ins wr k =>
    obtain ⟨R, h1, ⟨r, obs, hr⟩, h3⟩ := h
    exact ⟨by simp, _, (h3 r obs hr).2⟩
theorem effD_swap {E F : Eff} {X : De → De → Prop} (hn : (isC E && isC F) = false) (h : effD P E fun d => effD P F fun d' => X d d') : effD P F fun d' => effD P E fun d => X d d' := by
  cases E with
  | no => exact h.elim
  | d p d => exact effD_mono h.2 fun d' hx => ⟨h.1, hx⟩
  | c f as ins wr k =>
    cases F with
    | no => obtain ⟨R, h1, ⟨r, obs, hr⟩, h3⟩ := h; exact (h3 r obs hr).2.elim
    | d p d =>
      obtain ⟨R, h1, ⟨r, obs, hr⟩, h3⟩ := h
      exact ⟨(h3 r obs hr).2.1, R, h1, ⟨r, obs, hr⟩, fun r obs hr => ⟨(h3 r obs hr).1, (h3 r obs hr).2.2⟩⟩
    | c f' as' ins' wr' k' => cases hn
/-- Changed names are in the footprint. -/
theorem gE_call {o : Oper} {s : St} (h : isC (gE T cfg all o s) = true) : isGoCall o = true := by
  have key : ∀ e ob, isC (opE T cfg e ob o) = true → isGoCall o = true := by
    intro e ob h
    cases ho : o.op with
    | call c =>
      obtain ⟨callee, xs, ts⟩ := c
      cases callee with
      | value x => simp [isGoCall, ho]
      | builtin b =>
        have : opE T cfg e ob o = match opD T e ob o with | .ok p d => .d (some p) d | .yes d => .d none d | .no => .no := by unfold opE; rw [ho]; try rfl
        rw [this] at h
        split at h <;> cases h
      | invoke r nm =>
        have : opE T cfg e ob o = match opD T e ob o with | .ok p d => .d (some p) d | .yes d => .d none d | .no => .no := by unfold opE; rw [ho]; try rfl
        rw [this] at h
        split at h <;> cases h
    | _ =>
      have : opE T cfg e ob o = match opD T e ob o with | .ok p d => .d (some p) d | .yes d => .d none d | .no => .no := by unfold opE; rw [ho]; try rfl
      rw [this] at h
      split at h <;> cases h
  unfold gE at h
  split at h
  · exact key _ _ h
  · split at h
    · split at h
      · rename_i b _
        cases hq : (b == _) with
        | true => rw [hq] at h; exact key _ _ h
        | false => rw [hq] at h; cases h
      · cases h
      · cases h
    · cases h
theorem guardTmp_eq {o : Oper} {g : Nat} {want : Bool} {t : Nat} (h1 : o.guard = some (g, want)) (h2 : (all[g]?).map (·.dst) = some (some t)) : guardTmp o all = [t] := by
  unfold guardTmp; rw [h1]; simp only [h2]
theorem resS_eq {o : Oper} {t : Nat} (h : guardTmp o all = [t]) (s : St) : resS all o s = match s.tm t with | .b b => s.set t (.v (.bool b)) | _ => s := by
  unfold resS; rw [h]
theorem resS_ob (o : Oper) (s : St) : (resS all o s).ob = s.ob ∧ (resS all o s).us = s.us := by
  unfold resS
  split
  · split <;> exact ⟨rfl, rfl⟩
  · exact ⟨rfl, rfl⟩
theorem resS_tm (o : Oper) (s : St) (x : Nat) : (resS all o s).tm x = if x ∈ guardTmp o all then nb (s.tm x) else s.tm x := by
  by_cases hg : ∃ t, guardTmp o all = [t]
  · obtain ⟨t, hg⟩ := hg
    rw [resS_eq hg, hg]
    cases hs : s.tm t with
    | b b =>
      simp only [St.set]
      by_cases e : x = t
      · subst e; rw [upd_same, if_pos (by simp), hs]; rfl
      · rw [upd_ne _ _ _ _ e, if_neg (by simpa using e)]
    | _ =>
      simp only
      by_cases e : x = t
      · subst e; rw [if_pos (by simp), hs]; rfl
      · rw [if_neg (by simpa using e)]
  · have : guardTmp o all = [] := by
      unfold guardTmp at hg ⊢
      split at hg
      · rename_i g want h
        split at hg
        · exact absurd ⟨_, rfl⟩ hg
        · rfl
      · rfl
    have e1 : resS all o s = s := by unfold resS; rw [this]
    rw [e1, this, if_neg (by simp)]
theorem nb_nb (a : AV) : nb (nb a) = nb a := by cases a <;> rfl
theorem mem_opTmps {o : Oper} {t : Nat} (h : Operand.tmp t ∈ o.op.operands) : t ∈ opTmps o := by
  unfold opTmps
  exact List.mem_filterMap.2 ⟨.tmp t, by simpa using h, rfl⟩
theorem ev_eq {s s1 : St} {x : Operand} (h : ∀ t, x = .tmp t → s.tm t = s1.tm t) : ev s x = ev s1 x := by
  cases x with
  | tmp t => exact h t rfl
  | _ => rfl
/-- The effect is the same, where all that it looks at is the same. -/
theorem gE_o (hc : ∀ f, cfg f = {}) {o : Oper} {s s1 : St} (hne : gE T cfg all o s1 ≠ .no) (ht : ∀ t, t ∈ opTmps o → s.tm t = s1.tm t) (hg : ∀ t, t ∈ guardTmp o all → nb (s.tm t) = nb (s1.tm t))
    (hr : ∀ m, m ∈ fpR (gE T cfg all o s1) → s.ob m = s1.ob m) (hw : ∀ m, m ∈ fpW (gE T cfg all o s1) → s.ob m = s1.ob m) : gE T cfg all o s = gE T cfg all o s1 := by
  unfold gE at hne hr hw ⊢
  cases hgd : o.guard with
  | none =>
    rw [hgd] at hne hr hw
    exact opE_o hc o hne (fun x hx => ev_eq fun t e => by subst e; exact (ht t (mem_opTmps hx)).symm) hr hw
  | some gw =>
    obtain ⟨g, want⟩ := gw
    rw [hgd] at hne hr hw
    simp only at hne hr hw ⊢
    split at hne
    · rename_i t hd
      have hgt := guardTmp_eq hgd hd
      simp only [hd] at hr hw ⊢
      have e1 : nb (s.tm t) = nb (s1.tm t) := hg t (by rw [hgt]; simp)
      rw [e1]
      split at hne
      · rename_i b hb
        simp only [hb] at hr hw ⊢
        cases hq : (b == want) with
        | false => rfl
        | true =>
          rw [hq] at hne hr hw
          simp only [cond_true] at hne hr hw ⊢
          refine opE_o hc o hne (fun x hx => ev_eq fun t' e => ?_) hr hw
          subst e
          have := ht t' (mem_opTmps hx)
          rw [resS_tm, resS_tm, this]
      · rename_i vs hb
        simp only [hb]
      · exact absurd rfl hne
    · exact absurd rfl hne
end
end Go.VL

namespace Go.VL
open Go Go.RowKit
section
variable {P : Program} {T : Tab} {cfg : Nat → FC} {n : Nat} {all : List Oper}

structure Apart (all : List Oper) (p o : Oper) (rq wq rd wr : List Nat) : Prop where
  nc : (isGoCall p && isGoCall o) = false
  d1 : ∀ x, x ∈ dstOf p → x ∉ opTmps o
  d2 : ∀ x, x ∈ dstOf p → x ∉ guardTmp o all
  d3 : ∀ x, x ∈ dstOf p → x ∉ dstOf o
  d4 : ∀ x, x ∈ dstOf o → x ∉ opTmps p
  d5 : ∀ x, x ∈ dstOf o → x ∉ guardTmp p all
  d6 : ∀ x, x ∈ guardTmp p all → x ∉ opTmps o
  d7 : ∀ x, x ∈ guardTmp o all → x ∉ opTmps p
  w1 : ∀ x, x ∈ wr → x ∉ wq
  w2 : ∀ x, x ∈ wr → x ∉ rq
  w3 : ∀ x, x ∈ rd → x ∉ wq
theorem disj_ok {a b : List Nat} (h : disj a b = true) : ∀ x, x ∈ a → x ∉ b := by
  intro x hx hb
  simp only [disj, Bool.not_eq_true', List.any_eq_false] at h
  refine h x hx ?_
  simp only [memN, List.any_eq_true]
  exact ⟨x, hb, Nat.beq_refl x⟩
theorem apart_ok {p o : Oper} {rq wq rd wr : List Nat} (h : apartE all p o rq wq rd wr = true) : Apart all p o rq wq rd wr := by
  simp only [apartE, apartT, Bool.and_eq_true] at h
  obtain ⟨h0, ⟨h1, h2, h3, h4, h5, h6, h7⟩, h8, h9, h10⟩ := h
  exact ⟨by cases q1 : isGoCall p <;> cases q2 : isGoCall o <;> simp_all, disj_ok h1, disj_ok h2, disj_ok h3, disj_ok h4, disj_ok h5, disj_ok h6, disj_ok h7, disj_ok h8, disj_ok h9, disj_ok h10⟩
theorem Apart.symm {p o : Oper} {rq wq rd wr : List Nat} (h : Apart all p o rq wq rd wr) : Apart all o p rd wr rq wq :=
  ⟨by rw [Bool.and_comm]; exact h.nc, h.d4, h.d5, fun x h1 h2 => h.d3 x h2 h1, h.d1, h.d2, h.d7, h.d6, fun x h1 h2 => h.w1 x h2 h1, fun x h1 h2 => h.w3 x h2 h1, fun x h1 h2 => h.w2 x h2 h1⟩
theorem setD_ne {tm : Nat → AV} {o : Oper} {v : AV} {x : Nat} (h : x ∉ dstOf o) : setD tm o.dst v x = tm x := by
  unfold dstOf at h
  cases hd : o.dst with
  | none => rfl
  | some d => rw [hd] at h; exact upd_ne _ _ _ _ (by simpa using h)
/-- One that is apart sees the same before and behind the other. -/
theorem gE_step (hc : ∀ f, cfg f = {}) {p o : Oper} {s : St} {d : De} {rq wq : List Nat} (ha : Apart all p o rq wq (fpR (gE T cfg all o ((resS all p s).app p.dst d))) (fpW (gE T cfg all o ((resS all p s).app p.dst d)))) (hwd : ∀ m, m ∈ wrOf d → m ∈ wq)
    (hne : gE T cfg all o ((resS all p s).app p.dst d) ≠ .no) : gE T cfg all o s = gE T cfg all o ((resS all p s).app p.dst d) := by
  have ob : ∀ m, m ∉ wq → s.ob m = ((resS all p s).app p.dst d).ob m := fun m hm => by
    rw [app_eq]
    show s.ob m = updL (resS all p s).ob d.upd m
    rw [updL_not _ _ _ fun h => hm (hwd m h), (resS_ob p s).1]
  refine gE_o hc hne (fun t ht => ?_) (fun t ht => ?_) (fun m hm => ob m (ha.w3 m hm)) fun m hm => ob m (ha.w1 m hm)
  · rw [app_eq]
    show s.tm t = setD (resS all p s).tm p.dst d.val t
    rw [setD_ne fun h => ha.d1 t h ht, resS_tm, if_neg fun h => ha.d6 t h ht]
  · rw [app_eq]
    show nb (s.tm t) = nb (setD (resS all p s).tm p.dst d.val t)
    rw [setD_ne fun h => ha.d2 t h ht, resS_tm]
    split
    · rw [nb_nb]
    · rfl
theorem gE_back (hc : ∀ f, cfg f = {}) {p o : Oper} {s : St} {d : De} {rq wq : List Nat} (ha : Apart all p o rq wq (fpR (gE T cfg all o s)) (fpW (gE T cfg all o s))) (hwd : ∀ m, m ∈ wrOf d → m ∈ wq)
    (hne : gE T cfg all o s ≠ .no) : gE T cfg all o ((resS all p s).app p.dst d) = gE T cfg all o s := by
  have ob : ∀ m, m ∉ wq → ((resS all p s).app p.dst d).ob m = s.ob m := fun m hm => by
    rw [app_eq]
    show updL (resS all p s).ob d.upd m = s.ob m
    rw [updL_not _ _ _ fun h => hm (hwd m h), (resS_ob p s).1]
  refine gE_o hc hne (fun t ht => ?_) (fun t ht => ?_) (fun m hm => ob m (ha.w3 m hm)) fun m hm => ob m (ha.w1 m hm)
  · rw [app_eq]
    show setD (resS all p s).tm p.dst d.val t = s.tm t
    rw [setD_ne fun h => ha.d1 t h ht, resS_tm, if_neg fun h => ha.d6 t h ht]
  · rw [app_eq]
    show nb (setD (resS all p s).tm p.dst d.val t) = nb (s.tm t)
    rw [setD_ne fun h => ha.d2 t h ht, resS_tm]
    split
    · rw [nb_nb]
    · rfl
/-- The two come to the same state in either order. -/
theorem app_comm {p o : Oper} {s : St} {d d' : De} {rq wq rd wr : List Nat} (ha : Apart all p o rq wq rd wr) (h1 : ∀ m, m ∈ wrOf d → m ∈ wq) (h2 : ∀ m, m ∈ wrOf d' → m ∈ wr) :
    (resS all p ((resS all o s).app o.dst d')).app p.dst d = (resS all o ((resS all p s).app p.dst d)).app o.dst d' := by
  have tmE : ∀ (q : Oper) (s : St) (e : De), (((resS all q s).app q.dst e).tm = setD (fun x => if x ∈ guardTmp q all then nb (s.tm x) else s.tm x) q.dst e.val) := fun q s e => by
    rw [app_eq]
    show setD (resS all q s).tm q.dst e.val = _
    congr 1
    funext x; exact resS_tm q s x
  have obE : ∀ (q : Oper) (s : St) (e : De), ((resS all q s).app q.dst e).ob = updL s.ob e.upd := fun q s e => by rw [app_eq]; show updL (resS all q s).ob e.upd = _; rw [(resS_ob q s).1]
  have usE : ∀ (q : Oper) (s : St) (e : De), ((resS all q s).app q.dst e).us = useL s.us e.new := fun q s e => by rw [app_eq]; show useL (resS all q s).us e.new = _; rw [(resS_ob q s).2]
  have ext : ∀ (a b : St), a.tm = b.tm → a.ob = b.ob → a.us = b.us → a = b := fun a b h1 h2 h3 => by cases a; cases b; simp_all
  refine ext _ _ ?_ ?_ ?_
  · funext x
    have eL := congrFun (tmE p ((resS all o s).app o.dst d') d) x
    have eR := congrFun (tmE o ((resS all p s).app p.dst d) d') x
    have eO := congrFun (tmE o s d') x
    have eP := congrFun (tmE p s d) x
    have at1 : ∀ (q : Oper) (tm : Nat → AV) (v : AV), x ∈ dstOf q → setD tm q.dst v x = v := fun q tm v h => by
      unfold dstOf at h
      cases hd : q.dst with
      | none => rw [hd] at h; cases h
      | some y =>
        rw [hd] at h
        have : x = y := by simpa using h
        subst this; exact upd_same _ _ _
    rw [eL, eR]
    by_cases hp : x ∈ dstOf p
    · have ho : x ∉ dstOf o := ha.d3 x hp
      have hg : x ∉ guardTmp o all := ha.d2 x hp
      rw [at1 p _ _ hp, setD_ne ho, if_neg hg, eP, at1 p _ _ hp]
    · by_cases ho : x ∈ dstOf o
      · have hg : x ∉ guardTmp p all := ha.d5 x ho
        rw [at1 o _ _ ho, setD_ne hp, if_neg hg, eO, at1 o _ _ ho]
      · rw [setD_ne hp, setD_ne ho, eO, eP, setD_ne ho, setD_ne hp]
        by_cases g1 : x ∈ guardTmp p all <;> by_cases g2 : x ∈ guardTmp o all <;> simp [g1, g2]
  · rw [obE, obE, obE, obE]
    exact updL_comm (fun m hm hm' => ha.w1 m (h2 m hm) (h1 m hm')) _
  · rw [usE, usE, usE, usE]
    exact useL_comm _ _ _
end
end Go.VL

namespace Go.VL
open Go Go.RowKit
section
variable {P : Program} {T : Tab} {cfg : Nat → FC} {n : Nat} {all : List Oper}

theorem resL_nil {r : AV} : ∀ (ts : List Nat) (i j : Nat) (obs : List Ob) (nm : Nat), (resL T [] r ts i j obs nm).2.2 = []
  | [], _, _, _, _ => rfl
  | t :: ts, i, j, obs, nm => by simp only [resL, List.any_nil, cond_false]; exact resL_nil ts (i + 1) j obs nm
theorem resV_nil (t : Nat) (r : AV) (j : Nat) (obs : List Ob) (nm : Nat) : (resV T [] t r j obs nm).2.2 = [] := by
  unfold resV
  cases (T t).k <;> first | rfl | skip
  rename_i ts
  cases ts with
  | nil => rfl
  | cons a ts => exact resL_nil _ _ _ _ _
theorem opE_c {e : Operand → AV} {ob : Nat → Option Ob} {o : Oper} {f : Nat} {as : List AV} {ins : List Ob} {wr : List Nat} {k : AV → List Ob → List Prop × De} (h : opE T cfg e ob o = .c f as ins wr k) : ∃ g l, callE T cfg e ob o g l = .c f as ins wr k := by
  have no : (∀ e ob, opE T cfg e ob o = match opD T e ob o with | .ok p d => .d (some p) d | .yes d => .d none d | .no => .no) → ∃ g l, callE T cfg e ob o g l = .c f as ins wr k := fun hh => by
    rw [hh] at h; split at h <;> cases h
  cases ho : o.op with
  | call c =>
    obtain ⟨callee, xs, ts⟩ := c
    cases callee with
    | value x =>
      have hE : opE T cfg e ob o = (match e x with
        | .v (.func (.func f) fi cap) => bif Nat.beq fi.size 0 && Nat.beq cap.size 0 then callE T cfg e ob o f (xs.toList.map e) else .no
        | .fn f cap => callE T cfg e ob o f (xs.toList.map e ++ cap)
        | _ => .no) := by unfold opE; rw [ho]; try rfl
      rw [hE] at h
      split at h
      · rename_i f' fi cap _
        cases hq : (Nat.beq fi.size 0 && Nat.beq cap.size 0) with
        | false => rw [hq] at h; cases h
        | true => rw [hq] at h; exact ⟨_, _, h⟩
      · exact ⟨_, _, h⟩
      · cases h
    | builtin b => exact no fun e ob => by unfold opE; rw [ho]; try rfl
    | invoke r nm => exact no fun e ob => by unfold opE; rw [ho]; try rfl
  | _ => exact no fun e ob => by unfold opE; rw [ho]; try rfl
theorem gE_c {o : Oper} {s : St} {f : Nat} {as : List AV} {ins : List Ob} {wr : List Nat} {k : AV → List Ob → List Prop × De} (h : gE T cfg all o s = .c f as ins wr k) : ∃ e g l, callE T cfg e s.ob o g l = .c f as ins wr k := by
  unfold gE at h
  split at h
  · obtain ⟨g, l, h⟩ := opE_c h; exact ⟨_, g, l, h⟩
  · split at h
    · split at h
      · rename_i b _
        cases hq : (b == _) with
        | true => rw [hq] at h; obtain ⟨g, l, h⟩ := opE_c h; exact ⟨_, g, l, h⟩
        | false => rw [hq] at h; cases h
      · cases h
      · cases h
    · cases h
theorem frzU_names (ob : Nat → Option Ob) (os : List Nat) : (frzU ob os).map (·.1) = os := by
  unfold frzU; rw [List.map_map]; exact List.map_id' os
/-- What changes is in the footprint. -/
theorem effD_wr (hc : ∀ f, cfg f = {}) {o : Oper} {s : St} {X : De → Prop} (h : effD P (gE T cfg all o s) X) : effD P (gE T cfg all o s) fun d => X d ∧ ∀ m, m ∈ wrOf d → m ∈ fpW (gE T cfg all o s) := by
  cases hE : gE T cfg all o s with
  | no => rw [hE] at h; exact h
  | d p d => rw [hE] at h; exact ⟨h.1, h.2, fun m hm => hm⟩
  | c f as ins wr k =>
    rw [hE] at h
    obtain ⟨e, g, l, hq⟩ := gE_c hE
    obtain ⟨as', fz, hf, e1⟩ := callE_nil (hc g) hq (by simp)
    cases e1
    obtain ⟨R, h1, h2, h3⟩ := h
    refine ⟨R, h1, h2, fun r obs hr => ⟨(h3 r obs hr).1, (h3 r obs hr).2, fun m hm => ?_⟩⟩
    simp only [wrOf, resV_nil, List.append_nil, frzU_names] at hm
    exact List.mem_append_left _ hm

structure It where
  i : Nat
  o : Oper
  anc : List Nat
/-- The operations in this order come to 'Ψ'. 'H': those before. -/
def Seq (P : Program) (T : Tab) (cfg : Nat → FC) (n : Nat) (all : List Oper) (Ψ : St → Prop) : List It → List (It × List Nat × List Nat) → St → Prop
  | [], _, s => Ψ s
  | t :: r, H, s => effD P (gE T cfg all t.o s) fun d => newOk (resS all t.o s) n t.o.dst d = true ∧ (∀ j, j ∈ edgesOf t.o → j < t.i) ∧
      (∀ h, h ∈ H → h.1.i ∈ t.anc ∨ Apart all h.1.o t.o h.2.1 h.2.2 (fpR (gE T cfg all t.o s)) (fpW (gE T cfg all t.o s))) ∧
      Seq P T cfg n all Ψ r (H ++ [(t, fpR (gE T cfg all t.o s), fpW (gE T cfg all t.o s))]) ((resS all t.o s).app t.o.dst d)
theorem Seq.weak {Ψ : St → Prop} : ∀ (l : List It) {H H' : List (It × List Nat × List Nat)} {s : St}, (∀ h, h ∈ H' → h ∈ H) → Seq P T cfg n all Ψ l H s → Seq P T cfg n all Ψ l H' s
  | [], _, _, _, _, h => h
  | t :: r, H, H', s, hs, h => effD_mono h fun d ⟨h1, h2, h3, h4⟩ => ⟨h1, h2, fun q hq => h3 q (hs q hq), Seq.weak r (fun q hq => by
      rcases List.mem_append.1 hq with hq | hq
      · exact List.mem_append_left _ (hs q hq)
      · exact List.mem_append_right _ hq) h4⟩
/-- What an operation comes to at its place it comes to before those that are no ancestors of it. -/
theorem Seq.back (hc : ∀ f, cfg f = {}) {Ψ : St → Prop} {t : It} {L2 : List It} : ∀ (L1 : List It) {H : List (It × List Nat × List Nat)} {s : St}, Seq P T cfg n all Ψ (L1 ++ t :: L2) H s → (∀ x, x ∈ L1 → x.i ∉ t.anc) →
    gE T cfg all t.o s ≠ .no ∧ (∀ j, j ∈ edgesOf t.o → j < t.i) ∧ ∀ h, h ∈ H → h.1.i ∈ t.anc ∨ Apart all h.1.o t.o h.2.1 h.2.2 (fpR (gE T cfg all t.o s)) (fpW (gE T cfg all t.o s))
  | [], H, s, h, _ => by
    obtain ⟨h1, d, h2, h3, h4, _⟩ := effD_some h
    exact ⟨h1, h3, h4⟩
  | p :: L1, H, s, h, hl => by
    obtain ⟨h1, d, ⟨h2, h3, h4, h5⟩, h6⟩ := effD_some (effD_wr hc h)
    obtain ⟨q1, q2, q3⟩ := Seq.back hc L1 h5 fun x hx => hl x (List.mem_cons_of_mem _ hx)
    have ha := (q3 _ (List.mem_append_right _ (List.mem_singleton.2 rfl))).resolve_left (hl p List.mem_cons_self)
    have e := gE_step hc ha h6 q1
    rw [e]
    exact ⟨q1, q2, fun h hh => q3 h (List.mem_append_left _ hh)⟩
theorem newOk_iff {s : St} {dst : Option Nat} {d : De} : newOk s n dst d = true ↔ (∀ o, o ∈ d.new → s.us o = false) ∧ nodup d.new = true ∧ (match dst with | some t => Nat.blt t n | none => true) = true := by
  unfold newOk
  simp only [Bool.and_eq_true, List.all_eq_true, Bool.not_eq_true', and_assoc]
  exact Iff.rfl
theorem app_us (s : St) (dst : Option Nat) (d : De) (o : Nat) : (s.app dst d).us o = (s.us o || d.new.any (Nat.beq o)) := by
  rw [app_eq]; exact useL_get _ _ _
theorem any_mem {l : List Nat} {o : Nat} (h : o ∈ l) : l.any (Nat.beq o) = true := List.any_eq_true.2 ⟨o, h, Nat.beq_refl o⟩
/-- An operation that waits for none of those before it can be taken first. -/
theorem Seq.pull (hc : ∀ f, cfg f = {}) {Ψ : St → Prop} {t : It} {L2 : List It} : ∀ (L1 : List It) {H : List (It × List Nat × List Nat)} {s : St}, Seq P T cfg n all Ψ (L1 ++ t :: L2) H s → (∀ x, x ∈ L1 → x.i ∉ t.anc) →
    effD P (gE T cfg all t.o s) fun d => newOk (resS all t.o s) n t.o.dst d = true ∧ Seq P T cfg n all Ψ (L1 ++ L2) H ((resS all t.o s).app t.o.dst d)
  | [], H, s, h, _ => effD_mono h fun d ⟨h1, _, _, h4⟩ => ⟨h1, Seq.weak L2 (fun q hq => List.mem_append_left _ hq) h4⟩
  | p :: L1, H, s, h, hl => by
    have hl' : ∀ x, x ∈ L1 → x.i ∉ t.anc := fun x hx => hl x (List.mem_cons_of_mem _ hx)
    have hb := Seq.back hc (p :: L1) h hl
    -- apart, at this state
    have ha : Apart all p.o t.o (fpR (gE T cfg all p.o s)) (fpW (gE T cfg all p.o s)) (fpR (gE T cfg all t.o s)) (fpW (gE T cfg all t.o s)) := by
      obtain ⟨h1, d, ⟨h2, h3, h4, h5⟩, h6⟩ := effD_some (effD_wr hc h)
      obtain ⟨q1, q2, q3⟩ := Seq.back hc L1 h5 hl'
      have ha := (q3 _ (List.mem_append_right _ (List.mem_singleton.2 rfl))).resolve_left (hl p List.mem_cons_self)
      rw [gE_step hc ha h6 q1]; exact ha
    have hpne : gE T cfg all p.o s ≠ .no := (effD_some h).1
    have step := effD_mono (effD_wr hc h) fun d ⟨⟨h2, h3, h4, h5⟩, h6⟩ => (show _ ∧ _ from ⟨(⟨h2, h3, h4, h6⟩ : _ ∧ _ ∧ _ ∧ _), by
      have e := gE_back hc ha h6 hb.1
      have q := Seq.pull hc L1 h5 hl'
      rw [e] at q
      have q2 := effD_wr hc (o := t.o) (s := s) q
      exact q2⟩)
    have inner := effD_mono step fun d ⟨hA, hB⟩ => effD_mono hB fun d' hx => (show _ ∧ _ from ⟨hA, hx⟩)
    have hnc : (isC (gE T cfg all p.o s) && isC (gE T cfg all t.o s)) = false := by
      cases q1 : isC (gE T cfg all p.o s) with
      | false => rfl
      | true =>
        cases q2 : isC (gE T cfg all t.o s) with
        | false => rfl
        | true => have := ha.nc; rw [gE_call q1, gE_call q2] at this; cases this
    refine effD_mono (effD_swap hnc inner) fun d' hx => ?_
    obtain ⟨_, d0, ⟨g1, g2, g3, g4⟩, ⟨g5, g6⟩, g7⟩ := effD_some hx
    have n1 := newOk_iff.1 g1
    have n2 := newOk_iff.1 g5
    refine ⟨newOk_iff.2 ⟨fun o ho => ?_, n2.2.1, n2.2.2⟩, ?_⟩
    · have := n2.1 o ho
      rw [(resS_ob t.o _).2, app_us, (resS_ob p.o s).2] at this
      rw [(resS_ob t.o s).2]
      cases q : s.us o with
      | false => rfl
      | true => rw [q] at this; cases this
    · have e := gE_back hc ha.symm g7 hpne
      show effD P (gE T cfg all p.o _) _
      rw [e]
      refine effD_mono hx fun d ⟨⟨k1, k2, k3, k4⟩, ⟨k5, k6⟩, k7⟩ => ⟨?_, k2, k3, ?_⟩
      · have m1 := newOk_iff.1 k1
        have m2 := newOk_iff.1 k5
        refine newOk_iff.2 ⟨fun o ho => ?_, m1.2.1, m1.2.2⟩
        have p1 := m1.1 o ho
        rw [(resS_ob p.o s).2] at p1
        rw [(resS_ob p.o _).2, app_us, (resS_ob t.o s).2, p1]
        cases q : d'.new.any (Nat.beq o) with
        | false => rfl
        | true =>
          obtain ⟨y, hy, hy'⟩ := List.any_eq_true.1 q
          have := Nat.eq_of_beq_eq_true hy'
          subst this
          have := m2.1 o hy
          rw [(resS_ob t.o _).2, app_us, any_mem ho] at this
          simp at this
      · rw [app_comm ha k4 k7]
        exact k6
end
end Go.VL

namespace Go.VL
open Go Go.RowKit
section
variable {P : Program} {T : Tab} {cfg : Nat → FC} {n : Nat} {A : Amb} {a : Act} {w : World}

theorem op_real (hT : TabOk P T) (hc : ∀ f, cfg f = {}) {o : Oper} {s : St} {Y : St → Prop} (g : GamE n A s a w) (h : effD P (opE T cfg (ev s) s.ob o) fun d => newOk s n o.dst d = true ∧ Y (s.app o.dst d))
    {Kw : Act → World → Prop} {Qw : Exit → Act → World → Prop} (hK : ∀ s' a' w', GamE n A s' a' w' → Y s' → Kw a' w') : o.wp P a w Kw Qw := by
  obtain ⟨M, β, g⟩ := g
  refine goOp_ok hT hc g o (K := fun _ _ s' => .need (Y s') (.done 0 [] [])) (Φ := fun _ _ _ => True) ?_ fun rd wr s' a' w' g' h' => hK s' a' w' g' h'.1
  unfold goOp
  cases hE : opE T cfg (ev s) s.ob o with
  | no => rw [hE] at h; exact h
  | d p d =>
    rw [hE] at h
    obtain ⟨h1, h2, h3⟩ := h
    simp only [h2, cond_true]
    cases p with
    | none => exact ⟨h3, trivial⟩
    | some q => exact ⟨h1 q rfl, h3, trivial⟩
  | c f as ins wr k =>
    rw [hE] at h
    obtain ⟨R, h1, h2, h3⟩ := h
    refine ⟨R, h1, h2, fun r obs hr => wpT_needs.2 ⟨(h3 r obs hr).1, ?_⟩⟩
    rw [(h3 r obs hr).2.1]
    exact ⟨(h3 r obs hr).2.2, trivial⟩
theorem resS_none {all : List Oper} {o : Oper} (h : o.guard = none) (s : St) : resS all o s = s := by
  unfold resS guardTmp; rw [h]
theorem GamE.res {all : List Oper} {o : Oper} {s : St} (g : GamE n A s a w) : GamE n A (resS all o s) a w := by
  unfold resS
  split
  · split
    · rename_i b e; exact (g.test e).1
    · exact g
  · exact g
theorem skip_app (s : St) (dst : Option Nat) : s.app dst skipD = skS s dst := by
  cases dst <;> rfl
theorem g_real {ops : Array Oper} (hT : TabOk P T) (hc : ∀ f, cfg f = {}) {o : Oper} {s : St} {Y : St → Prop} (g : GamE n A s a w) (h : effD P (gE T cfg ops.toList o s) fun d => newOk (resS ops.toList o s) n o.dst d = true ∧ Y ((resS ops.toList o s).app o.dst d))
    {Kw : Act → World → Prop} {Qw : Exit → Act → World → Prop} (hK : ∀ s' a' w', GamE n A s' a' w' → Y s' → Kw a' w') : if Region.wanted o (yielded ops a.tmps) then o.wp P a w Kw Qw else Kw (a.put o.dst undef) w := by
  have skip : effD P (.d none skipD) (fun d => newOk (resS ops.toList o s) n o.dst d = true ∧ Y ((resS ops.toList o s).app o.dst d)) → Kw (a.put o.dst undef) w := by
    intro ⟨_, h1, h2⟩
    rw [skip_app] at h2
    exact hK _ _ _ (g.res.skip (newOk_dst h1)) h2
  unfold gE at h
  cases hg : o.guard with
  | none =>
    rw [hg] at h
    rw [if_pos (by simp [Region.wanted, hg])]
    rw [resS_none hg] at h
    exact op_real hT hc g h hK
  | some gw =>
    obtain ⟨gi, want⟩ := gw
    rw [hg] at h
    simp only at h
    split at h
    · rename_i t hdst
      split at h
      · rename_i b hb
        have hv : a.tmps.getD t undef = .bool b := by
          cases hs : s.tm t with
          | v x => rw [hs] at hb; simp only [nb, AV.v.injEq] at hb; rw [hb] at hs; exact g.bool hs
          | b q => rw [hs] at hb; simp only [nb, AV.v.injEq, Value.bool.injEq] at hb; rw [hb] at hs; exact (g.test hs).2
          | _ => rw [hs] at hb; cases hb
        have hw : Region.wanted o (yielded ops a.tmps) = (b == want) := by
          have := yielded_bool (ops := ops) hdst hv
          simp [Region.wanted, hg, this]
        rw [hw]
        cases hq : (b == want) with
        | true =>
          rw [hq] at h
          rw [if_pos rfl]
          simp only [cond_true] at h
          rw [← (resS_ob (all := ops.toList) o s).1] at h
          exact op_real hT hc g.res h hK
        | false =>
          rw [hq] at h
          rw [if_neg (by simp)]
          exact skip h
      · rename_i vs hb
        have hs : s.tm t = .v (.tuple vs) := by
          cases hs : s.tm t with
          | v x => rw [hs] at hb; exact hb
          | b q => rw [hs] at hb; cases hb
          | _ => rw [hs] at hb; cases hb
        have := yielded_tuple (ops := ops) hdst (g.tup hs)
        rw [if_neg (by simp [Region.wanted, hg, this])]
        exact skip h
      · exact h.elim
    · exact h.elim

/-- The items of a list of operations. -/
def ancI (o : Oper) (acc : List It) : List Nat := edgesOf o ++ (acc.filter fun t => memN (edgesOf o) t.i).flatMap (·.anc)
def itemsOf : List Oper → List It → List It
  | [], _ => []
  | o :: r, acc => ⟨acc.length, o, ancI o acc⟩ :: itemsOf r (acc ++ [⟨acc.length, o, ancI o acc⟩])
def heOf (h : It × List Nat × List Nat) : HE := ⟨h.1.i, h.1.o, h.2.1, h.2.2, h.1.anc⟩
theorem anc_eq (o : Oper) : ∀ (H : List (It × List Nat × List Nat)), ancOf o (H.map heOf) = ancI o (H.map (·.1)) := by
  intro H
  unfold ancOf ancI
  congr 1
  induction H with
  | nil => rfl
  | cons h H ih =>
    simp only [List.map_cons, List.filter_cons]
    have e : memN (edgesOf o) (heOf h).i = memN (edgesOf o) h.1.i := rfl
    rw [e]
    cases memN (edgesOf o) h.1.i with
    | true => simp only [if_true, List.flatMap_cons, ih]; rfl
    | false => simpa using ih
theorem memN_mem {l : List Nat} {a : Nat} (h : memN l a = true) : a ∈ l := by
  obtain ⟨x, hx, e⟩ := List.any_eq_true.1 h
  rw [Nat.eq_of_beq_eq_true e]; exact hx
theorem free_ok {all : List Oper} {o : Oper} {rd wr : List Nat} {H : List (It × List Nat × List Nat)} {anc : List Nat} (h : freeOf all o rd wr (H.map heOf) anc = true) : ∀ q, q ∈ H → q.1.i ∈ anc ∨ Apart all q.1.o o q.2.1 q.2.2 rd wr := by
  intro q hq
  have := List.all_eq_true.1 h (heOf q) (List.mem_map.2 ⟨q, hq, rfl⟩)
  rw [Bool.or_eq_true] at this
  rcases this with h | h
  · exact .inl (memN_mem h)
  · exact .inr (apart_ok h)
theorem seq_of (ops : Array Oper) {K : St → Tree} {Φ : Nat → List AV → List Ob → Prop} : ∀ (rest : List Oper) (H : List (It × List Nat × List Nat)) (s : St), wpT P n (goOps T cfg n true ops.toList rest (H.map heOf) s K) Φ →
    Seq P T cfg n ops.toList (fun s => wpT P n (K s) Φ) (itemsOf rest (H.map (·.1))) H s
  | [], H, s, h => h
  | o :: rest, H, s, h => by
    have hlen : (H.map heOf).length = H.length := by simp
    have cont : ∀ (rd wr : List Nat) (s' : St), wpT P n (bif !true || ((edgesOf o).all (fun j => Nat.blt j (H.map heOf).length) && freeOf ops.toList o rd wr (H.map heOf) (ancOf o (H.map heOf))) then goOps T cfg n true ops.toList rest (H.map heOf ++ [⟨(H.map heOf).length, o, rd, wr, ancOf o (H.map heOf)⟩]) s' K else .fail) Φ →
        (∀ j, j ∈ edgesOf o → j < H.length) ∧ (∀ q, q ∈ H → q.1.i ∈ ancI o (H.map (·.1)) ∨ Apart ops.toList q.1.o o q.2.1 q.2.2 rd wr) ∧
        Seq P T cfg n ops.toList (fun s => wpT P n (K s) Φ) (itemsOf rest (H.map (·.1) ++ [⟨H.length, o, ancI o (H.map (·.1))⟩])) (H ++ [(⟨H.length, o, ancI o (H.map (·.1))⟩, rd, wr)]) s' := by
      intro rd wr s' h
      cases hq : (!true || ((edgesOf o).all (fun j => Nat.blt j (H.map heOf).length) && freeOf ops.toList o rd wr (H.map heOf) (ancOf o (H.map heOf)))) with
      | false => rw [hq] at h; exact h.elim
      | true =>
        rw [hq] at h
        simp only [Bool.not_true, Bool.false_or, Bool.and_eq_true, List.all_eq_true] at hq
        rw [anc_eq] at hq h
        refine ⟨fun j hj => by have := Nat.le_of_ble_eq_true (hq.1 j hj); rw [hlen] at this; exact this, free_ok hq.2, ?_⟩
        have := seq_of ops rest (H ++ [(⟨H.length, o, ancI o (H.map (·.1))⟩, rd, wr)]) s' (by
          rw [hlen] at h
          simpa [heOf] using h)
        simpa using this
    have hl1 : (H.map (·.1)).length = H.length := by simp
    have eit : itemsOf (o :: rest) (H.map (·.1)) = ⟨H.length, o, ancI o (H.map (·.1))⟩ :: itemsOf rest (H.map (·.1) ++ [⟨H.length, o, ancI o (H.map (·.1))⟩]) := by rw [itemsOf, hl1]
    rw [eit]
    have run : ∀ s1, s1 = resS ops.toList o s → gE T cfg ops.toList o s = opE T cfg (ev s1) s1.ob o → wpT P n (goOp T cfg n o s1 fun rd wr s' => bif !true || ((edgesOf o).all (fun j => Nat.blt j (H.map heOf).length) && freeOf ops.toList o rd wr (H.map heOf) (ancOf o (H.map heOf))) then goOps T cfg n true ops.toList rest (H.map heOf ++ [⟨(H.map heOf).length, o, rd, wr, ancOf o (H.map heOf)⟩]) s' K else .fail) Φ →
        Seq P T cfg n ops.toList (fun s => wpT P n (K s) Φ) (⟨H.length, o, ancI o (H.map (·.1))⟩ :: itemsOf rest (H.map (·.1) ++ [⟨H.length, o, ancI o (H.map (·.1))⟩])) H s := by
      intro s1 hs1 hgE h
      show effD P (gE T cfg ops.toList o s) _
      unfold goOp at h
      simp only [hgE, ← hs1]
      cases hE : opE T cfg (ev s1) s1.ob o with
      | no => rw [hE] at h; exact h
      | d p d =>
        rw [hE] at h
        cases hn : newOk s1 n o.dst d with
        | false => simp only [hn, cond_false] at h; exact h.elim
        | true =>
          simp only [hn, cond_true] at h
          cases p with
          | none => obtain ⟨c1, c2, c3⟩ := cont _ _ _ h; exact ⟨fun q hq => (by cases hq), hn, c1, c2, c3⟩
          | some q => obtain ⟨c1, c2, c3⟩ := cont _ _ _ h.2; exact ⟨fun q' hq => (by cases hq; exact h.1), hn, c1, c2, c3⟩
      | c f as ins wr k =>
        rw [hE] at h
        obtain ⟨R, h1, h2, h3⟩ := h
        refine ⟨R, h1, h2, fun r obs hr => ?_⟩
        obtain ⟨h4, h5⟩ := wpT_needs.1 (h3 r obs hr)
        cases hn : newOk s1 n o.dst (k r obs).2 with
        | false => simp only [hn, cond_false] at h5; exact h5.elim
        | true =>
          simp only [hn, cond_true] at h5
          obtain ⟨c1, c2, c3⟩ := cont _ _ _ h5
          exact ⟨h4, hn, c1, c2, c3⟩
    have skip : ∀ s1, s1 = resS ops.toList o s → gE T cfg ops.toList o s = .d none skipD → wpT P n (bif (match o.dst with | some t => Nat.blt t n | none => true) && (!true || ((edgesOf o).all (fun j => Nat.blt j (H.map heOf).length) && freeOf ops.toList o [] [] (H.map heOf) (ancOf o (H.map heOf)))) then goOps T cfg n true ops.toList rest (H.map heOf ++ [⟨(H.map heOf).length, o, [], [], ancOf o (H.map heOf)⟩]) (match o.dst with | some t => s1.set t (.v (.tuple #[])) | none => s1) K else .fail) Φ →
        Seq P T cfg n ops.toList (fun s => wpT P n (K s) Φ) (⟨H.length, o, ancI o (H.map (·.1))⟩ :: itemsOf rest (H.map (·.1) ++ [⟨H.length, o, ancI o (H.map (·.1))⟩])) H s := by
      intro s1 hs1 hgE h
      show effD P (gE T cfg ops.toList o s) _
      simp only [hgE, ← hs1]
      cases hd : (match o.dst with | some t => Nat.blt t n | none => true) with
      | false => simp only [hd, Bool.false_and, cond_false] at h; exact h.elim
      | true =>
        simp only [hd, Bool.true_and] at h
        obtain ⟨c1, c2, c3⟩ := cont [] [] _ h
        refine ⟨fun q hq => (by cases hq), newOk_iff.2 ⟨fun o ho => (by cases ho), rfl, hd⟩, c1, c2, ?_⟩
        rw [skip_app]
        exact c3
    unfold goOps at h
    simp only at h
    cases hg : o.guard with
    | none =>
      rw [hg] at h
      exact run s (resS_none hg s).symm (by unfold gE; rw [hg]) h
    | some gw =>
      obtain ⟨gi, want⟩ := gw
      rw [hg] at h
      simp only at h
      split at h
      · rename_i t hdst
        have hgt := guardTmp_eq hg hdst
        have hgEb : ∀ b, nb (s.tm t) = .v (.bool b) → gE T cfg ops.toList o s = bif b == want then opE T cfg (ev (resS ops.toList o s)) s.ob o else .d none skipD := by
          intro b hb
          unfold gE
          rw [hg]
          simp only [hdst, hb]
        split at h
        · rename_i e
          have hr : s = resS ops.toList o s := by rw [resS_eq hgt, e]
          have he := hgEb true (by rw [e]; rfl)
          rw [← hr] at he
          cases want with
          | true => exact run s hr he h
          | false => exact skip s hr he h
        · rename_i e
          have hr : s = resS ops.toList o s := by rw [resS_eq hgt, e]
          have he := hgEb false (by rw [e]; rfl)
          rw [← hr] at he
          cases want with
          | true => exact skip s hr he h
          | false => exact run s hr he h
        · rename_i vs e
          have hr : s = resS ops.toList o s := by rw [resS_eq hgt, e]
          refine skip s hr ?_ h
          unfold gE
          rw [hg]
          simp only [hdst, e, nb]
        · rename_i b e
          have hr : s.set t (.v (.bool b)) = resS ops.toList o s := by rw [resS_eq hgt, e]
          have he := hgEb b (by rw [e]; rfl)
          rw [← (resS_ob (all := ops.toList) o s).1, ← hr] at he
          obtain ⟨h1, h2⟩ := h
          cases b with
          | true =>
            cases want with
            | true => exact run _ hr he (h1 rfl)
            | false => exact skip _ hr he (h1 rfl)
          | false =>
            cases want with
            | true => exact skip _ hr he (h2 rfl)
            | false => exact run _ hr he (h2 rfl)
        · exact h.elim
      · exact h.elim
end
end Go.VL

namespace Go.VL
open Go Go.RowKit
section
variable {P : Program} {T : Tab} {cfg : Nat → FC} {n : Nat} {A : Amb}

theorem edges_mem {o : Oper} {j : Nat} : j ∈ edgesOf o ↔ ∃ e ∈ o.after, Region.binds .any e = true ∧ e.on = j := by
  unfold edgesOf
  rw [List.mem_filterMap]
  constructor
  · rintro ⟨e, he, h⟩
    refine ⟨e, by simpa using he, ?_⟩
    cases hg : e.ground <;> rw [hg] at h <;> simp only [Option.some.injEq, reduceCtorEq] at h <;> first | (cases h; done) | exact ⟨by simp [Region.binds, hg], h⟩
  · rintro ⟨e, he, hb, rfl⟩
    refine ⟨e, by simpa using he, ?_⟩
    cases hg : e.ground <;> simp [Region.binds, hg] at hb ⊢
theorem items_get : ∀ (l : List Oper) (acc : List It) (k : Nat) (o : Oper), l[k]? = some o → ∃ t, t ∈ itemsOf l acc ∧ t.i = acc.length + k ∧ t.o = o
  | [], acc, k, o, h => by simp at h
  | x :: l, acc, 0, o, h => by
    simp only [List.getElem?_cons_zero, Option.some.injEq] at h
    exact ⟨_, List.mem_cons_self, rfl, h⟩
  | x :: l, acc, k + 1, o, h => by
    obtain ⟨t, h1, h2, h3⟩ := items_get l (acc ++ [⟨acc.length, x, ancI x acc⟩]) k o (by simpa using h)
    exact ⟨t, List.mem_cons_of_mem _ h1, by rw [h2]; simp; omega, h3⟩
theorem items_of : ∀ (l : List Oper) (acc : List It) (t : It), t ∈ itemsOf l acc → ∃ k, l[k]? = some t.o ∧ t.i = acc.length + k
  | [], acc, t, h => by cases h
  | x :: l, acc, t, h => by
    rcases List.mem_cons.1 h with rfl | h
    · exact ⟨0, rfl, rfl⟩
    · obtain ⟨k, h1, h2⟩ := items_of l _ t h
      exact ⟨k + 1, by simpa using h1, by rw [h2]; simp; omega⟩
theorem items_sorted : ∀ (l : List Oper) (acc : List It), (itemsOf l acc).Pairwise fun x y => x.i < y.i
  | [], acc => List.Pairwise.nil
  | x :: l, acc => by
    refine List.Pairwise.cons (fun y hy => ?_) (items_sorted l _)
    obtain ⟨k, _, h2⟩ := items_of l _ y hy
    rw [h2]; simp; omega
theorem items_anc : ∀ (l : List Oper) (acc : List It) (t : It), t ∈ itemsOf l acc → ∀ j, j ∈ t.anc → j ∈ edgesOf t.o ∨ ∃ t', (t' ∈ acc ∨ t' ∈ itemsOf l acc) ∧ t'.i ∈ edgesOf t.o ∧ j ∈ t'.anc
  | [], acc, t, h => by cases h
  | x :: l, acc, t, h => by
    intro j hj
    rcases List.mem_cons.1 h with rfl | h
    · rcases List.mem_append.1 hj with hj | hj
      · exact .inl hj
      · obtain ⟨t', h1, h2⟩ := List.mem_flatMap.1 hj
        obtain ⟨h3, h4⟩ := List.mem_filter.1 h1
        exact .inr ⟨t', .inl h3, memN_mem h4, h2⟩
    · rcases items_anc l _ t h j hj with h1 | ⟨t', h1, h2, h3⟩
      · exact .inl h1
      · refine .inr ⟨t', ?_, h2, h3⟩
        rcases h1 with h1 | h1
        · rcases List.mem_append.1 h1 with h1 | h1
          · exact .inl h1
          · exact .inr (by rw [List.mem_singleton.1 h1]; exact List.mem_cons_self)
        · exact .inr (List.mem_cons_of_mem _ h1)
theorem getD_ft {listed : Array Bool} {i : Nat} (h : listed.getD i true = false) : listed.getD i false = false := by
  by_cases hi : i < listed.size
  · simpa [hi] using h
  · simp [show listed.size ≤ i by omega] at h
theorem any_ok (hT : TabOk P T) (hc : ∀ f, cfg f = {}) {ops : Array Oper} {Ψ : St → Prop} {Q : Exit → Act → World → Prop} (hK : ∀ s a w, GamE n A s a w → Ψ s → Q .normal a w) :
    ∀ (fuel : Nat) (listed : Array Bool) (L : List It) (s : St) (a : Act) (w : World), L.length ≤ fuel → listed.size = ops.size → (∀ t, t ∈ L → t ∈ itemsOf ops.toList [] ∧ listed.getD t.i true = false) → (∀ t, t ∈ itemsOf ops.toList [] → t ∉ L → listed.getD t.i false = true) →
      L.Pairwise (fun x y => x.i < y.i) → (∀ t, t ∈ itemsOf ops.toList [] → listed.getD t.i false = true → ∀ j, j ∈ t.anc → listed.getD j false = true) → GamE n A s a w → Seq P T cfg n ops.toList Ψ L [] s → wpAny P .any ops Q fuel listed a w := by
  have item : ∀ j o, ops[j]? = some o → ∃ t, t ∈ itemsOf ops.toList [] ∧ t.i = j ∧ t.o = o := fun j o h => by
    obtain ⟨t, h1, h2, h3⟩ := items_get ops.toList [] j o (by simpa using h)
    exact ⟨t, h1, by simpa using h2, h3⟩
  have opOf : ∀ t, t ∈ itemsOf ops.toList [] → ops[t.i]? = some t.o := fun t ht => by
    obtain ⟨k, h1, h2⟩ := items_of ops.toList [] t ht
    rw [h2]; simpa using h1
  have done : ∀ (listed : Array Bool) (L : List It) (s : St) (a : Act) (w : World), (∀ t, t ∈ L → t ∈ itemsOf ops.toList [] ∧ listed.getD t.i true = false) → (∀ t, t ∈ itemsOf ops.toList [] → t ∉ L → listed.getD t.i false = true) →
      L.Pairwise (fun x y => x.i < y.i) → GamE n A s a w → Seq P T cfg n ops.toList Ψ L [] s → Region.ready .any ops listed = [] → Q .normal a w := by
    intro listed L s a w h1 h2 h3 g h hr
    cases L with
    | nil => exact hK s a w g h
    | cons t L =>
      exfalso
      obtain ⟨ht, hu⟩ := h1 t List.mem_cons_self
      have hb := Seq.back hc [] (L2 := L) h (fun x hx => by cases hx)
      have : t.i ∈ Region.ready .any ops listed := by
        rw [mem_ready]
        refine ⟨hu, t.o, opOf t ht, fun e he hbd => ?_⟩
        have hlt := hb.2.1 e.on (edges_mem.2 ⟨e, he, hbd, rfl⟩)
        have hsz : t.i < ops.size := (Array.getElem?_eq_some_iff.1 (opOf t ht)).1
        obtain ⟨t', q1, q2, _⟩ := item e.on ops[e.on] (Array.getElem?_eq_getElem (by omega))
        rw [← q2]
        refine h2 t' q1 fun hh => ?_
        rcases List.mem_cons.1 hh with rfl | hh
        · omega
        · have := (List.pairwise_cons.1 h3).1 t' hh; omega
      rw [hr] at this; cases this
  intro fuel
  induction fuel with
  | zero =>
    intro listed L s a w hl hs h1 h2 h3 h4 g h
    have : L = [] := List.length_eq_zero_iff.1 (by omega)
    subst this
    refine ⟨?_, hK s a w g h⟩
    cases hr : Region.ready .any ops listed with
    | nil => rfl
    | cons j js =>
      exfalso
      have hj : j ∈ Region.ready .any ops listed := by rw [hr]; exact List.mem_cons_self
      obtain ⟨hu, o, ho, _⟩ := mem_ready.1 hj
      obtain ⟨t, q1, q2, _⟩ := item j o ho
      have := h2 t q1 (by simp)
      rw [q2, getD_ft hu] at this; cases this
  | succ fuel ih =>
    intro listed L s a w hl hs h1 h2 h3 h4 g h
    refine ⟨done listed L s a w h1 h2 h3 g h, fun j hj => ?_⟩
    obtain ⟨hu, o, ho, hall⟩ := mem_ready.1 hj
    obtain ⟨t, q1, q2, q3⟩ := item j o ho
    subst q2; subst q3
    have htL : t ∈ L := by
      by_cases hh : t ∈ L
      · exact hh
      · have := h2 t q1 hh
        rw [getD_ft hu] at this; cases this
    obtain ⟨L1, L2, rfl⟩ := List.append_of_mem htL
    have hedge : ∀ j, j ∈ edgesOf t.o → listed.getD j false = true := fun j hj => by
      obtain ⟨e, he, hb, rfl⟩ := edges_mem.1 hj
      exact hall e he hb
    have hanc : ∀ j, j ∈ t.anc → listed.getD j false = true := fun j hj => by
      rcases items_anc ops.toList [] t q1 j hj with hh | ⟨t', hh, r1, r2⟩
      · exact hedge j hh
      · rcases hh with hh | hh
        · cases hh
        · exact h4 t' hh (hedge _ r1) j r2
    have hpull := Seq.pull hc L1 h fun x hx hx' => by
      have := hanc _ hx'
      rw [getD_ft (h1 x (List.mem_append_left _ hx)).2] at this; cases this
    have hlt : t.i < listed.size := by rw [hs]; exact (Array.getElem?_eq_some_iff.1 (opOf t q1)).1
    obtain ⟨p1, p2, p3⟩ := List.pairwise_append.1 h3
    have p2' := List.pairwise_cons.1 p2
    have hne : ∀ x, x ∈ L1 ++ L2 → x.i ≠ t.i := fun x hx => by
      rcases List.mem_append.1 hx with hx | hx
      · have := p3 x hx t List.mem_cons_self; omega
      · have := p2'.1 x hx; omega
    have next := g_real hT hc g hpull (Kw := wpAny P .any ops Q fuel (listed.setIfInBounds t.i true)) (Qw := Q) fun s' a' w' g' hY =>
      ih (listed.setIfInBounds t.i true) (L1 ++ L2) s' a' w' (by simp at hl ⊢; omega) (by simpa using hs)
        (fun x hx => by
          obtain ⟨r1, r2⟩ := h1 x (by
            rcases List.mem_append.1 hx with hx | hx
            · exact List.mem_append_left _ hx
            · exact List.mem_append_right _ (List.mem_cons_of_mem _ hx))
          exact ⟨r1, by rw [getD_set_ne true (Ne.symm (hne x hx))]; exact r2⟩)
        (fun x hx hn => by
          by_cases e : x.i = t.i
          · rw [e]; simp [hlt]
          · rw [getD_set_ne false (Ne.symm e)]
            refine h2 x hx fun hh => ?_
            rcases List.mem_append.1 hh with hh | hh
            · exact hn (List.mem_append_left _ hh)
            · rcases List.mem_cons.1 hh with rfl | hh
              · exact e rfl
              · exact hn (List.mem_append_right _ hh))
        (List.pairwise_append.2 ⟨p1, p2'.2, fun x hx y hy => p3 x hx y (List.mem_cons_of_mem _ hy)⟩)
        (fun x hx hlx jj hja => by
          by_cases e : x.i = t.i
          · have : x = t := by
              by_cases hxL : x ∈ L1 ++ t :: L2
              · rcases List.mem_append.1 hxL with hh | hh
                · exact absurd e (hne x (List.mem_append_left _ hh))
                · rcases List.mem_cons.1 hh with rfl | hh
                  · rfl
                  · exact absurd e (hne x (List.mem_append_right _ hh))
              · have := h2 x hx hxL
                rw [e, getD_ft hu] at this; cases this
            subst this
            exact getD_set_true (hanc jj hja)
          · rw [getD_set_ne false (Ne.symm e)] at hlx
            exact getD_set_true (h4 x hx hlx jj hja)) g' hY
    unfold wpOp
    rw [opOf t q1]
    simp only
    by_cases hw : Region.wanted t.o (yielded ops a.tmps) = true
    · rw [if_pos hw] at next ⊢; exact .inl next
    · rw [if_neg hw] at next ⊢; exact next
theorem reg_ok (hT : TabOk P T) (hc : ∀ f, cfg f = {}) (hm : P.follows .mixedOrders = true) (Φ : Nat → List AV → List Ob → Prop) : RegOk P n A T cfg Φ := by
  intro id ops draw K Q hK s a w g h
  cases draw with
  | false => exact wp_region_list (ops_ok hT hc hK ops.toList [] s a w g h)
  | true =>
    refine wp_region_any hm ?_
    have hs := seq_of (H := []) ops ops.toList s h
    obtain ⟨M, β, g⟩ := g
    have g' : GamE n A s a { w with drawn := w.drawn + 1 } := ⟨M, β, { g with agree := g.agree, own := fun o x hx => (g.own o x hx).mono (Mem.le.refl _) (Lo.le.refl _) fun b hl hb => ⟨rfl, (g.own o x hx).noM hl hb⟩, keep := g.keep.trans_same rfl rfl rfl (Nat.le_refl _) fun _ _ _ => rfl }⟩
    refine any_ok hT hc (Ψ := fun s => wpT P n (K s) Φ) hK ops.size _ _ s a _ ?_ (by simp) (fun t ht => ⟨ht, ?_⟩) (fun t ht hn => absurd ht hn) (items_sorted _ _) (fun t ht hl => ?_) g' hs
    · have : ∀ (l : List Oper) (acc : List It), (itemsOf l acc).length = l.length := fun l => by
        induction l with
        | nil => intro acc; rfl
        | cons x l ih => intro acc; simp [itemsOf, ih]
      rw [this]; simp
    · obtain ⟨k, h1, h2⟩ := items_of ops.toList [] t ht
      have : t.i < ops.size := by
        rw [h2]
        have := (List.getElem?_eq_some_iff.1 h1).1
        simpa using this
      simp [this]
    · exfalso
      obtain ⟨k, h1, h2⟩ := items_of ops.toList [] t ht
      by_cases hi : t.i < ops.size
      · simp [hi] at hl
      · simp [show ops.size ≤ t.i by omega] at hl
end
end Go.VL

/-
  The two rules in use: a function is as its tree says; a loop is as one more round of it says.
-/
namespace Go.VL
open Go Go.RowKit
theorem tabOk_of {P : Program} : ∀ {l : List (Nat × TI)}, (l.all fun p => !p.2.kn || p.2.chk P p.1) = true → TabOk P (lookT l)
  | [], _, t, h => by cases h
  | (j, m) :: r, hl, t, h => by
    simp only [List.all_cons, Bool.and_eq_true, Bool.or_eq_true, Bool.not_eq_true'] at hl
    unfold lookT at h ⊢
    cases e : Nat.beq j t with
    | true =>
      simp only [e, cond_true] at h ⊢
      have := Nat.eq_of_beq_eq_true e
      subst this
      rcases hl.1 with h1 | h1
      · rw [h1] at h; cases h
      · exact chk_ok h1
    | false =>
      simp only [e, cond_false] at h ⊢
      exact tabOk_of hl.2 t h
section
variable {P : Program} {T : Tab} {cfg : Nat → FC} {lis : List (Nat × LI)}

theorem FSpec.of (hT : TabOk P T) (hc : ∀ f, cfg f = {}) (hm : P.follows .mixedOrders = true) {f : Nat} {F : Func} {as : List AV} {R : AV → List Ob → Prop} (hf : P.funcs[f]? = some F) (hnm : (F.name == "runtime.NumGoroutine") = false)
    (h : wpT P F.ntmps (main T cfg lis {} F as []) fun _ xs obs => R (xs.headD .any) obs) : FSpec P f as [] R :=
  main_ok hT hf hnm (fun A => reg_ok hT hc hm _) h
theorem LSpec.of (hT : TabOk P T) (hc : ∀ f, cfg f = {}) (hm : P.follows .mixedOrders = true) {n : Nat} {c : Code} {li : LI} {xs : List AV} {obs : List Ob} {R : Nat → List AV → List Ob → Prop}
    (h : wpT P n (round T cfg n lis c li xs obs) fun tag ys o => (tag = 0 → LSpec P n c li ys o R) ∧ (tag = 1 → R 1 ys o) ∧ (tag = 2 → R 2 ys o)) : LSpec P n c li xs obs R :=
  LSpec.step (fun A => reg_ok hT hc hm _) h
theorem FSpec.mono {f : Nat} {as : List AV} {ins : List Ob} {R R' : AV → List Ob → Prop} (h : FSpec P f as ins R) (hr : ∀ r obs, R r obs → R' r obs) : FSpec P f as ins R' :=
  ⟨h.1, fun w M β vs hin => Calls.mono (h.2 w M β vs hin) fun e w' ⟨v, r, obs, M', β', he, hR, ho⟩ => ⟨v, r, obs, M', β', he, hr r obs hR, ho⟩⟩
end
end Go.VL

/-
  The rules in use: calls and loops whose results are told.
-/
namespace Go.VL
open Go Go.RowKit
section
variable {P : Program} {n : Nat} {Q : Nat → List AV → List Ob → Prop}
abbrev Det (v : AV) : AV → List Ob → Prop := fun r o => r = v ∧ o = []
abbrev LIs (t : Nat) (ys : List AV) (o : List Ob) : Nat → List AV → List Ob → Prop := fun t' ys' o' => t' = t ∧ ys' = ys ∧ o' = o
theorem wp_call {f : Nat} {as : List AV} {ins : List Ob} {k : AV → List Ob → Tree} {R : AV → List Ob → Prop} (h : FSpec P f as ins R) (hne : ∃ r o, R r o) (hk : ∀ r o, R r o → wpT P n (k r o) Q) : wpT P n (.call f as ins k) Q := ⟨R, h, hne, hk⟩
theorem wp_det {f : Nat} {as : List AV} {k : AV → List Ob → Tree} {v : AV} (h : FSpec P f as [] (Det v)) (hk : wpT P n (k v []) Q) : wpT P n (.call f as [] k) Q :=
  ⟨Det v, h, ⟨v, [], rfl, rfl⟩, fun r o ⟨h1, h2⟩ => by rw [h1, h2]; exact hk⟩
theorem wp_loop {c : Code} {li : LI} {xs : List AV} {obs : List Ob} {kx kr : List AV → List Ob → Tree} {R : Nat → List AV → List Ob → Prop} (h : LSpec P n c li xs obs R) (h1 : ∀ ys o, R 1 ys o → wpT P n (kx ys o) Q) (h2 : ∀ ys o, R 2 ys o → wpT P n (kr ys o) Q) : wpT P n (.loop c li xs obs kx kr) Q := ⟨R, h, h1, h2⟩
theorem wp_loop1 {c : Code} {li : LI} {xs : List AV} {obs : List Ob} {kx kr : List AV → List Ob → Tree} {ys : List AV} {o : List Ob} (h : LSpec P n c li xs obs (LIs 1 ys o)) (h1 : wpT P n (kx ys o) Q) : wpT P n (.loop c li xs obs kx kr) Q :=
  ⟨_, h, fun ys' o' ⟨_, e1, e2⟩ => by rw [e1, e2]; exact h1, fun ys' o' ⟨e, _⟩ => by cases e⟩
theorem wp_loop2 {c : Code} {li : LI} {xs : List AV} {obs : List Ob} {kx kr : List AV → List Ob → Tree} {ys : List AV} {o : List Ob} (h : LSpec P n c li xs obs (LIs 2 ys o)) (h1 : wpT P n (kr ys o) Q) : wpT P n (.loop c li xs obs kx kr) Q :=
  ⟨_, h, fun ys' o' ⟨e, _⟩ => (by cases e), fun ys' o' ⟨_, e1, e2⟩ => by rw [e1, e2]; exact h1⟩
theorem wp_test {b : Bool} {y t : Tree} (h1 : b = true → wpT P n y Q) (h2 : b = false → wpT P n t Q) : wpT P n (.test b y t) Q := ⟨h1, h2⟩
theorem wp_need {p : Prop} {t : Tree} (h1 : p) (h2 : wpT P n t Q) : wpT P n (.need p t) Q := ⟨h1, h2⟩
theorem wp_done {tag : Nat} {xs : List AV} {o : List Ob} (h : Q tag xs o) : wpT P n (.done tag xs o) Q := h
end
abbrev LBy (x : Nat × List AV × List Ob) : Nat → List AV → List Ob → Prop := fun t ys o => (t, ys, o) = x
theorem wp_loopB {P : Program} {n : Nat} {Q : Nat → List AV → List Ob → Prop} {c : Code} {li : LI} {xs : List AV} {obs : List Ob} {kx kr : List AV → List Ob → Tree} {x : Nat × List AV × List Ob} (h : LSpec P n c li xs obs (LBy x)) (h1 : ∀ ys o, x = (1, ys, o) → wpT P n (kx ys o) Q) (h2 : ∀ ys o, x = (2, ys, o) → wpT P n (kr ys o) Q) : wpT P n (.loop c li xs obs kx kr) Q :=
  ⟨_, h, fun ys o e => h1 ys o e.symm, fun ys o e => h2 ys o e.symm⟩
/-- What is asked at the end of a round. -/
def Rnd (L : List AV → List Ob → Prop) (R : Nat → List AV → List Ob → Prop) : Nat → List AV → List Ob → Prop := fun tag ys o => (tag = 0 → L ys o) ∧ (tag = 1 → R 1 ys o) ∧ (tag = 2 → R 2 ys o)
theorem step0 {L : List AV → List Ob → Prop} {R : Nat → List AV → List Ob → Prop} {ys : List AV} {o : List Ob} : Rnd L R 0 ys o = L ys o := by simp [Rnd]
theorem step1 {L : List AV → List Ob → Prop} {R : Nat → List AV → List Ob → Prop} {ys : List AV} {o : List Ob} : Rnd L R 1 ys o = R 1 ys o := by simp [Rnd]
theorem step2 {L : List AV → List Ob → Prop} {R : Nat → List AV → List Ob → Prop} {ys : List AV} {o : List Ob} : Rnd L R 2 ys o = R 2 ys o := by simp [Rnd]
section
variable {P : Program} {n : Nat} {Q : Nat → List AV → List Ob → Prop}
theorem w_test {b : Bool} {y t : Tree} : wpT P n (.test b y t) Q = ((b = true → wpT P n y Q) ∧ (b = false → wpT P n t Q)) := rfl
theorem w_testd {p : Prop} [Decidable p] {y t : Tree} : wpT P n (.test (decide p) y t) Q = ((p → wpT P n y Q) ∧ (¬ p → wpT P n t Q)) := by
  show ((decide p = true → _) ∧ (decide p = false → _)) = _
  rw [decide_eq_true_eq, decide_eq_false_iff_not]
theorem w_testn {b : Bool} {y t : Tree} : wpT P n (.test (!b) y t) Q = ((b = false → wpT P n y Q) ∧ (b = true → wpT P n t Q)) := by
  show (((!b) = true → _) ∧ ((!b) = false → _)) = _
  rw [Bool.not_eq_true', Bool.not_eq_false']
theorem w_teste {α : Type} [BEq α] {a b : α} {y t : Tree} : wpT P n (.test (a == b) y t) Q = (((a == b) = true → wpT P n y Q) ∧ ((a == b) = false → wpT P n t Q)) := rfl
theorem w_testne {α : Type} [BEq α] {a b : α} {y t : Tree} : wpT P n (.test (a != b) y t) Q = (((a != b) = true → wpT P n y Q) ∧ ((a != b) = false → wpT P n t Q)) := rfl
theorem w_testb {a : AV} {y t : Tree} : wpT P n (.test a.toBool y t) Q = ((a.toBool = true → wpT P n y Q) ∧ (a.toBool = false → wpT P n t Q)) := rfl
theorem w_testi {a : AV} {y t : Tree} : wpT P n (.test a.isNil y t) Q = ((a.isNil = true → wpT P n y Q) ∧ (a.isNil = false → wpT P n t Q)) := rfl
theorem w_need {p : Prop} {t : Tree} : wpT P n (.need p t) Q = (p ∧ wpT P n t Q) := rfl
theorem w_done {tag : Nat} {xs : List AV} {o : List Ob} : wpT P n (.done tag xs o) Q = Q tag xs o := rfl
end
theorem has_int (k : IntKind) (n : Int) : LK.has (.int k) (.v (.int k n)) = True := eq_true ⟨n, rfl⟩
theorem has_bool (b : Bool) : LK.has .bool (.v (.bool b)) = True := eq_true ⟨b, rfl⟩
theorem has_str (s : ByteArray) : LK.has .str (.v (.string s)) = True := eq_true ⟨s, rfl⟩
theorem has_sl (es : List (List AV)) : LK.has .sl (.sl es) = True := eq_true (.inr ⟨es, rfl⟩)
theorem has_slnil : LK.has .sl (.v (.slice none 0 0)) = True := eq_true (.inl rfl)
theorem has_ptr (cs : List AV) : LK.has .ptr (.ptr cs) = True := eq_true (.inr (.inl ⟨cs, rfl⟩))
theorem has_nil : LK.has .ptr (.v (.pointer none)) = True := eq_true (.inl rfl)
theorem toInt_v (k : IntKind) (n : Int) : (AV.v (.int k n)).toInt = n := rfl
theorem toStr_v (b : ByteArray) : (AV.v (.string b)).toStr = b := rfl
theorem toBool_v (b : Bool) : (AV.v (.bool b)).toBool = b := rfl
theorem comp_tup (cs : List AV) (i : Nat) : (AV.tup cs).comp i = cs.getD i .any := rfl
theorem elems_sl (es : List (List AV)) : (AV.sl es).elems = es := rfl
theorem elems_nil : (AV.v (.slice none 0 0)).elems = [] := rfl
theorem deref_ptr (cs : List AV) : (AV.ptr cs).deref = cs := rfl
theorem isNil_ptr (cs : List AV) : (AV.ptr cs).isNil = false := rfl
theorem isNil_nil : (AV.v (.pointer none)).isNil = true := rfl
theorem cs_agg (cs : List AV) : (AV.agg cs).cs = cs := rfl
theorem cs_cells (cs : List AV) : (Ob.cells cs).cs = cs := rfl
theorem es_vec (z : Nat) (es : List (List AV)) : (Ob.vec z es).es = es := rfl
theorem wrap64 (n : Int) (h : -9223372036854775808 ≤ n) (h' : n < 9223372036854775808) : IntKind.wrap .i64 n = n := by
  simp [IntKind.wrap, IntKind.signed, IntKind.bits]; omega

/-! ### Arguments as a caller has them -/
def Up (a' a : AV) : Prop := ∀ M β v, Rep M β a' v → Rep M β a v
theorem up_refl (a : AV) : Up a a := fun _ _ _ h => h
theorem up_sl {a : AV} (h : LK.sl.has a) : Up a (.x a) := fun M β v hr => .x _ _ _ (one_sl hr h) (has_noLo hr h)
theorem up_ptr {a : AV} (h : LK.ptr.has a) : Up a (.x a) := fun M β v hr => .x _ _ _ (one_ptr hr h) (has_noLo hr h)
theorem up_oth {a : AV} (h : LK.oth.has a) : Up a (.x a) := fun M β v hr => .x _ _ _ (one_oth hr h) (has_noLo hr h)
theorem up_b (b : Bool) : Up (.v (.bool b)) (.b b) := fun M β v hr => by cases hr; exact .b _ _
def UpL : List AV → List AV → Prop
  | [], [] => True
  | a :: as, b :: bs => Up a b ∧ UpL as bs
  | _, _ => False
theorem up_nil : UpL [] [] := trivial
theorem up_cons {a b : AV} {as bs : List AV} (h : Up a b) (hs : UpL as bs) : UpL (a :: as) (b :: bs) := ⟨h, hs⟩
theorem UpL.get : ∀ {as bs : List AV}, UpL as bs → as.length = bs.length ∧ ∀ i, i < bs.length → Up (as.getD i .any) (bs.getD i .any)
  | [], [], _ => ⟨rfl, fun i hi => by cases hi⟩
  | a :: as, b :: bs, h => by
    obtain ⟨h1, h2⟩ := UpL.get h.2
    refine ⟨by simp [h1], fun i hi => ?_⟩
    cases i with
    | zero => simpa using h.1
    | succ i => simpa using h2 i (by simpa using hi)
  | [], _ :: _, h => h.elim
  | _ :: _, [], h => h.elim
theorem up_agg {as bs : List AV} (h : UpL as bs) : Up (.agg as) (.agg bs) := fun M β v hr => by
  obtain ⟨vs, rfl, hl, hr, ho⟩ := rep_agg hr
  obtain ⟨h1, h2⟩ := h.get
  exact .agg _ _ _ (by omega) (fun i hi => ho i (by omega)) fun i hi => h2 i hi M β _ (hr i (by omega))
theorem FSpec.up {P : Program} {f : Nat} {as bs : List AV} {ins : List Ob} {R : AV → List Ob → Prop} (h : UpL as bs) (hf : FSpec P f bs ins R) : FSpec P f as ins R :=
  ⟨hf.1, fun w M β vs hin => hf.2 w M β vs { hin with len := by rw [hin.len, h.get.1], rep := fun i hi => h.get.2 i hi _ _ _ (hin.rep i (by rw [h.get.1]; exact hi)) }⟩
end Go.VL

/-
  From a row's arguments to abstract values; from a law's contract to the row's last step.
-/
namespace Go.VL
open Go Go.RowKit Go.WideShapes Go.ChangeShapes

/-- All cells of the world. -/
def memOf (w : World) : Mem where
  c b k := match w.cell? ⟨b, k, none⟩ with | some v => if v.oneCell' = true then some v else none | none => none
  one b k v h := by
    split at h
    · split at h
      · cases h; assumption
      · cases h
    · cases h
theorem memOf_agree (w : World) : Agree (memOf w) w := fun b k v h => by
  simp only [memOf] at h
  split at h
  · split at h
    · cases h; assumption
    · cases h
  · cases h
theorem memOf_c {w : World} {b k : Nat} {v : Value} (h : w.cell? ⟨b, k, none⟩ = some v) (ho : v.oneCell' = true) : (memOf w).c b k = some v := by
  simp only [memOf, h, ho, if_true]

/-- Cells that are numbers, bools, strings. -/
def scalOk : LK → Value → Prop
  | .int k, v => ∃ n, v = .int k n ∧ (Lit.int k n).wf = true
  | .bool, v => ∃ b, v = .bool b
  | .str, v => ∃ s, v = .string s ∧ s.size ≤ maxLen
  | _, _ => False
theorem scalOk_one {k : LK} {v : Value} (h : scalOk k v) : v.oneCell' = true := by
  cases k <;> first | exact h.elim | skip
  · obtain ⟨n, rfl, _⟩ := h; rfl
  · obtain ⟨n, rfl⟩ := h; rfl
  · obtain ⟨n, rfl, _⟩ := h; rfl
def scalFs (f : TypeId → Option (List LK)) (P : Program) : List Field → Nat → Option (List LK)
  | [], _ => some []
  | fd :: r, off => if fd.offset = off then match f fd.type, scalFs f P r (off + P.cellsOf fd.type) with
      | some ks, some ks' => if ks.length = P.cellsOf fd.type then some (ks ++ ks') else none
      | _, _ => none else none
def scal (P : Program) : Nat → TypeId → Option (List LK)
  | 0, _ => none
  | n + 1, t => match P.underlying t with
    | some (.int k) => some [.int k]
    | some .bool => some [.bool]
    | some .string => some [.str]
    | some (.struct fs) => match scalFs (scal P n) P fs.toList 0 with
      | some ks => if ks.length = P.cellsOf t then some ks else none
      | none => none
    | _ => none
section
variable {H : Type} {enc : TypeId × Value → H} {P : Program} {w : World} {base : Nat} {spare : Nat → Bool} {held : Bool}
theorem scalFs_ok {f : TypeId → Option (List LK)} {m : Nat} {cs : List Value}
    (hf : ∀ t ks cs' x, f t = some ks → DataW.trod enc P w base spare held m t cs' = some x → cs'.length = ks.length ∧ ∀ i, i < ks.length → scalOk (ks.getD i .oth) (cs'.getD i undef)) :
    ∀ (fs : List Field) (off : Nat) (ks : List LK), scalFs f P fs off = some ks → (∀ fd, fd ∈ fs → ∃ x, DataW.trod enc P w base spare held m fd.type ((cs.drop fd.offset).take (P.cellsOf fd.type)) = some x) → ∀ i, i < ks.length → scalOk (ks.getD i .oth) (cs.getD (off + i) undef)
  | [], off, ks, h, hx, i, hi => by cases h; simp at hi
  | fd :: r, off, ks, h, hx, i, hi => by
    unfold scalFs at h
    split at h
    · rename_i ho
      split at h
      · rename_i ks1 ks2 h1 h2
        split at h
        · rename_i hl
          cases h
          obtain ⟨x, hx1⟩ := hx fd List.mem_cons_self
          obtain ⟨q1, q2⟩ := hf _ _ _ _ h1 hx1
          by_cases hi' : i < ks1.length
          · have := q2 i hi'
            have e1 : (ks1 ++ ks2).getD i .oth = ks1.getD i .oth := by simp [List.getD_eq_getElem?_getD, List.getElem?_append_left hi']
            have e2 : ((cs.drop fd.offset).take (P.cellsOf fd.type)).getD i undef = cs.getD (off + i) undef := by
              simp [List.getD_eq_getElem?_getD, List.getElem?_take, List.getElem?_drop, ho, show i < P.cellsOf fd.type by omega]
            rw [e1, ← e2]; exact this
          · have := scalFs_ok hf r _ _ h2 (fun g hg => hx g (List.mem_cons_of_mem _ hg)) (i - ks1.length) (by simp at hi; omega)
            have e1 : (ks1 ++ ks2).getD i .oth = ks2.getD (i - ks1.length) .oth := by simp [List.getD_eq_getElem?_getD, List.getElem?_append_right (show ks1.length ≤ i by omega)]
            rw [e1]
            rw [show off + P.cellsOf fd.type + (i - ks1.length) = off + i by omega] at this
            exact this
        · cases h
      · cases h
    · cases h
theorem scal_ok : ∀ (n : Nat) (t : TypeId) (ks : List LK) {m : Nat} {cs : List Value} {x : DataW H × List MemPlace}, scal P n t = some ks → DataW.trod enc P w base spare held m t cs = some x → cs.length = ks.length ∧ ∀ i, i < ks.length → scalOk (ks.getD i .oth) (cs.getD i undef)
  | 0, t, ks, m, cs, x, h, hx => by cases h
  | n + 1, t, ks, m, cs, x, h, hx => by
    unfold scal at h
    split at h
    · rename_i k hu
      cases h
      obtain ⟨z, rfl, _, hw⟩ := DataW.trod_int hu hx
      refine ⟨rfl, fun i hi => ?_⟩
      have : i = 0 := by simpa using hi
      subst this
      exact ⟨z, rfl, hw⟩
    · rename_i hu
      cases h
      obtain ⟨z, rfl, _⟩ := DataW.trod_bool hu hx
      refine ⟨rfl, fun i hi => ?_⟩
      have : i = 0 := by simpa using hi
      subst this
      exact ⟨z, rfl⟩
    · rename_i hu
      cases h
      obtain ⟨z, rfl, _, hw⟩ := DataW.trod_string hu hx
      refine ⟨rfl, fun i hi => ?_⟩
      have : i = 0 := by simpa using hi
      subst this
      exact ⟨z, rfl, hw⟩
    · rename_i fs hu
      split at h
      · rename_i ks' hs
        split at h
        · rename_i hl
          cases h
          obtain ⟨xs, m', rfl, _, h1, h2, h3⟩ := DataW.trod_struct hu hx
          refine ⟨by omega, fun i hi => ?_⟩
          have := scalFs_ok (m := m') (cs := cs) (fun t ks cs' x h1 h2 => scal_ok n t ks h1 h2) fs.toList 0 ks hs (fun fd hfd => by
            obtain ⟨j, hj, e⟩ := List.getElem_of_mem hfd
            have hj' : j < fs.size := by simpa using hj
            have e' : fs[j]? = some fd := by simp [hj', ← e]
            have h4 := h3 j fd e'
            rw [List.getElem?_eq_getElem (by omega)] at h4
            exact ⟨_, h4⟩) i hi
          simpa using this
        · cases h
      · cases h
    · cases h

/-- An argument that is a slice of such elements. -/
theorem arg_slice {r : Reach} {b0 : Nat} {t e : TypeId} {n : Nat} {ks : List LK} {v : Value} {d : DataW H} {ps : List MemPlace} (ht : P.underlying t = some (.slice e)) (hs : scal P n e = some ks) (hc : P.cellsOf e = ks.length)
    (hval : Value.okWide P w r b0 t v) (hd : DataW.Trod enc P w base (fun _ => true) held t v d ps) :
    ∃ a, Rep (memOf w) noLo a v ∧ (a = .v (.slice none 0 0) ∨ ∃ es, a = .sl es ∧ es.length ≤ maxLen ∧ ∀ c, c ∈ es → c.length = ks.length ∧ ∀ i, i < ks.length → ∃ x, c.getD i .any = .v x ∧ scalOk (ks.getD i .oth) x) := by
  obtain ⟨m, hd⟩ := hd
  rcases Deep.open_slice ht hd with ⟨h, _⟩ | ⟨a, len, cap, m', n', D, Pl, h, hb, hl, hm, hmm, hx', hx⟩
  · have : v = .slice none 0 0 := by
      cases v <;> first | (simp [Value.okWide, ht, Cell.okWide, Cell.ok] at hval; done) | simpa [Value.cells] using h
    subst this
    exact ⟨_, .v _ _, .inl rfl⟩
  · have hv : v = .slice (some a) len cap := by
      cases v <;> first | (simp [Value.okWide, ht, Cell.okWide, Cell.ok] at hval; done) | simpa [Value.cells] using h
    subst hv
    have hspot : a.spot = none := by
      simp only [Value.okWide, ht, Cell.okWide, Cell.ok] at hval
      exact hval.2.2.2.1
    obtain ⟨ab, ao, asp⟩ := a
    simp only at hspot
    subst hspot
    simp only [if_true] at hmm
    have hadd : ∀ o i, (Addr.add ⟨ab, o, none⟩ i) = ⟨ab, o + i, none⟩ := fun o i => by unfold Addr.add; split <;> simp_all
    let us : Nat → Value := fun j => (w.cell? ⟨ab, ao + j, none⟩).getD undef
    have key : ∀ i, i < len → ∀ j, j < ks.length → w.cell? ⟨ab, ao + (i * ks.length + j), none⟩ = some (us (i * ks.length + j)) ∧ scalOk (ks.getD j .oth) (us (i * ks.length + j)) := fun i hi j hj => by
      obtain ⟨cs', h1, h2⟩ := hx i (by omega)
      obtain ⟨q1, q2⟩ := scal_ok n e ks hs h2
      obtain ⟨_, q3, q4⟩ := World.cells?_some h1
      have q5 := q4 j (by omega)
      rw [hc, hadd, hadd, List.getElem?_eq_getElem (by omega)] at q5
      have e0 : ao + i * ks.length + j = ao + (i * ks.length + j) := by omega
      rw [e0] at q5
      have e1 : us (i * ks.length + j) = cs'.getD j undef := by simp [us, q5, List.getD_eq_getElem?_getD, show j < cs'.length by omega]
      refine ⟨by rw [e1, q5]; simp [List.getD_eq_getElem?_getD, show j < cs'.length by omega], by rw [e1]; exact q2 j hj⟩
    let es : List (List AV) := (List.range len).map fun i => (List.range ks.length).map fun j => .v (us (i * ks.length + j))
    have hel : es.length = len := by simp [es]
    have hg : ∀ i, i < len → es.getD i [] = (List.range ks.length).map fun j => .v (us (i * ks.length + j)) := fun i hi => by
      simp [es, List.getD_eq_getElem?_getD, hi]
    refine ⟨.sl es, ?_, .inr ⟨es, rfl, by omega, fun c hcm => ?_⟩⟩
    · have := Rep.sl (M := memOf w) noLo es ab ao cap ks.length us (by omega) (fun i hi => by rw [hg i (by omega)]; simp) (fun i hi => by
          rw [hel] at hi
          have hk : 0 < ks.length := by
            rcases Nat.eq_zero_or_pos ks.length with h | h
            · rw [h] at hi; omega
            · exact h
          have h1 : i / ks.length < len := Nat.div_lt_of_lt_mul (by rw [Nat.mul_comm]; exact hi)
          have h2 := Nat.mod_lt i hk
          have e0 : i / ks.length * ks.length + i % ks.length = i := by rw [Nat.mul_comm]; exact Nat.div_add_mod i _
          have := key _ h1 _ h2
          rw [e0] at this
          exact memOf_c this.1 (scalOk_one this.2)) (fun i j hi hj => by
          rw [hg i (by omega)]
          simp only [List.getD_eq_getElem?_getD, List.getElem?_map, List.getElem?_range hj, Option.map_some, Option.getD_some]
          exact .v _ _)
      rw [hel] at this
      exact this
    · obtain ⟨i, hi, rfl⟩ := List.mem_map.1 hcm
      have hi := List.mem_range.1 hi
      refine ⟨by simp, fun j hj => ⟨us (i * ks.length + j), by simp [List.getD_eq_getElem?_getD, hj], (key i hi j hj).2⟩⟩

/-- The arguments read behind the call as they read before. -/
theorem trodAll_stays (hl : laidOutB P = true) {W W' : World} {sp : Nat → Bool} : ∀ {ts : List TypeId} {vs : List Value} {ds : List (DataW H)} {ps : List MemPlace}, (ts.all fun t => P.readableRec t && decide (t < P.types.size)) = true →
    DataW.TrodAll enc P W 0 (fun _ => true) true ts vs ds ps → Below W.heap.size W W' → (∀ p, p ∈ ps → p.block < W.heap.size) → (∀ p, p ∈ ps → sp p.block = true) → DataW.TrodAll enc P W' 0 sp true ts vs ds ps
  | [], [], [], ps, _, h, _, _, _ => h
  | t :: ts, v :: vs, d :: ds, ps, ht, h, hb, hlt, hs => by
    obtain ⟨p, q, h1, h2, rfl⟩ := h
    simp only [List.all_cons, Bool.and_eq_true, decide_eq_true_eq] at ht
    exact ⟨p, q, WideElems.Trod_stays hl ht.1.1 ht.1.2 h1 (fun x hx => hb.same (hlt x (List.mem_append_left _ hx))) (fun x hx => hs x (List.mem_append_left _ hx)),
      trodAll_stays hl ht.2 h2 hb (fun x hx => hlt x (List.mem_append_right _ hx)) (fun x hx => hs x (List.mem_append_right _ hx)), rfl⟩
  | [], [], _ :: _, _, _, h, _, _, _ => h.elim
  | [], _ :: _, _, _, _, h, _, _, _ => h.elim
  | _ :: _, [], _, _, _, h, _, _, _ => h.elim
  | _ :: _, _ :: _, [], _, _, h, _, _, _ => h.elim
end
/-- The row's last step for a law that reads no variables. -/
theorem law_post {H : Type} {enc : TypeId × Value → H} {P : Program} {f : Func} {s : ChangeSpec} {apart fresh handsOn : Bool} {W W' : World} {args : Array Value} {ds gs : List (DataW H)} {ps : List MemPlace} {t : TypeId}
    (hW : DataW.Whole enc P f.params.toList s.vars apart W args.toList ds gs ps) (hl : laidOutB P = true)
    (hp : (f.params.toList.all fun t => P.readableRec t && decide (t < P.types.size)) = true) (hv : s.vars = []) (hfn : s.fn H ds = { results := [.lit (.bool true)], args := ds }) (hr : f.resultTypes = #[t]) (ht : P.underlying t = some .bool) (hb : Below W.heap.size W W') :
    s.post enc P f apart fresh handsOn false W args (.bool true) W' := by
  have hlt : ∀ p, p ∈ ps → p.block < W.heap.size := fun p hp => hW.lt p hp
  have hW' := hW
  obtain ⟨p, q, hA, hV, e, _, _⟩ := hW
  rw [hv] at hV
  obtain ⟨rfl, rfl⟩ := trodVars_none hV
  rw [List.append_nil] at e
  subst e
  refine ⟨ds, [], ps, [], ps, [], hW', ?_, ?_, ?_, World.keptBut_mono (fun x hx => ⟨hx, .inr (.inl hx)⟩) (hb.frame (· ∈ ps)), fun h => (by cases h)⟩
  · rw [hr, List.append_nil, hfn]
    exact trodAll_mk1 (shut_bool ht _)
  · rw [List.append_nil, hfn]
    exact trodAll_stays hl hp hA hb hlt fun x hx => by simpa using hlt x hx
  · rw [List.append_nil, hfn, hv]
    rfl
/-- A law's contract, as the row wants it. -/
theorem FSpec.law {P : Program} {f : Nat} {as : List AV} {vs : List Value} {W : World} (h : FSpec P f as [] (Det (.v (.bool true)))) (hlen : vs.length = as.length) (hr : ∀ i, i < as.length → Rep (memOf W) noLo (as.getD i .any) (vs.getD i undef)) :
    Calls P f vs.toArray W fun e w' => e = .returned (.bool true) ∧ Below W.heap.size W w' := by
  refine Calls.mono (h.2 W (memOf W) noLo vs ⟨hlen, hr, memOf_agree W, fun j hj => (by cases hj), fun _ _ => rfl, fun i j b _ hi => (by cases hi)⟩) ?_
  rintro e w' ⟨v, r, obs, M', β', rfl, ⟨rfl, rfl⟩, ho⟩
  have hv := ho.rep
  cases hv
  exact ⟨rfl, ho.keep.os, ho.keep.tape, ho.keep.output, ho.keep.size, fun b hb => ho.keep.block b hb (fun ⟨i, hi, _⟩ => by cases hi)⟩
end Go.VL
