/-
  Part of a proof: a reading of Go functions by values, and that it is sound.
-/
import Derived.Test.YtcbmbafopahijabGreatDoorVl2
import Derived.ChangeArms
import Derived.Deep.Slices
import Derived.WideKeyArgs
import Derived.ChangeSame
import Derived.OpenShut
set_option linter.unusedVariables false
set_option linter.unusedSimpArgs false
namespace Go.VL
open Go Go.RowKit
section
variable {P : Program} {T : Tab} {cfg : Nat → FC} {n : Nat} {all : List Oper}

structure Apart (all : List Oper) (p o : Oper) (rq wq rd wr : List Nat) : Prop where
  nc : (isGoCall p && isGoCall o) = false
  d1 : ∀ x, x ∈ dstOf p → x ∉ opTmps o
  d2 : ∀ x, x ∈ dstOf p → x ∉ guardTmp o all
  d3 : ∀ x, x ∈ dstOf p → x ∉ dstOf o
  d4 : ∀ x, x ∈ dstOf o → x ∉ opTmps p
  d5 : ∀ x, x ∈ dstOf o → x ∉ guardTmp p all
  d6 : ∀ x, x ∈ guardTmp p all → x ∉ opTmps o
  d7 : ∀ x, x ∈ guardTmp o all → x ∉ opTmps p
  w1 : ∀ x, x ∈ wr → x ∉ wq
  w2 : ∀ x, x ∈ wr → x ∉ rq
  w3 : ∀ x, x ∈ rd → x ∉ wq
theorem disj_ok {a b : List Nat} (h : disj a b = true) : ∀ x, x ∈ a → x ∉ b := by
  intro x hx hb
  simp only [disj, Bool.not_eq_true', List.any_eq_false] at h
  refine h x hx ?_
  simp only [memN, List.any_eq_true]
  exact ⟨x, hb, Nat.beq_refl x⟩
theorem apart_ok {p o : Oper} {rq wq rd wr : List Nat} (h : apartE all p o rq wq rd wr = true) : Apart all p o rq wq rd wr := by
  simp only [apartE, apartT, Bool.and_eq_true] at h
  obtain ⟨h0, ⟨h1, h2, h3, h4, h5, h6, h7⟩, h8, h9, h10⟩ := h
  exact ⟨by cases q1 : isGoCall p <;> cases q2 : isGoCall o <;> simp_all, disj_ok h1, disj_ok h2, disj_ok h3, disj_ok h4, disj_ok h5, disj_ok h6, disj_ok h7, disj_ok h8, disj_ok h9, disj_ok h10⟩
theorem Apart.symm {p o : Oper} {rq wq rd wr : List Nat} (h : Apart all p o rq wq rd wr) : Apart all o p rd wr rq wq :=
  ⟨by rw [Bool.and_comm]; exact h.nc, h.d4, h.d5, fun x h1 h2 => h.d3 x h2 h1, h.d1, h.d2, h.d7, h.d6, fun x h1 h2 => h.w1 x h2 h1, fun x h1 h2 => h.w3 x h2 h1, fun x h1 h2 => h.w2 x h2 h1⟩
theorem setD_ne {tm : Nat → AV} {o : Oper} {v : AV} {x : Nat} (h : x ∉ dstOf o) : setD tm o.dst v x = tm x := by
  unfold dstOf at h
  cases hd : o.dst with
  | none => rfl
  | some d => rw [hd] at h; exact upd_ne _ _ _ _ (by simpa using h)
/-- One that is apart sees the same before and behind the other. -/
theorem gE_step {p o : Oper} {s : St} {d : De} {rq wq : List Nat} (ha : Apart all p o rq wq (fpR (gE T cfg all o ((resS all p s).app p.dst d))) (fpW (gE T cfg all o ((resS all p s).app p.dst d)))) (hwd : ∀ m, m ∈ wrOf d → m ∈ wq)
    (hne : gE T cfg all o ((resS all p s).app p.dst d) ≠ .no) : gE T cfg all o s = gE T cfg all o ((resS all p s).app p.dst d) := by
  have ob : ∀ m, m ∉ wq → s.ob m = ((resS all p s).app p.dst d).ob m := fun m hm => by
    rw [app_eq]
    show s.ob m = updL (resS all p s).ob d.upd m
    rw [updL_not _ _ _ fun h => hm (hwd m h), (resS_ob p s).1]
  refine gE_o hne (fun t ht => ?_) (fun t ht => ?_) (fun m hm => ob m (ha.w3 m hm)) fun m hm => ob m (ha.w1 m hm)
  · rw [app_eq]
    show s.tm t = setD (resS all p s).tm p.dst d.val t
    rw [setD_ne fun h => ha.d1 t h ht, resS_tm, if_neg fun h => ha.d6 t h ht]
  · rw [app_eq]
    show nb (s.tm t) = nb (setD (resS all p s).tm p.dst d.val t)
    rw [setD_ne fun h => ha.d2 t h ht, resS_tm]
    split
    · rw [nb_nb]
    · rfl
theorem gE_back {p o : Oper} {s : St} {d : De} {rq wq : List Nat} (ha : Apart all p o rq wq (fpR (gE T cfg all o s)) (fpW (gE T cfg all o s))) (hwd : ∀ m, m ∈ wrOf d → m ∈ wq)
    (hne : gE T cfg all o s ≠ .no) : gE T cfg all o ((resS all p s).app p.dst d) = gE T cfg all o s := by
  have ob : ∀ m, m ∉ wq → ((resS all p s).app p.dst d).ob m = s.ob m := fun m hm => by
    rw [app_eq]
    show updL (resS all p s).ob d.upd m = s.ob m
    rw [updL_not _ _ _ fun h => hm (hwd m h), (resS_ob p s).1]
  refine gE_o hne (fun t ht => ?_) (fun t ht => ?_) (fun m hm => ob m (ha.w3 m hm)) fun m hm => ob m (ha.w1 m hm)
  · rw [app_eq]
    show setD (resS all p s).tm p.dst d.val t = s.tm t
    rw [setD_ne fun h => ha.d1 t h ht, resS_tm, if_neg fun h => ha.d6 t h ht]
  · rw [app_eq]
    show nb (setD (resS all p s).tm p.dst d.val t) = nb (s.tm t)
    rw [setD_ne fun h => ha.d2 t h ht, resS_tm]
    split
    · rw [nb_nb]
    · rfl
/-- The two come to the same state in either order. -/
theorem app_comm {p o : Oper} {s : St} {d d' : De} {rq wq rd wr : List Nat} (ha : Apart all p o rq wq rd wr) (h1 : ∀ m, m ∈ wrOf d → m ∈ wq) (h2 : ∀ m, m ∈ wrOf d' → m ∈ wr) :
    (resS all p ((resS all o s).app o.dst d')).app p.dst d = (resS all o ((resS all p s).app p.dst d)).app o.dst d' := by
  have tmE : ∀ (q : Oper) (s : St) (e : De), (((resS all q s).app q.dst e).tm = setD (fun x => if x ∈ guardTmp q all then nb (s.tm x) else s.tm x) q.dst e.val) := fun q s e => by
    rw [app_eq]
    show setD (resS all q s).tm q.dst e.val = _
    congr 1
    funext x; exact resS_tm q s x
  have obE : ∀ (q : Oper) (s : St) (e : De), ((resS all q s).app q.dst e).ob = updL s.ob e.upd := fun q s e => by rw [app_eq]; show updL (resS all q s).ob e.upd = _; rw [(resS_ob q s).1]
  have usE : ∀ (q : Oper) (s : St) (e : De), ((resS all q s).app q.dst e).us = useL s.us e.new := fun q s e => by rw [app_eq]; show useL (resS all q s).us e.new = _; rw [(resS_ob q s).2]
  have ext : ∀ (a b : St), a.tm = b.tm → a.ob = b.ob → a.us = b.us → a = b := fun a b h1 h2 h3 => by cases a; cases b; simp_all
  refine ext _ _ ?_ ?_ ?_
  · funext x
    have eL := congrFun (tmE p ((resS all o s).app o.dst d') d) x
    have eR := congrFun (tmE o ((resS all p s).app p.dst d) d') x
    have eO := congrFun (tmE o s d') x
    have eP := congrFun (tmE p s d) x
    have at1 : ∀ (q : Oper) (tm : Nat → AV) (v : AV), x ∈ dstOf q → setD tm q.dst v x = v := fun q tm v h => by
      unfold dstOf at h
      cases hd : q.dst with
      | none => rw [hd] at h; cases h
      | some y =>
        rw [hd] at h
        have : x = y := by simpa using h
        subst this; exact upd_same _ _ _
    rw [eL, eR]
    by_cases hp : x ∈ dstOf p
    · have ho : x ∉ dstOf o := ha.d3 x hp
      have hg : x ∉ guardTmp o all := ha.d2 x hp
      rw [at1 p _ _ hp, setD_ne ho, if_neg hg, eP, at1 p _ _ hp]
    · by_cases ho : x ∈ dstOf o
      · have hg : x ∉ guardTmp p all := ha.d5 x ho
        rw [at1 o _ _ ho, setD_ne hp, if_neg hg, eO, at1 o _ _ ho]
      · rw [setD_ne hp, setD_ne ho, eO, eP, setD_ne ho, setD_ne hp]
        by_cases g1 : x ∈ guardTmp p all <;> by_cases g2 : x ∈ guardTmp o all <;> simp [g1, g2]
  · rw [obE, obE, obE, obE]
    exact updL_comm (fun m hm hm' => ha.w1 m (h2 m hm) (h1 m hm')) _
  · rw [usE, usE, usE, usE]
    exact useL_comm _ _ _
end
end Go.VL

namespace Go.VL
open Go Go.RowKit
section
variable {P : Program} {T : Tab} {cfg : Nat → FC} {n : Nat} {all : List Oper}

theorem resL_nil {oa : List CK} {r : AV} : ∀ (ts : List Nat) (i j : Nat) (obs : List Ob) (nm : Nat), (resL T [] oa r ts i j obs nm).2.2 = []
  | [], _, _, _, _ => rfl
  | t :: ts, i, j, obs, nm => by simp only [resL, List.any_nil, cond_false]; exact resL_nil ts (i + 1) j obs nm
theorem resV_nil {ow : List LK} {oa : List CK} (t : Nat) (r : AV) (j : Nat) (obs : List Ob) (nm : Nat) : (resV T [] ow oa t r j obs nm).2.2 = [] := by
  unfold resV
  cases (T t).k <;> first | rfl | skip
  rename_i ts
  cases ts with
  | nil => rfl
  | cons a ts => exact resL_nil _ _ _ _ _
theorem opE_c {e : Operand → AV} {ob : Nat → Option Ob} {o : Oper} {f : Nat} {as : List AV} {ins : List Ob} {wr : List Nat} {k : AV → List Ob → List Prop × De} (h : opE T cfg e ob o = .c f as ins wr k) : ∃ g l, callE T cfg e ob o g l = .c f as ins wr k := by
  have no : (∀ e ob, opE T cfg e ob o = match opD T e ob o with | .ok p d => .d (some p) d | .yes d => .d none d | .no => .no) → ∃ g l, callE T cfg e ob o g l = .c f as ins wr k := fun hh => by
    rw [hh] at h; split at h <;> cases h
  cases ho : o.op with
  | call c =>
    obtain ⟨callee, xs, ts⟩ := c
    cases callee with
    | value x =>
      have hE : opE T cfg e ob o = (match e x with
        | .v (.func (.func f) fi cap) => bif Nat.beq fi.size 0 && Nat.beq cap.size 0 then callE T cfg e ob o f (xs.toList.map e) else .no
        | .fn f cap => callE T cfg e ob o f (xs.toList.map e ++ cap)
        | _ => .no) := by unfold opE; rw [ho]; try rfl
      rw [hE] at h
      split at h
      · rename_i f' fi cap _
        cases hq : (Nat.beq fi.size 0 && Nat.beq cap.size 0) with
        | false => rw [hq] at h; cases h
        | true => rw [hq] at h; exact ⟨_, _, h⟩
      · exact ⟨_, _, h⟩
      · cases h
    | builtin b => exact no fun e ob => by unfold opE; rw [ho]; try rfl
    | invoke r nm => exact no fun e ob => by unfold opE; rw [ho]; try rfl
  | _ => exact no fun e ob => by unfold opE; rw [ho]; try rfl
theorem gE_c {o : Oper} {s : St} {f : Nat} {as : List AV} {ins : List Ob} {wr : List Nat} {k : AV → List Ob → List Prop × De} (h : gE T cfg all o s = .c f as ins wr k) : ∃ e g l, callE T cfg e s.ob o g l = .c f as ins wr k := by
  unfold gE at h
  split at h
  · obtain ⟨g, l, h⟩ := opE_c h; exact ⟨_, g, l, h⟩
  · split at h
    · split at h
      · rename_i b _
        cases hq : (b == _) with
        | true => rw [hq] at h; obtain ⟨g, l, h⟩ := opE_c h; exact ⟨_, g, l, h⟩
        | false => rw [hq] at h; cases h
      · cases h
      · cases h
    · cases h
theorem frzU_names (ob : Nat → Option Ob) (os : List Nat) : (frzU ob os).map (·.1) = os := by
  unfold frzU; rw [List.map_map]; exact List.map_id' os
/-- What changes is in the footprint. -/
theorem effD_wr {o : Oper} {s : St} {X : De → Prop} (h : effD P (gE T cfg all o s) X) : effD P (gE T cfg all o s) fun d => X d ∧ ∀ m, m ∈ wrOf d → m ∈ fpW (gE T cfg all o s) := by
  cases hE : gE T cfg all o s with
  | no => rw [hE] at h; exact h
  | d p d => rw [hE] at h; exact ⟨h.1, h.2, fun m hm => hm⟩
  | c f as ins wr k =>
    rw [hE] at h
    obtain ⟨e, g, l, hq⟩ := gE_c hE
    unfold callE at hq
    simp only at hq
    generalize cfg (keyOf g l) = c at hq
    split at hq
    · rename_i as' ins' os fz hga
      cases hgd : (nodup os && (!(os.any (memN fz)) && (alignM (flatM c.mu) ins' && (cloOk s.ob c.mu os ins' l 0 && keptOk (flatM c.mu) os ins')))) with
      | false => rw [hgd] at hq; cases hq
      | true =>
        rw [hgd] at hq
        simp only [cond_true, Eff.c.injEq] at hq
        obtain ⟨rfl, rfl, rfl, rfl, rfl⟩ := hq
        obtain ⟨R, h1, h2, h3⟩ := h
        refine ⟨R, h1, h2, fun r obs hr => ⟨(h3 r obs hr).1, (h3 r obs hr).2, fun m hm => ?_⟩⟩
        have e0 : (noneL os).map (·.1) = os := by unfold noneL; rw [List.map_map]; exact List.map_id' os
        obtain ⟨n1, n2⟩ := backM_names (flatM c.mu) os obs [] 0 (newName o.dst)
        have hsub : ∀ m, m ∈ (bif lent T c.own c.oa ins' o.type then [] else frzU s.ob fz).map (·.1) → m ∈ fz := fun m hm => by
          cases hl : lent T c.own c.oa ins' o.type with
          | true => rw [hl] at hm; cases hm
          | false => rw [hl] at hm; simpa only [cond_false, frz_map] using hm
        simp only [wrOf, List.map_append, e0, n1] at hm
        have hm : m ∈ fz ++ (os ++ (List.map (·.1) (backM (flatM c.mu) os [] 0 (newName o.dst)).2.1 ++ List.map (·.1) (resV T c.own c.ow c.oa o.type r ins'.length (backM (flatM c.mu) os obs 0 (newName o.dst)).2.2.1 (backM (flatM c.mu) os obs 0 (newName o.dst)).2.2.2).2.2)) := by
          rcases List.mem_append.1 hm with hm | hm
          · exact List.mem_append_left _ (hsub m hm)
          · exact List.mem_append_right _ hm
        rw [n2, resV_names (T := T) (own := c.own) o.type r .any ins'.length _ (backM (flatM c.mu) os [] 0 (newName o.dst)).2.2.1] at hm
        simpa only [fpW, List.map_append] using hm
    · cases hq

structure It where
  i : Nat
  o : Oper
  anc : List Nat
/-- The operations in this order come to 'Ψ'. 'H': those before. -/
def Seq (P : Program) (T : Tab) (cfg : Nat → FC) (n : Nat) (all : List Oper) (Ψ : St → Prop) : List It → List (It × List Nat × List Nat) → St → Prop
  | [], _, s => Ψ s
  | t :: r, H, s => effD P (gE T cfg all t.o s) fun d => newOk (resS all t.o s) n t.o.dst d = true ∧ (∀ j, j ∈ edgesOf t.o → j < t.i) ∧
      (∀ h, h ∈ H → h.1.i ∈ t.anc ∨ Apart all h.1.o t.o h.2.1 h.2.2 (fpR (gE T cfg all t.o s)) (fpW (gE T cfg all t.o s))) ∧
      Seq P T cfg n all Ψ r (H ++ [(t, fpR (gE T cfg all t.o s), fpW (gE T cfg all t.o s))]) ((resS all t.o s).app t.o.dst d)
theorem Seq.weak {Ψ : St → Prop} : ∀ (l : List It) {H H' : List (It × List Nat × List Nat)} {s : St}, (∀ h, h ∈ H' → h ∈ H) → Seq P T cfg n all Ψ l H s → Seq P T cfg n all Ψ l H' s
  | [], _, _, _, _, h => h
  | t :: r, H, H', s, hs, h => effD_mono h fun d ⟨h1, h2, h3, h4⟩ => ⟨h1, h2, fun q hq => h3 q (hs q hq), Seq.weak r (fun q hq => by
      rcases List.mem_append.1 hq with hq | hq
      · exact List.mem_append_left _ (hs q hq)
      · exact List.mem_append_right _ hq) h4⟩
/-- What an operation comes to at its place it comes to before those that are no ancestors of it. -/
theorem Seq.back {Ψ : St → Prop} {t : It} {L2 : List It} : ∀ (L1 : List It) {H : List (It × List Nat × List Nat)} {s : St}, Seq P T cfg n all Ψ (L1 ++ t :: L2) H s → (∀ x, x ∈ L1 → x.i ∉ t.anc) →
    gE T cfg all t.o s ≠ .no ∧ (∀ j, j ∈ edgesOf t.o → j < t.i) ∧ ∀ h, h ∈ H → h.1.i ∈ t.anc ∨ Apart all h.1.o t.o h.2.1 h.2.2 (fpR (gE T cfg all t.o s)) (fpW (gE T cfg all t.o s))
  | [], H, s, h, _ => by
    obtain ⟨h1, d, h2, h3, h4, _⟩ := effD_some h
    exact ⟨h1, h3, h4⟩
  | p :: L1, H, s, h, hl => by
    obtain ⟨h1, d, ⟨h2, h3, h4, h5⟩, h6⟩ := effD_some (effD_wr h)
    obtain ⟨q1, q2, q3⟩ := Seq.back L1 h5 fun x hx => hl x (List.mem_cons_of_mem _ hx)
    have ha := (q3 _ (List.mem_append_right _ (List.mem_singleton.2 rfl))).resolve_left (hl p List.mem_cons_self)
    have e := gE_step ha h6 q1
    rw [e]
    exact ⟨q1, q2, fun h hh => q3 h (List.mem_append_left _ hh)⟩
theorem newOk_iff {s : St} {dst : Option Nat} {d : De} : newOk s n dst d = true ↔ (∀ o, o ∈ d.new → s.us o = false) ∧ nodup d.new = true ∧ (match dst with | some t => Nat.blt t n | none => true) = true := by
  unfold newOk
  simp only [Bool.and_eq_true, List.all_eq_true, Bool.not_eq_true', and_assoc]
  exact Iff.rfl
theorem app_us (s : St) (dst : Option Nat) (d : De) (o : Nat) : (s.app dst d).us o = (s.us o || d.new.any (Nat.beq o)) := by
  rw [app_eq]; exact useL_get _ _ _
theorem any_mem {l : List Nat} {o : Nat} (h : o ∈ l) : l.any (Nat.beq o) = true := List.any_eq_true.2 ⟨o, h, Nat.beq_refl o⟩
/-- An operation that waits for none of those before it can be taken first. -/
theorem Seq.pull {Ψ : St → Prop} {t : It} {L2 : List It} : ∀ (L1 : List It) {H : List (It × List Nat × List Nat)} {s : St}, Seq P T cfg n all Ψ (L1 ++ t :: L2) H s → (∀ x, x ∈ L1 → x.i ∉ t.anc) →
    effD P (gE T cfg all t.o s) fun d => newOk (resS all t.o s) n t.o.dst d = true ∧ Seq P T cfg n all Ψ (L1 ++ L2) H ((resS all t.o s).app t.o.dst d)
  | [], H, s, h, _ => effD_mono h fun d ⟨h1, _, _, h4⟩ => ⟨h1, Seq.weak L2 (fun q hq => List.mem_append_left _ hq) h4⟩
  | p :: L1, H, s, h, hl => by
    have hl' : ∀ x, x ∈ L1 → x.i ∉ t.anc := fun x hx => hl x (List.mem_cons_of_mem _ hx)
    have hb := Seq.back (p :: L1) h hl
    -- apart, at this state
    have ha : Apart all p.o t.o (fpR (gE T cfg all p.o s)) (fpW (gE T cfg all p.o s)) (fpR (gE T cfg all t.o s)) (fpW (gE T cfg all t.o s)) := by
      obtain ⟨h1, d, ⟨h2, h3, h4, h5⟩, h6⟩ := effD_some (effD_wr h)
      obtain ⟨q1, q2, q3⟩ := Seq.back L1 h5 hl'
      have ha := (q3 _ (List.mem_append_right _ (List.mem_singleton.2 rfl))).resolve_left (hl p List.mem_cons_self)
      rw [gE_step ha h6 q1]; exact ha
    have hpne : gE T cfg all p.o s ≠ .no := (effD_some h).1
    have step := effD_mono (effD_wr h) fun d ⟨⟨h2, h3, h4, h5⟩, h6⟩ => (show _ ∧ _ from ⟨(⟨h2, h3, h4, h6⟩ : _ ∧ _ ∧ _ ∧ _), by
      have e := gE_back ha h6 hb.1
      have q := Seq.pull L1 h5 hl'
      rw [e] at q
      have q2 := effD_wr (o := t.o) (s := s) q
      exact q2⟩)
    have inner := effD_mono step fun d ⟨hA, hB⟩ => effD_mono hB fun d' hx => (show _ ∧ _ from ⟨hA, hx⟩)
    have hnc : (isC (gE T cfg all p.o s) && isC (gE T cfg all t.o s)) = false := by
      cases q1 : isC (gE T cfg all p.o s) with
      | false => rfl
      | true =>
        cases q2 : isC (gE T cfg all t.o s) with
        | false => rfl
        | true => have := ha.nc; rw [gE_call q1, gE_call q2] at this; cases this
    refine effD_mono (effD_swap hnc inner) fun d' hx => ?_
    obtain ⟨_, d0, ⟨g1, g2, g3, g4⟩, ⟨g5, g6⟩, g7⟩ := effD_some hx
    have n1 := newOk_iff.1 g1
    have n2 := newOk_iff.1 g5
    refine ⟨newOk_iff.2 ⟨fun o ho => ?_, n2.2.1, n2.2.2⟩, ?_⟩
    · have := n2.1 o ho
      rw [(resS_ob t.o _).2, app_us, (resS_ob p.o s).2] at this
      rw [(resS_ob t.o s).2]
      cases q : s.us o with
      | false => rfl
      | true => rw [q] at this; cases this
    · have e := gE_back ha.symm g7 hpne
      show effD P (gE T cfg all p.o _) _
      rw [e]
      refine effD_mono hx fun d ⟨⟨k1, k2, k3, k4⟩, ⟨k5, k6⟩, k7⟩ => ⟨?_, k2, k3, ?_⟩
      · have m1 := newOk_iff.1 k1
        have m2 := newOk_iff.1 k5
        refine newOk_iff.2 ⟨fun o ho => ?_, m1.2.1, m1.2.2⟩
        have p1 := m1.1 o ho
        rw [(resS_ob p.o s).2] at p1
        rw [(resS_ob p.o _).2, app_us, (resS_ob t.o s).2, p1]
        cases q : d'.new.any (Nat.beq o) with
        | false => rfl
        | true =>
          obtain ⟨y, hy, hy'⟩ := List.any_eq_true.1 q
          have := Nat.eq_of_beq_eq_true hy'
          subst this
          have := m2.1 o hy
          rw [(resS_ob t.o _).2, app_us, any_mem ho] at this
          simp at this
      · rw [app_comm ha k4 k7]
        exact k6
end
end Go.VL

namespace Go.VL
open Go Go.RowKit
section
variable {P : Program} {T : Tab} {cfg : Nat → FC} {n : Nat} {A : Amb} {a : Act} {w : World}

theorem op_real (hT : TabOk P T) (hB : TabM P A.M0) {o : Oper} {s : St} {Y : St → Prop} (g : GamE n A s a w) (h : effD P (opE T cfg (ev s) s.ob o) fun d => newOk s n o.dst d = true ∧ Y (s.app o.dst d))
    {Kw : Act → World → Prop} {Qw : Exit → Act → World → Prop} (hK : ∀ s' a' w', GamE n A s' a' w' → Y s' → Kw a' w') : o.wp P a w Kw Qw := by
  obtain ⟨M, β, g⟩ := g
  refine goOp_ok (cfg := cfg) hT hB g o (K := fun _ _ s' => .need (Y s') (.done 0 [] [])) (Φ := fun _ _ _ => True) ?_ fun rd wr s' a' w' g' h' => hK s' a' w' g' h'.1
  unfold goOp
  cases hE : opE T cfg (ev s) s.ob o with
  | no => rw [hE] at h; exact h
  | d p d =>
    rw [hE] at h
    obtain ⟨h1, h2, h3⟩ := h
    simp only [h2, cond_true]
    cases p with
    | none => exact ⟨h3, trivial⟩
    | some q => exact ⟨h1 q rfl, h3, trivial⟩
  | c f as ins wr k =>
    rw [hE] at h
    obtain ⟨R, h1, h2, h3⟩ := h
    refine ⟨R, h1, h2, fun r obs hr => wpT_needs.2 ⟨(h3 r obs hr).1, ?_⟩⟩
    rw [(h3 r obs hr).2.1]
    exact ⟨(h3 r obs hr).2.2, trivial⟩
theorem resS_none {all : List Oper} {o : Oper} (h : o.guard = none) (s : St) : resS all o s = s := by
  unfold resS guardTmp; rw [h]
theorem GamE.res {all : List Oper} {o : Oper} {s : St} (g : GamE n A s a w) : GamE n A (resS all o s) a w := by
  unfold resS
  split
  · split
    · rename_i b e; exact (g.test e).1
    · exact g
  · exact g
theorem skip_app (s : St) (dst : Option Nat) : s.app dst skipD = skS s dst := by
  cases dst <;> rfl
theorem g_real {ops : Array Oper} (hT : TabOk P T) (hB : TabM P A.M0) {o : Oper} {s : St} {Y : St → Prop} (g : GamE n A s a w) (h : effD P (gE T cfg ops.toList o s) fun d => newOk (resS ops.toList o s) n o.dst d = true ∧ Y ((resS ops.toList o s).app o.dst d))
    {Kw : Act → World → Prop} {Qw : Exit → Act → World → Prop} (hK : ∀ s' a' w', GamE n A s' a' w' → Y s' → Kw a' w') : if Region.wanted o (yielded ops a.tmps) then o.wp P a w Kw Qw else Kw (a.put o.dst undef) w := by
  have skip : effD P (.d none skipD) (fun d => newOk (resS ops.toList o s) n o.dst d = true ∧ Y ((resS ops.toList o s).app o.dst d)) → Kw (a.put o.dst undef) w := by
    intro ⟨_, h1, h2⟩
    rw [skip_app] at h2
    exact hK _ _ _ (g.res.skip (newOk_dst h1)) h2
  unfold gE at h
  cases hg : o.guard with
  | none =>
    rw [hg] at h
    rw [if_pos (by simp [Region.wanted, hg])]
    rw [resS_none hg] at h
    exact op_real hT hB g h hK
  | some gw =>
    obtain ⟨gi, want⟩ := gw
    rw [hg] at h
    simp only at h
    split at h
    · rename_i t hdst
      split at h
      · rename_i b hb
        have hv : a.tmps.getD t undef = .bool b := by
          cases hs : s.tm t with
          | v x => rw [hs] at hb; simp only [nb, AV.v.injEq] at hb; rw [hb] at hs; exact g.bool hs
          | b q => rw [hs] at hb; simp only [nb, AV.v.injEq, Value.bool.injEq] at hb; rw [hb] at hs; exact (g.test hs).2
          | _ => rw [hs] at hb; cases hb
        have hw : Region.wanted o (yielded ops a.tmps) = (b == want) := by
          have := yielded_bool (ops := ops) hdst hv
          simp [Region.wanted, hg, this]
        rw [hw]
        cases hq : (b == want) with
        | true =>
          rw [hq] at h
          rw [if_pos rfl]
          simp only [cond_true] at h
          rw [← (resS_ob (all := ops.toList) o s).1] at h
          exact op_real hT hB g.res h hK
        | false =>
          rw [hq] at h
          rw [if_neg (by simp)]
          exact skip h
      · rename_i vs hb
        have hs : s.tm t = .v (.tuple vs) := by
          cases hs : s.tm t with
          | v x => rw [hs] at hb; exact hb
          | b q => rw [hs] at hb; cases hb
          | _ => rw [hs] at hb; cases hb
        have := yielded_tuple (ops := ops) hdst (g.tup hs)
        rw [if_neg (by simp [Region.wanted, hg, this])]
        exact skip h
      · exact h.elim
    · exact h.elim

/-- The items of a list of operations. -/
def ancI (o : Oper) (acc : List It) : List Nat := edgesOf o ++ (acc.filter fun t => memN (edgesOf o) t.i).flatMap (·.anc)
def itemsOf : List Oper → List It → List It
  | [], _ => []
  | o :: r, acc => ⟨acc.length, o, ancI o acc⟩ :: itemsOf r (acc ++ [⟨acc.length, o, ancI o acc⟩])
def heOf (h : It × List Nat × List Nat) : HE := ⟨h.1.i, h.1.o, h.2.1, h.2.2, h.1.anc⟩
theorem anc_eq (o : Oper) : ∀ (H : List (It × List Nat × List Nat)), ancOf o (H.map heOf) = ancI o (H.map (·.1)) := by
  intro H
  unfold ancOf ancI
  congr 1
  induction H with
  | nil => rfl
  | cons h H ih =>
    simp only [List.map_cons, List.filter_cons]
    have e : memN (edgesOf o) (heOf h).i = memN (edgesOf o) h.1.i := rfl
    rw [e]
    cases memN (edgesOf o) h.1.i with
    | true => simp only [if_true, List.flatMap_cons, ih]; rfl
    | false => simpa using ih
theorem memN_mem {l : List Nat} {a : Nat} (h : memN l a = true) : a ∈ l := by
  obtain ⟨x, hx, e⟩ := List.any_eq_true.1 h
  rw [Nat.eq_of_beq_eq_true e]; exact hx
theorem free_ok {all : List Oper} {o : Oper} {rd wr : List Nat} {H : List (It × List Nat × List Nat)} {anc : List Nat} (h : freeOf all o rd wr (H.map heOf) anc = true) : ∀ q, q ∈ H → q.1.i ∈ anc ∨ Apart all q.1.o o q.2.1 q.2.2 rd wr := by
  intro q hq
  have := List.all_eq_true.1 h (heOf q) (List.mem_map.2 ⟨q, hq, rfl⟩)
  rw [Bool.or_eq_true] at this
  rcases this with h | h
  · exact .inl (memN_mem h)
  · exact .inr (apart_ok h)
theorem seq_of (ops : Array Oper) {K : St → Tree} {Φ : Nat → List AV → List Ob → Prop} : ∀ (rest : List Oper) (H : List (It × List Nat × List Nat)) (s : St), wpT P n (goOps T cfg n true ops.toList rest (H.map heOf) s K) Φ →
    Seq P T cfg n ops.toList (fun s => wpT P n (K s) Φ) (itemsOf rest (H.map (·.1))) H s
  | [], H, s, h => h
  | o :: rest, H, s, h => by
    have hlen : (H.map heOf).length = H.length := by simp
    have cont : ∀ (rd wr : List Nat) (s' : St), wpT P n (bif !true || ((edgesOf o).all (fun j => Nat.blt j (H.map heOf).length) && freeOf ops.toList o rd wr (H.map heOf) (ancOf o (H.map heOf))) then goOps T cfg n true ops.toList rest (H.map heOf ++ [⟨(H.map heOf).length, o, rd, wr, ancOf o (H.map heOf)⟩]) s' K else .fail) Φ →
        (∀ j, j ∈ edgesOf o → j < H.length) ∧ (∀ q, q ∈ H → q.1.i ∈ ancI o (H.map (·.1)) ∨ Apart ops.toList q.1.o o q.2.1 q.2.2 rd wr) ∧
        Seq P T cfg n ops.toList (fun s => wpT P n (K s) Φ) (itemsOf rest (H.map (·.1) ++ [⟨H.length, o, ancI o (H.map (·.1))⟩])) (H ++ [(⟨H.length, o, ancI o (H.map (·.1))⟩, rd, wr)]) s' := by
      intro rd wr s' h
      cases hq : (!true || ((edgesOf o).all (fun j => Nat.blt j (H.map heOf).length) && freeOf ops.toList o rd wr (H.map heOf) (ancOf o (H.map heOf)))) with
      | false => rw [hq] at h; exact h.elim
      | true =>
        rw [hq] at h
        simp only [Bool.not_true, Bool.false_or, Bool.and_eq_true, List.all_eq_true] at hq
        rw [anc_eq] at hq h
        refine ⟨fun j hj => by have := Nat.le_of_ble_eq_true (hq.1 j hj); rw [hlen] at this; exact this, free_ok hq.2, ?_⟩
        have := seq_of ops rest (H ++ [(⟨H.length, o, ancI o (H.map (·.1))⟩, rd, wr)]) s' (by
          rw [hlen] at h
          simpa [heOf] using h)
        simpa using this
    have hl1 : (H.map (·.1)).length = H.length := by simp
    have eit : itemsOf (o :: rest) (H.map (·.1)) = ⟨H.length, o, ancI o (H.map (·.1))⟩ :: itemsOf rest (H.map (·.1) ++ [⟨H.length, o, ancI o (H.map (·.1))⟩]) := by rw [itemsOf, hl1]
    rw [eit]
    have run : ∀ s1, s1 = resS ops.toList o s → gE T cfg ops.toList o s = opE T cfg (ev s1) s1.ob o → wpT P n (goOp T cfg n o s1 fun rd wr s' => bif !true || ((edgesOf o).all (fun j => Nat.blt j (H.map heOf).length) && freeOf ops.toList o rd wr (H.map heOf) (ancOf o (H.map heOf))) then goOps T cfg n true ops.toList rest (H.map heOf ++ [⟨(H.map heOf).length, o, rd, wr, ancOf o (H.map heOf)⟩]) s' K else .fail) Φ →
        Seq P T cfg n ops.toList (fun s => wpT P n (K s) Φ) (⟨H.length, o, ancI o (H.map (·.1))⟩ :: itemsOf rest (H.map (·.1) ++ [⟨H.length, o, ancI o (H.map (·.1))⟩])) H s := by
      intro s1 hs1 hgE h
      show effD P (gE T cfg ops.toList o s) _
      unfold goOp at h
      simp only [hgE, ← hs1]
      cases hE : opE T cfg (ev s1) s1.ob o with
      | no => rw [hE] at h; exact h
      | d p d =>
        rw [hE] at h
        cases hn : newOk s1 n o.dst d with
        | false => simp only [hn, cond_false] at h; exact h.elim
        | true =>
          simp only [hn, cond_true] at h
          cases p with
          | none => obtain ⟨c1, c2, c3⟩ := cont _ _ _ h; exact ⟨fun q hq => (by cases hq), hn, c1, c2, c3⟩
          | some q => obtain ⟨c1, c2, c3⟩ := cont _ _ _ h.2; exact ⟨fun q' hq => (by cases hq; exact h.1), hn, c1, c2, c3⟩
      | c f as ins wr k =>
        rw [hE] at h
        obtain ⟨R, h1, h2, h3⟩ := h
        refine ⟨R, h1, h2, fun r obs hr => ?_⟩
        obtain ⟨h4, h5⟩ := wpT_needs.1 (h3 r obs hr)
        cases hn : newOk s1 n o.dst (k r obs).2 with
        | false => simp only [hn, cond_false] at h5; exact h5.elim
        | true =>
          simp only [hn, cond_true] at h5
          obtain ⟨c1, c2, c3⟩ := cont _ _ _ h5
          exact ⟨h4, hn, c1, c2, c3⟩
    have skip : ∀ s1, s1 = resS ops.toList o s → gE T cfg ops.toList o s = .d none skipD → wpT P n (bif (match o.dst with | some t => Nat.blt t n | none => true) && (!true || ((edgesOf o).all (fun j => Nat.blt j (H.map heOf).length) && freeOf ops.toList o [] [] (H.map heOf) (ancOf o (H.map heOf)))) then goOps T cfg n true ops.toList rest (H.map heOf ++ [⟨(H.map heOf).length, o, [], [], ancOf o (H.map heOf)⟩]) (match o.dst with | some t => s1.set t (.v (.tuple #[])) | none => s1) K else .fail) Φ →
        Seq P T cfg n ops.toList (fun s => wpT P n (K s) Φ) (⟨H.length, o, ancI o (H.map (·.1))⟩ :: itemsOf rest (H.map (·.1) ++ [⟨H.length, o, ancI o (H.map (·.1))⟩])) H s := by
      intro s1 hs1 hgE h
      show effD P (gE T cfg ops.toList o s) _
      simp only [hgE, ← hs1]
      cases hd : (match o.dst with | some t => Nat.blt t n | none => true) with
      | false => simp only [hd, Bool.false_and, cond_false] at h; exact h.elim
      | true =>
        simp only [hd, Bool.true_and] at h
        obtain ⟨c1, c2, c3⟩ := cont [] [] _ h
        refine ⟨fun q hq => (by cases hq), newOk_iff.2 ⟨fun o ho => (by cases ho), rfl, hd⟩, c1, c2, ?_⟩
        rw [skip_app]
        exact c3
    unfold goOps at h
    simp only at h
    cases hg : o.guard with
    | none =>
      rw [hg] at h
      exact run s (resS_none hg s).symm (by unfold gE; rw [hg]) h
    | some gw =>
      obtain ⟨gi, want⟩ := gw
      rw [hg] at h
      simp only at h
      split at h
      · rename_i t hdst
        have hgt := guardTmp_eq hg hdst
        have hgEb : ∀ b, nb (s.tm t) = .v (.bool b) → gE T cfg ops.toList o s = bif b == want then opE T cfg (ev (resS ops.toList o s)) s.ob o else .d none skipD := by
          intro b hb
          unfold gE
          rw [hg]
          simp only [hdst, hb]
        split at h
        · rename_i e
          have hr : s = resS ops.toList o s := by rw [resS_eq hgt, e]
          have he := hgEb true (by rw [e]; rfl)
          rw [← hr] at he
          cases want with
          | true => exact run s hr he h
          | false => exact skip s hr he h
        · rename_i e
          have hr : s = resS ops.toList o s := by rw [resS_eq hgt, e]
          have he := hgEb false (by rw [e]; rfl)
          rw [← hr] at he
          cases want with
          | true => exact skip s hr he h
          | false => exact run s hr he h
        · rename_i vs e
          have hr : s = resS ops.toList o s := by rw [resS_eq hgt, e]
          refine skip s hr ?_ h
          unfold gE
          rw [hg]
          simp only [hdst, e, nb]
        · rename_i b e
          have hr : s.set t (.v (.bool b)) = resS ops.toList o s := by rw [resS_eq hgt, e]
          have he := hgEb b (by rw [e]; rfl)
          rw [← (resS_ob (all := ops.toList) o s).1, ← hr] at he
          obtain ⟨h1, h2⟩ := h
          cases b with
          | true =>
            cases want with
            | true => exact run _ hr he (h1 rfl)
            | false => exact skip _ hr he (h1 rfl)
          | false =>
            cases want with
            | true => exact skip _ hr he (h2 rfl)
            | false => exact run _ hr he (h2 rfl)
        · exact h.elim
      · exact h.elim
end
end Go.VL

namespace Go.VL
open Go Go.RowKit
section
variable {P : Program} {T : Tab} {cfg : Nat → FC} {n : Nat} {A : Amb}

theorem edges_mem {o : Oper} {j : Nat} : j ∈ edgesOf o ↔ ∃ e ∈ o.after, Region.binds .any e = true ∧ e.on = j := by
  unfold edgesOf
  rw [List.mem_filterMap]
  constructor
  · rintro ⟨e, he, h⟩
    refine ⟨e, by simpa using he, ?_⟩
    cases hg : e.ground <;> rw [hg] at h <;> simp only [Option.some.injEq, reduceCtorEq] at h <;> first | (cases h; done) | exact ⟨by simp [Region.binds, hg], h⟩
  · rintro ⟨e, he, hb, rfl⟩
    refine ⟨e, by simpa using he, ?_⟩
    cases hg : e.ground <;> simp [Region.binds, hg] at hb ⊢
theorem items_get : ∀ (l : List Oper) (acc : List It) (k : Nat) (o : Oper), l[k]? = some o → ∃ t, t ∈ itemsOf l acc ∧ t.i = acc.length + k ∧ t.o = o
  | [], acc, k, o, h => by simp at h
  | x :: l, acc, 0, o, h => by
    simp only [List.getElem?_cons_zero, Option.some.injEq] at h
    exact ⟨_, List.mem_cons_self, rfl, h⟩
  | x :: l, acc, k + 1, o, h => by
    obtain ⟨t, h1, h2, h3⟩ := items_get l (acc ++ [⟨acc.length, x, ancI x acc⟩]) k o (by simpa using h)
    exact ⟨t, List.mem_cons_of_mem _ h1, by rw [h2]; simp; omega, h3⟩
theorem items_of : ∀ (l : List Oper) (acc : List It) (t : It), t ∈ itemsOf l acc → ∃ k, l[k]? = some t.o ∧ t.i = acc.length + k
  | [], acc, t, h => by cases h
  | x :: l, acc, t, h => by
    rcases List.mem_cons.1 h with rfl | h
    · exact ⟨0, rfl, rfl⟩
    · obtain ⟨k, h1, h2⟩ := items_of l _ t h
      exact ⟨k + 1, by simpa using h1, by rw [h2]; simp; omega⟩
theorem items_sorted : ∀ (l : List Oper) (acc : List It), (itemsOf l acc).Pairwise fun x y => x.i < y.i
  | [], acc => List.Pairwise.nil
  | x :: l, acc => by
    refine List.Pairwise.cons (fun y hy => ?_) (items_sorted l _)
    obtain ⟨k, _, h2⟩ := items_of l _ y hy
    rw [h2]; simp; omega
theorem items_anc : ∀ (l : List Oper) (acc : List It) (t : It), t ∈ itemsOf l acc → ∀ j, j ∈ t.anc → j ∈ edgesOf t.o ∨ ∃ t', (t' ∈ acc ∨ t' ∈ itemsOf l acc) ∧ t'.i ∈ edgesOf t.o ∧ j ∈ t'.anc
  | [], acc, t, h => by cases h
  | x :: l, acc, t, h => by
    intro j hj
    rcases List.mem_cons.1 h with rfl | h
    · rcases List.mem_append.1 hj with hj | hj
      · exact .inl hj
      · obtain ⟨t', h1, h2⟩ := List.mem_flatMap.1 hj
        obtain ⟨h3, h4⟩ := List.mem_filter.1 h1
        exact .inr ⟨t', .inl h3, memN_mem h4, h2⟩
    · rcases items_anc l _ t h j hj with h1 | ⟨t', h1, h2, h3⟩
      · exact .inl h1
      · refine .inr ⟨t', ?_, h2, h3⟩
        rcases h1 with h1 | h1
        · rcases List.mem_append.1 h1 with h1 | h1
          · exact .inl h1
          · exact .inr (by rw [List.mem_singleton.1 h1]; exact List.mem_cons_self)
        · exact .inr (List.mem_cons_of_mem _ h1)
theorem getD_ft {listed : Array Bool} {i : Nat} (h : listed.getD i true = false) : listed.getD i false = false := by
  by_cases hi : i < listed.size
  · simpa [hi] using h
  · simp [show listed.size ≤ i by omega] at h
theorem any_ok (hT : TabOk P T) (hB : TabM P A.M0) {ops : Array Oper} {Ψ : St → Prop} {Q : Exit → Act → World → Prop} (hK : ∀ s a w, GamE n A s a w → Ψ s → Q .normal a w) :
    ∀ (fuel : Nat) (listed : Array Bool) (L : List It) (s : St) (a : Act) (w : World), L.length ≤ fuel → listed.size = ops.size → (∀ t, t ∈ L → t ∈ itemsOf ops.toList [] ∧ listed.getD t.i true = false) → (∀ t, t ∈ itemsOf ops.toList [] → t ∉ L → listed.getD t.i false = true) →
      L.Pairwise (fun x y => x.i < y.i) → (∀ t, t ∈ itemsOf ops.toList [] → listed.getD t.i false = true → ∀ j, j ∈ t.anc → listed.getD j false = true) → GamE n A s a w → Seq P T cfg n ops.toList Ψ L [] s → wpAny P .any ops Q fuel listed a w := by
  have item : ∀ j o, ops[j]? = some o → ∃ t, t ∈ itemsOf ops.toList [] ∧ t.i = j ∧ t.o = o := fun j o h => by
    obtain ⟨t, h1, h2, h3⟩ := items_get ops.toList [] j o (by simpa using h)
    exact ⟨t, h1, by simpa using h2, h3⟩
  have opOf : ∀ t, t ∈ itemsOf ops.toList [] → ops[t.i]? = some t.o := fun t ht => by
    obtain ⟨k, h1, h2⟩ := items_of ops.toList [] t ht
    rw [h2]; simpa using h1
  have done : ∀ (listed : Array Bool) (L : List It) (s : St) (a : Act) (w : World), (∀ t, t ∈ L → t ∈ itemsOf ops.toList [] ∧ listed.getD t.i true = false) → (∀ t, t ∈ itemsOf ops.toList [] → t ∉ L → listed.getD t.i false = true) →
      L.Pairwise (fun x y => x.i < y.i) → GamE n A s a w → Seq P T cfg n ops.toList Ψ L [] s → Region.ready .any ops listed = [] → Q .normal a w := by
    intro listed L s a w h1 h2 h3 g h hr
    cases L with
    | nil => exact hK s a w g h
    | cons t L =>
      exfalso
      obtain ⟨ht, hu⟩ := h1 t List.mem_cons_self
      have hb := Seq.back [] (L2 := L) h (fun x hx => by cases hx)
      have : t.i ∈ Region.ready .any ops listed := by
        rw [mem_ready]
        refine ⟨hu, t.o, opOf t ht, fun e he hbd => ?_⟩
        have hlt := hb.2.1 e.on (edges_mem.2 ⟨e, he, hbd, rfl⟩)
        have hsz : t.i < ops.size := (Array.getElem?_eq_some_iff.1 (opOf t ht)).1
        obtain ⟨t', q1, q2, _⟩ := item e.on ops[e.on] (Array.getElem?_eq_getElem (by omega))
        rw [← q2]
        refine h2 t' q1 fun hh => ?_
        rcases List.mem_cons.1 hh with rfl | hh
        · omega
        · have := (List.pairwise_cons.1 h3).1 t' hh; omega
      rw [hr] at this; cases this
  intro fuel
  induction fuel with
  | zero =>
    intro listed L s a w hl hs h1 h2 h3 h4 g h
    have : L = [] := List.length_eq_zero_iff.1 (by omega)
    subst this
    refine ⟨?_, hK s a w g h⟩
    cases hr : Region.ready .any ops listed with
    | nil => rfl
    | cons j js =>
      exfalso
      have hj : j ∈ Region.ready .any ops listed := by rw [hr]; exact List.mem_cons_self
      obtain ⟨hu, o, ho, _⟩ := mem_ready.1 hj
      obtain ⟨t, q1, q2, _⟩ := item j o ho
      have := h2 t q1 (by simp)
      rw [q2, getD_ft hu] at this; cases this
  | succ fuel ih =>
    intro listed L s a w hl hs h1 h2 h3 h4 g h
    refine ⟨done listed L s a w h1 h2 h3 g h, fun j hj => ?_⟩
    obtain ⟨hu, o, ho, hall⟩ := mem_ready.1 hj
    obtain ⟨t, q1, q2, q3⟩ := item j o ho
    subst q2; subst q3
    have htL : t ∈ L := by
      by_cases hh : t ∈ L
      · exact hh
      · have := h2 t q1 hh
        rw [getD_ft hu] at this; cases this
    obtain ⟨L1, L2, rfl⟩ := List.append_of_mem htL
    have hedge : ∀ j, j ∈ edgesOf t.o → listed.getD j false = true := fun j hj => by
      obtain ⟨e, he, hb, rfl⟩ := edges_mem.1 hj
      exact hall e he hb
    have hanc : ∀ j, j ∈ t.anc → listed.getD j false = true := fun j hj => by
      rcases items_anc ops.toList [] t q1 j hj with hh | ⟨t', hh, r1, r2⟩
      · exact hedge j hh
      · rcases hh with hh | hh
        · cases hh
        · exact h4 t' hh (hedge _ r1) j r2
    have hpull := Seq.pull L1 h fun x hx hx' => by
      have := hanc _ hx'
      rw [getD_ft (h1 x (List.mem_append_left _ hx)).2] at this; cases this
    have hlt : t.i < listed.size := by rw [hs]; exact (Array.getElem?_eq_some_iff.1 (opOf t q1)).1
    obtain ⟨p1, p2, p3⟩ := List.pairwise_append.1 h3
    have p2' := List.pairwise_cons.1 p2
    have hne : ∀ x, x ∈ L1 ++ L2 → x.i ≠ t.i := fun x hx => by
      rcases List.mem_append.1 hx with hx | hx
      · have := p3 x hx t List.mem_cons_self; omega
      · have := p2'.1 x hx; omega
    have next := g_real hT hB g hpull (Kw := wpAny P .any ops Q fuel (listed.setIfInBounds t.i true)) (Qw := Q) fun s' a' w' g' hY =>
      ih (listed.setIfInBounds t.i true) (L1 ++ L2) s' a' w' (by simp at hl ⊢; omega) (by simpa using hs)
        (fun x hx => by
          obtain ⟨r1, r2⟩ := h1 x (by
            rcases List.mem_append.1 hx with hx | hx
            · exact List.mem_append_left _ hx
            · exact List.mem_append_right _ (List.mem_cons_of_mem _ hx))
          exact ⟨r1, by rw [getD_set_ne true (Ne.symm (hne x hx))]; exact r2⟩)
        (fun x hx hn => by
          by_cases e : x.i = t.i
          · rw [e]; simp [hlt]
          · rw [getD_set_ne false (Ne.symm e)]
            refine h2 x hx fun hh => ?_
            rcases List.mem_append.1 hh with hh | hh
            · exact hn (List.mem_append_left _ hh)
            · rcases List.mem_cons.1 hh with rfl | hh
              · exact e rfl
              · exact hn (List.mem_append_right _ hh))
        (List.pairwise_append.2 ⟨p1, p2'.2, fun x hx y hy => p3 x hx y (List.mem_cons_of_mem _ hy)⟩)
        (fun x hx hlx jj hja => by
          by_cases e : x.i = t.i
          · have : x = t := by
              by_cases hxL : x ∈ L1 ++ t :: L2
              · rcases List.mem_append.1 hxL with hh | hh
                · exact absurd e (hne x (List.mem_append_left _ hh))
                · rcases List.mem_cons.1 hh with rfl | hh
                  · rfl
                  · exact absurd e (hne x (List.mem_append_right _ hh))
              · have := h2 x hx hxL
                rw [e, getD_ft hu] at this; cases this
            subst this
            exact getD_set_true (hanc jj hja)
          · rw [getD_set_ne false (Ne.symm e)] at hlx
            exact getD_set_true (h4 x hx hlx jj hja)) g' hY
    unfold wpOp
    rw [opOf t q1]
    simp only
    by_cases hw : Region.wanted t.o (yielded ops a.tmps) = true
    · rw [if_pos hw] at next ⊢; exact .inl next
    · rw [if_neg hw] at next ⊢; exact next
theorem reg_ok (hT : TabOk P T) (hm : P.follows .mixedOrders = true) (hB : TabM P A.M0) (Φ : Nat → List AV → List Ob → Prop) : RegOk P n A T cfg Φ := by
  intro id ops draw K Q hK s a w g h
  cases draw with
  | false => exact wp_region_list (ops_ok hT hB hK ops.toList [] s a w g h)
  | true =>
    refine wp_region_any hm ?_
    have hs := seq_of (H := []) ops ops.toList s h
    obtain ⟨M, β, g⟩ := g
    have g' : GamE n A s a { w with drawn := w.drawn + 1 } := ⟨M, β, { g with agree := ⟨g.agree.c, g.agree.p⟩, own := fun o x hx => (g.own o x hx).mono (Mem.le.refl _) (Lo.le.refl _) fun b hl hb => ⟨rfl, (g.own o x hx).noM hl hb⟩, keep := g.keep.trans_same rfl rfl rfl (Nat.le_refl _) fun _ _ _ => rfl }⟩
    refine any_ok hT hB (Ψ := fun s => wpT P n (K s) Φ) hK ops.size _ _ s a _ ?_ (by simp) (fun t ht => ⟨ht, ?_⟩) (fun t ht hn => absurd ht hn) (items_sorted _ _) (fun t ht hl => ?_) g' hs
    · have : ∀ (l : List Oper) (acc : List It), (itemsOf l acc).length = l.length := fun l => by
        induction l with
        | nil => intro acc; rfl
        | cons x l ih => intro acc; simp [itemsOf, ih]
      rw [this]; simp
    · obtain ⟨k, h1, h2⟩ := items_of ops.toList [] t ht
      have : t.i < ops.size := by
        rw [h2]
        have := (List.getElem?_eq_some_iff.1 h1).1
        simpa using this
      simp [this]
    · exfalso
      obtain ⟨k, h1, h2⟩ := items_of ops.toList [] t ht
      by_cases hi : t.i < ops.size
      · simp [hi] at hl
      · simp [show ops.size ≤ t.i by omega] at hl
end
end Go.VL

/-
  The two rules in use: a function is as its tree says; a loop is as one more round of it says.
-/
namespace Go.VL
open Go Go.RowKit
theorem tabOk_of {P : Program} : ∀ {l : List (Nat × TI)}, (l.all fun p => !p.2.kn || p.2.chk P p.1) = true → TabOk P (lookT l)
  | [], _, t, h => by cases h
  | (j, m) :: r, hl, t, h => by
    simp only [List.all_cons, Bool.and_eq_true, Bool.or_eq_true, Bool.not_eq_true'] at hl
    unfold lookT at h ⊢
    cases e : Nat.beq j t with
    | true =>
      simp only [e, cond_true] at h ⊢
      have := Nat.eq_of_beq_eq_true e
      subst this
      rcases hl.1 with h1 | h1
      · rw [h1] at h; cases h
      · exact chk_ok h1
    | false =>
      simp only [e, cond_false] at h ⊢
      exact tabOk_of hl.2 t h
section
variable {P : Program} {T : Tab} {cfg : Nat → FC} {lis : List (Nat × LI)}

theorem FSpec.of (hT : TabOk P T) (hm : P.follows .mixedOrders = true) {fc : FC} {f : Nat} {F : Func} {as : List AV} {ins : List Ob} {R : AV → List Ob → Prop} (hf : P.funcs[f]? = some F) (hnm : (F.name == "runtime.NumGoroutine") = false)
    (h : wpT P F.ntmps (main T cfg lis fc F as ins) fun _ xs obs => R (xs.headD .any) obs) : FSpec P f as ins R :=
  main_ok hT hf hnm (fun A hB => reg_ok hT hm hB _) h
theorem LSpec.of (hT : TabOk P T) (hm : P.follows .mixedOrders = true) {n : Nat} {c : Code} {li : LI} {xs : List AV} {obs : List Ob} {R : Nat → List AV → List Ob → Prop}
    (h : wpT P n (round T cfg n lis c li xs obs) fun tag ys o => (tag = 0 → LSpec P n c li ys o R) ∧ (tag = 1 → R 1 ys o) ∧ (tag = 2 → R 2 ys o)) : LSpec P n c li xs obs R :=
  LSpec.step (fun A hB => reg_ok hT hm hB _) h
theorem FSpec.ofE (hT : TabOk P T) (hm : P.follows .mixedOrders = true) {fc : FC} {f : Nat} {F : Func} {as : List AV} {ins : List Ob} {R : AV → List Ob → Prop} {t : Tree} (hf : P.funcs[f]? = some F) (hnm : (F.name == "runtime.NumGoroutine") = false) (e : main T cfg lis fc F as ins = t)
    (h : wpT P F.ntmps t fun _ xs obs => R (xs.headD .any) obs) : FSpec P f as ins R := FSpec.of hT hm hf hnm (by rw [e]; exact h)
theorem LSpec.ofE (hT : TabOk P T) (hm : P.follows .mixedOrders = true) {n : Nat} {c : Code} {li : LI} {xs : List AV} {obs : List Ob} {R : Nat → List AV → List Ob → Prop} {t : Tree} (e : round T cfg n lis c li xs obs = t)
    (h : wpT P n t fun tag ys o => (tag = 0 → LSpec P n c li ys o R) ∧ (tag = 1 → R 1 ys o) ∧ (tag = 2 → R 2 ys o)) : LSpec P n c li xs obs R := LSpec.of hT hm (by rw [e]; exact h)
theorem FSpec.mono {f : Nat} {as : List AV} {ins : List Ob} {R R' : AV → List Ob → Prop} (h : FSpec P f as ins R) (hr : ∀ r obs, R r obs → R' r obs) : FSpec P f as ins R' :=
  ⟨h.1, fun w M β vs hB hin => Calls.mono (h.2 w M β vs hB hin) fun e w' ⟨v, r, obs, M', β', he, hR, ho⟩ => ⟨v, r, obs, M', β', he, hr r obs hR, ho⟩⟩
end
end Go.VL

/-
  Results that are pointers to new memory, told apart from the pointers that were there before.
-/
namespace Go.VL
open Go Go.RowKit
/-- What is handed out, the chosen objects by their places. -/
def frI (sel : Nat → Bool) (ids : Nat → Nat) (ob : Nat → Option Ob) : Nat → AV → Option (AV × List Nat)
  | 0, _ => none
  | n + 1, a => match a with
    | .ref o 0 => match ob o with
      | some (.cells (c :: cs)) => (fzL (frI sel ids ob n) (c :: cs)).map fun r => (bif sel o then .pid (ids o) r.1 else .ptr r.1, o :: r.2)
      | _ => none
    | .x a => some (a, [])
    | .agg cs => (fzL (frI sel ids ob n) cs).map fun r => (.agg r.1, r.2)
    | .v x => some (.v x, [])
    | _ => none
theorem frI_ok {M : Mem} {β : Lo} {w : World} {sel : Nat → Bool} {ids : Nat → Nat} {ob : Nat → Option Ob} (hid : ∀ o c cs b, ob o = some (.cells (c :: cs)) → β o = some (.cells b) → ids o = b) :
    ∀ (k : Nat) (c a' : AV) (os : List Nat) (v : Value), frI sel ids ob k c = some (a', os) → Fz M β w ob os ∧ (∀ o, o ∈ os → ∀ c cs b, ob o = some (.cells (c :: cs)) → β o = some (.cells b) → M.p b) → Rep M β c v → Rep M noLo a' v
  | 0, c, a', os, v, h, _, _ => by simp [frI] at h
  | k + 1, c, a', os, v, h, ⟨hz, hp⟩, hr => by
    have ih : ∀ cs as os, fzL (frI sel ids ob k) cs = some (as, os) → Fz M β w ob os → (∀ o, o ∈ os → ∀ c cs b, ob o = some (.cells (c :: cs)) → β o = some (.cells b) → M.p b) → as.length = cs.length ∧ ∀ i v, i < cs.length → Rep M β (cs.getD i .any) v → Rep M noLo (as.getD i .any) v := by
      intro cs
      induction cs with
      | nil =>
        intro as os h _ _
        simp [fzL] at h
        obtain ⟨rfl, rfl⟩ := h
        exact ⟨rfl, fun i v hi => by simp at hi⟩
      | cons c cs ihc =>
        intro as os h hz hp
        unfold fzL at h
        split at h
        · rename_i a1 os1 as2 os2 h1 h2
          cases h
          obtain ⟨q1, q2⟩ := ihc _ _ h2 hz.right (fun o ho => hp o (List.mem_append_right _ ho))
          refine ⟨by simp [q1], fun i v hi hr => ?_⟩
          cases i with
          | zero => simpa using frI_ok hid k _ _ _ _ h1 ⟨hz.left, fun o ho => hp o (List.mem_append_left _ ho)⟩ (by simpa using hr)
          | succ i => simpa using q2 i v (by simpa using hi) (by simpa using hr)
        · cases h
    unfold frI at h
    split at h
    · rename_i o
      split at h
      · rename_i c0 cs0 ho
        cases e : fzL (frI sel ids ob k) (c0 :: cs0) with
        | none => rw [e] at h; cases h
        | some r =>
          rw [e] at h; cases h
          obtain ⟨as, os'⟩ := r
          obtain ⟨b, us, h1, h2⟩ := hz o List.mem_cons_self _ (by rw [ho]; rfl)
          obtain ⟨q1, q2⟩ := ih _ _ _ e (fun o' ho' => hz o' (List.mem_cons_of_mem _ ho')) (fun o' ho' => hp o' (List.mem_cons_of_mem _ ho'))
          cases hr with
          | ref _ _ _ b' hb =>
            rw [h1] at hb; cases hb
            simp only
            cases sel o with
            | true =>
              rw [hid o _ _ b ho h1]
              exact .pid _ _ _ us (hp o List.mem_cons_self _ _ b ho h1) (fun i hi => (h2 i (by omega)).1) fun i hi => q2 i _ (by omega) (h2 i (by omega)).2
            | false => exact .ptr _ _ _ _ us (fun i hi => by simpa using (h2 i (by omega)).1) fun i hi => q2 i _ (by omega) (h2 i (by omega)).2
      · cases h
    · cases h; cases hr with | x _ _ _ ho h => exact h
    · rename_i cs
      cases e : fzL (frI sel ids ob k) cs with
      | none => rw [e] at h; cases h
      | some r =>
        rw [e] at h; cases h
        obtain ⟨q1, q2⟩ := ih cs _ _ (by rw [e]) hz hp
        cases hr with
        | agg _ _ vs hl ho h =>
          exact .agg _ _ _ (q1.trans hl) (fun i hi => ho i (by omega)) fun i hi => q2 i _ (by omega) (h i (by omega))
    · cases h; cases hr; exact .v _ _
    · cases h
theorem fzL_I {M : Mem} {β : Lo} {w : World} {sel : Nat → Bool} {ids : Nat → Nat} {ob : Nat → Option Ob} (hid : ∀ o c cs b, ob o = some (.cells (c :: cs)) → β o = some (.cells b) → ids o = b) (k : Nat) :
    ∀ (cs as : List AV) (os : List Nat), fzL (frI sel ids ob k) cs = some (as, os) → Fz M β w ob os → (∀ o, o ∈ os → ∀ c cs b, ob o = some (.cells (c :: cs)) → β o = some (.cells b) → M.p b) → as.length = cs.length ∧ ∀ i v, i < cs.length → Rep M β (cs.getD i .any) v → Rep M noLo (as.getD i .any) v
  | [], as, os, h, _, _ => by
    simp [fzL] at h
    obtain ⟨rfl, rfl⟩ := h
    exact ⟨rfl, fun i v hi => by simp at hi⟩
  | c :: cs, as, os, h, hz, hp => by
    unfold fzL at h
    split at h
    · rename_i a1 os1 as2 os2 h1 h2
      cases h
      obtain ⟨q1, q2⟩ := fzL_I hid k cs _ _ h2 hz.right (fun o ho => hp o (List.mem_append_right _ ho))
      refine ⟨by simp [q1], fun i v hi hr => ?_⟩
      cases i with
      | zero => simpa using frI_ok hid k _ _ _ _ h1 ⟨hz.left, fun o ho => hp o (List.mem_append_left _ ho)⟩ (by simpa using hr)
      | succ i => simpa using q2 i v (by simpa using hi) (by simpa using hr)
    · cases h
/-- What is asked of the state at the end. -/
def LeafI (T : Tab) (F : Func) (S : Nat → Prop) (sel : Nat → Bool) (R : AV → Prop) (s : St) : Prop :=
  ∀ ids : Nat → Nat, (∀ o, ¬ S (ids o)) → match resAt T s F.results.toList with
    | some (p, as') => (match fzL (frI sel ids s.ob fzDepth) as' with
      | some (xs, _) => AllP p ∧ R (match xs with | [] => .any | [x] => x | xs => .tup xs)
      | none => False)
    | none => False
theorem LeafI.get {T : Tab} {F : Func} {S : Nat → Prop} {sel : Nat → Bool} {R : AV → Prop} {s : St} (h : LeafI T F S sel R s) (ids : Nat → Nat) (hi : ∀ o, ¬ S (ids o)) :
    ∃ p as' xs fz, resAt T s F.results.toList = some (p, as') ∧ AllP p ∧ fzL (frI sel ids s.ob fzDepth) as' = some (xs, fz) ∧ R (match xs with | [] => .any | [x] => x | xs => .tup xs) := by
  have := h ids hi
  split at this
  · split at this
    · rename_i h1 _ _ _ h2
      exact ⟨_, _, _, _, h1, this.1, h2, this.2⟩
    · exact this.elim
  · exact this.elim
def mainI (T : Tab) (cfg : Nat → FC) (F : Func) (c : Code) (as : List AV) (S : Nat → Prop) (sel : Nat → Bool) (R : AV → Prop) : Tree :=
  go T cfg F.ntmps [] [] c (enter as []) fun e s => match e with | .exit _ => .fail | _ => .need (LeafI T F S sel R s) (.done 0 [] [])
theorem FSpec.ofI {P : Program} {T : Tab} {cfg : Nat → FC} (hT : TabOk P T) (hm : P.follows .mixedOrders = true) {f : Nat} {F : Func} {as : List AV} {S : Nat → Prop} {sel : Nat → Bool} {R : AV → Prop} (hf : P.funcs[f]? = some F) (hnm : (F.name == "runtime.NumGoroutine") = false) {c : Code} (hb : F.body = some c) (hle : Nat.ble as.length F.ntmps = true)
    (hS : ∀ (M : Mem) (β : Lo) (vs : List Value), (∀ i, i < as.length → Rep M β (as.getD i .any) (vs.getD i undef)) → ∀ b, S b → M.p b)
    (h : wpT P F.ntmps (mainI T cfg F c as S sel R) fun _ _ _ => True) : FSpec P f as [] (fun r o => R r ∧ o = []) := by
  unfold mainI at h
  have hle := Nat.le_of_ble_eq_true hle
  refine ⟨⟨F, hf, by simp [hb], hnm⟩, fun w M β vs hB hin => ?_⟩
  let A : Amb := ⟨w, M, fun b => ∃ i, i < 0 ∧ blk β i = some b, fun o => none⟩
  have hβ : ∀ o, β o = none := fun o => hin.none o (Nat.zero_le _)
  have hob : ∀ o, (enter as []).ob o = none := fun o => rfl
  have g0 : Gam F.ntmps A (enter as []) { tmps := vs.toArray ++ Array.replicate (F.ntmps - vs.toArray.size) undef, defers := [] } w M β := by
    refine { size := by simp [hin.len]; omega, defs := rfl, tm := fun t => ?_, le := Mem.le.refl _, new := fun b k v h => .inl h, agree := hin.agree, own := fun o x h => ?_, place := fun o x b h _ hb => ?_, apart := fun o o' x x' b hne h hl h' hl' hb => ?_, us := fun o hu => ⟨hβ o, hob o⟩, fix := fun o b hb => (by cases hb), keep := ⟨rfl, rfl, rfl, Nat.le_refl _, fun _ _ _ => rfl⟩ }
    · show Rep M β (setArgs as 0 (fun _ => .any) t) _
      rw [setArgs_get]
      by_cases ht : t < as.length
      · rw [if_pos (by omega), Nat.sub_zero]
        have e : (vs.toArray ++ Array.replicate (F.ntmps - vs.toArray.size) undef).getD t undef = vs.getD t undef := by
          have : t < vs.length := by rw [hin.len]; exact ht
          simp [Array.getElem?_append, this, List.getD_eq_getElem?_getD]
        rw [e]; exact hin.rep t ht
      · rw [if_neg (by omega)]; exact .any _ _
    · rw [hob o] at h; cases h
    · rw [hob o] at h; cases h
    · rw [hob o] at h; cases h
  have hS' : ∀ b, S b → b < w.heap.size := fun b hb => by
    obtain ⟨k, v, hc⟩ := M.pc b (hS M β vs hin.rep b hb)
    exact hin.agree.lt hc
  refine calls_of_wp hf hb (go_ok (A := A) hB (reg_ok hT hm hB _) [] (fx := []) (fun o b hb => by cases hb) c _ _ _ ?_ _ w ⟨M, β, g0⟩ h)
  intro ex s a w' ⟨M', β', g⟩ h'
  have fin : LeafI T F S sel R s → a.defers = [] ∧ ∃ v, (results F a.tmps).run P w' = .ok v w' ∧ ∃ v' r obs M'' β'', Ending.returned v = .returned v' ∧ (R r ∧ obs = []) ∧ Out w M β 0 r obs v' w' M'' β'' := by
    intro hl
    let ids : Nat → Nat := fun o => match s.ob o, β' o with | some (.cells _), some (.cells b) => b | _, _ => w.heap.size
    have hids : ∀ o, ¬ S (ids o) := fun o hSo => by
      have hlt := hS' _ hSo
      simp only [ids] at hlt
      split at hlt
      · rename_i cs b e1 e2
        rcases g.place o _ b e1 rfl (by simp [blk, e2, Loc.block]) with h | ⟨i, hi, _⟩
        · exact absurd h (by show ¬ w.heap.size ≤ b; omega)
        · omega
      · omega
    obtain ⟨p, as', xs, fz, hres, hp, hfz, hR⟩ := hl.get ids hids
    obtain ⟨rs, h1, h2, h3⟩ := resAt_ok hT g F.results.toList hres hp
    obtain ⟨M1, hM, g1, hpp⟩ := g.freezeP fz
    obtain ⟨q1, q2⟩ := fzL_I (M := M1) (β := β') (w := w') (ids := ids) (fun o c cs b e1 e2 => by simp only [ids, e1, e2]) fzDepth as' xs fz hfz g1.fz (fun o ho c cs b e1 e2 => hpp o ho _ b e1 (by simp) e2)
    have hrep : ∀ i, i < xs.length → Rep M1 noLo (xs.getD i .any) (rs.getD i undef) := fun i hi => q2 i _ (by omega) ((h3 i (by omega)).mono hM (Lo.le.refl _))
    have hrun : (results F a.tmps).run P w' = .ok (if h : rs.toArray.size = 1 then rs.toArray[0] else .tuple rs.toArray) w' := by
      rw [results_eq, Sem.run_bind, Array.mapM_eq_mapM_toList]
      simp only [Sem.run_map, h1]
      rfl
    refine ⟨g.defs, _, hrun, _, _, [], M1, noLo, rfl, ⟨hR, rfl⟩, ?_⟩
    have hxl : xs.length = rs.length := by omega
    refine ⟨g1.le, g1.agree, ?_, fun j hj => (by simp at hj), fun j b hj hb => (by omega), fun j l sz es hj => (by omega), fun i j b hne hi => (by simp at hi), fun j b hj => (by simp at hj), fun b k v hc => g1.new b k v hc, ⟨g1.keep.os, g1.keep.tape, g1.keep.output, g1.keep.size, g1.keep.block⟩⟩
    match xs, rs, hxl, hrep with
    | [], [], _, _ => exact .any _ _
    | [x], [r], _, hrep => simpa using hrep 0 (by simp)
    | x :: y :: xs, r :: q :: rs, hl, hrep => exact .tup _ _ _ (by simpa using hl) hrep
  cases ex with
  | normal => exact fin h'.1
  | ret => exact fin h'.1
  | exit i => exact h'.elim
end Go.VL

/-
  The rules in use: calls and loops whose results are told.
-/
namespace Go.VL
open Go Go.RowKit
section
variable {P : Program} {n : Nat} {Q : Nat → List AV → List Ob → Prop}
abbrev Det (v : AV) : AV → List Ob → Prop := fun r o => r = v ∧ o = []
abbrev LIs (t : Nat) (ys : List AV) (o : List Ob) : Nat → List AV → List Ob → Prop := fun t' ys' o' => t' = t ∧ ys' = ys ∧ o' = o
theorem wp_call {f : Nat} {as : List AV} {ins : List Ob} {k : AV → List Ob → Tree} {R : AV → List Ob → Prop} (h : FSpec P f as ins R) (hne : ∃ r o, R r o) (hk : ∀ r o, R r o → wpT P n (k r o) Q) : wpT P n (.call f as ins k) Q := ⟨R, h, hne, hk⟩
theorem wp_det {f : Nat} {as : List AV} {k : AV → List Ob → Tree} {v : AV} (h : FSpec P f as [] (Det v)) (hk : wpT P n (k v []) Q) : wpT P n (.call f as [] k) Q :=
  ⟨Det v, h, ⟨v, [], rfl, rfl⟩, fun r o ⟨h1, h2⟩ => by rw [h1, h2]; exact hk⟩
theorem wpt_loop {c : Code} {li : LI} {xs : List AV} {obs : List Ob} {kx kr : List AV → List Ob → Tree} {R : Nat → List AV → List Ob → Prop} (h : LSpec P n c li xs obs R) (h1 : ∀ ys o, R 1 ys o → wpT P n (kx ys o) Q) (h2 : ∀ ys o, R 2 ys o → wpT P n (kr ys o) Q) : wpT P n (.loop c li xs obs kx kr) Q := ⟨R, h, h1, h2⟩
theorem wp_loop1 {c : Code} {li : LI} {xs : List AV} {obs : List Ob} {kx kr : List AV → List Ob → Tree} {ys : List AV} {o : List Ob} (h : LSpec P n c li xs obs (LIs 1 ys o)) (h1 : wpT P n (kx ys o) Q) : wpT P n (.loop c li xs obs kx kr) Q :=
  ⟨_, h, fun ys' o' ⟨_, e1, e2⟩ => by rw [e1, e2]; exact h1, fun ys' o' ⟨e, _⟩ => by cases e⟩
theorem wp_loop2 {c : Code} {li : LI} {xs : List AV} {obs : List Ob} {kx kr : List AV → List Ob → Tree} {ys : List AV} {o : List Ob} (h : LSpec P n c li xs obs (LIs 2 ys o)) (h1 : wpT P n (kr ys o) Q) : wpT P n (.loop c li xs obs kx kr) Q :=
  ⟨_, h, fun ys' o' ⟨e, _⟩ => (by cases e), fun ys' o' ⟨_, e1, e2⟩ => by rw [e1, e2]; exact h1⟩
theorem wp_test {b : Bool} {y t : Tree} (h1 : b = true → wpT P n y Q) (h2 : b = false → wpT P n t Q) : wpT P n (.test b y t) Q := ⟨h1, h2⟩
theorem wp_need {p : Prop} {t : Tree} (h1 : p) (h2 : wpT P n t Q) : wpT P n (.need p t) Q := ⟨h1, h2⟩
theorem wp_done {tag : Nat} {xs : List AV} {o : List Ob} (h : Q tag xs o) : wpT P n (.done tag xs o) Q := h
end
abbrev LBy (x : Nat × List AV × List Ob) : Nat → List AV → List Ob → Prop := fun t ys o => (t, ys, o) = x
theorem wp_loopB {P : Program} {n : Nat} {Q : Nat → List AV → List Ob → Prop} {c : Code} {li : LI} {xs : List AV} {obs : List Ob} {kx kr : List AV → List Ob → Tree} {x : Nat × List AV × List Ob} (h : LSpec P n c li xs obs (LBy x)) (h1 : ∀ ys o, x = (1, ys, o) → wpT P n (kx ys o) Q) (h2 : ∀ ys o, x = (2, ys, o) → wpT P n (kr ys o) Q) : wpT P n (.loop c li xs obs kx kr) Q :=
  ⟨_, h, fun ys o e => h1 ys o e.symm, fun ys o e => h2 ys o e.symm⟩
/-- What is asked at the end of a round. -/
def Rnd (L : List AV → List Ob → Prop) (R : Nat → List AV → List Ob → Prop) : Nat → List AV → List Ob → Prop := fun tag ys o => (tag = 0 → L ys o) ∧ (tag = 1 → R 1 ys o) ∧ (tag = 2 → R 2 ys o)
theorem step0 {L : List AV → List Ob → Prop} {R : Nat → List AV → List Ob → Prop} {ys : List AV} {o : List Ob} : Rnd L R 0 ys o = L ys o := by simp [Rnd]
theorem step1 {L : List AV → List Ob → Prop} {R : Nat → List AV → List Ob → Prop} {ys : List AV} {o : List Ob} : Rnd L R 1 ys o = R 1 ys o := by simp [Rnd]
theorem step2 {L : List AV → List Ob → Prop} {R : Nat → List AV → List Ob → Prop} {ys : List AV} {o : List Ob} : Rnd L R 2 ys o = R 2 ys o := by simp [Rnd]
section
variable {P : Program} {n : Nat} {Q : Nat → List AV → List Ob → Prop}
theorem w_test {b : Bool} {y t : Tree} : wpT P n (.test b y t) Q = ((b = true → wpT P n y Q) ∧ (b = false → wpT P n t Q)) := rfl
theorem w_testd {p : Prop} [Decidable p] {y t : Tree} : wpT P n (.test (decide p) y t) Q = ((p → wpT P n y Q) ∧ (¬ p → wpT P n t Q)) := by
  show ((decide p = true → _) ∧ (decide p = false → _)) = _
  rw [decide_eq_true_eq, decide_eq_false_iff_not]
theorem w_testn {b : Bool} {y t : Tree} : wpT P n (.test (!b) y t) Q = ((b = false → wpT P n y Q) ∧ (b = true → wpT P n t Q)) := by
  show (((!b) = true → _) ∧ ((!b) = false → _)) = _
  rw [Bool.not_eq_true', Bool.not_eq_false']
theorem w_teste {α : Type} [BEq α] {a b : α} {y t : Tree} : wpT P n (.test (a == b) y t) Q = (((a == b) = true → wpT P n y Q) ∧ ((a == b) = false → wpT P n t Q)) := rfl
theorem w_testne {α : Type} [BEq α] {a b : α} {y t : Tree} : wpT P n (.test (a != b) y t) Q = (((a != b) = true → wpT P n y Q) ∧ ((a != b) = false → wpT P n t Q)) := rfl
theorem w_testb {a : AV} {y t : Tree} : wpT P n (.test a.toBool y t) Q = ((a.toBool = true → wpT P n y Q) ∧ (a.toBool = false → wpT P n t Q)) := rfl
theorem w_testi {a : AV} {y t : Tree} : wpT P n (.test a.isNil y t) Q = ((a.isNil = true → wpT P n y Q) ∧ (a.isNil = false → wpT P n t Q)) := rfl
theorem w_need {p : Prop} {t : Tree} : wpT P n (.need p t) Q = (p ∧ wpT P n t Q) := rfl
theorem w_done {tag : Nat} {xs : List AV} {o : List Ob} : wpT P n (.done tag xs o) Q = Q tag xs o := rfl
end
def mk (l : List UInt8) : ByteArray := ⟨l.toArray⟩
theorem has_int (k : IntKind) (n : Int) : LK.has (.int k) (.v (.int k n)) = True := eq_true ⟨n, rfl⟩
theorem has_bool (b : Bool) : LK.has .bool (.v (.bool b)) = True := eq_true ⟨b, rfl⟩
theorem has_str (s : ByteArray) : LK.has .str (.v (.string s)) = True := eq_true ⟨s, rfl⟩
theorem has_sl (es : List (List AV)) : LK.has .sl (.sl es) = True := eq_true (.inr ⟨es, rfl⟩)
theorem has_slnil : LK.has .sl (.v (.slice none 0 0)) = True := eq_true (.inl rfl)
theorem has_ptr (cs : List AV) : LK.has .ptr (.ptr cs) = True := eq_true (.inr (.inl ⟨cs, rfl⟩))
theorem has_nil : LK.has .ptr (.v (.pointer none)) = True := eq_true (.inl rfl)
theorem toInt_v (k : IntKind) (n : Int) : (AV.v (.int k n)).toInt = n := rfl
theorem toStr_v (b : ByteArray) : (AV.v (.string b)).toStr = b := rfl
theorem toBool_v (b : Bool) : (AV.v (.bool b)).toBool = b := rfl
theorem comp_tup (cs : List AV) (i : Nat) : (AV.tup cs).comp i = cs.getD i .any := rfl
theorem elems_sl (es : List (List AV)) : (AV.sl es).elems = es := rfl
theorem elems_nil : (AV.v (.slice none 0 0)).elems = [] := rfl
theorem deref_ptr (cs : List AV) : (AV.ptr cs).deref = cs := rfl
theorem isNil_ptr (cs : List AV) : (AV.ptr cs).isNil = false := rfl
theorem isNil_nil : (AV.v (.pointer none)).isNil = true := rfl
theorem cs_agg (cs : List AV) : (AV.agg cs).cs = cs := rfl
theorem cs_cells (cs : List AV) : (Ob.cells cs).cs = cs := rfl
theorem es_vec (z : Nat) (es : List (List AV)) : (Ob.vec z es).es = es := rfl
theorem wrap64 (n : Int) (h : -9223372036854775808 ≤ n) (h' : n < 9223372036854775808) : IntKind.wrap .i64 n = n := by
  simp [IntKind.wrap, IntKind.signed, IntKind.bits]; omega

/-! ### Arguments as a caller has them -/
def Up (a' a : AV) : Prop := ∀ M β v, Rep M β a' v → Rep M β a v
theorem up_refl (a : AV) : Up a a := fun _ _ _ h => h
theorem up_sl {a : AV} (h : LK.sl.has a) : Up a (.x a) := fun M β v hr => .x _ _ _ (one_sl hr h) (has_noLo hr h)
theorem up_ptr {a : AV} (h : LK.ptr.has a) : Up a (.x a) := fun M β v hr => .x _ _ _ (one_ptr hr h) (has_noLo hr h)
theorem up_oth {a : AV} (h : LK.oth.has a) : Up a (.x a) := fun M β v hr => .x _ _ _ (one_oth hr h) (has_noLo hr h)
theorem up_b (b : Bool) : Up (.v (.bool b)) (.b b) := fun M β v hr => by cases hr; exact .b _ _
def UpL : List AV → List AV → Prop
  | [], [] => True
  | a :: as, b :: bs => Up a b ∧ UpL as bs
  | _, _ => False
theorem up_nil : UpL [] [] := trivial
theorem up_cons {a b : AV} {as bs : List AV} (h : Up a b) (hs : UpL as bs) : UpL (a :: as) (b :: bs) := ⟨h, hs⟩
theorem UpL.get : ∀ {as bs : List AV}, UpL as bs → as.length = bs.length ∧ ∀ i, i < bs.length → Up (as.getD i .any) (bs.getD i .any)
  | [], [], _ => ⟨rfl, fun i hi => by cases hi⟩
  | a :: as, b :: bs, h => by
    obtain ⟨h1, h2⟩ := UpL.get h.2
    refine ⟨by simp [h1], fun i hi => ?_⟩
    cases i with
    | zero => simpa using h.1
    | succ i => simpa using h2 i (by simpa using hi)
  | [], _ :: _, h => h.elim
  | _ :: _, [], h => h.elim
theorem up_agg {as bs : List AV} (h : UpL as bs) : Up (.agg as) (.agg bs) := fun M β v hr => by
  obtain ⟨vs, rfl, hl, hr, ho⟩ := rep_agg hr
  obtain ⟨h1, h2⟩ := h.get
  exact .agg _ _ _ (by omega) (fun i hi => ho i (by omega)) fun i hi => h2 i hi M β _ (hr i (by omega))
theorem FSpec.up {P : Program} {f : Nat} {as bs : List AV} {ins : List Ob} {R : AV → List Ob → Prop} (h : UpL as bs) (hf : FSpec P f bs ins R) : FSpec P f as ins R :=
  ⟨hf.1, fun w M β vs hB hin => hf.2 w M β vs hB { hin with len := by rw [hin.len, h.get.1], rep := fun i hi => h.get.2 i hi _ _ _ (hin.rep i (by rw [h.get.1]; exact hi)) }⟩
def UpO : Ob → Ob → Prop
  | .cells as, .cells bs => UpL as bs
  | x, y => x = y
theorem upo_refl (x : Ob) : UpO x x := by
  cases x with
  | cells cs => induction cs with
    | nil => exact up_nil
    | cons c cs ih => exact up_cons (up_refl c) ih
  | _ => rfl
theorem upo_cells {as bs : List AV} (h : UpL as bs) : UpO (.cells as) (.cells bs) := h
def UpOs : List Ob → List Ob → Prop
  | [], [] => True
  | a :: as, b :: bs => UpO a b ∧ UpOs as bs
  | _, _ => False
theorem upos_nil : UpOs [] [] := trivial
theorem upos_cons {a b : Ob} {as bs : List Ob} (h : UpO a b) (hs : UpOs as bs) : UpOs (a :: as) (b :: bs) := ⟨h, hs⟩
theorem UpO.eq {x y : Ob} (h : UpO x y) : x = y ∨ ∃ as bs, x = .cells as ∧ y = .cells bs ∧ UpL as bs := by
  cases x with
  | cells as =>
    cases y with
    | cells bs => exact .inr ⟨as, bs, rfl, rfl, h⟩
    | _ => cases h
  | _ => exact .inl h
theorem UpO.live {x y : Ob} (h : UpO x y) : x.live = y.live := by
  rcases h.eq with rfl | ⟨as, bs, rfl, rfl, _⟩ <;> rfl
theorem UpO.own {x y : Ob} (h : UpO x y) {M : Mem} {β : Lo} {w : World} {o : Nat} (hx : Own M β w o x) : Own M β w o y := by
  rcases h.eq with rfl | ⟨as, bs, rfl, rfl, hl⟩
  · exact hx
  · obtain ⟨h1, h2⟩ := UpL.get hl
    obtain ⟨b, vs, e, q1, q2, q3, q4, q5⟩ := hx
    exact ⟨b, vs, e, q1, q2, by omega, fun i hi => h2 i hi _ _ _ (q4 i (by omega)), q5⟩
theorem UpOs.get : ∀ {as bs : List Ob}, UpOs as bs → as.length = bs.length ∧ ∀ i, i < bs.length → UpO (as.getD i .dead) (bs.getD i .dead)
  | [], [], _ => ⟨rfl, fun i hi => by cases hi⟩
  | a :: as, b :: bs, h => by
    obtain ⟨h1, h2⟩ := UpOs.get h.2
    refine ⟨by simp [h1], fun i hi => ?_⟩
    cases i with
    | zero => simpa using h.1
    | succ i => simpa using h2 i (by simpa using hi)
  | [], _ :: _, h => h.elim
  | _ :: _, [], h => h.elim
theorem FSpec.upo {P : Program} {f : Nat} {as : List AV} {ins ins' : List Ob} {R : AV → List Ob → Prop} (h : UpOs ins ins') (hf : FSpec P f as ins' R) : FSpec P f as ins R := by
  obtain ⟨hl, hg⟩ := h.get
  refine ⟨hf.1, fun w M β vs hB hin => ?_⟩
  rw [hl]
  exact hf.2 w M β vs hB { hin with own := fun j hj => (hg j hj).own (hin.own j (by omega)), none := fun j hj => hin.none j (by omega), apart := fun i j b hne hi hj hli hlj hb => hin.apart i j b hne (by omega) (by omega) (by rw [(hg i hi).live]; exact hli) (by rw [(hg j hj).live]; exact hlj) hb }
end Go.VL

/-
  From a row's arguments to abstract values; from a law's contract to the row's last step.
-/
namespace Go.VL
open Go Go.RowKit Go.WideShapes Go.ChangeShapes

/-- All cells of the world. -/
def memOf (w : World) : Mem where
  c b k := match w.cell? ⟨b, k, none⟩ with | some v => if v.oneCell' = true then some v else none | none => none
  one b k v h := by
    split at h
    · split at h
      · cases h; assumption
      · cases h
    · cases h
  p _ := False
  pc b h := h.elim
theorem memOf_agree (w : World) : Agree (memOf w) w where
  c b k v h := by
    simp only [memOf] at h
    split at h
    · split at h
      · cases h; assumption
      · cases h
    · cases h
  p b h := h.elim
theorem memOf_c {w : World} {b k : Nat} {v : Value} (h : w.cell? ⟨b, k, none⟩ = some v) (ho : v.oneCell' = true) : (memOf w).c b k = some v := by
  simp only [memOf, h, ho, if_true]

/-- Cells that are numbers, bools, strings. -/
def scalOk : LK → Value → Prop
  | .int k, v => ∃ n, v = .int k n ∧ (Lit.int k n).wf = true
  | .bool, v => ∃ b, v = .bool b
  | .str, v => ∃ s, v = .string s ∧ s.size ≤ maxLen
  | _, _ => False
theorem scalOk_one {k : LK} {v : Value} (h : scalOk k v) : v.oneCell' = true := by
  cases k <;> first | exact h.elim | skip
  · obtain ⟨n, rfl, _⟩ := h; rfl
  · obtain ⟨n, rfl⟩ := h; rfl
  · obtain ⟨n, rfl, _⟩ := h; rfl
def scalFs (f : TypeId → Option (List LK)) (P : Program) : List Field → Nat → Option (List LK)
  | [], _ => some []
  | fd :: r, off => if fd.offset = off then match f fd.type, scalFs f P r (off + P.cellsOf fd.type) with
      | some ks, some ks' => if ks.length = P.cellsOf fd.type then some (ks ++ ks') else none
      | _, _ => none else none
def scal (P : Program) : Nat → TypeId → Option (List LK)
  | 0, _ => none
  | n + 1, t => match P.underlying t with
    | some (.int k) => some [.int k]
    | some .bool => some [.bool]
    | some .string => some [.str]
    | some (.struct fs) => match scalFs (scal P n) P fs.toList 0 with
      | some ks => if ks.length = P.cellsOf t then some ks else none
      | none => none
    | _ => none
section
variable {H : Type} {enc : TypeId × Value → H} {P : Program} {w : World} {base : Nat} {spare : Nat → Bool} {held : Bool}
theorem scalFs_ok {f : TypeId → Option (List LK)} {m : Nat} {cs : List Value}
    (hf : ∀ t ks cs' x, f t = some ks → DataW.trod enc P w base spare held m t cs' = some x → cs'.length = ks.length ∧ ∀ i, i < ks.length → scalOk (ks.getD i .oth) (cs'.getD i undef)) :
    ∀ (fs : List Field) (off : Nat) (ks : List LK), scalFs f P fs off = some ks → (∀ fd, fd ∈ fs → ∃ x, DataW.trod enc P w base spare held m fd.type ((cs.drop fd.offset).take (P.cellsOf fd.type)) = some x) → ∀ i, i < ks.length → scalOk (ks.getD i .oth) (cs.getD (off + i) undef)
  | [], off, ks, h, hx, i, hi => by cases h; simp at hi
  | fd :: r, off, ks, h, hx, i, hi => by
    unfold scalFs at h
    split at h
    · rename_i ho
      split at h
      · rename_i ks1 ks2 h1 h2
        split at h
        · rename_i hl
          cases h
          obtain ⟨x, hx1⟩ := hx fd List.mem_cons_self
          obtain ⟨q1, q2⟩ := hf _ _ _ _ h1 hx1
          by_cases hi' : i < ks1.length
          · have := q2 i hi'
            have e1 : (ks1 ++ ks2).getD i .oth = ks1.getD i .oth := by simp [List.getD_eq_getElem?_getD, List.getElem?_append_left hi']
            have e2 : ((cs.drop fd.offset).take (P.cellsOf fd.type)).getD i undef = cs.getD (off + i) undef := by
              simp [List.getD_eq_getElem?_getD, List.getElem?_take, List.getElem?_drop, ho, show i < P.cellsOf fd.type by omega]
            rw [e1, ← e2]; exact this
          · have := scalFs_ok hf r _ _ h2 (fun g hg => hx g (List.mem_cons_of_mem _ hg)) (i - ks1.length) (by simp at hi; omega)
            have e1 : (ks1 ++ ks2).getD i .oth = ks2.getD (i - ks1.length) .oth := by simp [List.getD_eq_getElem?_getD, List.getElem?_append_right (show ks1.length ≤ i by omega)]
            rw [e1]
            rw [show off + P.cellsOf fd.type + (i - ks1.length) = off + i by omega] at this
            exact this
        · cases h
      · cases h
    · cases h
theorem scal_ok : ∀ (n : Nat) (t : TypeId) (ks : List LK) {m : Nat} {cs : List Value} {x : DataW H × List MemPlace}, scal P n t = some ks → DataW.trod enc P w base spare held m t cs = some x → cs.length = ks.length ∧ ∀ i, i < ks.length → scalOk (ks.getD i .oth) (cs.getD i undef)
  | 0, t, ks, m, cs, x, h, hx => by cases h
  | n + 1, t, ks, m, cs, x, h, hx => by
    unfold scal at h
    split at h
    · rename_i k hu
      cases h
      obtain ⟨z, rfl, _, hw⟩ := DataW.trod_int hu hx
      refine ⟨rfl, fun i hi => ?_⟩
      have : i = 0 := by simpa using hi
      subst this
      exact ⟨z, rfl, hw⟩
    · rename_i hu
      cases h
      obtain ⟨z, rfl, _⟩ := DataW.trod_bool hu hx
      refine ⟨rfl, fun i hi => ?_⟩
      have : i = 0 := by simpa using hi
      subst this
      exact ⟨z, rfl⟩
    · rename_i hu
      cases h
      obtain ⟨z, rfl, _, hw⟩ := DataW.trod_string hu hx
      refine ⟨rfl, fun i hi => ?_⟩
      have : i = 0 := by simpa using hi
      subst this
      exact ⟨z, rfl, hw⟩
    · rename_i fs hu
      split at h
      · rename_i ks' hs
        split at h
        · rename_i hl
          cases h
          obtain ⟨xs, m', rfl, _, h1, h2, h3⟩ := DataW.trod_struct hu hx
          refine ⟨by omega, fun i hi => ?_⟩
          have := scalFs_ok (m := m') (cs := cs) (fun t ks cs' x h1 h2 => scal_ok n t ks h1 h2) fs.toList 0 ks hs (fun fd hfd => by
            obtain ⟨j, hj, e⟩ := List.getElem_of_mem hfd
            have hj' : j < fs.size := by simpa using hj
            have e' : fs[j]? = some fd := by simp [hj', ← e]
            have h4 := h3 j fd e'
            rw [List.getElem?_eq_getElem (by omega)] at h4
            exact ⟨_, h4⟩) i hi
          simpa using this
        · cases h
      · cases h
    · cases h

/-- An argument that is a slice of such elements. -/
theorem arg_slice {r : Reach} {b0 : Nat} {t e : TypeId} {n : Nat} {ks : List LK} {v : Value} {d : DataW H} {ps : List MemPlace} (ht : P.underlying t = some (.slice e)) (hs : scal P n e = some ks) (hc : P.cellsOf e = ks.length)
    (hval : Value.okWide P w r b0 t v) (hd : DataW.Trod enc P w base (fun _ => true) held t v d ps) :
    ∃ a, Rep (memOf w) noLo a v ∧ (a = .v (.slice none 0 0) ∨ ∃ es, a = .sl es ∧ es.length ≤ maxLen ∧ ∀ c, c ∈ es → c.length = ks.length ∧ ∀ i, i < ks.length → ∃ x, c.getD i .any = .v x ∧ scalOk (ks.getD i .oth) x) := by
  obtain ⟨m, hd⟩ := hd
  rcases Deep.open_slice ht hd with ⟨h, _⟩ | ⟨a, len, cap, m', n', D, Pl, h, hb, hl, hm, hmm, hx', hx⟩
  · have : v = .slice none 0 0 := by
      cases v <;> first | (simp [Value.okWide, ht, Cell.okWide, Cell.ok] at hval; done) | simpa [Value.cells] using h
    subst this
    exact ⟨_, .v _ _, .inl rfl⟩
  · have hv : v = .slice (some a) len cap := by
      cases v <;> first | (simp [Value.okWide, ht, Cell.okWide, Cell.ok] at hval; done) | simpa [Value.cells] using h
    subst hv
    have hspot : a.spot = none := by
      simp only [Value.okWide, ht, Cell.okWide, Cell.ok] at hval
      exact hval.2.2.2.1
    obtain ⟨ab, ao, asp⟩ := a
    simp only at hspot
    subst hspot
    simp only [if_true] at hmm
    have hadd : ∀ o i, (Addr.add ⟨ab, o, none⟩ i) = ⟨ab, o + i, none⟩ := fun o i => by unfold Addr.add; split <;> simp_all
    let us : Nat → Value := fun j => (w.cell? ⟨ab, ao + j, none⟩).getD undef
    have key : ∀ i, i < len → ∀ j, j < ks.length → w.cell? ⟨ab, ao + (i * ks.length + j), none⟩ = some (us (i * ks.length + j)) ∧ scalOk (ks.getD j .oth) (us (i * ks.length + j)) := fun i hi j hj => by
      obtain ⟨cs', h1, h2⟩ := hx i (by omega)
      obtain ⟨q1, q2⟩ := scal_ok n e ks hs h2
      obtain ⟨_, q3, q4⟩ := World.cells?_some h1
      have q5 := q4 j (by omega)
      rw [hc, hadd, hadd, List.getElem?_eq_getElem (by omega)] at q5
      have e0 : ao + i * ks.length + j = ao + (i * ks.length + j) := by omega
      rw [e0] at q5
      have e1 : us (i * ks.length + j) = cs'.getD j undef := by simp [us, q5, List.getD_eq_getElem?_getD, show j < cs'.length by omega]
      refine ⟨by rw [e1, q5]; simp [List.getD_eq_getElem?_getD, show j < cs'.length by omega], by rw [e1]; exact q2 j hj⟩
    let es : List (List AV) := (List.range len).map fun i => (List.range ks.length).map fun j => .v (us (i * ks.length + j))
    have hel : es.length = len := by simp [es]
    have hg : ∀ i, i < len → es.getD i [] = (List.range ks.length).map fun j => .v (us (i * ks.length + j)) := fun i hi => by
      simp [es, List.getD_eq_getElem?_getD, hi]
    refine ⟨.sl es, ?_, .inr ⟨es, rfl, by omega, fun c hcm => ?_⟩⟩
    · have := Rep.sl (M := memOf w) noLo es ab ao cap ks.length us (by omega) (fun i hi => by rw [hg i (by omega)]; simp) (fun i hi => by
          rw [hel] at hi
          have hk : 0 < ks.length := by
            rcases Nat.eq_zero_or_pos ks.length with h | h
            · rw [h] at hi; omega
            · exact h
          have h1 : i / ks.length < len := Nat.div_lt_of_lt_mul (by rw [Nat.mul_comm]; exact hi)
          have h2 := Nat.mod_lt i hk
          have e0 : i / ks.length * ks.length + i % ks.length = i := by rw [Nat.mul_comm]; exact Nat.div_add_mod i _
          have := key _ h1 _ h2
          rw [e0] at this
          exact memOf_c this.1 (scalOk_one this.2)) (fun i j hi hj => by
          rw [hg i (by omega)]
          simp only [List.getD_eq_getElem?_getD, List.getElem?_map, List.getElem?_range hj, Option.map_some, Option.getD_some]
          exact .v _ _)
      rw [hel] at this
      exact this
    · obtain ⟨i, hi, rfl⟩ := List.mem_map.1 hcm
      have hi := List.mem_range.1 hi
      refine ⟨by simp, fun j hj => ⟨us (i * ks.length + j), by simp [List.getD_eq_getElem?_getD, hj], (key i hi j hj).2⟩⟩

/-- The arguments read behind the call as they read before. -/
theorem trodAll_stays (hl : laidOutB P = true) {W W' : World} {sp : Nat → Bool} : ∀ {ts : List TypeId} {vs : List Value} {ds : List (DataW H)} {ps : List MemPlace}, (ts.all fun t => P.readableRec t && decide (t < P.types.size)) = true →
    DataW.TrodAll enc P W 0 (fun _ => true) true ts vs ds ps → Below W.heap.size W W' → (∀ p, p ∈ ps → p.block < W.heap.size) → (∀ p, p ∈ ps → sp p.block = true) → DataW.TrodAll enc P W' 0 sp true ts vs ds ps
  | [], [], [], ps, _, h, _, _, _ => h
  | t :: ts, v :: vs, d :: ds, ps, ht, h, hb, hlt, hs => by
    obtain ⟨p, q, h1, h2, rfl⟩ := h
    simp only [List.all_cons, Bool.and_eq_true, decide_eq_true_eq] at ht
    exact ⟨p, q, WideElems.Trod_stays hl ht.1.1 ht.1.2 h1 (fun x hx => hb.same (hlt x (List.mem_append_left _ hx))) (fun x hx => hs x (List.mem_append_left _ hx)),
      trodAll_stays hl ht.2 h2 hb (fun x hx => hlt x (List.mem_append_right _ hx)) (fun x hx => hs x (List.mem_append_right _ hx)), rfl⟩
  | [], [], _ :: _, _, _, h, _, _, _ => h.elim
  | [], _ :: _, _, _, _, h, _, _, _ => h.elim
  | _ :: _, [], _, _, _, h, _, _, _ => h.elim
  | _ :: _, _ :: _, [], _, _, h, _, _, _ => h.elim
end
/-- The row's last step for a law that reads no variables. -/
theorem law_post {H : Type} {enc : TypeId × Value → H} {P : Program} {f : Func} {s : ChangeSpec} {apart fresh handsOn : Bool} {W W' : World} {args : Array Value} {ds gs : List (DataW H)} {ps : List MemPlace} {t : TypeId}
    (hW : DataW.Whole enc P f.params.toList s.vars apart W args.toList ds gs ps) (hl : laidOutB P = true)
    (hp : (f.params.toList.all fun t => P.readableRec t && decide (t < P.types.size)) = true) (hv : s.vars = []) (hfn : s.fn H ds = { results := [.lit (.bool true)], args := ds }) (hr : f.resultTypes = #[t]) (ht : P.underlying t = some .bool) (hb : Below W.heap.size W W') :
    s.post enc P f apart fresh handsOn false W args (.bool true) W' := by
  have hlt : ∀ p, p ∈ ps → p.block < W.heap.size := fun p hp => hW.lt p hp
  have hW' := hW
  obtain ⟨p, q, hA, hV, e, _, _⟩ := hW
  rw [hv] at hV
  obtain ⟨rfl, rfl⟩ := trodVars_none hV
  rw [List.append_nil] at e
  subst e
  refine ⟨ds, [], ps, [], ps, [], hW', ?_, ?_, ?_, World.keptBut_mono (fun x hx => ⟨hx, .inr (.inl hx)⟩) (hb.frame (· ∈ ps)), fun h => (by cases h)⟩
  · rw [hr, List.append_nil, hfn]
    exact trodAll_mk1 (shut_bool ht _)
  · rw [List.append_nil, hfn]
    exact trodAll_stays hl hp hA hb hlt fun x hx => by simpa using hlt x hx
  · rw [List.append_nil, hfn, hv]
    rfl
/-- A law's contract, as the row wants it. -/
theorem FSpec.law {P : Program} {f : Nat} {as : List AV} {vs : List Value} {W : World} (h : FSpec P f as [] (Det (.v (.bool true)))) (hlen : vs.length = as.length) (hr : ∀ i, i < as.length → Rep (memOf W) noLo (as.getD i .any) (vs.getD i undef)) (hW : TabM P (memOf W) := by trivial) :
    Calls P f vs.toArray W fun e w' => e = .returned (.bool true) ∧ Below W.heap.size W w' := by
  refine Calls.mono (h.2 W (memOf W) noLo vs hW ⟨hlen, hr, memOf_agree W, fun j hj => (by cases hj), fun _ _ => rfl, fun i j b _ hi => (by cases hi)⟩) ?_
  rintro e w' ⟨v, r, obs, M', β', rfl, ⟨rfl, rfl⟩, ho⟩
  have hv := ho.rep
  cases hv
  exact ⟨rfl, ho.keep.os, ho.keep.tape, ho.keep.output, ho.keep.size, fun b hb => ho.keep.block b hb (fun ⟨i, hi, _⟩ => by cases hi)⟩
end Go.VL
