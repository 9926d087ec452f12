/-
  Part of a proof: laws over values.
-/
import Derived.Test.YtcbmbafopahijabGreatDoorL0
import Derived.Test.YtcbmbafopahijabGreatDoorW2
set_option linter.unusedVariables false
set_option linter.unusedSimpArgs false
namespace Go.Proofs.Trees
open Go Go.VL Go.RowKit
/-! ### Plugging -/
def plug : Ty → Vl → Vl → Vl
  | .plus a _, .l c, v => .l (plug a c v)
  | .plus _ b, .r c, v => .r (plug b c v)
  | .times a _, .l (.p x y), v => .p (plug a x v) y
  | .times _ b, .r (.p x y), v => .p x (plug b y v)
  | .rc a, .f (.l x), v => .f (plug a x v)
  | .rc a, .f (.r (.p x y)), v => .f (plug a x (plug (.rc a) y v))
  | _, _, v => v
/-- Is it of the shape of a context? -/
def ctxOk : Ty → Vl → Bool
  | .plus a _, .l c => ctxOk a c
  | .plus _ b, .r c => ctxOk b c
  | .times a _, .l (.p x _) => ctxOk a x
  | .times _ b, .r (.p _ y) => ctxOk b y
  | .rc a, .f (.l x) => ctxOk a x
  | .rc a, .f (.r (.p x y)) => ctxOk a x && ctxOk (.rc a) y
  | .plus _ _, _ => false
  | .times _ _, _ => false
  | .rc _, _ => false
  | _, _ => true
theorem plug_zero (c v : Vl) : plug .zero c v = v := by cases c <;> rfl
theorem plug_one (c v : Vl) : plug .one c v = v := by cases c <;> rfl
theorem plug_name (s : List UInt8) (c v : Vl) : plug (.name s) c v = v := by cases c <;> rfl
theorem plug_bound (u : Nat) (c v : Vl) : plug (.bound u) c v = v := by cases c <;> rfl
theorem ctx_plus {a b : Ty} {c : Vl} (h : ctxOk (.plus a b) c = true) : (∃ x, c = .l x ∧ ctxOk a x = true) ∨ ∃ x, c = .r x ∧ ctxOk b x = true := by
  cases c <;> simp [ctxOk] at h <;> simp [h]
theorem ctx_times {a b : Ty} {c : Vl} (h : ctxOk (.times a b) c = true) : (∃ x y, c = .l (.p x y) ∧ ctxOk a x = true) ∨ ∃ x y, c = .r (.p x y) ∧ ctxOk b y = true := by
  cases c with
  | l c => cases c <;> simp [ctxOk] at h <;> simp [h]
  | r c => cases c <;> simp [ctxOk] at h <;> exact .inr ⟨_, _, rfl, h⟩
  | _ => simp [ctxOk] at h
theorem ctx_rc {a : Ty} {c : Vl} (h : ctxOk (.rc a) c = true) : (∃ x, c = .f (.l x) ∧ ctxOk a x = true) ∨ ∃ x y, c = .f (.r (.p x y)) ∧ ctxOk a x = true ∧ ctxOk (.rc a) y = true := by
  cases c with
  | f c =>
    cases c with
    | l c => simp [ctxOk] at h; simp [h]
    | r c => cases c <;> simp [ctxOk] at h <;> exact .inr ⟨_, _, rfl, h⟩
    | _ => simp [ctxOk] at h
  | _ => simp [ctxOk] at h
theorem ctx_at {t : Ty} {tg : Tg} (c : Vl) (h : isAt t tg = true) : ctxOk t c = true := by
  cases t <;> first | (simp [isAt] at h; done) | (cases c <;> rfl)
theorem ctx_hole : ∀ (n : Nat) (t : Ty) (tg : Tg) (v : Vl) (h : Hl), h ∈ holesN n t tg v → ctxOk t h.1 = true
  | 0, t, tg, v, h, hm => by simp [holesN] at hm
  | n + 1, t, tg, v, h, hm => by
    unfold holesN at hm
    split at hm
    · rename_i e
      exact ctx_at _ e
    · unfold holesS at hm
      split at hm
      · obtain ⟨k, h1, rfl⟩ := mem_inC hm
        exact ctx_hole n _ _ _ k h1
      · obtain ⟨k, h1, rfl⟩ := mem_inC hm
        exact ctx_hole n _ _ _ k h1
      · rcases List.mem_append.1 hm with hm | hm
        · obtain ⟨k, h1, rfl⟩ := mem_inC hm
          exact ctx_hole n _ _ _ k h1
        · obtain ⟨k, h1, rfl⟩ := mem_inC hm
          exact ctx_hole n _ _ _ k h1
      · rcases List.mem_append.1 hm with hm | hm
        · obtain ⟨k, h1, rfl⟩ := mem_inC hm
          exact ctx_hole n _ _ _ k h1
        · obtain ⟨k, h1, h2⟩ := List.mem_flatMap.1 hm
          obtain ⟨k2, h3, rfl⟩ := mem_inC h2
          have q1 := ctx_hole n _ _ _ k h1
          have q2 := ctx_hole n _ _ _ k2 h3
          simp [ctxOk, q1, q2]
      · simp at hm
theorem ctx_kid {a : Ty} {v : Vl} {h : Hl} (hh : h ∈ kids a v) : ctxOk a h.1 = true := by
  cases v with
  | f w => exact ctx_hole _ _ _ _ h hh
  | _ => cases hh
theorem plug_nodes (t : Ty) (c v : Vl) : (plug t c v).nodes ≤ c.nodes + v.nodes := by
  induction t, c, v using plug.induct <;> simp only [plug, Vl.nodes] at * <;> omega
theorem plug_bel (m : Nat) (t : Ty) (c v : Vl) : c.bel m → v.bel m → (plug t c v).bel m := by
  induction t, c, v using plug.induct with
  | case1 a b c v ih => exact fun h h' => ih h h'
  | case2 a b c v ih => exact fun h h' => ih h h'
  | case3 a b x y v ih => exact fun h h' => ⟨ih h.1 h', h.2⟩
  | case4 a b x y v ih => exact fun h h' => ⟨h.1, ih h.2 h'⟩
  | case5 a x v ih => exact fun h h' => ih h h'
  | case6 a x y v ih1 ih2 => exact fun h h' => ih2 h.1 (ih1 h.2 h')
  | case7 => intro h h'; simpa only [plug] using h'
/-! ### The change of two values -/
/-- The places where the parts differ, from place i on. -/
def diffs : List Hl → List Hl → Nat → List Nat
  | x :: l, y :: r, i => if x.2.txt = y.2.txt then diffs l r (i + 1) else i :: diffs l r (i + 1)
  | _, _, _ => []
theorem diffs_bd : ∀ (l r : List Hl) (i k : Nat), k ∈ diffs l r i → i ≤ k ∧ k < i + l.length ∧ k < i + r.length
  | [], _, _, _, h => by simp [diffs] at h
  | _ :: _, [], _, _, h => by simp [diffs] at h
  | x :: l, y :: r, i, k, h => by
    unfold diffs at h
    split at h
    · have := diffs_bd l r (i + 1) k h; simp only [List.length_cons]; omega
    · rcases List.mem_cons.1 h with rfl | h
      · simp only [List.length_cons]; omega
      · have := diffs_bd l r (i + 1) k h; simp only [List.length_cons]; omega
theorem diffs_len : ∀ (l r : List Hl) (i : Nat), (diffs l r i).length ≤ l.length
  | [], _, _ => by simp [diffs]
  | _ :: _, [], _ => by simp [diffs]
  | x :: l, y :: r, i => by
    have := diffs_len l r (i + 1)
    unfold diffs
    split <;> simp <;> omega
theorem diffs_self : ∀ (l : List Hl) (i : Nat), diffs l l i = []
  | [], _ => rfl
  | x :: l, i => by rw [diffs, if_pos rfl, diffs_self l]
theorem diffs_drop (l r : List Hl) {i : Nat} (h : i < l.length) (h' : i < r.length) : diffs (l.drop i) (r.drop i) i = if (l[i]).2.txt = (r[i]).2.txt then diffs (l.drop (i + 1)) (r.drop (i + 1)) (i + 1) else i :: diffs (l.drop (i + 1)) (r.drop (i + 1)) (i + 1) := by
  rw [List.drop_eq_getElem_cons h, List.drop_eq_getElem_cons h', diffs]
abbrev Chg := List Nat × Vl × Vl
def hl0 : Hl := (.u, .u)
def chgS (f : Vl → Vl → Chg) (a : Ty) (v w : Vl) : Chg :=
  if (kids a v).length ≠ (kids a w).length then ([], v, w) else match diffs (kids a v) (kids a w) 0 with
  | [k] => if (Vl.f (plug a ((kids a v).getD k hl0).1 ((kids a w).getD k hl0).2)).txt = w.txt then (k :: (f ((kids a v).getD k hl0).2 ((kids a w).getD k hl0).2).1, (f ((kids a v).getD k hl0).2 ((kids a w).getD k hl0).2).2) else ([], v, w)
  | _ => ([], v, w)
def chgN : Nat → Ty → Vl → Vl → Chg
  | 0, _, v, w => ([], v, w)
  | n + 1, a, v, w => chgS (chgN n a) a v w
theorem chg_self (n : Nat) (a : Ty) (v : Vl) : chgN n a v v = ([], v, v) := by
  cases n with
  | zero => rfl
  | succ n => rw [chgN, chgS, diffs_self]; simp
theorem chgN_len : ∀ (n : Nat) (a : Ty) (v w : Vl), v.nodes ≤ n → (chgN n a v w).1.length + 1 ≤ v.nodes
  | 0, a, v, w, h => by have := nodes_pos v; omega
  | n + 1, a, v, w, h => by
    have := nodes_pos v
    rw [chgN, chgS]
    split
    · simp only [List.length_nil]; omega
    · rename_i hl
      have hl : (kids a v).length = (kids a w).length := by omega
      split
      · rename_i k hk
        split
        · have hb := diffs_bd (kids a v) (kids a w) 0 k (by rw [hk]; exact List.mem_cons_self)
          have hm : (kids a v).getD k hl0 ∈ kids a v := by
            rw [List.getD_eq_getElem?_getD, List.getElem?_eq_getElem (by omega)]; exact List.getElem_mem _
          have := kids_sz hm
          have := chgN_len n a ((kids a v).getD k hl0).2 ((kids a w).getD k hl0).2 (by omega)
          simp only [List.length_cons]; omega
        · simp only [List.length_nil]; omega
      · simp only [List.length_nil]; omega
end Go.Proofs.Trees
