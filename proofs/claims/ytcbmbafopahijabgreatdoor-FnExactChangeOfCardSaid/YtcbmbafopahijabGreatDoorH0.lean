/-
  Part of a proof: laws over values.
-/
import Derived.Test.YtcbmbafopahijabGreatDoorV1
set_option linter.unusedVariables false
set_option linter.unusedSimpArgs false
namespace Go.Proofs.Trees
open Go Go.VL Go.RowKit
/-! ### Holes of a value -/
/-- What is looked for: a free name; a bound name. -/
inductive Tg where
  | nm (s : List UInt8)
  | bd (k : Nat)
  deriving DecidableEq
def Tg.up : Tg → Tg
  | .nm s => .nm s
  | .bd k => .bd (k + 1)
def isAt : Ty → Tg → Bool
  | .name s, .nm s' => decide (s = s')
  | .bound u, .bd k => decide (u = k)
  | _, _ => false
abbrev Hl := Vl × Vl
def inC (g : Vl → Vl) (l : List Hl) : List Hl := l.map fun h => (g h.1, h.2)
def holesS (f : Ty → Tg → Vl → List Hl) (tg : Tg) : Ty → Vl → List Hl
  | .plus a _, .l w => inC .l (f a tg w)
  | .plus _ b, .r w => inC .r (f b tg w)
  | .times a b, .p x y => inC (fun c => .l (.p c y)) (f a tg x) ++ inC (fun c => .r (.p x c)) (f b tg y)
  | .rc a, .f w => inC (fun c => .f (.l c)) (f a tg.up w) ++ (f a (.bd 0) w).flatMap fun h => inC (fun c => .f (.r (.p h.1 c))) (f (.rc a) tg h.2)
  | _, _ => []
def holesN : Nat → Ty → Tg → Vl → List Hl
  | 0, _, _, _ => []
  | n + 1, t, tg, v => if isAt t tg = true then [(.u, v)] else holesS (holesN n) tg t v
def stuck : Ty → Vl → Bool
  | .plus _ _, .l _ => false
  | .plus _ _, .r _ => false
  | .times _ _, .p _ _ => false
  | .rc _, .f _ => false
  | _, _ => true
def holes (t : Ty) (tg : Tg) (v : Vl) : List Hl := holesN v.nodes t tg v
theorem mem_inC {g : Vl → Vl} {l : List Hl} {h : Hl} (hm : h ∈ inC g l) : ∃ k, k ∈ l ∧ h = (g k.1, k.2) := by
  obtain ⟨k, h1, h2⟩ := List.mem_map.1 hm
  exact ⟨k, h1, h2.symm⟩
theorem flat_congr {f g : Hl → List Hl} : ∀ {l : List Hl}, (∀ h, h ∈ l → f h = g h) → l.flatMap f = l.flatMap g
  | [], _ => rfl
  | h :: l, hl => by rw [List.flatMap_cons, List.flatMap_cons, hl h List.mem_cons_self, flat_congr (l := l) fun k hk => hl k (List.mem_cons_of_mem _ hk)]
theorem holesN_sz : ∀ (n : Nat) (t : Ty) (tg : Tg) (v : Vl) (h : Hl), h ∈ holesN n t tg v → h.2.nodes ≤ v.nodes ∧ h.1.nodes + 4 * h.2.nodes ≤ 4 * v.nodes + 1
  | 0, t, tg, v, h, hm => by simp [holesN] at hm
  | n + 1, t, tg, v, h, hm => by
    unfold holesN at hm
    split at hm
    · simp only [List.mem_singleton] at hm
      subst hm
      simp only [Vl.nodes]; omega
    · unfold holesS at hm
      split at hm
      · obtain ⟨k, h1, rfl⟩ := mem_inC hm
        have := holesN_sz n _ _ _ k h1
        simp only [Vl.nodes]; omega
      · obtain ⟨k, h1, rfl⟩ := mem_inC hm
        have := holesN_sz n _ _ _ k h1
        simp only [Vl.nodes]; omega
      · rcases List.mem_append.1 hm with hm | hm
        · obtain ⟨k, h1, rfl⟩ := mem_inC hm
          have := holesN_sz n _ _ _ k h1
          simp only [Vl.nodes]; omega
        · obtain ⟨k, h1, rfl⟩ := mem_inC hm
          have := holesN_sz n _ _ _ k h1
          simp only [Vl.nodes]; omega
      · rcases List.mem_append.1 hm with hm | hm
        · obtain ⟨k, h1, rfl⟩ := mem_inC hm
          have := holesN_sz n _ _ _ k h1
          simp only [Vl.nodes]; omega
        · obtain ⟨k, h1, h2⟩ := List.mem_flatMap.1 hm
          obtain ⟨k2, h3, rfl⟩ := mem_inC h2
          have := holesN_sz n _ _ _ k h1
          have := holesN_sz n _ _ _ k2 h3
          simp only [Vl.nodes]; omega
      · simp at hm
theorem holesN_eq : ∀ (n m : Nat) (t : Ty) (tg : Tg) (v : Vl), v.nodes ≤ n → v.nodes ≤ m → holesN n t tg v = holesN m t tg v
  | 0, m, t, tg, v, h, _ => by have := nodes_pos v; omega
  | n + 1, 0, t, tg, v, _, h => by have := nodes_pos v; omega
  | n + 1, m + 1, t, tg, v, hn, hm => by
    rw [holesN, holesN]
    split
    · rfl
    · unfold holesS
      split
      · simp only [Vl.nodes] at hn hm; rw [holesN_eq n m _ _ _ (by omega) (by omega)]
      · simp only [Vl.nodes] at hn hm; rw [holesN_eq n m _ _ _ (by omega) (by omega)]
      · simp only [Vl.nodes] at hn hm; rw [holesN_eq n m _ _ _ (by omega) (by omega), holesN_eq n m _ _ _ (by omega) (by omega)]
      · rename_i a w
        simp only [Vl.nodes] at hn hm; rw [holesN_eq n m _ _ _ (by omega) (by omega), holesN_eq n m _ (.bd 0) _ (by omega) (by omega)]
        congr 1
        apply flat_congr
        intro h hh
        have := (holesN_sz _ _ _ _ _ hh).1
        rw [holesN_eq n m _ _ _ (by omega) (by omega)]
      · rfl
theorem holes_N {n : Nat} (t : Ty) (tg : Tg) {v : Vl} (h : v.nodes ≤ n) : holesN n t tg v = holes t tg v := holesN_eq _ _ _ _ _ h (Nat.le_refl _)
theorem holes_at {t : Ty} {tg : Tg} (v : Vl) (h : isAt t tg = true) : holes t tg v = [(.u, v)] := by
  have := nodes_pos v
  unfold holes
  cases e : v.nodes with
  | zero => omega
  | succ n => rw [holesN, if_pos h]
theorem holes_l (a b : Ty) (tg : Tg) (w : Vl) : holes (.plus a b) tg (.l w) = inC .l (holes a tg w) := by
  unfold holes; rw [show (Vl.l w).nodes = w.nodes + 1 by simp [Vl.nodes]; omega, holesN, if_neg (by simp [isAt])]; rfl
theorem holes_r (a b : Ty) (tg : Tg) (w : Vl) : holes (.plus a b) tg (.r w) = inC .r (holes b tg w) := by
  unfold holes; rw [show (Vl.r w).nodes = w.nodes + 1 by simp [Vl.nodes]; omega, holesN, if_neg (by simp [isAt])]; rfl
theorem holes_p (a b : Ty) (tg : Tg) (x y : Vl) : holes (.times a b) tg (.p x y) = inC (fun c => .l (.p c y)) (holes a tg x) ++ inC (fun c => .r (.p x c)) (holes b tg y) := by
  rw [holes, show (Vl.p x y).nodes = (x.nodes + y.nodes) + 1 by simp [Vl.nodes]; omega, holesN, if_neg (by simp [isAt])]
  rw [holesS, holes_N a tg (by omega), holes_N b tg (by omega)]
theorem holes_f (a : Ty) (tg : Tg) (w : Vl) : holes (.rc a) tg (.f w) = inC (fun c => .f (.l c)) (holes a tg.up w) ++ (holes a (.bd 0) w).flatMap fun h => inC (fun c => .f (.r (.p h.1 c))) (holes (.rc a) tg h.2) := by
  rw [holes, show (Vl.f w).nodes = w.nodes + 1 by simp [Vl.nodes]; omega, holesN, if_neg (by simp [isAt])]
  rw [holesS, holes_N a tg.up (Nat.le_refl _), holes_N a (.bd 0) (Nat.le_refl _)]
  congr 1
  apply flat_congr
  intro h hh
  have := (holesN_sz _ _ _ _ _ hh).1
  rw [holes_N (.rc a) tg this]
theorem holes_no {t : Ty} {tg : Tg} {v : Vl} (h : isAt t tg = false) (h2 : stuck t v = true) : holes t tg v = [] := by
  unfold holes
  cases e : v.nodes with
  | zero => rfl
  | succ n =>
    rw [holesN, if_neg (by rw [h]; simp)]
    unfold holesS
    split <;> first | (simp [stuck] at h2; done) | rfl
theorem holes_sz {t : Ty} {tg : Tg} {v : Vl} {h : Hl} (hm : h ∈ holes t tg v) : h.2.nodes ≤ v.nodes ∧ h.1.nodes + 4 * h.2.nodes ≤ 4 * v.nodes + 1 := holesN_sz _ _ _ _ _ hm
theorem holes_bel (n : Nat) : ∀ (m : Nat) (t : Ty) (tg : Tg) (v : Vl) (h : Hl), v.bel n → h ∈ holesN m t tg v → h.1.bel n ∧ h.2.bel n
  | 0, t, tg, v, h, hv, hm => by simp [holesN] at hm
  | m + 1, t, tg, v, h, hv, hm => by
    unfold holesN at hm
    split at hm
    · simp only [List.mem_singleton] at hm
      subst hm
      exact ⟨trivial, hv⟩
    · unfold holesS at hm
      split at hm
      · obtain ⟨k, h1, rfl⟩ := mem_inC hm
        exact (fun q => holes_bel n m _ _ _ k q h1) hv
      · obtain ⟨k, h1, rfl⟩ := mem_inC hm
        exact (fun q => holes_bel n m _ _ _ k q h1) hv
      · rcases List.mem_append.1 hm with hm | hm
        · obtain ⟨k, h1, rfl⟩ := mem_inC hm
          obtain ⟨q1, q2⟩ := holes_bel n m _ _ _ k hv.1 h1
          exact ⟨⟨q1, hv.2⟩, q2⟩
        · obtain ⟨k, h1, rfl⟩ := mem_inC hm
          obtain ⟨q1, q2⟩ := holes_bel n m _ _ _ k hv.2 h1
          exact ⟨⟨hv.1, q1⟩, q2⟩
      · rcases List.mem_append.1 hm with hm | hm
        · obtain ⟨k, h1, rfl⟩ := mem_inC hm
          exact (fun q => holes_bel n m _ _ _ k q h1) hv
        · obtain ⟨k, h1, h2⟩ := List.mem_flatMap.1 hm
          obtain ⟨k2, h3, rfl⟩ := mem_inC h2
          obtain ⟨q1, q2⟩ := (fun q => holes_bel n m _ _ _ k q h1) hv
          obtain ⟨q3, q4⟩ := holes_bel n m _ _ _ k2 q2 h3
          exact ⟨⟨q1, q3⟩, q4⟩
      · simp at hm
/-! ### Holes lie apart -/
def nsum (l : List Hl) : Nat := (l.map fun h => h.2.nodes).sum
theorem nsum_app (l r : List Hl) : nsum (l ++ r) = nsum l + nsum r := by simp [nsum]
theorem nsum_inC (g : Vl → Vl) (l : List Hl) : nsum (inC g l) = nsum l := by simp [nsum, inC, Function.comp_def]
def tsum (f : Tg → Nat) (T : List Tg) : Nat := (T.map f).sum
theorem tsum_add (f g : Tg → Nat) : ∀ T : List Tg, tsum (fun x => f x + g x) T = tsum f T + tsum g T
  | [] => rfl
  | x :: T => by have := tsum_add f g T; simp only [tsum, List.map_cons, List.sum_cons] at this ⊢; omega
theorem tsum_le {f g : Tg → Nat} : ∀ {T : List Tg}, (∀ x, x ∈ T → f x ≤ g x) → tsum f T ≤ tsum g T
  | [], _ => Nat.le_refl _
  | x :: T, h => by
    have := tsum_le (T := T) fun y hy => h y (List.mem_cons_of_mem _ hy)
    have := h x List.mem_cons_self
    simp only [tsum, List.map_cons, List.sum_cons] at *; omega
theorem tsum_zero {f : Tg → Nat} : ∀ {T : List Tg}, (∀ x, x ∈ T → f x = 0) → tsum f T = 0
  | [], _ => rfl
  | x :: T, h => by
    have := tsum_zero (T := T) fun y hy => h y (List.mem_cons_of_mem _ hy)
    have := h x List.mem_cons_self
    simp only [tsum, List.map_cons, List.sum_cons] at *; omega
theorem tsum_flat (g : Hl → Tg → Nat) (T : List Tg) : ∀ l : List Hl, tsum (fun x => (l.map fun h => g h x).sum) T = (l.map fun h => tsum (g h) T).sum
  | [] => tsum_zero fun _ _ => rfl
  | h :: l => by
    have := tsum_flat g T l
    simp only [List.map_cons, List.sum_cons]
    rw [tsum_add, this]
theorem nsum_flat (f : Hl → List Hl) : ∀ l : List Hl, nsum (l.flatMap f) = (l.map fun h => nsum (f h)).sum
  | [] => rfl
  | h :: l => by rw [List.flatMap_cons, nsum_app, nsum_flat f l]; simp
theorem sum_le {f g : Hl → Nat} : ∀ {l : List Hl}, (∀ x, x ∈ l → f x ≤ g x) → (l.map f).sum ≤ (l.map g).sum
  | [], _ => Nat.le_refl _
  | x :: l, h => by
    have := sum_le (l := l) fun y hy => h y (List.mem_cons_of_mem _ hy)
    have := h x List.mem_cons_self
    simp only [List.map_cons, List.sum_cons] at *; omega
theorem isAt_one {t : Ty} {x y : Tg} (h : isAt t x = true) (h' : isAt t y = true) : x = y := by
  cases t <;> cases x <;> cases y <;> simp [isAt] at h h' <;> simp_all
theorem tsum_at {t : Ty} (n : Nat) : ∀ {T : List Tg}, T.Nodup → tsum (fun x => if isAt t x = true then n else 0) T ≤ n
  | [], _ => Nat.zero_le _
  | x :: T, h => by
    obtain ⟨h1, h2⟩ := List.nodup_cons.1 h
    have ih := tsum_at (t := t) n h2
    by_cases hx : isAt t x = true
    · have : tsum (fun x => if isAt t x = true then n else 0) T = 0 := tsum_zero fun y hy => by
        rw [if_neg fun hy' => h1 (by rw [isAt_one hx hy']; exact hy)]
      simp only [tsum, List.map_cons, List.sum_cons] at *
      rw [if_pos hx]; omega
    · simp only [tsum, List.map_cons, List.sum_cons] at *
      rw [if_neg hx]; omega
theorem up_nodup {T : List Tg} (h : T.Nodup) : (Tg.bd 0 :: T.map Tg.up).Nodup := by
  refine List.nodup_cons.2 ⟨fun hm => ?_, ?_⟩
  · obtain ⟨x, _, e⟩ := List.mem_map.1 hm
    cases x <;> simp [Tg.up] at e
  · refine List.Pairwise.map _ (fun a b hab e => hab ?_) h
    cases a <;> cases b <;> simp [Tg.up] at e <;> simp_all
theorem apart : ∀ (n : Nat) (v : Vl), v.nodes ≤ n → ∀ (t : Ty) (T : List Tg), T.Nodup → tsum (fun x => nsum (holes t x v)) T ≤ v.nodes
  | 0, v, h => by have := nodes_pos v; omega
  | n + 1, v, hn => by
    intro t T hT
    have base : ∀ (hno : ∀ x, isAt t x = false → holes t x v = []), tsum (fun x => nsum (holes t x v)) T ≤ v.nodes := fun hno => by
      refine Nat.le_trans (tsum_le fun x _ => ?_) (tsum_at (t := t) v.nodes hT)
      cases e : isAt t x with
      | true => rw [holes_at v e]; simp [nsum]
      | false => rw [hno x e]; simp [nsum]
    cases hm : stuck t v with
    | true => exact base fun x hx => holes_no hx hm
    | false =>
      unfold stuck at hm
      split at hm
      · rename_i a b w
        simp only [Vl.nodes] at hn ⊢
        simp only [holes_l, nsum_inC]
        have := apart n w (by omega) a T hT
        omega
      · rename_i a b w
        simp only [Vl.nodes] at hn ⊢
        simp only [holes_r, nsum_inC]
        have := apart n w (by omega) b T hT
        omega
      · rename_i a b x y
        simp only [Vl.nodes] at hn ⊢
        simp only [holes_p, nsum_app, nsum_inC]
        rw [tsum_add]
        have := apart n x (by omega) a T hT
        have := apart n y (by omega) b T hT
        omega
      · rename_i a w
        simp only [Vl.nodes] at hn ⊢
        simp only [holes_f, nsum_app, nsum_inC, nsum_flat]
        rw [tsum_add, tsum_flat]
        have h1 := apart n w (by omega) a _ (up_nodup hT)
        simp only [tsum, List.map_cons, List.sum_cons, List.map_map] at h1
        have h2 : ((holes a (.bd 0) w).map fun h => tsum (fun x => nsum (holes (.rc a) x h.2)) T).sum ≤ nsum (holes a (.bd 0) w) := sum_le fun h hh => by
          have := (holes_sz hh).1
          exact apart n h.2 (by omega) (.rc a) T hT
        simp only [tsum, Function.comp_def] at h1 h2 ⊢
        omega
      · cases hm
theorem holes_nsum (t : Ty) (tg : Tg) (v : Vl) : nsum (holes t tg v) ≤ v.nodes := by
  have := apart v.nodes v (Nat.le_refl _) t [tg] (by simp)
  simpa [tsum] using this
theorem len_nsum : ∀ l : List Hl, l.length ≤ nsum l
  | [] => Nat.zero_le _
  | h :: l => by
    have := len_nsum l
    have := nodes_pos h.2
    simp only [nsum, List.map_cons, List.sum_cons, List.length_cons] at *; omega
theorem holes_len (t : Ty) (tg : Tg) (v : Vl) : (holes t tg v).length ≤ v.nodes := Nat.le_trans (len_nsum _) (holes_nsum t tg v)
end Go.Proofs.Trees
