/-
  'laws.FnExactPolyValue' returns true for all arguments, and the arguments read behind the call as they read before. No condition.
-/
import Derived.Test.YtomcnpoljpicgaaP5
import Derived.Test.YtomcnpoljpicgaaVl2
import Derived.ProofKit
import Derived.Test.YtomcnpoljpicgaaRows
set_option linter.unusedVariables false
set_option linter.unusedSimpArgs false
namespace Go.Proofs.Ytomcnpoljpicgaa.exactPolyValue
open Go Go.VL Go.ChangeShapes Go.WideShapes Go.ChangeAt Go.RowKit Go.Proofs.Trees

theorem own : ownKnob Try.prog.godebug = none := by kernel_rfl
theorem laidOut : laidOutB Try.prog = true := by kernel_rfl
theorem terms_of {es : List (List AV)} (h : ∀ c, c ∈ es → c.length = 4 ∧ ∀ i, i < 4 → ∃ x, c.getD i .any = .v x ∧ scalOk ([LK.int .i64, .int .i64, .int .i64, .int .i64].getD i .oth) x) : ∃ l : List T4, es = l.map T4.cells := by
  induction es with
  | nil => exact ⟨[], rfl⟩
  | cons c es ih =>
    obtain ⟨l, rfl⟩ := ih fun d hd => h d (List.mem_cons_of_mem _ hd)
    obtain ⟨h1, h2⟩ := h c List.mem_cons_self
    obtain ⟨x0, e0, n0, rfl, _⟩ := h2 0 (by omega)
    obtain ⟨x1, e1, n1, rfl, _⟩ := h2 1 (by omega)
    obtain ⟨x2, e2, n2, rfl, _⟩ := h2 2 (by omega)
    obtain ⟨x3, e3, n3, rfl, _⟩ := h2 3 (by omega)
    match c, h1 with
    | [c0, c1, c2, c3], _ =>
      simp only [List.getD_cons_zero, List.getD_cons_succ] at e0 e1 e2 e3
      subst e0 e1 e2 e3
      exact ⟨⟨n0, n1, n2, n3⟩ :: l, rfl⟩
theorem terms_arg {w : World} {H : Type} {enc : TypeId × Value → H} {base b0 : Nat} {r : Reach} {v : Value} {d : DataW H} {ps : List MemPlace} (hval : Value.okWide Try.prog w r b0 22 v) (hd : DataW.Trod enc Try.prog w base (fun _ => true) true 22 v d ps) :
    ∃ a l, Rep (memOf w) noLo a v ∧ TermsA a l ∧ l.length ≤ maxLen := by
  obtain ⟨a, h1, h2⟩ := arg_slice (n := 3) (ks := [.int .i64, .int .i64, .int .i64, .int .i64]) (t := 22) (e := 40) (by kernel_rfl) (by kernel_rfl) (by kernel_rfl) hval hd
  rcases h2 with rfl | ⟨es, rfl, h3, h4⟩
  · exact ⟨_, [], h1, ⟨.inl rfl, rfl⟩, by simp⟩
  · obtain ⟨l, rfl⟩ := terms_of h4
    exact ⟨_, l, h1, ⟨.inr ⟨_, rfl⟩, rfl⟩, by simpa using h3⟩

set_option maxRecDepth 100000 in
theorem lifted (os : Os) (started : os.Started) (H : Type) (enc : TypeId × Value → H) :
    ReturnsInHanded {} Try.checked os 3 .any (Rows.fnExactPolyValueSpec.pre6 enc Try.prog Try.f3 Rows.fnExactPolyValueRow.domain false) (Rows.fnExactPolyValueSpec.post enc Try.prog Try.f3 false true false false) := by
  refine returnsInHanded_of_change (C := Try.checked) own started (by kernel_rfl) Try.func3
    (ChangeSpec.witness6 (enc := enc) (C := Try.checked) false ⟨#[], #[.slice none 0 0, .int .i64 0, .int .i64 0, .int .i64 0], []⟩ 8 (by kernel_rfl) (by kernel_rfl) (by kernel_rfl) (by kernel_rfl)) ?_
  intro W base args ds gs before hval0 hW hcnd _
  have hval : ∀ (j : Nat) t v, Try.f3.params[j]? = some t → args[j]? = some v → Value.okWide Try.prog W .any base t v := hval0
  have hW' := hW
  obtain ⟨p, q, hA0, hV, rfl, hfz, hnd⟩ := hW
  have hA : DataW.TrodAll enc Try.prog W 0 (fun _ => true) true Try.f3.params.toList args.toList ds p := hA0
  rw [Try.params3] at hA hval
  obtain ⟨v0, v1, v2, v3, d0, d1, d2, d3, p0, p1, p2, p3, rfl, rfl, rfl, h0, h1, h2, h3⟩ := trodAll_four hA
  obtain ⟨rfl, rfl⟩ := trodVars_none hV
  obtain ⟨a, l, hr, ht, hl⟩ := terms_arg (hval 0 22 v0 rfl rfl) h0
  obtain ⟨x, rfl, rfl, rfl, wx⟩ := open_int Try.underlying3 (hval 1 3 v1 rfl rfl) h1
  obtain ⟨y, rfl, rfl, rfl, wy⟩ := open_int Try.underlying3 (hval 2 3 v2 rfl rfl) h2
  obtain ⟨z, rfl, rfl, rfl, wz⟩ := open_int Try.underlying3 (hval 3 3 v3 rfl rfl) h3
  clear hA0 hval0
  have key := FSpec.law (W := W) (vs := [v0, .int .i64 x, .int .i64 y, .int .i64 z]) (S_FnExactPolyValue a l ht (by have : l.length ≤ 2 ^ 63 - 1 := hl; omega) x y z) rfl (fun i hi => by
    match i, hi with
    | 0, _ => exact hr
    | 1, _ => exact .v _ _
    | 2, _ => exact .v _ _
    | 3, _ => exact .v _ _)
  refine Calls.mono key fun e W' ⟨he, hb⟩ => ?_
  subst he
  exact ⟨_, rfl, law_post hW' laidOut (by kernel_rfl) rfl rfl rfl Try.underlying4 hb⟩

theorem proved : Rows.FnExactPolyValueSaid :=
  OpenClaim.holds_of_wide 3 Try.f3 rfl rfl rfl rfl rfl rfl rfl ⟨rfl, rfl, rfl, rfl, rfl⟩ rfl rfl rfl rfl rfl (by kernel_rfl) Try.func3 (by kernel_rfl)
    (of_decide_eq_true (by kernel_rfl)) (by unfold Func.isWrapper; first | (rw [if_pos (by decide +kernel)]; kernel_rfl) | (rw [if_neg (by decide +kernel)]; exact ⟨rfl, rfl⟩))
    (fun os started H enc _ => lifted os started H enc)
end Go.Proofs.Ytomcnpoljpicgaa.exactPolyValue
