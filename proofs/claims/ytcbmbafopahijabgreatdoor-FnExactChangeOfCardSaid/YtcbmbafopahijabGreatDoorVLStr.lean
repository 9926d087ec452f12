/-
  Strings as lists of bytes.
-/
import Derived.Test.YtcbmbafopahijabGreatDoorVl3
import Derived.Shelf.Strings.Search3
set_option linter.unusedVariables false
set_option linter.unusedSimpArgs false
namespace Go.VL
open Go Go.RowKit
theorem mk_inj {l r : List UInt8} (h : mk l = mk r) : l = r := by
  have : (mk l).data.toList = (mk r).data.toList := by rw [h]
  simpa [mk] using this
theorem size_mk (l : List UInt8) : (mk l).size = l.length := by simp [mk, ByteArray.size]
theorem toList_mk (l : List UInt8) : ByteArray.toList (mk l) = l := by rw [Lib.toList_data]; simp [mk]
theorem mk_data (s : ByteArray) : mk s.data.toList = s := by cases s; simp [mk]
theorem bt_mk (l : List UInt8) (i : Nat) (h : i < l.length) : bt (mk l) (i : Int) = ((l.getD i 0).toNat : Int) := by
  unfold bt
  rw [dif_pos (by rw [size_mk]; simpa using h)]
  have : (mk l)[(i : Int).toNat]'(by rw [size_mk]; simpa using h) = l[i] := by
    show (mk l).data[i]'_ = _
    simp [mk]
  rw [this]; simp [List.getD_eq_getElem?_getD, h]
theorem extract_mk (l : List UInt8) (a b : Nat) : ByteArray.extract (mk l) a b = mk ((l.take b).drop a) := by
  have : (ByteArray.extract (mk l) a b).data.toList = (l.take b).drop a := by
    rw [ByteArray.data_extract]
    simp [mk, List.extract_eq_take_drop, List.drop_take]
  rw [← mk_data (ByteArray.extract (mk l) a b), this]
theorem append_mk (l r : List UInt8) : (mk l : ByteArray) ++ mk r = mk (l ++ r) := by
  have : ((mk l : ByteArray) ++ mk r).data.toList = l ++ r := by
    rw [ByteArray.data_append]; simp [mk]
  rw [← mk_data (mk l ++ mk r), this]
theorem nil_mk : (⟨#[]⟩ : ByteArray) = mk [] := rfl
/-- A function of Go's library, by what the kit proves of it. -/
theorem FSpec.lib {P : Program} {f : Nat} {xs : List Value} {v : Value} (hE : Ent P f) (h : ∀ w, Calls P f xs.toArray w fun e w' => e = .returned v ∧ Below w.heap.size w w') : FSpec P f (xs.map .v) [] (Det (.v v)) := by
  refine ⟨hE, fun w M β vs hB hin => ?_⟩
  have hl : vs.length = xs.length := by rw [hin.len, List.length_map]
  have e : vs = xs := by
    apply List.ext_getElem hl
    intro i h1 h2
    have := hin.rep i (by simpa using h2)
    have e1 : (xs.map AV.v).getD i .any = .v xs[i] := by simp [List.getD_eq_getElem?_getD, h2]
    have e2 : vs.getD i undef = vs[i] := by simp [List.getD_eq_getElem?_getD, h1]
    rw [e1, e2] at this
    exact rep_v this
  subst e
  refine Calls.mono (h w) fun e w' ⟨he, hb⟩ => ⟨v, .v v, [], M, noLo, he, ⟨rfl, rfl⟩, ?_⟩
  have hlt : ∀ b k u, M.c b k = some u → b < w.heap.size := fun b k u hc => hin.agree.lt hc
  exact { le := Mem.le.refl _, agree := ⟨fun b k u hc => by
            rw [← hin.agree _ _ _ hc]; exact hb.cell (p := ⟨b, k, none⟩) (hlt b k u hc), fun b hp => by
            obtain ⟨k, u, hc⟩ := M.pc b hp
            rw [hb.block b (hlt b k u hc)]; exact hin.agree.p b hp⟩
          rep := .v _ _, own := fun j hj => by simp at hj, same := fun j b hj => by simp at hj, samev := fun j l sz es hj => (by simp at hj), apart := fun i j b _ hi => by simp at hi, place := fun j b hj => by simp at hj
          new := fun b k u hc => .inl hc, keep := ⟨hb.os, hb.tape, hb.output, hb.size, fun b hlt _ => hb.block b hlt⟩ }
/-- The same, where the result is read as another value. -/
theorem FSpec.libA {P : Program} {f : Nat} {xs : List Value} {v : Value} {a : AV} (hE : Ent P f) (hr : ∀ M, Rep M noLo a v) (h : ∀ w, Calls P f xs.toArray w fun e w' => e = .returned v ∧ Below w.heap.size w w') : FSpec P f (xs.map .v) [] (Det a) := by
  refine ⟨hE, fun w M β vs hB hin => ?_⟩
  have hl : vs.length = xs.length := by rw [hin.len, List.length_map]
  have e : vs = xs := by
    apply List.ext_getElem hl
    intro i h1 h2
    have := hin.rep i (by simpa using h2)
    have e1 : (xs.map AV.v).getD i .any = .v xs[i] := by simp [List.getD_eq_getElem?_getD, h2]
    have e2 : vs.getD i undef = vs[i] := by simp [List.getD_eq_getElem?_getD, h1]
    rw [e1, e2] at this
    exact rep_v this
  subst e
  refine Calls.mono (h w) fun e w' ⟨he, hb⟩ => ⟨v, a, [], M, noLo, he, ⟨rfl, rfl⟩, ?_⟩
  have hlt : ∀ b k u, M.c b k = some u → b < w.heap.size := fun b k u hc => hin.agree.lt hc
  exact { le := Mem.le.refl _, agree := ⟨fun b k u hc => by
            rw [← hin.agree _ _ _ hc]; exact hb.cell (p := ⟨b, k, none⟩) (hlt b k u hc), fun b hp => by
            obtain ⟨k, u, hc⟩ := M.pc b hp
            rw [hb.block b (hlt b k u hc)]; exact hin.agree.p b hp⟩
          rep := hr M, own := fun j hj => by simp at hj, same := fun j b hj => by simp at hj, samev := fun j l sz es hj => (by simp at hj), apart := fun i j b _ hi => by simp at hi, place := fun j b hj => by simp at hj
          new := fun b k u hc => .inl hc, keep := ⟨hb.os, hb.tape, hb.output, hb.size, fun b hlt _ => hb.block b hlt⟩ }
end Go.VL
