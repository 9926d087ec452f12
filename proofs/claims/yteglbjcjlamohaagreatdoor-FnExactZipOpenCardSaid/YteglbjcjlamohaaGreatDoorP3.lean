/-
  Part of a proof: Go functions read by values, trees of functions, their contracts.
-/
import Derived.Test.YteglbjcjlamohaaGreatDoorP2
import Derived.ChangeArms
import Derived.Deep.Slices
import Derived.WideKeyArgs
import Derived.ChangeSame
import Derived.OpenShut
import Derived.Shelf.Strings.Search3
set_option linter.unusedVariables false
set_option linter.unusedSimpArgs false
namespace Go.VL
open Go Go.RowKit Go.WideShapes Go.ChangeShapes
def memOf (w:World):Mem where
 c b k:=match w.cell? ⟨b,k,none⟩ with | some v=>if v.oneCell' = true then some v else none | none=>none
 one b k v h:=by
  split at h
  ·split at h
   ·cases h; assumption
   ·cases h
  ·cases h
 p _:=False
 pc b h:=h.elim
theorem memOf_agree (w:World):Agree (memOf w) w where
 c b k v h:=by
  simp only [memOf] at h
  split at h
  ·split at h
   ·cases h; assumption
   ·cases h
  ·cases h
 p b h:=h.elim
section
variable {H:Type} {enc:TypeId×Value->H} {P:Program} {w:World} {base:Nat} {spare:Nat->Bool} {held:Bool}
theorem trodAll_stays (hl:laidOutB P = true) {W W':World} {sp:Nat->Bool}:∀{ts:List TypeId} {vs:List Value} {ds:List (DataW H)} {ps:List MemPlace},(ts.all fun t=>P.readableRec t&&decide (t < P.types.size)) = true ->
  DataW.TrodAll enc P W 0 (fun _=>true) true ts vs ds ps->Below W.heap.size W W'->(∀p,p∈ps->p.block < W.heap.size)->(∀p,p∈ps->sp p.block = true)->DataW.TrodAll enc P W' 0 sp true ts vs ds ps
 | [],[],[],ps,_,h,_,_,_=>h
 | t::ts,v::vs,d::ds,ps,ht,h,hb,hlt,hs=>by
  obtain⟨p,q,h1,h2,rfl⟩:=h
  simp only [List.all_cons,Bool.and_eq_true,decide_eq_true_eq] at ht
  exact⟨p,q,WideElems.Trod_stays hl ht.1.1 ht.1.2 h1 (fun x hx=>hb.same (hlt x (List.mem_append_left _ hx))) (fun x hx=>hs x (List.mem_append_left _ hx)),
   trodAll_stays hl ht.2 h2 hb (fun x hx=>hlt x (List.mem_append_right _ hx)) (fun x hx=>hs x (List.mem_append_right _ hx)),rfl⟩
 | [],[],_::_,_,_,h,_,_,_=>h.elim
 | [],_::_,_,_,_,h,_,_,_=>h.elim
 | _::_,[],_,_,_,h,_,_,_=>h.elim
 | _::_,_::_,[],_,_,h,_,_,_=>h.elim
end
theorem law_post {H:Type} {enc:TypeId×Value->H} {P:Program} {f:Func} {s:ChangeSpec} {apart fresh handsOn:Bool} {W W':World} {args:Array Value} {ds gs:List (DataW H)} {ps:List MemPlace} {t:TypeId}
  (hW:DataW.Whole enc P f.params.toList s.vars apart W args.toList ds gs ps) (hl:laidOutB P = true)
  (hp:(f.params.toList.all fun t=>P.readableRec t&&decide (t < P.types.size)) = true) (hv:s.vars = []) (hfn:s.fn H ds = { results:=[.lit (.bool true)],args:=ds }) (hr:f.resultTypes = #[t]) (ht:P.underlying t = some .bool) (hb:Below W.heap.size W W') :
  s.post enc P f apart fresh handsOn false W args (.bool true) W':=by
 have hlt:∀p,p∈ps->p.block < W.heap.size:=fun p hp=>hW.lt p hp
 have hW':=hW
 obtain⟨p,q,hA,hV,e,_,_⟩:=hW
 rw [hv] at hV
 obtain⟨rfl,rfl⟩:=trodVars_none hV
 rw [List.append_nil] at e
 subst e
 refine⟨ds,[],ps,[],ps,[],hW',?_,?_,?_,World.keptBut_mono (fun x hx=>⟨hx,.inr (.inl hx)⟩) (hb.frame (·∈ ps)),fun h=>(by cases h)⟩
 ·rw [hr,List.append_nil,hfn]
  exact trodAll_mk1 (shut_bool ht _)
 ·rw [List.append_nil,hfn]
  exact trodAll_stays hl hp hA hb hlt fun x hx=>by simpa using hlt x hx
 ·rw [List.append_nil,hfn,hv]
  rfl
theorem FSpec.law {P:Program} {f:Nat} {asq:List AV} {vs:List Value} {W:World} (h:FSpec P f asq [] (Det (.v (.bool true)))) (hlen:vs.length = asq.length) (hr:∀i,i < asq.length->Rep (memOf W) noLo (asq.getD i .any) (vs.getD i undef)) (hW:TabM P (memOf W) W:=by trivial) :
  Calls P f vs.toArray W fun e w'=>e = .returned (.bool true)/\Below W.heap.size W w':=by
 refine Calls.mono (h.2 W (memOf W) noLo vs hW ⟨hlen,hr,memOf_agree W,fun j hj=>(by cases hj),fun _ _=>rfl,fun i j b _ hi=>(by cases hi)⟩) ?_
 rintro e w' ⟨v,r,obs,M',β',rfl,⟨rfl,rfl⟩,ho⟩
 have hv:=ho.rep
 cases hv
 exact⟨rfl,ho.keep.os,ho.keep.tape,ho.keep.output,ho.keep.size,fun b hb=>ho.keep.block b hb (fun⟨i,hi,_⟩=>by cases hi)⟩
end Go.VL
namespace Go.VL
open Go Go.RowKit
theorem mk_inj {l r:List UInt8} (h:mk l = mk r):l = r:=by
 have:(mk l).data.toList = (mk r).data.toList:=by rw [h]
 simpa [mk] using this
theorem size_mk (l:List UInt8):(mk l).size = l.length:=by simp [mk,ByteArray.size]
theorem toList_mk (l:List UInt8):ByteArray.toList (mk l) = l:=by rw [Lib.toList_data]; simp [mk]
theorem mk_data (s:ByteArray):mk s.data.toList = s:=by cases s; simp [mk]
theorem bt_mk (l:List UInt8) (i:Nat) (h:i < l.length):bt (mk l) (i:Int) = ((l.getD i 0).toNat:Int):=by
 unfold bt
 rw [dif_pos (by rw [size_mk]; simpa using h)]
 have:(mk l)[(i:Int).toNat]'(by rw [size_mk]; simpa using h) = l[i]:=by
  show (mk l).data[i]'_ = _
  simp [mk]
 rw [this]; simp [List.getD_eq_getElem?_getD,h]
theorem extract_mk (l:List UInt8) (a b:Nat):ByteArray.extract (mk l) a b = mk ((l.take b).drop a):=by
 have:(ByteArray.extract (mk l) a b).data.toList = (l.take b).drop a:=by
  rw [ByteArray.data_extract]
  simp [mk,List.extract_eq_take_drop,List.drop_take]
 rw [<-mk_data (ByteArray.extract (mk l) a b),this]
theorem append_mk (l r:List UInt8):(mk l:ByteArray)++mk r = mk (l++r):=by
 have:((mk l:ByteArray)++mk r).data.toList = l++r:=by
  rw [ByteArray.data_append]; simp [mk]
 rw [<-mk_data (mk l++mk r),this]
theorem nil_mk:(⟨#[]⟩:ByteArray) = mk []:=rfl
theorem FSpec.lib {P : Program} {f : Nat} {xs : List Value} {v : Value} (hE : Ent P f) (h : ∀ w, Calls P f xs.toArray w fun e w' => e = .returned v ∧ Below w.heap.size w w') : FSpec P f (xs.map .v) [] (Det (.v v)) := by
  refine ⟨hE, fun w M β vs hB hin => ?_⟩
  have hl : vs.length = xs.length := by rw [hin.len, List.length_map]
  have e : vs = xs := by
    apply List.ext_getElem hl
    intro i h1 h2
    have := hin.rep i (by simpa using h2)
    have e1 : (xs.map AV.v).getD i .any = .v xs[i] := by simp [List.getD_eq_getElem?_getD, h2]
    have e2 : vs.getD i undef = vs[i] := by simp [List.getD_eq_getElem?_getD, h1]
    rw [e1, e2] at this
    exact rep_v this
  subst e
  refine Calls.mono (h w) fun e w' ⟨he, hb⟩ => ⟨v, .v v, [], M, noLo, he, ⟨rfl, rfl⟩, ?_⟩
  have hlt : ∀ b k u, M.c b k = some u → b < w.heap.size := fun b k u hc => hin.agree.lt hc
  exact { le := Mem.le.refl _, agree := ⟨fun b k u hc => by
            rw [← hin.agree _ _ _ hc]; exact hb.cell (p := ⟨b, k, none⟩) (hlt b k u hc), fun b hp => by
            obtain ⟨k, u, hc⟩ := M.pc b hp
            rw [hb.block b (hlt b k u hc)]; exact hin.agree.p b hp⟩
          rep := .v _ _, own := fun j hj => by simp at hj, same := fun j b hj => by simp at hj, samev := fun j l sz es hj => (by simp at hj), apart := fun i j b _ hi => by simp at hi, place := fun j b hj => by simp at hj
          new := fun b k u hc => .inl hc, keep := ⟨hb.os, hb.tape, hb.output, hb.size, fun b hlt _ => hb.block b hlt⟩ }
theorem FSpec.libA {P : Program} {f : Nat} {xs : List Value} {v : Value} {a : AV} (hE : Ent P f) (hr : ∀ M, Rep M noLo a v) (h : ∀ w, Calls P f xs.toArray w fun e w' => e = .returned v ∧ Below w.heap.size w w') : FSpec P f (xs.map .v) [] (Det a) := by
  refine ⟨hE, fun w M β vs hB hin => ?_⟩
  have hl : vs.length = xs.length := by rw [hin.len, List.length_map]
  have e : vs = xs := by
    apply List.ext_getElem hl
    intro i h1 h2
    have := hin.rep i (by simpa using h2)
    have e1 : (xs.map AV.v).getD i .any = .v xs[i] := by simp [List.getD_eq_getElem?_getD, h2]
    have e2 : vs.getD i undef = vs[i] := by simp [List.getD_eq_getElem?_getD, h1]
    rw [e1, e2] at this
    exact rep_v this
  subst e
  refine Calls.mono (h w) fun e w' ⟨he, hb⟩ => ⟨v, a, [], M, noLo, he, ⟨rfl, rfl⟩, ?_⟩
  have hlt : ∀ b k u, M.c b k = some u → b < w.heap.size := fun b k u hc => hin.agree.lt hc
  exact { le := Mem.le.refl _, agree := ⟨fun b k u hc => by
            rw [← hin.agree _ _ _ hc]; exact hb.cell (p := ⟨b, k, none⟩) (hlt b k u hc), fun b hp => by
            obtain ⟨k, u, hc⟩ := M.pc b hp
            rw [hb.block b (hlt b k u hc)]; exact hin.agree.p b hp⟩
          rep := hr M, own := fun j hj => by simp at hj, same := fun j b hj => by simp at hj, samev := fun j l sz es hj => (by simp at hj), apart := fun i j b _ hi => by simp at hi, place := fun j b hj => by simp at hj
          new := fun b k u hc => .inl hc, keep := ⟨hb.os, hb.tape, hb.output, hb.size, fun b hlt _ => hb.block b hlt⟩ }
end Go.VL
namespace Go.VL
open Go Go.RowKit
theorem TabM.law {P:Program} {W:World} {g:Nat} (hg:P.globalNamed powN = some g) (h:Lib.TabIs P W powN .u64 Lib.pow10Tab):TabM P (memOf W) W:=by
 have:=h.cell hg 0 (by rw [Lib.pow10Tab_length]; omega)
 exact⟨h,g,.int .u64 (Lib.pow10Tab.getD 0 0),hg,by simp only [memOf,this]; rfl⟩
theorem laid_drop {P:Program} {W:World} {x:String×DataW Unit} {l:List (String×DataW Unit)} (h:laidMet P (x::l) W):laidMet P l W:=by
 obtain⟨ps,⟨g,t,cs,fuel,p,q,_,_,_,_,hq,rfl⟩,hn,hr⟩:=h
 exact⟨q,hq,(List.nodup_append.1 hn).2.1,fun b off hb=>hr b off (List.mem_append_right _ hb)⟩
theorem laid_at {P:Program} {W:World} {x:String×DataW Unit}:∀{l:List (String×DataW Unit)} (i:Nat),laidMet P l W->l[i]? = some x->∃rest,laidMet P (x::rest) W
 | [],i,_,h=>by simp at h
 | y::l,0,hm,h=>by simp at h; subst h; exact⟨l,hm⟩
 | y::l,i+1,hm,h=>laid_at i (laid_drop hm) (by simpa using h)
theorem TabM.laid {P:Program} {W:World} {l:List (String×DataW Unit)} {g:Nat} {t e:TypeId} {n:Nat} (i:Nat) (hg:P.globalNamed powN = some g) (hty:(P.globals[g]?).map (·.type) = some t) (ht:P.underlying t = some (.array n e)) (he:P.underlying e = some (.int .u64)) (hce:P.cellsOf e = 1) (hct:P.cellsOf t = n)
  (hi:l[i]? = some (powN,Lib.tabData .u64 Lib.pow10Tab)) (h:laidMet P l W):TabM P (memOf W) W:=by
 obtain⟨rest,h⟩:=laid_at i h hi
 exact TabM.law hg (Lib.tabIs_of_head hg hty ht he hce hct h)
theorem FSpec.libT {P : Program} {f : Nat} {xs : List Value} {v : Value} (hE : Ent P f) (h : ∀ w, Lib.TabIs P w powN .u64 Lib.pow10Tab → Calls P f xs.toArray w fun e w' => e = .returned v ∧ Below w.heap.size w w') : FSpec P f (xs.map .v) [] (Det (.v v)) := by
  refine ⟨hE, fun w M β vs hB hin => ?_⟩
  have hl : vs.length = xs.length := by rw [hin.len, List.length_map]
  have e : vs = xs := by
    apply List.ext_getElem hl
    intro i h1 h2
    have := hin.rep i (by simpa using h2)
    have e1 : (xs.map AV.v).getD i .any = .v xs[i] := by simp [List.getD_eq_getElem?_getD, h2]
    have e2 : vs.getD i undef = vs[i] := by simp [List.getD_eq_getElem?_getD, h1]
    rw [e1, e2] at this
    exact rep_v this
  subst e
  refine Calls.mono (h w hB.is) fun e w' ⟨he, hb⟩ => ⟨v, .v v, [], M, noLo, he, ⟨rfl, rfl⟩, ?_⟩
  have hlt : ∀ b k u, M.c b k = some u → b < w.heap.size := fun b k u hc => hin.agree.lt hc
  exact { le := Mem.le.refl _, agree := ⟨fun b k u hc => by
            rw [← hin.agree _ _ _ hc]; exact hb.cell (p := ⟨b, k, none⟩) (hlt b k u hc), fun b hp => by
            obtain ⟨k, u, hc⟩ := M.pc b hp
            rw [hb.block b (hlt b k u hc)]; exact hin.agree.p b hp⟩
          rep := .v _ _, own := fun j hj => by simp at hj, same := fun j b hj => by simp at hj, samev := fun j l sz es hj => (by simp at hj), apart := fun i j b _ hi => by simp at hi, place := fun j b hj => by simp at hj
          new := fun b k u hc => .inl hc, keep := ⟨hb.os, hb.tape, hb.output, hb.size, fun b hlt _ => hb.block b hlt⟩ }
end Go.VL
set_option linter.defProp false
namespace Go.VL
open Go
def zp:=And.intro @w_testd (And.intro @w_testn (And.intro @w_teste (And.intro @w_testne (And.intro @w_testb (And.intro @w_testi (And.intro @w_need (@w_done)))))))
def zs:=And.intro @w_test (And.intro @step0 (And.intro @step1 (And.intro @step2 (And.intro @has_int (And.intro @has_bool (And.intro @has_str (And.intro @has_sl (And.intro @has_slnil (And.intro @has_ptr (And.intro @has_nil (And.intro @true_and (And.intro @and_true (And.intro @List.headD_cons.{0} (And.intro @List.tail_cons.{0} (And.intro @toInt_v (And.intro @toStr_v (And.intro @toBool_v (And.intro @comp_tup (And.intro @elems_sl (And.intro @elems_nil (And.intro @deref_ptr (And.intro @isNil_ptr (And.intro @isNil_nil (And.intro @cs_agg (And.intro @cs_cells (And.intro @es_vec (And.intro @List.getD_cons_zero.{0} (And.intro @List.getD_cons_succ.{0} (And.intro @List.drop_zero.{0} (And.intro @List.drop_succ_cons.{0} (And.intro @decide_eq_true_eq (And.intro @decide_eq_false_iff_not (And.intro @bne_iff_ne.{0} (And.intro @bne_eq_false_iff_eq.{0} (And.intro @beq_iff_eq.{0} (And.intro @beq_eq_false_iff_ne.{0} (And.intro @Bool.not_eq_true' (And.intro @Bool.not_eq_false' (And.intro @List.length_cons.{0} (@List.length_nil.{0}))))))))))))))))))))))))))))))))))))))))
def zt:=And.intro @size_mk (And.intro @toList_mk (And.intro @extract_mk (And.intro @nil_mk (And.intro @append_mk (And.intro @Int.toNat_natCast (And.intro @List.take_length.{0} (And.intro @List.drop_zero.{0} (@Int.toNat_zero))))))))
def zf:=And.intro @Bool.false_and (And.intro @Bool.and_false (And.intro @Bool.false_eq_true (And.intro @if_false.{1} (And.intro @Bool.true_and (And.intro @Bool.and_true (And.intro @Bool.and_self (And.intro @Bool.true_or (And.intro @Bool.false_or (And.intro @Bool.or_true (And.intro @Bool.or_false (And.intro @decide_true (And.intro @decide_false (And.intro @not_true_eq_false (And.intro @not_false_eq_true (And.intro @if_true.{1} (And.intro @Bool.not_true (And.intro @Bool.not_false (@eq_self_iff_true.{1}))))))))))))))))))
end Go.VL
