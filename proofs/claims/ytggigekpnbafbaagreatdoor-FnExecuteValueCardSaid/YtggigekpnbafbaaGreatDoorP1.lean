/-
  Part of a proof: Go functions read by values, trees of functions, their contracts.
-/
import Derived.Orders
import Derived.Below
import Derived.KernelRfl
import Derived.Laws.Cells
import Derived.Laws.Rows
import Derived.Laws.OwnMore
import Derived.Laws.StructEq
import Derived.LaidEql
import Derived.Laws.Strings
import Derived.Laws.BytesArg
import Derived.Great.BuildSlice
import Derived.Lib.LaidTab
import Derived.Lib.ItoaNum
set_option linter.unusedVariables false
set_option linter.unusedSimpArgs false
open Bool renaming and_eq_true→az,eq_iff_iff→cF,not_eq_true'→cc,or_eq_true→bD
open List renaming all_cons→cT,all_eq_true→bM,any_eq_true→cf,append_assoc→bK,cons_append→aW,getD_cons_zero→bp,getD_eq_getElem?_getD→aa,getElem?_append→a7,getElem?_drop→cO,getElem?_eq_getElem→bg,getElem_mem→bN,headD_cons→aP,length_append→aq,length_cons→au,length_drop→cm,length_map→cg,length_nil→aG,map_cons→bz,mem_append→aK,mem_append_left→aC,mem_append_right→aB,mem_cons→aH,mem_cons_of_mem→al,mem_cons_self→ai,mem_map→bJ,range→bf,tail_cons→bO
open Nat renaming add_zero→bX,beq→aJ,blt→cA,eq_of_beq_eq_true→aE,le_of_ble_eq_true→aQ,le_refl→aw,mul_le_mul_right→aX,succ_mul→cZ,zero_add→aZ
open Option renaming bind_some→ba,getD_some→cz,map_some→cu
open UInt8 renaming ofNat→a8
namespace Go.VL
open Go Go.RowKit
inductive AV where
 |any
 |v (x:Value)
 |agg (cs:List AV)
 |cy (cs:List AV)
 |ptr (cs:List AV)
 |pid (b:Nat) (cs:List AV)
 |sl (es:List (List AV))
 |x (a:AV)
 |b (t:Bool)
 |ref (o k:Nat)
 |nt (o k:Nat)
 |vec (o:Nat)
 |mo (o i k:Nat)
 |fn (f:Nat) (cap:List AV)
 |fm (f:Nat) (js:List (Option Nat))
 deriving Inhabited
inductive Ob where
 |cells (cs:List AV)
 |vec (sz:Nat) (es:List (List AV))
 |gW (cs:List AV)
 |l5 (es:List (List AV))
 |dead
 |mv (sz:Nat) (es:List (List AV))
 deriving Inhabited
def AV.toInt:AV->Int| .v (.int _ n)=>n|_=>0
def AV.toStr:AV->ByteArray| .v (.string s)=>s|_=>⟨#[]⟩
def AV.toBool:AV->Bool| .v (.bool q)=>q| .b q=>q|_=>false
def AV.cs:AV->List AV| .agg cs=>cs|_=>[]
def AV.comp(a:AV)(i:Nat):AV:=match a with| .cy cs=>cs.getD i .any|_=>.any
def AV.deref:AV->List AV| .ptr cs=>cs| .pid _ cs=>cs|_=>[]
def AV.elems:AV->List (List AV)| .sl es=>es|_=>[]
def AV.isNil:AV->Bool| .v (.pointer none)=>true|_=>false
def AV.rQ:AV->Prop| .v (.pointer none)=>True| .pid _ _=>True|_=>False
def AV.Bq:AV->AV->Bool
 | .v (.pointer none),.v (.pointer none)=>true
 | .pid m _,.pid m' _=>aJ m m'
 |_,_=>false
def AV.cap:AV->List AV| .fn _ c=>c|_=>[]
def Ob.cs:Ob->List AV| .cells cs=>cs| .gW cs=>cs|_=>[]
def Ob.es:Ob->List (List AV)| .vec _ es=>es| .l5 es=>es| .mv _ es=>es|_=>[]
def Bx:AV->Bool
 | .any| .cy _| .agg _=>false
 | .v x=>x.oneCell'
 |_=>true
def AQ:AV->Bool
 | .v x=>x.oneCell'
 | .x _=>true
 |_=>false
inductive LK where
 |int (k:IntKind)|bool|str|ptr|sl|jK
 deriving DecidableEq,Inhabited
def LK.has:LK->AV->Prop
 | .int k,a=>∃n,a=.v (.int k n)
 | .bool,a=>∃b,a=.v (.bool b)
 | .str,a=>∃s,a=.v (.string s)
 | .ptr,a=>a=.v (.pointer none)\/(∃cs,a=.ptr cs)\/∃b cs,a=.pid b cs
 | .sl,a=>a=.v (.slice none 0 0)\/∃es,a=.sl es
 | .jK,a=>AQ a=true
def LK.cast:LK->AV->AV
 | .int k,a=>.v (.int k a.toInt)
 | .bool,a=>.b a.toBool
 | .str,a=>.v (.string a.toStr)
 | .ptr,a=>.x a
 | .sl,a=>.x a
 | .jK,a=>.x a
def LK.zero:LK->AV
 | .int k=>.v (.int k 0)
 | .bool=>.v (.bool false)
 | .str=>.v (.string ⟨#[]⟩)
 | .ptr=>.v (.pointer none)
 | .sl=>.v (.slice none 0 0)
 | .jK=>.x .any
def LK.kn:LK->Bool| .jK=>false|_=>true
def LK.plain:LK->Bool| .int _| .bool| .str=>true|_=>false
def bF:List LK->List AV->Nat->Prop
 |[],_,_=>True
 |k::ks,cs,i=>k.has (cs.getD i .any)/\bF ks cs (i+1)
def jh:List LK->List AV->Nat->List AV
 |[],_,_=>[]
 |k::ks,cs,i=>k.cast (cs.getD i .any)::jh ks cs (i+1)
inductive TK where
 |str|slice (e:Nat)|array (n e:Nat)|struct (fs:List (Nat×Nat))|tuple (ts:List Nat)|pt|bl|num (k:IntKind)|other
 deriving Inhabited
structure TI where
 kn:Bool
 lk:List LK
 agg:Bool
 bytes:Nat
 k:TK
 nz:Bool
 deriving Inhabited
def TI.sz(t:TI):Nat:=t.lk.length
abbrev eE:=Nat->TI
structure St where
 tm:Nat->AV
 ob:Nat->Option Ob
 us:Nat->Bool
def cx{α:Type}(f:Nat->α)(i:Nat)(a:α):Nat->α:=fun j=>bif aJ j i then a else f j
def St.set(s:St)(t:Nat)(a:AV):St:={s with tm:=cx s.tm t a}
def cD:(Nat->Option Ob)->List (Nat×Option Ob)->Nat->Option Ob
 |f,[]=>f
 |f,(o,c)::r=>cD (cx f o c) r
def eY:(Nat->Bool)->List Nat->Nat->Bool
 |f,[]=>f
 |f,o::r=>eY (cx f o true) r
def ev(s:St):Operand->AV
 | .tmp t=>s.tm t
 | .const v=>.v v
 | .global g=>.v (.pointer (some ⟨g,0,none⟩))
 | .func f=>.v (.func (.func f) #[] #[])
structure De where
 val:AV
 cx:List (Nat×Option Ob):=[]
 rd:List Nat:=[]
 new:List Nat:=[]
inductive DR where
 |no
 |yes (d:De)
 |ok (p:Prop) (d:De)
def dz(q:Bool)(r:DR):DR:=bif q then r else .no
def ty(T:eE)(t:Nat):TI:=T t
def Av(t:TI):LK:=t.lk.headD .jK
def sK(t:TI)(cs:List AV):AV:=bif t.agg then .agg (jh t.lk cs 0)else(Av t).cast (cs.headD .any)
def zJ(t:TI)(cs:List AV):Prop:=bif t.agg then bF t.lk cs 0 else(Av t).has (cs.headD .any)
def flat:AV->List AV| .agg cs=>cs|a=>[a]
def mS:AV->Bool
 | .agg _=>true
 |a=>Bx a
def ic{α:Type}:List α->Nat->List α->List α
 |l,_,[]=>l
 |l,n,c::cs=>ic (l.set n c) (n+1) cs
def jg(t:TI):List AV:=t.lk.map LK.zero
def bytesOf:List (List AV)->List UInt8
 |[]=>[]
 |e::es=>a8 (e.headD .any).toInt.toNat::bytesOf es
def im:List (List AV)->Prop
 |[]=>True
 |e::es=>e.length=1/\(LK.int .u8).has (e.headD .any)/\im es
def cV(z:Nat)(es:List (List AV)):Prop:=∀c,c∈es->c.length=z
def A8(k:IntKind)(a b:Int):Int:=k.wrap ((BitVec.ofInt k.bits a ^^^ BitVec.ofInt k.bits b).toNat:Int)
def Hx(op:BinOp)(k:IntKind)(a b:Int):DR :=
 match op with
 | .add=>.yes {val:=.v (.int k (k.wrap (a+b)))}
 | .sub=>.yes {val:=.v (.int k (k.wrap (a-b)))}
 | .mul=>.yes {val:=.v (.int k (k.wrap (a*b)))}
 | .quo=>.ok (¬b=0) {val:=.v (.int k (k.wrap (a.tdiv b)))}
 | .rem=>.ok (¬b=0) {val:=.v (.int k (a.tmod b))}
 | .xor=>.yes {val:=.v (.int k (A8 k a b))}
 | .eql=>.yes {val:=.b (a==b)}
 | .neq=>.yes {val:=.b (a != b)}
 | .lss=>.yes {val:=.b (decide (a<b))}
 | .leq=>.yes {val:=.b (decide (a<=b))}
 | .gtr=>.yes {val:=.b (decide (a>b))}
 | .geq=>.yes {val:=.b (decide (a≥b))}
 |_=>.no
def GR(op:BinOp)(a b:ByteArray):DR :=
 match op with
 | .add=>.ok (a.size+b.size<=9223372036854775807) {val:=.v (.string (a++b))}
 | .eql=>.yes {val:=.b (a.toList==b.toList)}
 | .neq=>.yes {val:=.b (!(a.toList==b.toList))}
 | .lss=>.yes {val:=.b (Op.bytesLess a.toList b.toList)}
 |_=>.no
def mg(op:BinOp)(b:Bool):Option Bool:=match op with| .eql=>some b| .neq=>some (!b)|_=>none
def AH(t:TI)(op:BinOp)(p:Option Prop)(q:Bool):DR :=
 dz t.kn<|match t.k,mg op q with
 | .pt,some c=>match p with|some p=>.ok p {val:=.b c}|none=>.yes {val:=.b c}
 |_,_=>.no
def cmpL(t:TI)(op:BinOp)(q:Bool):DR :=
 dz t.kn<|match t.k,mg op q with
 | .pt,some c=>.yes {val:=.v (.bool c)}
 |_,_=>.no
def vc(t:TI)(op:BinOp)(q:Bool):DR :=
 dz t.kn<|match t.k,mg op q with
 | .bl,some c=>.yes {val:=.b c}
 |_,_=>.no
def Nz:LK->AV->AV->Option Bool
 | .str,.v (.string a),.v (.string b)=>some (a.toList==b.toList)
 | .int k,.v (.int k1 a),.v (.int k2 b)=>if k=k1 then(if k=k2 then some (a==b)else none)else none
 |_,_,_=>none
def Cm:List LK->List AV->List AV->Option Bool
 |[],[],[]=>some true
 |
  l::ls,c::cs,d::ds=>match Nz l c d,Cm ls cs ds with
  |some p,some q=>some (p&&q)
  |_,_=>none
 |_,_,_=>none
def FK(t:TI)(op:BinOp)(cs ds:List AV):DR :=
 dz (t.kn&&t.nz)<|match t.k with
 |
  .struct _=>(match Cm t.lk cs ds with
  |some q=>(match mg op q with|some c=>.yes {val:=.b c}|none=>.no)
  |none=>.no)
 |_=>.no
def bin(t:TI)(op:BinOp)(x y:AV):DR :=
 match x,y with
 | .v (.int k a),.v (.int k' b)=>if k=k' then Hx op k a b else .no
 | .v (.string a),.v (.string b)=>GR op a b
 | .x a,.v (.pointer none)=>AH t op (some (LK.ptr.has a)) a.isNil
 | .x a,.x c=>bif t.nz then AH t op (some (a.rQ/\c.rQ)) (a.Bq c)else .no
 | .v (.pointer none),.v (.pointer none)=>cmpL t op true
 | .ptr _,.v (.pointer none)=>cmpL t op false
 | .pid _ _,.v (.pointer none)=>cmpL t op false
 | .ref _ _,.v (.pointer none)=>cmpL t op false
 | .v (.bool a),.v (.bool b)=>vc t op (a==b)
 | .v (.bool a),.b b=>vc t op (a==b)
 | .b a,.v (.bool b)=>vc t op (a==b)
 | .b a,.b b=>vc t op (a==b)
 | .agg cs,.agg ds=>FK t op cs ds
 |_,_=>.no
def qP(x:AV)(off:Nat):DR :=
 match x with
 | .ref o k=>.yes {val:=.ref o (k+off)}
 | .nt o k=>.yes {val:=.nt o (k+off)}
 | .mo o i k=>.yes {val:=.mo o i (k+off)}
 | .ptr cs=>.yes {val:=.ptr (cs.drop off)}
 | .pid _ cs=>.yes {val:=.ptr (cs.drop off)}
 | .x a=>.ok (LK.ptr.has a/\a.isNil=false) {val:=.ptr (a.deref.drop off)}
 |_=>.no
def ns(t:TI)(cs:List AV)(k:Nat):DR :=
 dz t.kn<|bif t.agg then(bif Nat.ble (k+t.sz) cs.length then .yes {val:=.agg ((cs.drop k).take t.sz)}else .no)
 else(bif cA k cs.length then .yes {val:=cs.getD k .any}else .no)
def jm(t:TI)(cs:List AV)(k:Nat):DR :=
 dz (t.kn&&t.lk.all LK.kn)<|bif t.agg then .ok (k+t.sz<=cs.length/\bF t.lk cs k) {val:=.agg (jh t.lk cs k)}
 else .ok (k<cs.length/\(Av t).has (cs.getD k .any)) {val:=(Av t).cast (cs.getD k .any)}
def DR.reads(r:DR)(o:Nat):DR:=match r with| .ok p d=>.ok p {d with rd:=o::d.rd}| .yes d=>.yes {d with rd:=o::d.rd}| .no=>.no
def DR.At(r:DR)(q:Prop):DR:=match r with| .ok p d=>.ok (q/\p) d| .yes d=>.ok q d| .no=>.no
def DR.when(q:Option Prop)(r:DR):DR:=match q with|none=>r|some p=>r.At p
def Ps(f:Nat)(js:List (Option Nat)):Option Nat->AV
 |none=>.fm f js
 |some o=>.ref o 0
def loadAt(ob:Nat->Option Ob)(t:TI)(x:AV):DR :=
 match x with
 |
  .ref o k=>match ob o with
  |some (.cells cs)|some (.gW cs)=>(ns t cs k).reads o
  |_=>.no
 |
  .nt o k=>match ob o with
  |some (.cells cs)|some (.gW cs)=>(jm t cs k).reads o
  |_=>.no
 |
  .mo o i k=>match ob o with
  |some (.vec _ es)|some (.l5 es)=>((jm t (es.getD i []) k).At (i<es.length)).reads o
  |_=>.no
 | .ptr cs=>dz t.kn<|.ok (zJ t cs/\t.sz<=cs.length) {val:=sK t cs}
 | .pid _ cs=>dz t.kn<|.ok (zJ t cs/\t.sz<=cs.length) {val:=sK t cs}
 | .x a=>dz t.kn<|.ok (LK.ptr.has a/\a.isNil=false/\zJ t a.deref/\t.sz<=a.deref.length) {val:=sK t a.deref}
 | .fm f js=>dz (t.kn&&!t.agg)<|.yes {val:=.fn f (js.map (Ps f js))}
 |_=>.no
def fh(ob:Nat->Option Ob)(x:AV):Option (Option Prop×List (List AV)×List Nat) :=
 match x with
 | .sl es=>some (none,es,[])
 | .x a=>some (some (LK.sl.has a),a.elems,[])
 | .v (.slice none 0 0)=>some (none,[],[])
 |
  .vec o=>match ob o with
  |some (.vec _ es)|some (.l5 es)=>some (none,es,[o])
  |_=>none
 |_=>none
def indexAt(T:eE)(ob:Nat->Option Ob)(t:TI)(x:AV)(i:Int):DR :=
 match t.k,x with
 | .array n e,.ref o k=>dz (T e).kn<|.ok (0<=i/\i<n) {val:=.nt o (k+i.toNat*(T e).sz)}
 |
  .slice e,.vec o=>dz (T e).kn<|match ob o with
  |some (.vec sz es)=>dz (aJ sz (T e).sz)<|.ok (0<=i/\i<es.length) {val:=.mo o i.toNat 0,rd:=[o]}
  |some (.l5 es)=>.ok (0<=i/\i<es.length/\(es.getD i.toNat []).length=(T e).sz) {val:=.mo o i.toNat 0,rd:=[o]}
  |_=>.no
 | .slice e,.sl es=>dz (T e).kn<|.ok (0<=i/\i<es.length/\(es.getD i.toNat []).length=(T e).sz) {val:=.ptr (es.getD i.toNat [])}
 | .slice e,.x a=>dz (T e).kn<|.ok (LK.sl.has a/\0<=i/\i<a.elems.length/\(a.elems.getD i.toNat []).length=(T e).sz) {val:=.ptr (a.elems.getD i.toNat [])}
 |_,_=>.no
def bt(s:ByteArray)(i:Int):Int:=if h:i.toNat<s.size then((s[i.toNat]'h).toNat:Int)else 0
def ik(e:Operand->AV):Option Operand->Option Int
 |none=>some 0
 |some x=>match e x with| .v (.int _ n)=>some n|_=>none
def gl(e:Operand->AV)(n:Nat):Option Operand->Option Int
 |none=>some n
 |some x=>match e x with| .v (.int _ n)=>some n|_=>none
def mz(g:AV->Option (AV×List Nat)):List AV->Option (List AV×List Nat)
 |[]=>some ([],[])
 |
  c::cs=>match g c,mz g cs with
  |some (a,os),some (asq,os')=>some (a::asq,os++os')
  |_,_=>none
def uC(g:AV->Option (AV×List Nat)):List AV->Option (List (List AV)×List Nat)
 |[]=>some ([],[])
 |
  c::cs=>match mz g (flat c),uC g cs with
  |some (a,os),some (asq,os')=>some (a::asq,os++os')
  |_,_=>none
def freeze(ob:Nat->Option Ob):Nat->AV->Option (AV×List Nat)
 |0,_=>none
 |
  n+1,a=>match a with
  |
   .ref o 0=>match ob o with
   |some (.cells cs)|some (.gW cs)=>(mz (freeze ob n) cs).map fun r=>(.ptr r.1,o::r.2)
   |_=>none
  |
   .vec o=>match ob o with
   |some (.vec _ es)|some (.l5 es)=>some (.sl es,[o])
   |_=>none
  | .x a=>some (a,[])
  | .agg cs=>(mz (freeze ob n) cs).map fun r=>(.agg r.1,r.2)
  | .any=>some (.any,[])
  | .b t=>some (.v (.bool t),[])
  | .v x=>some (.v x,[])
  | .ptr cs=>some (.ptr cs,[])
  | .pid b cs=>some (.pid b cs,[])
  | .sl es=>some (.sl es,[])
  |_=>none
def eB:Nat:=12
def cG:Option Ob->Option Ob
 |some (.cells cs)=>some (.gW cs)
 |some (.vec _ es)=>some (.l5 es)
 |some (.mv _ es)=>some (.l5 es)
 |o=>o
def fE(ob:Nat->Option Ob)(os:List Nat):List (Nat×Option Ob):=os.map fun o=>(o,cG (ob o))
def qZ(T:eE)(fs:List (Nat×Nat))(m:Nat)(e:Operand->AV):List (Nat×Operand)->Bool
 |[]=>true
 |p::r=>((match fs[p.1]? with|some (off,ft)=>aJ (flat (e p.2)).length (T ft).sz&&Nat.ble (off+(flat (e p.2)).length) m|none=>false)&&mS (e p.2))&&qZ T fs m e r
def rT(z m:Nat)(e:Operand->AV):List (Nat×Operand)->Bool
 |[]=>true
 |p::r=>(aJ (flat (e p.2)).length z&&Nat.ble (p.1*z+(flat (e p.2)).length) m&&mS (e p.2))&&rT z m e r
def wT(l c:Operand):Bool:=match l,c with| .tmp i,.tmp j=>aJ i j| .const (.int _ p),.const (.int _ q)=>decide (p=q)|_,_=>false
def dS(T:eE)(e:Operand->AV)(ob:Nat->Option Ob)(o:Oper):DR :=
 match o.op with
 | .move x| .assign x=>.yes {val:=e x}
 | .pick c a b=>match e c with| .v (.bool true)=>.yes {val:=e a}| .v (.bool false)=>.yes {val:=e b}|_=>.no
 | .binOp op t x y _=>bin (T t) op (e x) (e y)
 | .unOp .not _ x=>match e x with| .v (.bool b)=>.yes {val:=.v (.bool !b)}| .b b=>.yes {val:=.b (!b)}|_=>.no
 | .unOp .neg _ x=>match e x with| .v (.int k n)=>.yes {val:=.v (.int k (k.wrap (0-n)))}|_=>.no
 |
  .nilCheck x=>match e x with
  | .x a=>.ok (LK.ptr.has a/\a.isNil=false) {val:=.x a}
  | .ptr cs=>.yes {val:=.ptr cs}
  | .pid b cs=>.yes {val:=.pid b cs}
  | .ref o k=>.yes {val:=.ref o k}
  |_=>.no
 |
  .fieldAddr t x f=>dz (T t).kn<|match (T t).k with
  |
   .struct fs=>match fs[f]? with
   |some (off,ft)=>dz ((T ft).kn&&cA 0 (T ft).sz)<|qP (e x) off
   |none=>.no
  |_=>.no
 |
  .field t x f=>dz (T t).kn<|match (T t).k,e x with
  |
   .struct fs,.agg cs=>match fs[f]? with
   |some (off,ft)=>ns (T ft) cs off
   |none=>.no
  |_,_=>.no
 | .load t x=>loadAt ob (T t) (e x)
 | .indexAddr t x i=>dz (T t).kn<|match e i with| .v (.int _ n)=>indexAt T ob (T t) (e x) n|_=>.no
 |
  .index t x i=>dz (T t).kn<|match (T t).k,e x,e i with
  | .str,.v (.string s),.v (.int _ n)=>.ok (0<=n/\n<s.size) {val:=.v (.int .u8 (bt s n))}
  | .array m el,.agg cs,.v (.int _ n)=>((jm (T el) cs (n.toNat*(T el).sz))).At (0<=n/\n<m)
  |_,_,_=>.no
 |
  .slice t x lo hi none=>dz (T t).kn<|match (T t).k,e x with
  |
   .str,.v (.string s)=>match ik e lo,gl e s.size hi with
   |some l,some h=>.ok (0<=l/\l<=h/\h<=s.size) {val:=.v (.string (s.extract l.toNat h.toNat))}
   |_,_=>.no
  |
   .slice el,.vec o=>dz (T el).kn<|match ob o with
   |
    some (.vec sz es)=>dz (aJ sz (T el).sz)<|match ik e lo,gl e es.length hi with
    |some l,some h=>.ok (0<=l/\l<=h/\h<=es.length) {val:=.sl ((es.take h.toNat).drop l.toNat),cx:=[(o,some (.l5 es))]}
    |_,_=>.no
   |
    some (.l5 es)=>match ik e lo,gl e es.length hi with
    |some l,some h=>DR.when (lo.map fun _=>cV (T el).sz es)<|.ok (0<=l/\l<=h/\h<=es.length) {val:=.sl ((es.take h.toNat).drop l.toNat),rd:=[o]}
    |_,_=>.no
   |_=>.no
  |
   .slice el,x=>dz (T el).kn<|match fh ob x with
   |
    some (p,es,os)=>match ik e lo,gl e es.length hi with
    |some l,some h=>.when p<|DR.when (lo.map fun _=>cV (T el).sz es)<|.ok (0<=l/\l<=h/\h<=es.length) {val:=.sl ((es.take h.toNat).drop l.toNat),rd:=os}
    |_,_=>.no
   |none=>.no
  |_,_=>.no
 | .extract t i=>match e t with| .cy cs=>dz (cA i cs.length)<|.yes {val:=cs.getD i .any}|_=>.no
 |
  .convert s d x=>dz ((T s).kn&&(T d).kn)<|match (T s).k,(T d).k,e x with
  |
   .slice el,.str,y=>dz ((T el).kn&&(match (T el).k with| .num .u8=>true|_=>false))<|match fh ob y with
   |some (p,es,os)=>.when p<|.ok (im es) {val:=.v (.string ⟨(bytesOf es).toArray⟩),rd:=os}
   |none=>.no
  | .num _,.num k,.v (.int _ n)=>.yes {val:=.v (.int k (k.wrap n))}
  |_,_,_=>.no
 |
  .build t ps=>dz (T t).kn<|match (T t).k with
  | .struct fs=>dz (fs.all (fun p=>(T p.2).kn)&&qZ T fs (T t).sz e ps.toList)<|.yes {val:=.agg (ps.toList.foldl (fun cs p=>ic cs (fs.getD p.1 (0,0)).1 (flat (e p.2))) (jg (T t)))}
  | .array n el=>dz ((T el).kn&&rT (T el).sz (T t).sz e ps.toList)<|.yes {val:=.agg (ps.toList.foldl (fun cs p=>ic cs (p.1*(T el).sz) (flat (e p.2))) (jg (T t)))}
  |_=>.no
 |
  .alloc t=>dz (T t).kn<|match o.dst with
  |some d=>.yes {val:=.ref d 0,cx:=[(d,some (.cells (jg (T t))))],new:=[d]}
  |none=>.no
 |
  .box t x=>dz (T t).kn<|match o.dst with
  |some d=>dz (aJ (flat (e x)).length (T t).sz&&mS (e x))<|.yes {val:=.ref d 0,cx:=[(d,some (.cells (flat (e x))))],new:=[d]}
  |none=>.no
 |
  .store t a x=>dz (T t).kn<|dz (aJ (flat (e x)).length (T t).sz&&mS (e x))<|match e a with
  |
   .ref n k=>match ob n with
   |some (.cells cs)=>dz (Nat.ble (k+(flat (e x)).length) cs.length)<|.yes {val:=.any,cx:=[(n,some (.cells (ic cs k (flat (e x)))))]}
   |_=>.no
  |
   .nt n k=>match ob n with
   |some (.cells cs)=>.ok (k+(flat (e x)).length<=cs.length) {val:=.any,cx:=[(n,some (.cells (ic cs k (flat (e x)))))]}
   |_=>.no
  |
   .mo n i k=>match ob n with
   |
    some (.vec sz es)=>match mz (freeze ob eB) (flat (e x))with
    |some (xs,[])=>.ok (i<es.length/\k+xs.length<=sz) {val:=.any,cx:=[(n,some (.vec sz (es.set i (ic (es.getD i []) k xs))))]}
    |_=>.no
   |_=>.no
  |_=>.no
 |
  .buildSlice t n ps=>dz (T t).kn<|match (T t).k,o.dst with
  |
   .slice el,some d=>dz (T el).kn<|match uC (freeze ob eB) (ps.toList.map fun p=>e p.2)with
   |some (asq,os)=>dz (ps.toList.map (·.1)==bf n&&Nat.ble (n*(T el).sz) 16777216&&asq.all (fun a=>aJ a.length (T el).sz)&&ps.toList.all fun p=>mS (e p.2))<|.yes {val:=.vec d,cx:=fE ob os++[(d,some (.vec (T el).sz asq))],new:=[d]}
   |none=>.no
  |_,_=>.no
 |
  .makeSlice t l c=>dz (T t).kn<|match (T t).k,o.dst,e l with
  | .slice el,some d,.v (.int _ n)=>dz ((T el).kn&&cA 0 (T el).bytes)<|bif wT l c then
   .ok (0<=n/\n*(T el).bytes<=140737488355328) {val:=.vec d,cx:=[(d,some (.vec (T el).sz (List.replicate n.toNat (jg (T el)))))],new:=[d]}else .no
  |_,_,_=>.no
 |
  .call ⟨.builtin .len,xs,ts⟩=>match xs.toList,ts.toList with
  |
   [x],[t]=>dz (T t).kn<|match (T t).k,e x with
   | .str,.v (.string s)=>.yes {val:=.v (.int .i64 s.size)}
   | .array n _,_=>.yes {val:=.v (.int .i64 n)}
   |
    .slice _,y=>match fh ob y with
    |some (p,es,os)=>.when p<|.yes {val:=.v (.int .i64 es.length),rd:=os}
    |none=>.no
   |_,_=>.no
  |_,_=>.no
 |
  .call ⟨.builtin .append,xs,ts⟩=>match xs.toList,ts.toList,o.dst with
  |
   [x,y],[t,t'],some d=>dz ((T t).kn&&aJ t t')<|match (T t).k,fh ob (e y)with
   |
    .slice el,some (p,fs,os)=>dz ((T el).kn&&cA 0 (T el).bytes)<|match e x with
    |
     .vec n=>match ob n with
     |some (.vec sz es)=>dz (aJ sz (T el).sz)<|.when p<|.ok (cV (T el).sz fs/\(es.length+fs.length)*(T el).bytes<=140737488355328) {val:=.vec d,cx:=[(n,none),(d,some (.vec (T el).sz (es++fs)))],rd:=os,new:=[d]}
     |_=>.no
    | .v (.slice none 0 0)=>.when p<|.ok (cV (T el).sz fs/\fs.length*(T el).bytes<=140737488355328) {val:=.vec d,cx:=[(d,some (.vec (T el).sz fs))],rd:=os,new:=[d]}
    |_=>.no
   |_,_=>.no
  |_,_,_=>.no
 |
  .call ⟨.builtin .max,xs,_⟩=>match xs.toList with
  |
   [x,y]=>match e x,e y with
   | .v (.int k a),.v (.int k' b)=>if k=k' then .yes {val:=.v (.int k (if b>a then b else a))}else .no
   |_,_=>.no
  |_=>.no
 |
  .call ⟨.builtin .min,xs,_⟩=>match xs.toList with
  |
   [x,y]=>match e x,e y with
   | .v (.int k a),.v (.int k' b)=>if k=k' then .yes {val:=.v (.int k (if b<a then b else a))}else .no
   |_,_=>.no
  |_=>.no
 | .makeFunc (.func f) fs cs=>bif aJ fs.size 0 then .yes {val:=.fn f (cs.toList.map e)}else .no
 |_=>.no
inductive CK where
 |lk (k:LK)|vec (h:Nat)
 deriving Inhabited
inductive MK where
 |obj (cs:List CK)|vec
 |cC (g:Bool) (ks:List CK)
 |sn (ks:List CK)
 deriving Inhabited
inductive PK where
 |one (m:MK)|fn (ms:List (Option MK))|su (f:Nat) (js:List (Option Nat))
 |FH (ms:List (Option MK)) (f:Nat) (js:List (Option Nat))
 deriving Inhabited
structure FC where
 mu:List (Nat×PK):=[]
 own:List Nat:=[]
 ow:List LK:=[]
 oa:List CK:=[]
 deriving Inhabited
inductive SK where
 |k (l:LK)|agg (ks:List LK)|c (v:Value)
 deriving Inhabited
def SK.has:SK->AV->Prop
 | .k l,a=>l.has a
 | .agg ks,a=>a=.agg a.cs/\a.cs.length=ks.length/\bF ks a.cs 0
 | .c v,a=>a=.v v
def SK.cast:SK->AV->AV
 | .k l,a=>l.cast a
 | .agg ks,a=>.agg (jh ks a.cs 0)
 | .c v,_=>.v v
structure Shape where
 bZ:List (Nat×SK):=[]
 refs:List (Nat×Nat):=[]
 cr:List (Nat×List CK):=[]
 gK:List (Nat×Nat):=[]
 so:List (Nat×List CK):=[]
 vI:List (Nat×Nat×List (Option Nat)):=[]
 fns:List (Nat×Nat×List Nat):=[]
 kv:List (Nat×Nat×Nat):=[]
 deriving Inhabited
structure LI where
 hd:Shape
 xs:Shape
 rt:Shape
 ex:Nat
 fx:List Nat:=[]
 deriving Inhabited
inductive Tree where
 |fail
 |done (tag:Nat) (xs:List AV) (obs:List Ob)
 |test (b:Bool) (y n:Tree)
 |aj (p:Prop) (t:Tree)
 |call (f:Nat) (args:List AV) (ins:List Ob) (k:AV->List Ob->Tree)
 |loop (c:Code) (li:LI) (xs:List AV) (obs:List Ob) (kx kr:List AV->List Ob->Tree)
def nO:List Prop->Tree->Tree
 |[],t=>t
 |p::ps,t=>.aj p (nO ps t)
def nodup:List Nat->Bool
 |[]=>true
 |a::l=>!(l.any (aJ a))&&nodup l
def ext(ob:Nat->Option Ob)(a:AV):Option AV:=match freeze ob eB a with|some (a,[])=>some a|_=>none
def eQ:Nat:=3000000
def bY(ob:Nat->Option Ob):List CK->List AV->Nat->Option (List AV×List Ob×List Nat)
 |[],[],_=>some ([],[],[])
 |
  .lk _::ks,c::cs,j=>match ext ob c,bY ob ks cs j with
  |some a,some (asq,obs,os)=>some (a::asq,obs,os)
  |_,_=>none
 |
  .vec _::ks,.vec o::cs,j=>match ob o,bY ob ks cs (j+1)with
  |some (.vec sz es),some (asq,obs,os)=>some (.vec j::asq,.vec sz es::obs,o::os)
  |_,_=>none
 |
  .vec h::ks,.v (.slice none 0 0)::cs,j=>match bY ob ks cs (j+1)with
  |some (asq,obs,os)=>some (.vec j::asq,.vec h []::obs,(eQ+j)::os)
  |none=>none
 |_,_,_=>none
def fk:List CK->List AV->List AV
 | .vec _::ks,_::cs=>.any::fk ks cs
 | .lk _::ks,c::cs=>c::fk ks cs
 |_,_=>[]
def lf:List CK->Nat
 | .vec h::_=>h
 |_::ks=>lf ks
 |[]=>0
def oJ(ob:Nat->Option Ob)(ks:List CK)(cs:List AV)(j:Nat):Option (List AV×List Ob×List Nat):=match bY ob ks cs j with
 |
  some (asq,[.vec sz es],[o])=>match ob o with
  |some (.vec _ _)=>bif aJ sz (lf ks)then some (asq,[.vec sz es],[o])else none
  |_=>none
 |_=>none
def nR(ob:Nat->Option Ob):MK->AV->Nat->Option (AV×List Ob×List Nat)
 |
  .vec,.vec o,j=>match ob o with
  |some (.vec sz es)=>some (.vec j,[.vec sz es],[o])
  |_=>none
 |
  .cC false ks,.vec o,j=>match ob o with
  |some (.vec sz es)=>bif aJ sz (lf ks)then some (.vec j,[.vec sz es],[o])else none
  |_=>none
 |
  .cC true ks,.agg cs,j=>match oJ ob ks cs j with
  |some (asq,obs,os)=>some (.agg asq,obs,os)
  |none=>none
 |
  .obj ks,.ref o 0,j=>match ob o with
  |
   some (.cells cs)=>match bY ob ks cs (j+1)with
   |some (asq,obs,os)=>some (.ref j 0,.cells asq::obs,o::os)
   |none=>none
  |_=>none
 |
  .sn ks,.agg cs,j=>match oJ ob ks cs j with
  |some (asq,obs,os)=>some (.agg asq,obs,os)
  |none=>none
 |_,_,_=>none
def fp(ob:Nat->Option Ob):List (Option MK)->List AV->Nat->Option (List AV×List Ob×List Nat)
 |[],[],_=>some ([],[],[])
 |
  none::ms,c::cs,j=>match ext ob c,fp ob ms cs j with
  |some a,some (asq,obs,os)=>some (a::asq,obs,os)
  |_,_=>none
 |
  some m::ms,c::cs,j=>match nR ob m c j with
  |
   some (a,obs,os)=>match fp ob ms cs (j+obs.length)with
   |some (asq,obs',os')=>some (a::asq,obs++obs',os++os')
   |none=>none
  |none=>none
 |_,_,_=>none
def m9(ob:Nat->Option Ob):PK->AV->Nat->Option (AV×List Ob×List Nat)
 | .one m,a,j=>nR ob m a j
 |
  .fn ms,.fn f cap,j=>match fp ob ms cap j with
  |some (asq,obs,os)=>some (.fn f asq,obs,os)
  |none=>none
 |
  .FH ms f' _,.fn f cap,j=>match fp ob ms cap.dropLast j,cap.getLast? with
  |some (asq,obs,os),some (.fm g _)=>bif aJ g f' then some (.fn f (asq++[.any]),obs,os)else none
  |_,_=>none
 |_,_,_=>none
def oN(o:Nat):List AV->Option (List (Option Nat))
 |[]=>some []
 | .ref p 0::r=>(oN o r).map fun l=>(bif aJ p o then none else some p)::l
 |_=>none
def jY(ob:Nat->Option Ob)(f:Nat):AV->Option (List (Option Nat)×List Nat)
 | .fm f' js=>bif aJ f' f then some (js,[])else none
 |
  .ref o 0=>match ob o with
  |some (.cells [.fn f' caps])|some (.gW [.fn f' caps])=>bif aJ f' f then(oN o caps).map fun l=>(l,[o])else none
  |_=>none
 |_=>none
def Hq:List (Option Nat)->List (Option Nat)->Bool
 |[],[]=>true
 |none::a,none::b=>Hq a b
 |some x::a,some y::b=>aJ x y&&Hq a b
 |_,_=>false
def Ob.oO:Ob->Bool| .cells _=>true|_=>false
def yl:List (Nat×PK)->Nat->Option PK
 |[],_=>none
 |(j,m)::r,i=>bif aJ j i then some m else yl r i
def Jn(os:List Nat):Option Nat->Option Nat
 |none=>none
 |some j=>some (os.getD j 0)
def Nq(ins:List Ob):Option Nat->Bool
 |none=>true
 |some j=>cA j ins.length&&(ins.getD j .dead).oO
def AT(os:List Nat)(ins:List Ob)(f:Nat)(js:List (Option Nat)):AV->Bool
 |
  .fn _ cap=>match cap.getLast? with
  |some (.fm _ l)=>Hq l (js.map (Jn os))&&js.all (Nq ins)
  |_=>false
 |_=>false
def qA(f:Nat)(js:List (Option Nat)):AV->AV
 | .fn g cap=>.fn g (cap.dropLast++[.fm f js])
 |a=>a
def lM(ob:Nat->Option Ob)(mu:List (Nat×PK))(os:List Nat)(ins:List Ob):List AV->Nat->Bool
 |[],_=>true
 |
  a::asq,i=>(match yl mu i with
  |
   some (.su f js)=>(match jY ob f a with
   |some (l,_)=>Hq l (js.map (Jn os))&&js.all (Nq ins)
   |none=>false)
  |some (.FH _ f js)=>AT os ins f js a
  |_=>true)&&lM ob mu os ins asq (i+1)
def je(mu:List (Nat×PK)):List AV->Nat->List AV
 |[],_=>[]
 |a::asq,i=>(match yl mu i with|some (.su f js)=>.fm f js|some (.FH _ f js)=>qA f js a|_=>a)::je mu asq (i+1)
def dF:List (Nat×PK)->List MK
 |[]=>[]
 |(_,.su _ _)::r=>dF r
 |(_,.one m)::r=>m::dF r
 |(_,.fn ms)::r=>ms.filterMap id++dF r
 |(_,.FH ms _ _)::r=>ms.filterMap id++dF r
def il(ob:Nat->Option Ob)(mu:List (Nat×PK)):List AV->Nat->Nat->Option (List AV×List Ob×List Nat×List Nat)
 |[],_,_=>some ([],[],[],[])
 |
  a::asq,i,j=>match yl mu i with
  |
   some (.su f _)=>match jY ob f a,il ob mu asq (i+1) j with
   |some (_,f),some (as',obs',os',fz)=>some (.any::as',obs',os',f++fz)
   |_,_=>none
  |
   some m=>match m9 ob m a j with
   |
    some (a',obs,os)=>match il ob mu asq (i+1) (j+obs.length)with
    |some (as',obs',os',fz)=>some (a'::as',obs++obs',os++os',fz)
    |none=>none
   |none=>none
  |
   none=>match freeze ob eB a,il ob mu asq (i+1) j with
   |some (a',f),some (as',obs',os',fz)=>some (a'::as',obs',os',f++fz)
   |_,_=>none
def bQ:List CK->List AV->Nat->List Ob->Nat->List AV×List (Nat×Option Ob)×List Ob×Nat
 |[],_,_,obs,nm=>([],[],obs,nm)
 | .lk k::ks,cs,i,obs,nm=>let r:=bQ ks cs (i+1) obs nm;(k.cast (cs.getD i .any)::r.1,r.2)
 | .vec h::ks,cs,i,obs,nm=>let r:=bQ ks cs (i+1) obs.tail (nm+1);(.vec nm::r.1,(nm,some (.vec h (obs.headD .dead).es))::r.2.1,r.2.2)
def aL:List CK->List AV->Nat->Nat->List Ob->Prop
 |[],cs,i,_,_=>cs.length=i
 | .lk k::ks,cs,i,j,obs=>k.has (cs.getD i .any)/\aL ks cs (i+1) j obs
 | .vec h::ks,cs,i,j,obs=>cs.getD i .any=.vec j/\obs.headD .dead=.vec h (obs.headD .dead).es/\aL ks cs (i+1) (j+1) obs.tail
def bL:List CK->Nat
 |[]=>0
 | .lk _::ks=>bL ks
 | .vec _::ks=>bL ks+1
def Ob.JT:Ob->Bool| .vec _ _=>true|_=>false
def dY:List MK->List Ob->Bool
 |[],[]=>true
 | .vec::ms,.vec _ _::obs=>dY ms obs
 | .cC _ ks::ms,.vec sz _::obs=>aJ sz (lf ks)&&dY ms obs
 | .sn _::ms,.vec _ _::obs=>dY ms obs
 | .obj ks::ms,.cells _::obs=>(Nat.ble (bL ks) obs.length&&(obs.take (bL ks)).all Ob.JT)&&dY ms (obs.drop (bL ks))
 |_,_=>false
def pf:List MK->Nat->List Nat
 |[],_=>[]
 | .vec::ms,j=>pf ms (j+1)
 | .cC _ _::ms,j=>j::pf ms (j+1)
 | .sn _::ms,j=>pf ms (j+1)
 | .obj ks::ms,j=>j::pf ms (j+1+bL ks)
def sc(ms:List MK)(os:List Nat)(ins:List Ob):Bool:=(pf ms 0).all fun q=>(ins.getD q .dead).oO||cA (os.getD q 0) eQ
def runN:Nat->Nat->List Nat
 |_,0=>[]
 |nm,k+1=>nm::runN (nm+1) k
def sO:List MK->Nat->List Nat
 |[],_=>[]
 | .vec::ms,nm=>sO ms nm
 | .cC _ _::ms,nm=>sO ms nm
 | .sn _::ms,nm=>sO ms nm
 | .obj ks::ms,nm=>runN nm (bL ks)++sO ms (nm+bL ks)
def dx:List MK->List Nat->List Ob->Nat->Nat->List Prop×List (Nat×Option Ob)×List Ob×Nat
 |[],_,obs,_,nm=>([],[],obs,nm)
 | .vec::ms,os,obs,j,nm=>dx ms os.tail obs.tail (j+1) nm
 | .sn _::ms,os,obs,j,nm=>dx ms os.tail obs.tail (j+1) nm
 |
  .cC _ ks::ms,os,obs,j,nm =>
  let r:=dx ms os.tail obs.tail (j+1) nm
  ((obs.headD .dead=.mv (lf ks) (obs.headD .dead).es)::r.1,(os.headD 0,some (.vec (lf ks) (obs.headD .dead).es))::r.2.1,r.2.2)
 |
  .obj ks::ms,os,obs,j,nm =>
  let c:=bQ ks (obs.headD .dead).cs 0 obs.tail nm
  let r:=dx ms (os.drop (bL ks+1)) c.2.2.1 (j+1+bL ks) c.2.2.2
  ((obs.headD .dead=.cells (obs.headD .dead).cs)::aL ks (obs.headD .dead).cs 0 (j+1) obs.tail::r.1,c.2.1++(os.headD 0,some (.cells c.1))::r.2.1,r.2.2)
def oI(t:TI)(a:AV):Prop:=bif t.agg then(a=.agg a.cs/\a.cs.length=t.sz/\bF t.lk a.cs 0)else(Av t).has a
def mc(t:TI)(a:AV):AV:=bif t.agg then .agg (jh t.lk a.cs 0)else(Av t).cast a
def qe(T:eE)(t:Nat):Nat:=match (T t).k with| .slice el=>(T el).sz|_=>0
def eu(T:eE)(own:List Nat)(oa:List CK)(r:AV):List Nat->Nat->Nat->List Ob->Nat->List Prop×List AV×List (Nat×Option Ob)
 |[],_,_,_,_=>([],[],[])
 |
  t::ts,i,j,obs,nm =>
  bif own.any (aJ i)then(bif (T t).agg then let c:=bQ oa (r.comp i).cs 0 obs nm;let q:=eu T own oa r ts (i+1) (j+bL oa) c.2.2.1 c.2.2.2;((r.comp i=.agg (r.comp i).cs/\aL oa (r.comp i).cs 0 j obs)::q.1,.agg c.1::q.2.1,c.2.1++q.2.2)
  else let q:=eu T own oa r ts (i+1) (j+1) obs.tail (nm+1);((r.comp i=.vec j/\obs.headD .dead=.vec (qe T t) (obs.headD .dead).es)::q.1,.vec nm::q.2.1,(nm,some (.vec (qe T t) (obs.headD .dead).es))::q.2.2))
  else let q:=eu T own oa r ts (i+1) j obs nm;(oI (T t) (r.comp i)::q.1,mc (T t) (r.comp i)::q.2.1,q.2.2)
def dR(T:eE)(own:List Nat)(ow:List LK)(oa:List CK)(t:Nat)(r:AV)(j:Nat)(obs:List Ob)(nm:Nat):List Prop×AV×List (Nat×Option Ob) :=
 match (T t).k with
 | .tuple []=>([],.any,[])
 | .tuple ts=>let q:=eu T own oa r ts 0 j obs nm;((r=.cy ((bf ts.length).map r.comp))::q.1,.cy q.2.1,q.2.2)
 |
  .pt=>bif own.any (aJ 0)then([r=.ref j 0/\obs.headD .dead=.cells (obs.headD .dead).cs/\(obs.headD .dead).cs.length=ow.length/\bF ow (obs.headD .dead).cs 0],.ref nm 0,[(nm,some (.cells (jh ow (obs.headD .dead).cs 0)))])
  else([oI (T t) r],mc (T t) r,[])
 |
  _=>bif own.any (aJ 0)then(bif (T t).agg then let c:=bQ oa r.cs 0 obs nm;([r=.agg r.cs/\aL oa r.cs 0 j obs],.agg c.1,c.2.1)else([r=.vec j/\obs.headD .dead=.vec (qe T t) (obs.headD .dead).es],.vec nm,[(nm,some (.vec (qe T t) (obs.headD .dead).es))]))
  else([oI (T t) r],mc (T t) r,[])
def newName(d:Option Nat):Nat:=match d with|some d=>(d+1)*1000|none=>999000
def mr(d:De):List Nat:=d.cx.map (·.1)
def jO(o:Oper):List Nat:=o.op.operands.toList.filterMap fun| .tmp t=>some t|_=>none
def dh(o:Oper)(ops:List Oper):List Nat:=match o.guard with|some (g,_)=>(match (ops[g]?).map (·.dst)with|some (some t)=>[t]|_=>[])|none=>[]
def fS(l:List Nat)(a:Nat):Bool:=l.any (aJ a)
def hD(o:Oper):List Nat:=match o.dst with|some d=>[d]|none=>[]
def qj(a b:List Nat):Bool:=!(a.any (fS b))
def Bu(ops:List Oper)(x y:Oper):Bool :=
 qj (hD x) (jO y)&&(qj (hD x) (dh y ops)&&(qj (hD x) (hD y)&&(qj (hD y) (jO x)&&(qj (hD y) (dh x ops)&&(qj (dh x ops) (jO y)&&qj (dh y ops) (jO x))))))
def gO(o:Oper):Bool:=match o.op with| .call ⟨.value _,_,_⟩=>true|_=>false
structure HE where
 i:Nat
 o:Oper
 rd:List Nat
 wr:List Nat
 uU:List Nat
def dw(o:Oper):List Nat:=o.after.toList.filterMap fun e=>match e.ground with| .textOnly _| .gcOnly _=>none|_=>some e.on
def gZ(o:Oper)(hist:List HE):List Nat:=dw o++(hist.filter fun h=>fS (dw o) h.i).flatMap (·.uU)
def wH(ops:List Oper)(p o:Oper)(rq wq rd wr:List Nat):Bool :=
 !(gO p&&gO o)&&(Bu ops p o&&(qj wr wq&&(qj wr rq&&qj rd wq)))
def jH(ops:List Oper)(o:Oper)(rd wr:List Nat)(hist:List HE)(uU:List Nat):Bool :=
 hist.all fun h=>fS uU h.i||wH ops h.o o h.rd h.wr rd wr
def St.app(s:St)(dst:Option Nat)(d:De):St :=
 {tm:=match dst with|some t=>cx s.tm t d.val|none=>s.tm,ob:=cD s.ob d.cx,us:=eY s.us d.new}
def dK(s:St)(n:Nat)(dst:Option Nat)(d:De):Bool :=
 (d.new.all fun o=>!(s.us o))&&nodup d.new&&(match dst with|some t=>cA t n|none=>true)
section
variable (T:eE) (cfg:Nat->FC) (n:Nat)
inductive zZ where
 |no
 |d (p:Option Prop) (d:De)
 |c (f:Nat) (asq:List AV) (ins:List Ob) (wr:List Nat) (k:AV->List Ob->List Prop×De)
def keyOf(f:Nat):List AV->Nat
 |[]=>f
 | .fn g _::_=>f+100000*(g+1)
 |_::r=>keyOf f r
def AK(t:TI):Bool:=!t.agg&&(Av t).plain
def HT(T:eE)(t:Nat):Bool:=match (T t).k with| .tuple ts=>ts.all fun u=>AK (T u)|_=>AK (T t)
def GF:List CK->Bool
 |[]=>true
 | .lk k::r=>k.plain&&GF r
 | .vec _::r=>GF r
def Mf(T:eE)(own:List Nat)(oa:List CK)(i t:Nat):Bool:=bif own.any (aJ i)then(bif (T t).agg then GF oa else true)else AK (T t)
def Ic(T:eE)(own:List Nat)(oa:List CK):List Nat->Nat->Bool
 |[],_=>true
 |t::ts,i=>Mf T own oa i t&&Ic T own oa ts (i+1)
def Fj(T:eE)(own:List Nat)(oa:List CK)(t:Nat):Bool:=match (T t).k with
 | .tuple []=>false
 | .tuple ts=>Ic T own oa ts 0
 | .pt=>!(own.any (aJ 0))&&AK (T t)
 |_=>Mf T own oa 0 t
def vK(T:eE)(own:List Nat)(oa:List CK)(ins:List Ob)(t:Nat):Bool:=(match ins with|[]=>true|_=>false)&&(match own with|[]=>HT T t|_=>Fj T own oa t)
def dL:Ob->Prop
 | .vec _ es=>∀e,e∈es->∀c,c∈e->∃x,c=.v x
 |_=>False
def vy(T:eE)(own:List Nat)(oa:List CK)(ins:List Ob)(t:Nat)(obs:List Ob):List Prop:=match own with
 |[]=>[]
 |_=>bif vK T own oa ins t then [∀x,x∈obs->dL x]else []
def p6(os:List Nat):List (Nat×Option Ob):=os.map fun o=>(o,none)
def fR(e:Operand->AV)(ob:Nat->Option Ob)(o:Oper)(f:Nat)(asq:List AV):zZ :=
 let c:=cfg (keyOf f asq)
 match il ob c.mu asq 0 0 with
 |
  some (as',ins,os,fz)=>bif nodup os&&(!(os.any (fS fz))&&(dY (dF c.mu) ins&&(lM ob c.mu os ins asq 0&&sc (dF c.mu) os ins)))then
   .c f (je c.mu as' 0) ins (let b:=dx (dF c.mu) os [] 0 (newName o.dst);fz++(os++(b.2.1++(dR T c.own c.ow c.oa o.type .any ins.length b.2.2.1 b.2.2.2).2.2).map (·.1))) fun r obs =>
    let b:=dx (dF c.mu) os obs 0 (newName o.dst)
    let v:=dR T c.own c.ow c.oa o.type r ins.length b.2.2.1 b.2.2.2
    (b.1++(v.1++vy T c.own c.oa ins o.type obs),{val:=v.2.1,cx:=(bif vK T c.own c.oa ins o.type then []else fE ob fz)++(p6 os++(b.2.1++v.2.2)),new:=sO (dF c.mu) (newName o.dst)++v.2.2.map (·.1)})
  else .no
 |none=>.no
def jN(e:Operand->AV)(ob:Nat->Option Ob)(o:Oper):zZ :=
 match o.op with
 |
  .call ⟨.value g,xs,_⟩ =>
  match e g with
  | .v (.func (.func f) fi cap)=>bif aJ fi.size 0&&aJ cap.size 0 then fR T cfg e ob o f (xs.toList.map e)else .no
  | .fn f cap=>fR T cfg e ob o f (xs.toList.map e++cap)
  |_=>.no
 |
  _=>match dS T e ob o with
  | .ok p d=>.d (some p) d
  | .yes d=>.d none d
  | .no=>.no
def wM(o:Oper)(s:St)(K:List Nat->List Nat->St->Tree):Tree :=
 match jN T cfg (ev s) s.ob o with
 | .no=>.fail
 | .d p d=>bif dK s n o.dst d then(match p with|none=>K d.rd (mr d) (s.app o.dst d)|some p=>.aj p (K d.rd (mr d) (s.app o.dst d)))else .fail
 | .c f asq ins wr k=>.call f asq ins fun r obs=>nO (k r obs).1 (bif dK s n o.dst (k r obs).2 then K [] wr (s.app o.dst (k r obs).2)else .fail)
def kH(draw:Bool)(all:List Oper):List Oper->List HE->St->(St->Tree)->Tree
 |[],_,s,K=>K s
 |
  o::rest,hist,s,K =>
  let run (s:St):Tree:=wM T cfg n o s fun rd wr s'=>bif !draw||((dw o).all (fun j=>cA j hist.length)&&jH all o rd wr hist (gZ o hist))then kH draw all rest (hist++[⟨hist.length,o,rd,wr,gZ o hist⟩]) s' K else .fail
  let skip (s:St):Tree:=bif (match o.dst with|some t=>cA t n|none=>true)&&(!draw||((dw o).all (fun j=>cA j hist.length)&&jH all o [] [] hist (gZ o hist)))then kH draw all rest (hist++[⟨hist.length,o,[],[],gZ o hist⟩]) (match o.dst with|some t=>s.set t (.v (.tuple #[]))|none=>s) K else .fail
  match o.guard with
  |none=>run s
  |
   some (g,want)=>match (all[g]?).map (·.dst)with
   |
    some (some t)=>match s.tm t with
    | .v (.bool true)=>bif want then run s else skip s
    | .v (.bool false)=>bif want then skip s else run s
    | .v (.tuple _)=>skip s
    | .b b=>.test b (bif want then run (s.set t (.v (.bool true)))else skip (s.set t (.v (.bool true)))) (bif want then skip (s.set t (.v (.bool false)))else run (s.set t (.v (.bool false))))
    |_=>.fail
   |_=>.fail
inductive Ex where
 |normal|exit (id:Nat)|ret
def sX(ob:Nat->Option Ob)(tm:Nat->AV):List (Nat×SK)->Option (List AV×List Nat)
 |[]=>some ([],[])
 |
  (t,_)::r=>match freeze ob eB (tm t),sX ob tm r with
  |some (a,f),some (asq,fs)=>some (a::asq,f++fs)
  |_,_=>none
def uW(tm:Nat->AV):List (Nat×Nat)->Bool
 |[]=>true
 |(t,o)::r=>(match tm t with| .ref o' 0=>aJ o o'|_=>false)&&uW tm r
def vG(tm:Nat->AV):List (Nat×Nat×List (Option Nat))->Bool
 |[]=>true
 |(t,f,js)::r=>(match tm t with| .fm f' js'=>aJ f' f&&Hq js' js|_=>false)&&vG tm r
def vA:List AV->List Nat->Bool
 |[],[]=>true
 | .ref o 0::r,p::l=>aJ o p&&vA r l
 |_,_=>false
def vJ(tm:Nat->AV):List (Nat×Nat×List Nat)->Bool
 |[]=>true
 |(t,f,js)::r=>(match tm t with| .fn f' caps=>aJ f' f&&vA caps js|_=>false)&&vJ tm r
def pP(ob:Nat->Option Ob):List (Nat×List CK)->Option (List Ob×List Nat)
 |[]=>some ([],[])
 |
  (o,ks)::r=>match ob o with
  |
   some (.cells cs)=>match bY ob ks cs (100*o),pP ob r with
   |some (asq,obs,os),some (obs',os')=>some (.cells (fk ks asq)::obs++obs',o::os++os')
   |_,_=>none
  |_=>none
def kG(ob:Nat->Option Ob)(tm:Nat->AV):List (Nat×Nat)->Option (List Ob×List Nat)
 |[]=>some ([],[])
 |
  (t,sz)::r=>match tm t with
  |
   .v (.slice none 0 0)=>match kG ob tm r with
   |some (obs,os)=>some (.vec sz []::obs,(2*eQ+t)::os)
   |none=>none
  |
   .vec o=>match ob o,kG ob tm r with
   |some (.vec sz es),some (obs,os)=>some (.vec sz es::obs,o::os)
   |_,_=>none
  |_=>none
def iV:Nat:=1000000
def mM:Nat:=2000000
def oE:Nat:=4000000
def l6:List (Nat×List CK)->Nat
 |[]=>0
 |(_,ks)::r=>bL ks+l6 r
def pW(ob:Nat->Option Ob)(tm:Nat->AV):List (Nat×List CK)->Option (List AV×List Ob×List Nat)
 |[]=>some ([],[],[])
 |
  (t,ks)::r=>match tm t with
  |
   .agg cs=>match bY ob ks cs (oE+100*t),pW ob tm r with
   |some (asq,obs,os),some (xs,obs',os')=>some (.agg (fk ks asq)::xs,obs++obs',os++os')
   |_,_=>none
  |_=>none
def rh(ob:Nat->Option Ob)(tm:Nat->AV):List (Nat×Nat×Nat)->Option (List Ob×List Nat)
 |[]=>some ([],[])
 |
  (t,o,sz)::r=>match tm t with
  |
   .vec o'=>match ob o,rh ob tm r with
   |some (.vec sz' es),some (obs,os)=>bif aJ o' o&&aJ sz' sz then some (.vec sz es::obs,o::os)else none
   |_,_=>none
  |_=>none
def Nu(cr:List (Nat×List CK)):Option Nat->Bool
 |none=>true
 |some o=>cr.any fun q=>aJ q.1 o
def uk(h:Shape):Bool:=(h.cr.all (fun p=>cA p.1 iV)&&h.kv.all (fun p=>cA p.2.1 iV))&&(nodup (h.cr.map (·.1)++h.kv.map (·.2.1))&&(Nat.ble (iV+l6 h.cr) mM&&(Nat.ble (mM+h.gK.length) oE&&(h.refs.all (fun p=>h.cr.any fun q=>aJ q.1 p.2)&&(h.vI.all (fun p=>p.2.2.all (Nu h.cr))&&h.fns.all (fun p=>p.2.2.all fun o=>Nu h.cr (some o)))))))
def xb(h:Shape)(s:St):Option (List AV×List Ob) :=
 match sX s.ob s.tm h.bZ,pP s.ob h.cr,kG s.ob s.tm h.gK,pW s.ob s.tm h.so,rh s.ob s.tm h.kv with
 |some (xs,fz),some (o1,n1),some (o2,n2),some (ys,o3,n3),some (o4,n4)=>bif ((uW s.tm h.refs&&(vG s.tm h.vI&&vJ s.tm h.fns))&&!((n1++(n2++(n3++n4))).any (fS fz)))&&(nodup (n1++(n2++(n3++n4)))&&uk h)then some (xs++ys,o1++(o2++(o3++o4)))else none
 |_,_,_,_,_=>none
def w9:List (Nat×SK)->List AV->(Nat->AV)->Nat->AV
 |[],_,f=>f
 |(t,k)::r,xs,f=>w9 r xs.tail (cx f t (k.cast (xs.headD .any)))
def D9:List (Nat×Nat)->(Nat->AV)->Nat->AV
 |[],f=>f
 |(t,o)::r,f=>D9 r (cx f t (.ref o 0))
def DY:List (Nat×Nat×List (Option Nat))->(Nat->AV)->Nat->AV
 |[],f=>f
 |(t,k,js)::r,f=>DY r (cx f t (.fm k js))
def DQ:List (Nat×Nat×List Nat)->(Nat->AV)->Nat->AV
 |[],f=>f
 |(t,k,js)::r,f=>DQ r (cx f t (.fn k (js.map fun o=>.ref o 0)))
def rE:List (Nat×List CK)->List Ob->(Nat->Option Ob)->Nat->(Nat->Option Ob)×List Ob
 |[],obs,f,_=>(f,obs)
 |
  (o,ks)::r,obs,f,nm =>
  let c:=bQ ks (obs.headD .dead).cs 0 obs.tail nm
  rE r c.2.2.1 (cx (cD f c.2.1) o (some (.cells c.1))) c.2.2.2
def qh:List (Nat×Nat)->List Ob->(Nat->AV)->(Nat->Option Ob)->Nat->(Nat->AV)×(Nat->Option Ob)
 |[],_,f,g,_=>(f,g)
 |(t,sz)::r,obs,f,g,nm=>qh r obs.tail (cx f t (.vec nm)) (cx g nm (some (.vec sz (obs.headD .dead).es))) (nm+1)
def wW:List (Nat×List CK)->List AV->List Ob->(Nat->AV)->(Nat->Option Ob)->Nat->(Nat->AV)×(Nat->Option Ob)
 |[],_,_,f,g,_=>(f,g)
 |
  (t,ks)::r,xs,obs,f,g,nm =>
  let c:=bQ ks (xs.headD .any).cs 0 obs nm
  wW r xs.tail c.2.2.1 (cx f t (.agg c.1)) (cD g c.2.1) c.2.2.2
def vQ:List (Nat×Nat×Nat)->List Ob->(Nat->AV)->(Nat->Option Ob)->(Nat->AV)×(Nat->Option Ob)
 |[],_,f,g=>(f,g)
 |(t,o,sz)::r,obs,f,g=>vQ r obs.tail (cx f t (.vec o)) (cx g o (some (.vec sz (obs.headD .dead).es)))
def LW(h:Shape)(xs:List AV)(obs:List Ob):St :=
 let o:=rE h.cr obs (fun _=>none) iV
 let v:=qh h.gK o.2 (DQ h.fns (DY h.vI (D9 h.refs (w9 h.bZ xs (fun _=>.any))))) o.1 mM
 let u:=wW h.so (xs.drop h.bZ.length) (o.2.drop h.gK.length) v.1 v.2 oE
 let k:=vQ h.kv ((o.2.drop h.gK.length).drop (l6 h.so)) u.1 u.2
 {tm:=k.1,ob:=k.2,us:=fun x=>(k.2 x).isSome}
def nr:List (Nat×SK)->List AV->List Prop
 |[],_=>[]
 |(_,k)::r,xs=>k.has (xs.headD .any)::nr r xs.tail
def ag:List CK->List AV->Nat->List Ob->Prop
 |[],cs,i,_=>cs.length=i
 | .lk k::ks,cs,i,obs=>k.has (cs.getD i .any)/\ag ks cs (i+1) obs
 | .vec h::ks,cs,i,obs=>obs.headD .dead=.vec h (obs.headD .dead).es/\ag ks cs (i+1) obs.tail
def ux:List (Nat×List CK)->List Ob->List Prop
 |[],_=>[]
 |(_,ks)::r,obs=>(obs.headD .dead=.cells (obs.headD .dead).cs)::ag ks (obs.headD .dead).cs 0 obs.tail::ux r (obs.tail.drop (bL ks))
def nk:List (Nat×Nat)->List Ob->List Prop
 |[],_=>[]
 |(_,sz)::r,obs=>(obs.headD .dead=.vec sz (obs.headD .dead).es)::nk r obs.tail
def Cd:List (Nat×List CK)->Nat
 |[]=>0
 |(_,ks)::r=>1+bL ks+Cd r
def tP:List (Nat×List CK)->List AV->List Ob->List Prop
 |[],_,_=>[]
 |(_,ks)::r,xs,obs=>(xs.headD .any=.agg (xs.headD .any).cs)::ag ks (xs.headD .any).cs 0 obs::tP r xs.tail (obs.drop (bL ks))
def wD:List (Nat×Nat×Nat)->List Ob->List Prop
 |[],_=>[]
 |(_,_,sz)::r,obs=>(obs.headD .dead=.vec sz (obs.headD .dead).es)::wD r obs.tail
def yM(h:Shape)(xs:List AV)(obs:List Ob):List Prop:=nr h.bZ xs++(ux h.cr obs++(nk h.gK (obs.drop (Cd h.cr))++(tP h.so (xs.drop h.bZ.length) ((obs.drop (Cd h.cr)).drop h.gK.length)++wD h.kv (((obs.drop (Cd h.cr)).drop h.gK.length).drop (l6 h.so)))))
def jF:Code->Option Nat
 | .region i _ _=>some i
 | .seq a b=>match jF a with|some i=>some i|none=>jF b
 | .cond _ a b=>match jF a with|some i=>some i|none=>jF b
 | .block _ c| .loop c| .scope c=>jF c
 |_=>none
def BO:List (Nat×LI)->Nat->Option LI
 |[],_=>none
 |(j,m)::r,i=>bif aJ j i then some m else BO r i
def Ir:List Nat->List Nat->Bool
 |[],[]=>true
 |a::l,b::r=>aJ a b&&Ir l r
 |_,_=>false
def ug(fx:List Nat)(h:Shape):Bool:=fx.all fun o=>(h.cr.any fun q=>aJ q.1 o)||h.kv.any fun q=>aJ q.2.1 o
def go(lis:List (Nat×LI))(fx:List Nat):Code->St->(Ex->St->Tree)->Tree
 | .skip,s,K=>K .normal s
 | .region _ ops draw,s,K=>kH T cfg n draw ops.toList ops.toList [] s (K .normal)
 | .seq a b,s,K=>go lis fx a s fun e s'=>match e with| .normal=>go lis fx b s' K| .exit i=>K (.exit i) s'| .ret=>K .ret s'
 |
  .cond c a b,s,K=>match c with
  |
   .tmp t=>match s.tm t with
   | .v (.bool true)=>go lis fx a s K
   | .v (.bool false)=>go lis fx b s K
   | .b x=>.test x (go lis fx a (s.set t (.v (.bool true))) K) (go lis fx b (s.set t (.v (.bool false))) K)
   |_=>.fail
  | .const (.bool true)=>go lis fx a s K
  | .const (.bool false)=>go lis fx b s K
  |_=>.fail
 | .block id c,s,K=>go lis fx c s fun e s'=>match e with| .exit i=>bif aJ i id then K .normal s' else K (.exit i) s'| .normal=>K .normal s'| .ret=>K .ret s'
 |
  .loop c,s,K=>match (jF c).bind (BO lis)with
  |
   some li=>bif Ir fx li.fx&&(ug fx li.xs&&ug fx li.rt)then(match xb li.hd s with
   |some (xs,obs)=>.loop c li xs obs (fun ys obs'=>nO (yM li.xs ys obs') (K (.exit li.ex) (LW li.xs ys obs'))) (fun ys obs'=>nO (yM li.rt ys obs') (K .ret (LW li.rt ys obs')))
   |none=>.fail)else .fail
  |none=>.fail
 | .exit i,s,K=>K (.exit i) s
 | .label _,s,K=>K .normal s
 | .ret,s,K=>K .ret s
 |_,_,_=>.fail
def round(lis:List (Nat×LI))(c:Code)(li:LI)(xs:List AV)(obs:List Ob):Tree :=
 bif !(ug li.fx li.hd)then .fail else nO (yM li.hd xs obs)<|go T cfg n lis li.fx c (LW li.hd xs obs) fun e s=>match e with
  | .normal=>match xb li.hd s with|some (ys,o)=>.done 0 ys o|none=>.fail
  | .exit i=>bif aJ i li.ex then(match xb li.xs s with|some (ys,o)=>.done 1 ys o|none=>.fail)else .fail
  | .ret=>match xb li.rt s with|some (ys,o)=>.done 2 ys o|none=>.fail
end
def mn(T:eE)(s:St):List ResultVar->Option (List Prop×List AV)
 |[]=>some ([],[])
 | .tmp t::r=>(mn T s r).map fun q=>(q.1,s.tm t::q.2)
 |
  .cell t ty::r=>match loadAt s.ob (T ty) (s.tm t),mn T s r with
  | .ok p d,some q=>some (p::q.1,d.val::q.2)
  | .yes d,some q=>some (q.1,d.val::q.2)
  |_,_=>none
def sk(T:eE)(s:St)(own:List Nat)(oa:List CK):List Nat->List AV->Nat->Nat->Option (List AV×List Ob×List Nat×List Nat)
 |_,[],_,_=>some ([],[],[],[])
 |
  ts,a::asq,i,k=>bif own.any (aJ i)then
   match a with
   |
    .vec o=>match s.ob o,sk T s own oa ts.tail asq (i+1) (k+1)with
    |some (.vec sz es),some (xs,obs,os,fz)=>some (.vec k::xs,.vec sz es::obs,o::os,fz)
    |_,_=>none
   |
    .ref o 0=>match s.ob o with
    |
     some (.cells cs)=>match mz (freeze s.ob eB) cs,sk T s own oa ts.tail asq (i+1) (k+1)with
     |some (as',[]),some (xs,obs,os,fz)=>some (.ref k 0::xs,.cells as'::obs,o::os,fz)
     |_,_=>none
    |_=>none
   |
    .v (.slice none 0 0)=>match sk T s own oa ts.tail asq (i+1) (k+1)with
    |some (xs,obs,os,fz)=>some (.vec k::xs,.vec (qe T (ts.headD 0)) []::obs,(4*eQ+k)::os,fz)
    |none=>none
   |
    .agg cs=>match bY s.ob oa cs k,sk T s own oa ts.tail asq (i+1) (k+bL oa)with
    |some (as',ob',os'),some (xs,obs,os,fz)=>some (.agg as'::xs,ob'++obs,os'++os,fz)
    |_,_=>none
   |_=>none
  else match freeze s.ob eB a,sk T s own oa ts.tail asq (i+1) k with
   |some (x,f),some (xs,obs,os,fz)=>some (x::xs,obs,os,f++fz)
   |_,_=>none
def mB(ob:Nat->Option Ob):List MK->Nat->Option (List Ob×List Nat)
 |[],_=>some ([],[])
 |
  .vec::ms,j=>match mB ob ms (j+1)with
  |some (obs,os)=>some (.dead::obs,(5*eQ+j)::os)
  |none=>none
 |
  .sn _::ms,j=>match mB ob ms (j+1)with
  |some (obs,os)=>some (.dead::obs,(5*eQ+j)::os)
  |none=>none
 |
  .cC _ ks::ms,j=>match ob j with
  |
   some (.vec sz es)=>bif aJ sz (lf ks)then(match mB ob ms (j+1)with
   |some (obs,os)=>some (.mv sz es::obs,j::os)
   |none=>none)else none
  |_=>none
 |
  .obj ks::ms,j=>match ob j with
  |
   some (.cells cs)=>match bY ob ks cs (j+1)with
   |
    some (asq,obs,os)=>match mB ob ms (j+1+bL ks)with
    |some (obs',os')=>some (.cells asq::obs++obs',j::os++os')
    |none=>none
   |none=>none
  |_=>none
def finish(T:eE)(fc:FC)(rv:List ResultVar)(ts:List Nat)(s:St):Tree :=
 match mn T s rv with
 |
  some (p,asq)=>match mB s.ob (dF fc.mu) 0 with
  |some (obs',os')=>match sk T s fc.own fc.oa ts asq 0 obs'.length with
   |some (xs,obs,os,fz)=>bif nodup (os'++os)&&!((os'++os).any (fS fz))then nO p (.done 0 [match xs with|[]=>.any|[x]=>x|xs=>.cy xs] (obs'++obs))else .fail
   |none=>.fail
  |none=>.fail
 |none=>.fail
def setArgs:List AV->Nat->(Nat->AV)->Nat->AV
 |[],_,f=>f
 |a::asq,i,f=>setArgs asq (i+1) (cx f i a)
def qW:List Ob->Nat->(Nat->Option Ob)->Nat->Option Ob
 |[],_,f=>f
 |a::asq,i,f=>qW asq (i+1) (cx f i (some a))
def enter(args:List AV)(ins:List Ob):St :=
 {tm:=setArgs args 0 fun _=>.any,ob:=qW ins 0 fun _=>none,us:=fun j=>cA j ins.length}
def main(T:eE)(cfg:Nat->FC)(lis:List (Nat×LI))(fc:FC)(f:Func)(args:List AV)(ins:List Ob):Tree :=
 match f.body with
 |
  some c=>bif Nat.ble args.length f.ntmps&&dY (dF fc.mu) ins then go T cfg f.ntmps lis (pf (dF fc.mu) 0) c (enter args ins) fun e s=>match e with
  | .normal| .ret=>finish T fc f.results.toList f.resultTypes.toList s
  | .exit _=>.fail else .fail
 |none=>.fail
def cQ(f:Func):Code:=match f.body with|some c=>c|none=>.skip
def gY:Code->Nat->Option Code
 |
  .loop c,i=>match jF c with
  |some j=>bif aJ j i then some c else gY c i
  |none=>gY c i
 | .seq a b,i=>match gY a i with|some c=>some c|none=>gY b i
 | .cond _ a b,i=>match gY a i with|some c=>some c|none=>gY b i
 | .block _ c,i=>gY c i
 | .scope c,i=>gY c i
 |_,_=>none
def db(c:Code)(i:Nat):Code:=match gY c i with|some d=>d|none=>.skip
def yt:List (Nat×TI)->Nat->TI
 |[],_=>⟨false,[],false,0,.other,false⟩
 |(j,m)::r,i=>bif aJ j i then m else yt r i
def B6:List (Nat×FC)->Nat->FC
 |[],_=>{}
 |(j,m)::r,i=>bif aJ j i then m else B6 r i
end Go.VL
namespace Go.VL
open Go Go.RowKit
structure Mem where
 c:Nat->Nat->Option Value
 one:∀b k v,c b k=some v->v.oneCell'=true
 p:Nat->Prop
 pc:∀b,p b->∃k v,c b k=some v
structure Mem.le(M M':Mem):Prop where
 c:∀b k v,M.c b k=some v->M'.c b k=some v
 p:∀b,M.p b->M'.p b
theorem Mem.le.refl(M:Mem):M.le M:=⟨fun _ _ _ h=>h,fun _ h=>h⟩
theorem Mem.le.trans{M M' M'':Mem}(h:M.le M')(k:M'.le M''):M.le M'':=⟨fun b i v e=>k.c _ _ _ (h.c _ _ _ e),fun b e=>k.p _ (h.p _ e)⟩
inductive Loc where
 |cells (b:Nat)
 |vec (v:Value) (sz:Nat)
abbrev Lo:=Nat->Option Loc
def dm:Lo:=fun _=>none
def Lo.le(β β':Lo):Prop:=∀o l,β o=some l->β' o=some l
theorem Lo.le.refl(β:Lo):Lo.le β β:=fun _ _ h=>h
theorem CA(β:Lo):Lo.le dm β:=fun _ _ h=>by cases h
def Loc.block:Loc->Option Nat
 | .cells b=>some b
 | .vec (.slice (some a) _ _) _=>some a.block
 |_=>none
inductive bx(M:Mem):Lo->AV->Value->Prop
 |any (β x):bx M β .any x
 |v (β x):bx M β (.v x) x
 |b (β t):bx M β (.b t) (.bool t)
 |agg (β cs) (vs:List Value) (hl:cs.length=vs.length) (ho:∀i,i<cs.length->(vs.getD i undef).oneCell'=true) (h:∀i,i<cs.length->bx M β (cs.getD i .any) (vs.getD i undef)):bx M β (.agg cs) (.agg vs.toArray)
 |cy (β cs) (vs:List Value) (hl:cs.length=vs.length) (h:∀i,i<cs.length->bx M β (cs.getD i .any) (vs.getD i undef)):bx M β (.cy cs) (.tuple vs.toArray)
 |ptr (β) (cs:List AV) (b off:Nat) (us:Nat->Value) (h:∀i,i<cs.length->M.c b (off+i)=some (us i)) (h':∀i,i<cs.length->bx M dm (cs.getD i .any) (us i)) :
  bx M β (.ptr cs) (.pointer (some ⟨b,off,none⟩))
 |pid (β) (cs:List AV) (b:Nat) (us:Nat->Value) (hp:M.p b) (h:∀i,i<cs.length->M.c b i=some (us i)) (h':∀i,i<cs.length->bx M dm (cs.getD i .any) (us i)) :
  bx M β (.pid b cs) (.pointer (some ⟨b,0,none⟩))
 |slnil (β):bx M β (.sl []) (.slice none 0 0)
 |sl (β) (es:List (List AV)) (b off c sz:Nat) (us:Nat->Value) (hc:es.length<=c) (hs:∀i,i<es.length->(es.getD i []).length=sz)
  (h:∀i,i<es.length*sz->M.c b (off+i)=some (us i)) (h':∀i j,i<es.length->j<sz->bx M dm ((es.getD i []).getD j .any) (us (i*sz+j))) :
  bx M β (.sl es) (.slice (some ⟨b,off,none⟩) es.length c)
 |x (β a v) (ho:v.oneCell'=true) (h:bx M dm a v):bx M β (.x a) v
 |ref (β:Lo) (o k b) (h:β o=some (.cells b)):bx M β (.ref o k) (.pointer (some ⟨b,k,none⟩))
 |nt (β:Lo) (o k b) (h:β o=some (.cells b)):bx M β (.nt o k) (.pointer (some ⟨b,k,none⟩))
 |vec (β:Lo) (o v sz) (ho:v.oneCell'=true) (h:β o=some (.vec v sz)):bx M β (.vec o) v
 |mo (β:Lo) (o i k sz b off n c) (h:β o=some (.vec (.slice (some ⟨b,off,none⟩) n c) sz)):bx M β (.mo o i k) (.pointer (some ⟨b,off+i*sz+k,none⟩))
 |fm (β:Lo) (f js b) (vs:List Value) (h:M.c b 0=some (.func (.func f) #[] vs.toArray)) (hl:js.length=vs.length) (hs:∀i,i<js.length->js.getD i none=none->vs.getD i undef=.pointer (some ⟨b,0,none⟩)) (ho:∀i o,i<js.length->js.getD i none=some o->∃b',β o=some (.cells b')/\vs.getD i undef=.pointer (some ⟨b',0,none⟩)) :
  bx M β (.fm f js) (.pointer (some ⟨b,0,none⟩))
 |fn (β f cs) (vs:List Value) (hl:cs.length=vs.length) (h:∀i,i<cs.length->bx M β (cs.getD i .any) (vs.getD i undef)):bx M β (.fn f cs) (.func (.func f) #[] vs.toArray)
theorem bx.mono{M M':Mem}(hM:M.le M'){β:Lo}{a:AV}{v:Value}(h:bx M β a v):∀{β':Lo},Lo.le β β'->bx M' β' a v:=by
 induction h with
 |any β x=>intro β' hβ;exact .any _ _
 |v β x=>intro β' hβ;exact .v _ _
 |b β t=>intro β' hβ;exact .b _ _
 |agg β cs vs hl ho h ih=>intro β' hβ;exact .agg _ _ _ hl ho fun i hi=>ih i hi hβ
 |cy β cs vs hl h ih=>intro β' hβ;exact .cy _ _ _ hl fun i hi=>ih i hi hβ
 |ptr β cs b off us h h' ih=>intro β' hβ;exact .ptr _ _ _ _ us (fun i hi=>hM.c _ _ _ (h i hi)) fun i hi=>ih i hi (Lo.le.refl _)
 |pid β cs b us hp h h' ih=>intro β' hβ;exact .pid _ _ _ us (hM.p _ hp) (fun i hi=>hM.c _ _ _ (h i hi)) fun i hi=>ih i hi (Lo.le.refl _)
 |slnil β=>intro β' hβ;exact .slnil _
 |sl β es b off c sz us hc hs h h' ih=>intro β' hβ;exact .sl _ _ _ _ _ sz us hc hs (fun i hi=>hM.c _ _ _ (h i hi)) fun i j hi hj=>ih i j hi hj (Lo.le.refl _)
 |x β a v ho h ih=>intro β' hβ;exact .x _ _ _ ho (ih (Lo.le.refl _))
 |ref β o k b h=>intro β' hβ;exact .ref _ _ _ _ (hβ _ _ h)
 |nt β o k b h=>intro β' hβ;exact .nt _ _ _ _ (hβ _ _ h)
 |vec β o v sz ho h=>intro β' hβ;exact .vec _ _ _ sz ho (hβ _ _ h)
 |mo β o i k sz b off n c h=>intro β' hβ;exact .mo _ _ _ _ sz _ _ n c (hβ _ _ h)
 |fm β f js b vs h hl hs ho=>intro β' hβ;exact .fm _ _ _ _ vs (hM.c _ _ _ h) hl hs fun i o hi e=>let ⟨b',h1,h2⟩:=ho i o hi e;⟨b',hβ _ _ h1,h2⟩
 |fn β f cs vs hl h ih=>intro β' hβ;exact .fn _ _ _ _ hl fun i hi=>ih i hi hβ
theorem bx.up{M:Mem}{β:Lo}{a:AV}{v:Value}(h:bx M dm a v):bx M β a v:=h.mono (Mem.le.refl M) (CA β)
theorem xO{M:Mem}{β:Lo}{a:AV}{v:Value}(h:bx M β a v)(hk:LK.ptr.has a):v.oneCell'=true:=by
 rcases hk with rfl|⟨cs,rfl⟩|⟨b,cs,rfl⟩<;>cases h<;>rfl
theorem BM{M:Mem}{β:Lo}{a:AV}{v:Value}(h:bx M β a v)(hk:Bx a=true):v.oneCell'=true:=by
 cases h<;>first|rfl|(simp[Bx]at hk;done)|skip
 ·exact hk
 all_goals assumption
theorem DG{M:Mem}{β:Lo}{a:AV}{v:Value}(h:bx M β a v)(hk:LK.jK.has a):v.oneCell'=true:=by
 have hk:AQ a=true:=hk
 cases h<;>first|(simp[AQ]at hk;done)|skip
 ·exact hk
 ·assumption
theorem kJ{M:Mem}{β:Lo}{k:LK}{a:AV}{v:Value}(h:bx M β a v)(hk:k.has a):bx M dm a v:=by
 cases k with
 |int k=>obtain⟨n,rfl⟩:=hk;cases h;exact .v _ _
 |bool=>obtain⟨n,rfl⟩:=hk;cases h;exact .v _ _
 |str=>obtain⟨n,rfl⟩:=hk;cases h;exact .v _ _
 |
  ptr =>
  rcases hk with rfl|⟨cs,rfl⟩|⟨b,cs,rfl⟩
  ·cases h;exact .v _ _
  ·cases h with|ptr _ _ _ _ us h h'=>exact .ptr _ _ _ _ us h h'
  ·cases h with|pid _ _ _ us hp h h'=>exact .pid _ _ _ us hp h h'
 |
  sl =>
  rcases hk with rfl|⟨es,rfl⟩
  ·cases h;exact .v _ _
  ·cases h with
   |slnil=>exact .slnil _
   |sl _ _ _ _ _ sz us hc hs h h'=>exact .sl _ _ _ _ _ sz us hc hs h h'
 |
  jK =>
  have hk:AQ a=true:=hk
  cases h<;>first|(simp[AQ]at hk;done)|skip
  ·exact .v _ _
  ·rename_i ho h;exact .x _ _ _ ho h
theorem Ap{M:Mem}{β:Lo}{a:AV}{v:Value}(h:bx M β a v)(hk:LK.sl.has a):v.oneCell'=true:=by
 rcases hk with rfl|⟨cs,rfl⟩<;>cases h<;>rfl
theorem LK.gT{M:Mem}{β:Lo}{k:LK}{a:AV}{v:Value}(h:bx M dm a v)(hk:k.has a):bx M β (k.cast a) v:=by
 cases k with
 |int k=>obtain⟨n,rfl⟩:=hk;exact h.up
 |bool=>obtain⟨n,rfl⟩:=hk;cases h;exact .b _ _
 |str=>obtain⟨n,rfl⟩:=hk;exact h.up
 |ptr=>exact .x _ _ _ (xO h hk) h
 |sl=>exact .x _ _ _ (Ap h hk) h
 |jK=>exact .x _ _ _ (DG h hk) h
theorem kt:∀(ks:List LK) (cs:List AV) (s i:Nat) (h:bF ks cs s) (hi:i<ks.length),(ks.getD i .jK).has (cs.getD (s+i) .any)
 |k::ks,cs,s,0,h,hi=>by simpa using h.1
 |
  k::ks,cs,s,i+1,h,hi=>by
  have:=kt ks cs (s+1) i h.2 (by simpa using hi)
  simpa[Nat.add_comm,Nat.add_left_comm]using this
theorem dr:∀(ks:List LK) (cs:List AV) (s:Nat),(jh ks cs s).length=ks.length
 |[],_,_=>rfl
 |_::ks,cs,s=>by simp[jh,dr ks cs (s+1)]
theorem ku:∀(ks:List LK) (cs:List AV) (s i:Nat),i<ks.length->(jh ks cs s).getD i .any=(ks.getD i .jK).cast (cs.getD (s+i) .any)
 |k::ks,cs,s,0,h=>by simp[jh]
 |
  k::ks,cs,s,i+1,h=>by
  have:=ku ks cs (s+1) i (by simpa using h)
  simp only[jh,List.getD_cons_succ]
  rw[this]
  congr 2
  omega
theorem px{M:Mem}{β:Lo}{ks:List LK}{cs:List AV}{s:Nat}{us:Nat->Value}(h:bF ks cs s)(ho:∀i,i<ks.length->(us i).oneCell'=true)(hr:∀i,i<ks.length->bx M dm (cs.getD (s+i) .any) (us i)) :
 bx M β (.agg (jh ks cs s)) (.agg ((bf ks.length).map us).toArray):=by
 refine .agg _ _ _ (by simp[dr]) (fun i hi=>by rw[dr]at hi;simpa[aa,hi]using ho i hi) fun i hi=>?_
 rw[dr]at hi
 rw[ku ks cs s i hi]
 have e:((bf ks.length).map us).getD i undef=us i:=by simp[aa,hi]
 rw[e]
 exact LK.gT (hr i hi) (kt ks cs s i h hi)
structure gP(M:Mem)(w:World):Prop where
 c:∀b k v,M.c b k=some v->w.cell? ⟨b,k,none⟩=some v
 p:∀b,M.p b->∃vs e,w.heap[b]?=some (.cells vs e (0,0))/\vs.size≠0
instance (M:Mem) (w:World):CoeFun (gP M w) (fun _=>∀b k v,M.c b k=some v->w.cell? ⟨b,k,none⟩=some v):=⟨gP.c⟩
def Ob.live:Ob->Bool
 | .cells _| .vec _ _| .mv _ _=>true
 |_=>false
def Own(M:Mem)(β:Lo)(w:World)(o:Nat):Ob->Prop
 | .cells cs=>∃b vs e,β o=some (.cells b)/\w.heap[b]?=some (.cells vs e (0,0))/\vs.size=cs.length/\(∀i,i<cs.length->bx M β (cs.getD i .any) (vs.getD i undef))/\(∀k,M.c b k=none)/\∀v,v∈vs->v.oneCell'=true
 | .vec sz es=>∃v,β o=some (.vec v sz)/\(∀i,i<es.length->(es.getD i []).length=sz) /\
  ((
   v=.slice none 0 0/\es=[])\/∃b off c vs e,v=.slice (some ⟨b,off,none⟩) es.length c/\es.length<=c/\w.heap[b]?=some (.cells vs e (0,0))/\off+c*sz<=vs.size /\
   (∀i j,i<es.length->j<sz->bx M dm ((es.getD i []).getD j .any) (vs.getD (off+(i*sz+j)) undef))/\(∀k,M.c b k=none)/\off=0/\∀v,v∈vs->v.oneCell'=true)
 | .gW cs=>∃(b:Nat) (us:Nat->Value),β o=some (.cells b)/\(∀i,i<cs.length->M.c b i=some (us i)/\bx M β (cs.getD i .any) (us i))
 | .l5 es=>∃v sz,β o=some (.vec v sz)/\(∀i,i<es.length->(es.getD i []).length=sz) /\
  ((
   v=.slice none 0 0/\es=[])\/∃(b off c:Nat) (us:Nat->Value),v=.slice (some ⟨b,off,none⟩) es.length c/\es.length<=c/\(∀i,i<es.length*sz->M.c b (off+i)=some (us i)) /\
   (∀i j,i<es.length->j<sz->bx M dm ((es.getD i []).getD j .any) (us (i*sz+j))))
 | .mv sz es=>∃v,β o=some (.vec v sz)/\(∀i,i<es.length->(es.getD i []).length=sz) /\
  ((
   v=.slice none 0 0/\es=[])\/∃b off c vs e,v=.slice (some ⟨b,off,none⟩) es.length c/\es.length<=c/\w.heap[b]?=some (.cells vs e (0,0))/\off+c*sz<=vs.size /\
   (∀i j,i<es.length->j<sz->bx M dm ((es.getD i []).getD j .any) (vs.getD (off+(i*sz+j)) undef))/\(∀k,M.c b k=none)/\off=0/\∀v,v∈vs->v.oneCell'=true)
 | .dead=>True
def dZ(β:Lo)(o:Nat):Option Nat:=(β o).bind Loc.block
structure jz where
 w0:World
 M0:Mem
 uT:Nat->Prop
 fix:Nat->Option Loc
structure zo(A:jz)(w:World):Prop where
 os:w.os=A.w0.os
 tape:w.tape=A.w0.tape
 output:w.output=A.w0.output
 size:A.w0.heap.size<=w.heap.size
 block:∀b,b<A.w0.heap.size->¬A.uT b->w.heap[b]?=A.w0.heap[b]?
structure di(n:Nat)(A:jz)(s:St)(a:Act)(w:World)(M:Mem)(β:Lo):Prop where
 size:a.tmps.size=n
 defs:a.defers=[]
 tm:∀t,bx M β (s.tm t) (a.tmps.getD t undef)
 le:A.M0.le M
 new:∀b k v,M.c b k=some v->A.M0.c b k=some v\/A.w0.heap.size<=b\/A.uT b
 agree:gP M w
 own:∀o x,s.ob o=some x->Own M β w o x
 place:∀o x b,s.ob o=some x->x.live=true->dZ β o=some b->A.w0.heap.size<=b\/A.uT b
 apart:∀o o' x x' b,o≠o'->s.ob o=some x->x.live=true->s.ob o'=some x'->x'.live=true->dZ β o=some b->dZ β o'≠some b
 us:∀o,s.us o=false->β o=none/\s.ob o=none
 fix:∀o b,A.fix o=some b->s.us o=true/\∀x,s.ob o=some x->β o=some b
 cC:zo A w
def fT(n:Nat)(A:jz)(s:St)(a:Act)(w:World):Prop:=∃M β,di n A s a w M β
theorem aN{α:Type}(f:Nat->α)(i:Nat)(a:α):cx f i a i=a:=by simp[cx,Nat.beq_refl]
theorem a6{α:Type}(f:Nat->α)(i j:Nat)(a:α)(h:j≠i):cx f i a j=f j:=by
 have:aJ j i=false:=by
  cases e:aJ j i with
  |false=>rfl
  |true=>exact absurd (aE e) h
 simp[cx,this]
theorem di.PG{n:Nat}{A:jz}{s:St}{a:Act}{w:World}{M:Mem}{β:Lo}(g:di n A s a w M β){d:Nat}(hd:s.us d=false){ob':Nat->Option Ob}(ho:∀o y,o≠d->ob' o=some y->∃z,s.ob o=some z){l:Loc} :
 ∀o b,A.fix o=some b->cx s.us d true o=true/\∀y,ob' o=some y->cx β d (some l) o=some b:=fun o b hf=>by
 obtain⟨h1,h2⟩:=g.fix o b hf
 have hne:o≠d:=fun e=>by subst e;rw[hd]at h1;cases h1
 refine⟨by rw[a6 _ _ _ _ hne];exact h1,fun y hy=>?_⟩
 obtain⟨z,hz⟩:=ho o y hne hy
 rw[a6 _ _ _ _ hne];exact h2 z hz
theorem di.Hb{n:Nat}{A:jz}{s:St}{a:Act}{w:World}{M:Mem}{β:Lo}(g:di n A s a w M β){ob':Nat->Option Ob}(ho:∀o y,ob' o=some y->∃z,s.ob o=some z) :
 ∀o b,A.fix o=some b->s.us o=true/\∀y,ob' o=some y->β o=some b:=fun o b hf=>by
 obtain⟨h1,h2⟩:=g.fix o b hf
 exact⟨h1,fun y hy=>by obtain⟨z,hz⟩:=ho o y hy;exact h2 z hz⟩
theorem di.ev{n:Nat}{A:jz}{s:St}{a:Act}{w:World}{M:Mem}{β:Lo}(g:di n A s a w M β)(x:Operand):bx M β (VL.ev s x) (a.eval x):=by
 cases x with
 |tmp t=>exact g.tm t
 |const v=>exact .v _ _
 |global g=>exact .v _ _
 |func f=>exact .v _ _
end Go.VL
namespace Go.VL
open Go Go.RowKit
def yS:TypeDesc->Bool
 | .struct _| .array _ _=>true
 |_=>false
def si:TK->TypeDesc->Bool
 | .str,.string=>true
 | .slice e,.slice e'=>aJ e e'
 | .array n e,.array n' e'=>aJ n n'&&aJ e e'
 | .struct fs,.struct fl=>fl.toList.map (fun f=>(f.offset,f.type))==fs
 | .pt,.pointer _=>true
 | .bl,.bool=>true
 | .num k,.int k'=>k==k'
 | .other,_=>true
 |_,_=>false
def po:LK->Value->Bool
 | .int k,.int k' n=>k==k'&&n==0
 | .bool,.bool q=>!q
 | .str,.string s=>s.data.toList==[]
 | .ptr,.pointer none=>true
 | .sl,.slice none 0 0=>true
 | .jK,v=>v.oneCell'
 |_,_=>false
def jf:List LK->List Value->Bool
 |[],[]=>true
 |k::ks,v::vs=>po k v&&jf ks vs
 |_,_=>false
def NC:LK->Option TypeDesc->Bool
 | .str,some .string=>true
 | .int k,some (.int k')=>k==k'
 |_,_=>false
def np(P:Program):List Field->List LK->Nat->Bool
 |[],[],_=>true
 |f::fs,l::ls,i=>f.name != "_"&&aJ f.offset i&&NC l (P.underlying f.type)&&np P fs ls (i+1)
 |_,_,_=>false
def TI.m8(P:Program)(t:Nat)(ti:TI):Bool :=
 match P.info? t,P.underlying t with
 |some i,some d=>aJ i.size ti.lk.length&&aJ i.bytes ti.bytes&&(yS d==ti.agg)&&si ti.k d&&(match i.zero with|some z=>jf ti.lk z.cells.toList&&(match z with| .agg _=>ti.agg|_=>!ti.agg)|none=>false)&&(ti.agg||aJ ti.lk.length 1)&&(!ti.nz||(match d with| .pointer e=>(match P.info? e with|some i=>!(aJ i.size 0)|none=>false)| .struct ds=>!(P.stoodInHeld t)&&!(P.eqGuardType P.depth t)&&np P ds.toList ti.lk 0|_=>false))
 |_,_=>false
structure ig(P:Program)(t:Nat)(ti:TI):Prop where
 info:∃i z,P.info? t=some i/\i.size=ti.lk.length/\i.bytes=ti.bytes/\i.zero=some z/\jf ti.lk z.cells.toList=true/\(ti.agg=true↔∃cs,z=.agg cs)
 EE:∃d,P.underlying t=some d/\yS d=ti.agg/\si ti.k d=true
 one:ti.agg=false->ti.lk.length=1
 nz:ti.nz=true->ti.k=.pt->∃e i,P.underlying t=some (.pointer e)/\P.info? e=some i/\i.size≠0
 sq:ti.nz=true->∀fs,ti.k=.struct fs->∃ds,P.underlying t=some (.struct ds)/\P.stoodInHeld t=false/\P.eqGuardType P.depth t=false/\np P ds.toList ti.lk 0=true
def dc(P:Program)(T:eE):Prop:=∀t,(T t).kn=true->ig P t (T t)
theorem FR{P:Program}{t:Nat}{ti:TI}(h:ti.m8 P t=true):ig P t ti:=by
 unfold TI.m8 at h
 split at h
 ·rename_i i d hi hd
  simp only[az,bD]at h
  obtain⟨⟨⟨⟨⟨⟨h1,h2⟩,h3⟩,h4⟩,h5⟩,h6⟩,h9⟩:=h
  have e1:=aE h1
  have e2:=aE h2
  have e3:yS d=ti.agg:=by simpa using h3
  split at h5
  ·rename_i z hz
   simp only[az]at h5
   refine⟨⟨i,z,hi,e1,e2,hz,h5.1,?_⟩,⟨d,hd,e3,h4⟩,fun ha=>?_,fun hnz hpt=>?_,fun hnz fs hst=>?_⟩
   ·have h7:=h5.2
    split at h7
    ·simp[h7]
    ·rename_i hne
     constructor
     ·intro hh;simp[hh]at h7
     ·rintro⟨cs,rfl⟩;exact absurd rfl (hne cs)
   ·rcases h6 with h6|h6
    ·rw[ha]at h6;cases h6
    ·exact aE h6
   ·rcases h9 with h9|h9
    ·rw[hnz]at h9;cases h9
    ·split at h9
     ·rename_i e _ _
      split at h9
      ·rename_i i' hi'
       exact⟨_,i',hd,hi',fun e0=>by rw[e0]at h9;cases h9⟩
      ·cases h9
     ·rw[hpt]at h4;cases h4
     ·cases h9
   ·rcases h9 with h9|h9
    ·rw[hnz]at h9;cases h9
    ·rw[hst]at h4
     cases d<;>first
      |(simp[si]at h4;done)
      |(
       simp only[az,cc]at h9
       exact⟨_,hd,h9.1.1,h9.1.2,h9.2⟩)
  ·cases h5
 ·cases h
section
variable {P:Program} {t:Nat} {ti:TI}
theorem ig.s9(h:ig P t ti)(w:World):(isAgg t).run P w=.ok ti.agg w:=by
 obtain⟨d,hd,ha,_⟩:=h.EE
 unfold isAgg
 rw[Sem.run_bind,run_underlying hd w]
 rw[<-ha]
 cases d<;>rfl
theorem ig.iZ(h:ig P t ti)(w:World):(sizeOf t).run P w=.ok ti.sz w:=by
 obtain⟨i,z,hi,hs,_⟩:=h.info
 simp[sizeOf,typeInfo,hi,hs,TI.sz]
end
theorem B7{M:Mem}{β:Lo}:∀{k:LK} {v:Value},po k v=true->bx M β k.zero v
 |
  .int k,v,h=>by
  cases v<;>simp[po]at h
  obtain⟨rfl,rfl⟩:=h
  exact .v _ _
 |
  .bool,v,h=>by
  cases v<;>simp[po]at h
  subst h;exact .v _ _
 |
  .str,v,h=>by
  cases v<;>simp[po]at h
  rename_i s
  obtain⟨d⟩:=s
  simp at h
  subst h;exact .v _ _
 |
  .ptr,v,h=>by
  cases v<;>simp[po]at h
  rename_i a
  cases a<;>simp at h
  exact .v _ _
 |
  .sl,v,h=>by
  unfold po at h
  split at h<;>first|cases h|skip
  all_goals first|exact .v _ _|(exfalso;simp_all)
 | .jK,v,h=>.x _ _ _ h (.any _ _)
theorem Ba:∀{k:LK} {v:Value},po k v=true->v.oneCell'=true
 | .jK,v,h=>h
 | .int k,v,h=>by cases v<;>first|rfl|simp[po]at h
 | .bool,v,h=>by cases v<;>first|rfl|simp[po]at h
 | .str,v,h=>by cases v<;>first|rfl|simp[po]at h
 | .ptr,v,h=>by cases v<;>first|rfl|simp[po]at h
 | .sl,v,h=>by cases v<;>first|rfl|simp[po]at h
theorem sZ:∀{ks:List LK} {vs:List Value},jf ks vs=true->∀v,v∈vs->v.oneCell'=true
 |[],[],_,v,hv=>by cases hv
 |[],_::_,h,_,_=>by simp[jf]at h
 |_::_,[],h,_,_=>by simp[jf]at h
 |
  k::ks,v::vs,h,u,hu=>by
  simp only[jf,az]at h
  rcases aH.1 hu with rfl|hu
  ·exact Ba h.1
  ·exact sZ h.2 u hu
theorem sA:∀{ks:List LK} {vs:List Value},jf ks vs=true->ks.length=vs.length
 |[],[],_=>rfl
 |[],_::_,h=>by simp[jf]at h
 |_::_,[],h=>by simp[jf]at h
 |k::ks,v::vs,h=>by simp[jf]at h;simp[sA h.2]
theorem sN{M:Mem}{β:Lo}:∀{ks:List LK} {vs:List Value},jf ks vs=true->∀i,i<ks.length->bx M β ((ks.map LK.zero).getD i .any) (vs.getD i undef)
 |[],[],_,i,hi=>by simp at hi
 |[],_::_,h,_,_=>by simp[jf]at h
 |_::_,[],h,_,_=>by simp[jf]at h
 |k::ks,v::vs,h,0,_=>by simp[jf]at h;simpa using B7 h.1
 |
  k::ks,v::vs,h,i+1,hi=>by
  simp[jf]at h
  simpa using sN h.2 i (by simpa using hi)
def DR.holds(r:DR)(X:De->Prop):Prop :=
 match r with
 | .no=>True
 | .yes d=>X d
 | .ok p d=>p->X d
theorem DR.aV{q:Bool}{r:DR}{X:De->Prop}(h:q=true->r.holds X):(dz q r).holds X:=by
 cases q
 ·trivial
 ·exact h rfl
theorem DR.k9{r:DR}{q:Prop}{X:De->Prop}(h:q->r.holds X):(r.At q).holds X:=by
 cases r with
 |no=>trivial
 |yes d=>exact h
 |ok p d=>exact fun hh=>h hh.1 hh.2
theorem DR.gj{r:DR}{q:Option Prop}{X:De->Prop}(h:(∀p,q=some p->p)->r.holds X):(r.when q).holds X:=by
 cases q with
 |none=>exact h (fun _ hh=>by cases hh)
 |some p=>exact DR.k9 fun hp=>h (fun p' hh=>by cases hh;exact hp)
theorem DR.gk{r:DR}{X Y:De->Prop}(h:r.holds X)(hxy:∀d,X d->Y d):r.holds Y:=by
 cases r with
 |no=>trivial
 |yes d=>exact hxy _ h
 |ok p d=>exact fun hp=>hxy _ (h hp)
theorem DR.vn{r:DR}{o:Nat}{X:De->Prop}(h:r.holds fun d=>X {d with rd:=o::d.rd}):(r.reads o).holds X:=by
 cases r with
 |no=>trivial
 |yes d=>exact h
 |ok p d=>exact h
def jI(P:Program)(M:Mem)(β:Lo)(s:Sem Value)(w:World)(x:AV):Prop:=∃v,s.run P w=.ok v w/\bx M β x v
def Quiet(X:AV->Prop)(d:De):Prop:=d.cx=[]/\d.new=[]/\X d.val
end Go.VL
namespace Go.VL
open Go Go.RowKit
section
variable {P:Program} {M:Mem} {β:Lo} {w:World}
theorem jE(b o i:Nat):(⟨b,o,none⟩:Addr).add i=⟨b,o+i,none⟩:=by
 unfold Addr.add
 split
 ·subst_vars;rfl
 ·rfl
theorem qm(op:BinOp)(t:Nat)(x y:Operand)(k k':IntKind)(a b:Int):(eqGuard op t x y (.int k a) (.int k' b)).run P w=.ok () w:=by
 unfold eqGuard;split<;>rfl
theorem qk(op:BinOp)(t:Nat)(x y:Operand)(a b:ByteArray):(eqGuard op t x y (.string a) (.string b)).run P w=.ok () w:=by
 unfold eqGuard;split<;>rfl
theorem pM(op:BinOp)(t:Nat)(x y:Operand)(a b:Bool):(eqGuard op t x y (.bool a) (.bool b)).run P w=.ok () w:=by
 unfold eqGuard;split<;>rfl
theorem lP(op:BinOp)(t:Nat)(x y:Operand)(a b:Option Addr):(eqGuard op t x y (.pointer a) (.pointer b)).run P w=.ok () w:=by
 unfold eqGuard;split<;>rfl
theorem DV(op:BinOp)(t:Nat)(x y:Operand)(k:IntKind)(a b:Int) :
 (Hx op k a b).holds (Quiet fun r=>jI P M β (do eqGuard op t x y (.int k a) (.int k b);binOp op t (.int k a) (.int k b)) w r):=by
 have e:=qm (P:=P) (w:=w) op t x y k k a b
 cases op<;>simp only[Hx,DR.holds]<;>first
  |trivial
  |(
   intro hb
   refine⟨rfl,rfl,?_⟩
   refine⟨_,?_,.v _ _⟩
   simp only[Sem.run_bind,e,Result.andThen_ok,binOp,Op.intDiv,ne_eq,not_true_eq_false,if_false]
   rw[if_neg hb]
   rfl)
  |(
   refine⟨rfl,rfl,?_⟩
   refine⟨_,?_,by first|exact .v _ _|exact .b _ _⟩
   simp[Sem.run_bind,e,binOp,Op.intArith,Op.intCmp,Op.intBits,A8])
theorem Co(op:BinOp)(t:Nat)(x y:Operand)(a b:ByteArray) :
 (GR op a b).holds (Quiet fun r=>jI P M β (do eqGuard op t x y (.string a) (.string b);binOp op t (.string a) (.string b)) w r):=by
 have e:=qk (P:=P) (w:=w) op t x y a b
 cases op<;>simp only[GR,DR.holds]<;>(try trivial)<;>(try intro hb)<;>refine⟨rfl,rfl,?_⟩
 ·refine⟨.string (a++b),?_,.v _ _⟩
  have:¬(((a.size+b.size:Nat):Int)>IntKind.i64.max):=by
   have:IntKind.i64.max=9223372036854775807:=by decide
   omega
  simp only[Sem.run_bind,e,Result.andThen_ok,binOp,Op.stringOp]
  rw[if_neg this];rfl
 all_goals (refine⟨_,?_,.b _ _⟩;simp[Sem.run_bind,e,binOp,Op.stringOp])
theorem nY{t:Nat}{ti:TI}(h:ig P t ti)(hk:ti.k=.pt)(a:Option Addr):(Op.equal t (.pointer a) (.pointer none)).run P w=.ok a.isNone w:=by
 obtain⟨d,hd,_,hc⟩:=h.EE
 rw[hk]at hc
 cases d<;>simp[si]at hc
 show (Op.equalIn (9999+1) t (.pointer a) (.pointer none)).run P w=_
 unfold Op.equalIn
 rw[Sem.run_bind,run_underlying hd w]
 cases a<;>rfl
theorem run_equal_bool{t:Nat}{ti:TI}(h:ig P t ti)(hk:ti.k=.bl)(a b:Bool):(Op.equal t (.bool a) (.bool b)).run P w=.ok (a==b) w:=by
 obtain⟨d,hd,_,hc⟩:=h.EE
 rw[hk]at hc
 cases d<;>simp[si]at hc
 show (Op.equalIn (9999+1) t (.bool a) (.bool b)).run P w=_
 unfold Op.equalIn
 rw[Sem.run_bind,run_underlying hd w]
 rfl
theorem om{t:Nat}{ti:TI}(h:ig P t ti)(hk:ti.k=.pt)(op:BinOp)(x y:Operand)(a:Option Addr)(c:Bool)(hc:mg op a.isNone=some c) :
 (do eqGuard op t x y (.pointer a) (.pointer none);binOp op t (.pointer a) (.pointer none):Sem Value).run P w=.ok (.bool c) w:=by
 have e:=lP (P:=P) (w:=w) op t x y a none
 have q:=nY (P:=P) (w:=w) h hk a
 cases op<;>simp only[mg]at hc<;>cases hc<;>simp[Sem.run_bind,e,binOp,q]
theorem BI{t:Nat}(op:BinOp)(x y:Operand)(a b:Option Addr)(c:Bool)(hc:mg op (decide (a=b))=some c)(q:(Op.equal t (.pointer a) (.pointer b)).run P w=.ok (decide (a=b)) w) :
 (do eqGuard op t x y (.pointer a) (.pointer b);binOp op t (.pointer a) (.pointer b):Sem Value).run P w=.ok (.bool c) w:=by
 have e:=lP (P:=P) (w:=w) op t x y a b
 cases op<;>simp only[mg]at hc<;>cases hc<;>simp[Sem.run_bind,e,binOp,q]
theorem rN{t:Nat}{ti:TI}(h:ig P t ti)(hk:ti.nz=true)(hpt:ti.k=.pt)(a b:Option Addr)(ha:∀x,a=some x->∃vs e,w.heap[x.block]?=some (.cells vs e (0,0)))(hb:∀x,b=some x->∃vs e,w.heap[x.block]?=some (.cells vs e (0,0))) :
 (Op.equal t (.pointer a) (.pointer b)).run P w=.ok (decide (a=b)) w:=by
 obtain⟨e,i,hd,hi,hs⟩:=h.nz hk hpt
 show (Op.equalIn (9999+1) t (.pointer a) (.pointer b)).run P w=_
 unfold Op.equalIn
 rw[Sem.run_bind,run_underlying hd w]
 cases a with
 |none=>cases b<;>rfl
 |
  some a =>
  cases b with
  |none=>rfl
  |
   some b =>
   have hsz:(sizeOf e).run P w=.ok i.size w:=by simp[sizeOf,typeInfo,hi]
   by_cases hab:a=b
   ·subst hab
    simp[Result.andThen,Sem.run_bind,hsz,hs,run_sameAddr_same]
   ·obtain⟨va,ea,ha'⟩:=ha a rfl
    obtain⟨vb,eb,hb'⟩:=hb b rfl
    simp[Result.andThen,Sem.run_bind,hsz,hs,hab]
    exact run_sameAddr_other w hab ha' hb'
theorem Az{t:Nat}{ti:TI}(h:ig P t ti)(hk:ti.k=.bl)(op:BinOp)(x y:Operand)(a b c:Bool)(hc:mg op (a==b)=some c) :
 (do eqGuard op t x y (.bool a) (.bool b);binOp op t (.bool a) (.bool b):Sem Value).run P w=.ok (.bool c) w:=by
 have e:=pM (P:=P) (w:=w) op t x y a b
 have q:=run_equal_bool (P:=P) (w:=w) h hk a b
 cases op<;>simp only[mg]at hc<;>cases hc<;>simp[Sem.run_bind,e,binOp,q]
theorem xI{a:AV}{v:Value}(h:bx M dm a v)(hk:LK.ptr.has a):∃q,v=.pointer q/\a.isNil=q.isNone:=by
 rcases hk with rfl|⟨cs,rfl⟩|⟨b,cs,rfl⟩
 ·cases h;exact⟨none,rfl,rfl⟩
 ·cases h;exact⟨_,rfl,rfl⟩
 ·cases h;exact⟨_,rfl,rfl⟩
theorem GH(hA:gP M w){a b:AV}{v u:Value}(h:bx M dm a v)(h':bx M dm b u)(hk:a.rQ)(hk':b.rQ):∃p q,v=.pointer p/\u=.pointer q/\a.Bq b=decide (p=q) /\
 (∀x,p=some x->∃vs e,w.heap[x.block]?=some (.cells vs e (0,0)))/\(∀x,q=some x->∃vs e,w.heap[x.block]?=some (.cells vs e (0,0))):=by
 have key:∀{a:AV} {v:Value},bx M dm a v->a.rQ->(a=.v (.pointer none)/\v=.pointer none)\/∃b cs,a=.pid b cs/\v=.pointer (some ⟨b,0,none⟩)/\∃vs e,w.heap[b]?=some (.cells vs e (0,0)):=by
  intro a v h hk
  unfold AV.rQ at hk
  split at hk
  ·cases h;exact .inl ⟨rfl,rfl⟩
  ·cases h with
   |
    pid _ _ _ us hp _ _ =>
    obtain⟨vs,e,h1,_⟩:=hA.p _ hp
    exact .inr ⟨_,_,rfl,rfl,vs,e,h1⟩
  ·exact absurd hk id
 have none1:∀x:Addr,(none:Option Addr)=some x->∃vs e,w.heap[x.block]?=some (.cells vs e (0,0)):=fun x h=>by cases h
 rcases key h hk with⟨rfl,rfl⟩|⟨b1,c1,rfl,rfl,p1⟩<;>rcases key h' hk' with⟨rfl,rfl⟩|⟨b2,c2,rfl,rfl,p2⟩
 ·exact⟨_,_,rfl,rfl,rfl,none1,none1⟩
 ·exact⟨_,_,rfl,rfl,rfl,none1,fun x h=>by cases h;exact p2⟩
 ·exact⟨_,_,rfl,rfl,rfl,fun x h=>by cases h;exact p1,none1⟩
 ·refine⟨_,_,rfl,rfl,?_,fun x h=>by cases h;exact p1,fun x h=>by cases h;exact p2⟩
  show aJ b1 b2=_
  rw[cF]
  simp[Nat.beq_eq]
theorem tO{y v:Value}(h:bx M β (.v y) v):v=y:=by cases h;rfl
theorem tz{t off:Nat}{vs:List Value}{d:TypeDesc}(hu:P.underlying t=some d)(hd:yS d=false)(hl:off<vs.length):(part t vs.toArray off).run P w=.ok (vs.getD off undef) w:=by
 have e:vs.toArray[off]?=some (vs.getD off undef):=by simp[aa,hl]
 cases d<;>first|(simp[yS]at hd;done)|simp[part,isAgg,run_underlying hu,e]
theorem DE{l:LK}{c d:AV}{q:Bool}(h:Nz l c d=some q):(∃a b,l=.str/\c=.v (.string a)/\d=.v (.string b)/\q=(a.toList==b.toList))\/∃k a b,l=.int k/\c=.v (.int k a)/\d=.v (.int k b)/\q=(a==b):=by
 unfold Nz at h
 split at h
 ·cases h;exact .inl ⟨_,_,rfl,rfl,rfl,rfl⟩
 ·split at h
  ·split at h
   ·subst_vars;cases h;exact .inr ⟨_,_,_,rfl,rfl,rfl,rfl⟩
   ·cases h
  ·cases h
 ·cases h
theorem Cz{t:Nat}{l:LK}{c d:AV}{x y:Value}{q:Bool}(h:Nz l c d=some q)(hk:NC l (P.underlying t)=true)(hx:bx M β c x)(hy:bx M β d y) :
 (∃e,P.underlying t=some e/\yS e=false)/\(Op.equalIn 9999 t x y).run P w=.ok q w:=by
 rcases DE h with⟨a,b,rfl,rfl,rfl,rfl⟩|⟨k,a,b,rfl,rfl,rfl,rfl⟩
 ·cases hu:P.underlying t with
  |none=>rw[hu]at hk;cases hk
  |
   some e =>
   rw[hu]at hk
   cases e<;>first
    |(simp[NC]at hk;done)
    |(
     rw[tO hx,tO hy]
     exact⟨⟨_,rfl,rfl⟩,run_equalIn_string w 9998 t _ _ hu⟩)
 ·cases hu:P.underlying t with
  |none=>rw[hu]at hk;cases hk
  |
   some e =>
   rw[hu]at hk
   cases e<;>first
    |(simp[NC]at hk;done)
    |(
     rw[tO hx,tO hy]
     exact⟨⟨_,rfl,rfl⟩,run_equalIn_int w 9998 t _ _ _ _ hu⟩)
theorem oR:∀(fs:List Field) (ls:List LK) (i:Nat) (cs ds:List AV) (xs ys:List Value) (q:Bool),np P fs ls i=true->Cm ls cs ds=some q->i+cs.length<=xs.length->i+ds.length<=ys.length ->
 (∀j,j<cs.length->bx M β (cs.getD j .any) (xs.getD (i+j) undef))->(∀j,j<ds.length->bx M β (ds.getD j .any) (ys.getD (i+j) undef))->(Op.eqFields 9999 xs.toArray ys.toArray fs).run P w=.ok q w
 |[],[],i,[],[],xs,ys,q,hf,hq,hx,hy,rx,ry=>by simp only[Cm]at hq;cases hq;simp[Op.eqFields]
 |[],[],i,_::_,ds,xs,ys,q,hf,hq,hx,hy,rx,ry=>by simp[Cm]at hq
 |[],[],i,[],_::_,xs,ys,q,hf,hq,hx,hy,rx,ry=>by simp[Cm]at hq
 |[],l::ls,i,cs,ds,xs,ys,q,hf,hq,hx,hy,rx,ry=>by simp[np]at hf
 |f::fs,[],i,cs,ds,xs,ys,q,hf,hq,hx,hy,rx,ry=>by simp[np]at hf
 |f::fs,l::ls,i,[],ds,xs,ys,q,hf,hq,hx,hy,rx,ry=>by simp[Cm]at hq
 |f::fs,l::ls,i,_::_,[],xs,ys,q,hf,hq,hx,hy,rx,ry=>by simp[Cm]at hq
 |
  f::fs,l::ls,i,c::cs,d::ds,xs,ys,q,hf,hq,hx,hy,rx,ry=>by
  simp only[np,az,bne_iff_ne]at hf
  obtain⟨⟨⟨hn,ho⟩,hk⟩,hr⟩:=hf
  have ho:=aE ho
  simp only[Cm]at hq
  split at hq
  ·rename_i q1 q2 e1 e2
   cases hq
   simp only[au]at hx hy
   obtain⟨⟨e,hu,hd⟩,hrun⟩:=Cz (P:=P) (t:=f.type) (w:=w) e1 hk (x:=xs.getD i undef) (y:=ys.getD i undef) (by simpa using rx 0 (by simp)) (by simpa using ry 0 (by simp))
   have hrest:=oR fs ls (i+1) cs ds xs ys q2 hr e2 (by omega) (by omega) (fun j hj=>by
    have:=rx (j+1) (by simpa using hj)
    rw[show i+(j+1)=i+1+j by omega]at this
    simpa using this) (fun j hj=>by
    have:=ry (j+1) (by simpa using hj)
    rw[show i+(j+1)=i+1+j by omega]at this
    simpa using this)
   unfold Op.eqFields
   rw[if_pos hn,ho]
   simp only[Sem.run_bind,tz hu hd (show i<xs.length by omega),tz hu hd (show i<ys.length by omega),Result.andThen_ok,hrun]
   cases q1
   ·simp
   ·simp[hrest]
  ·cases hq
theorem Ds{T:eE}(hT:dc P T)(op:BinOp)(t:Nat)(x y:Operand){cs ds:List AV}{xv yv:Value}(hx:bx M β (.agg cs) xv)(hy:bx M β (.agg ds) yv) :
 (FK (T t) op cs ds).holds (Quiet fun r=>jI P M β (do eqGuard op t x y xv yv;binOp op t xv yv) w r):=by
 unfold FK
 refine DR.aV fun hb=>?_
 simp only[az]at hb
 have ok:=hT t hb.1
 split
 ·rename_i fs hk
  split
  ·rename_i q hq
   split
   ·rename_i c hc
    obtain⟨dd,hu,hs,hg,hf⟩:=ok.sq hb.2 fs hk
    obtain⟨xs,rfl,hl1,hr1⟩:∃vs:List Value,xv=.agg vs.toArray/\cs.length=vs.length/\∀i,i<cs.length->bx M β (cs.getD i .any) (vs.getD i undef):=by cases hx with|agg _ _ vs hl ho h=>exact⟨vs,rfl,hl,h⟩
    obtain⟨ys,rfl,hl2,hr2⟩:∃vs:List Value,yv=.agg vs.toArray/\ds.length=vs.length/\∀i,i<ds.length->bx M β (ds.getD i .any) (vs.getD i undef):=by cases hy with|agg _ _ vs hl ho h=>exact⟨vs,rfl,hl,h⟩
    have hfo:P.fieldsOf t=dd:=by unfold Program.fieldsOf;rw[hu]
    have hrun:(Op.equalIn 10000 t (.agg xs.toArray) (.agg ys.toArray)).run P w=.ok q w:=by
     rw[run_equalIn_struct w 9999 t xs.toArray ys.toArray (by rw[hfo];exact hu) hs,hfo]
     exact oR dd.toList _ 0 cs ds xs ys q hf hq (by omega) (by omega) (fun j hj=>by rw[aZ];exact hr1 j hj) (fun j hj=>by rw[aZ];exact hr2 j hj)
    have hgd:=run_eqGuard_agg (P:=P) w op t x y xs.toArray ys.toArray hg
    refine⟨rfl,rfl,.bool c,?_,.b _ _⟩
    cases op<;>simp only[mg]at hc<;>cases hc
    ·rw[Sem.run_bind,hgd,Result.andThen_ok,run_eql_struct,hrun,Result.andThen_ok]
    ·rw[Sem.run_bind,hgd,Result.andThen_ok,run_neq_struct,hrun,Result.andThen_ok]
   ·trivial
  ·trivial
 ·trivial
theorem Ga{T:eE}(hT:dc P T)(hA:gP M w)(op:BinOp)(t:Nat)(x y:Operand){xa ya:AV}{xv yv:Value}(hx:bx M β xa xv)(hy:bx M β ya yv) :
 (bin (T t) op xa ya).holds (Quiet fun r=>jI P M β (do eqGuard op t x y xv yv;binOp op t xv yv) w r):=by
 unfold bin
 split
 ·cases hx;cases hy
  split
  ·subst_vars;exact DV op t x y _ _ _
  ·trivial
 ·cases hx;cases hy
  exact Co op t x y _ _
 ·rename_i a
  cases hy
  obtain⟨_,_,_,hx'⟩:∃_:True,∃_:True,∃_:True,bx M dm a xv:=by cases hx;exact⟨trivial,trivial,trivial,‹_›⟩
  unfold AH
  refine DR.aV fun hkn=>?_
  split
  ·rename_i c hk hc
   simp only[DR.holds]
   intro hp
   obtain⟨q,rfl,hq⟩:=xI hx' hp
   rw[hq]at hc
   exact⟨rfl,rfl,_,om (hT t hkn) hk op x y q c hc,.b _ _⟩
  ·trivial
 ·rename_i a b
  obtain⟨_,hx'⟩:∃_:True,bx M dm a xv:=by cases hx;exact⟨trivial,‹_›⟩
  obtain⟨_,hy'⟩:∃_:True,bx M dm b yv:=by cases hy;exact⟨trivial,‹_›⟩
  cases hnz:(T t).nz with
  |false=>trivial
  |
   true =>
   show (AH (T t) op (some (a.rQ/\b.rQ)) (a.Bq b)).holds _
   unfold AH
   refine DR.aV fun hkn=>?_
   split
   ·rename_i c hk hc
    simp only[DR.holds]
    rintro⟨h1,h2⟩
    obtain⟨p,q,rfl,rfl,he,g1,g2⟩:=GH hA hx' hy' h1 h2
    rw[he]at hc
    exact⟨rfl,rfl,_,BI op x y p q c hc (rN (hT t hkn) hnz hk p q g1 g2),.b _ _⟩
   ·trivial
 ·cases hx;cases hy
  unfold cmpL
  refine DR.aV fun hkn=>?_
  split
  ·rename_i c hk hc
   exact⟨rfl,rfl,_,om (hT t hkn) hk op x y none c hc,.v _ _⟩
  ·trivial
 ·cases hx;cases hy
  unfold cmpL
  refine DR.aV fun hkn=>?_
  split
  ·rename_i c hk hc
   exact⟨rfl,rfl,_,om (hT t hkn) hk op x y (some _) c hc,.v _ _⟩
  ·trivial
 ·cases hx;cases hy
  unfold cmpL
  refine DR.aV fun hkn=>?_
  split
  ·rename_i c hk hc
   exact⟨rfl,rfl,_,om (hT t hkn) hk op x y (some _) c hc,.v _ _⟩
  ·trivial
 ·cases hx;cases hy
  unfold cmpL
  refine DR.aV fun hkn=>?_
  split
  ·rename_i c hk hc
   exact⟨rfl,rfl,_,om (hT t hkn) hk op x y (some _) c hc,.v _ _⟩
  ·trivial
 all_goals first
  |trivial
  |exact Ds hT op t x y hx hy
  |(
   cases hx;cases hy
   unfold vc
   refine DR.aV fun hkn=>?_
   split
   ·rename_i c hk hc
    exact⟨rfl,rfl,_,Az (hT t hkn) hk op x y _ _ c hc,.b _ _⟩
   ·trivial)
theorem zQ(cs:List AV)(n i:Nat):(cs.drop n).getD i .any=cs.getD (n+i) .any:=by
 simp[aa,cO]
theorem sV{a:AV}{v:Value}(h:bx M dm a v)(hk:LK.ptr.has a)(hn:a.isNil=false):bx M β (.ptr a.deref) v:=by
 rcases hk with rfl|⟨cs,rfl⟩|⟨b,cs,rfl⟩
 ·cases hn
 ·exact h.up
 ·cases h with
  |pid _ _ _ us hp h h'=>exact .ptr _ _ _ _ us (fun i hi=>by simpa using h i hi) h'
theorem rj{cs:List AV}{b o:Nat}(h:bx M β (.ptr cs) (.pointer (some ⟨b,o,none⟩)))(n:Nat):bx M β (.ptr (cs.drop n)) (.pointer (some ⟨b,o+n,none⟩)):=by
 cases h with
 |
  ptr _ _ _ _ us h h' =>
  refine .ptr _ _ _ _ (fun i=>us (n+i)) (fun i hi=>?_) (fun i hi=>?_)
  ·have:=h (n+i) (by simp at hi;omega)
   rwa[<-Nat.add_assoc]at this
  ·rw[zQ];exact h' (n+i) (by simp at hi;omega)
theorem kM{cs:List AV}{v:Value}(h:bx M β (.ptr cs) v):∃b o,v=.pointer (some ⟨b,o,none⟩):=by
 cases h;exact⟨_,_,rfl⟩
theorem wx{x:AV}{v:Value}(h:bx M β x v)(off:Nat) :
 (qP x off).holds (Quiet fun r=>∃b o,v=.pointer (some ⟨b,o,none⟩)/\bx M β r (.pointer (some ⟨b,o+off,none⟩))):=by
 unfold qP
 split
 ·cases h with|ref _ _ _ b hb=>exact⟨rfl,rfl,_,_,rfl,.ref _ _ _ _ hb⟩
 ·cases h with|nt _ _ _ b hb=>exact⟨rfl,rfl,_,_,rfl,.nt _ _ _ _ hb⟩
 ·cases h with|mo _ _ _ _ sz b o n c hb=>exact⟨rfl,rfl,_,_,rfl,by rw[Nat.add_assoc];exact .mo _ _ _ _ _ _ _ _ _ hb⟩
 ·obtain⟨b,o,rfl⟩:=kM h
  exact⟨rfl,rfl,b,o,rfl,rj h off⟩
 ·cases h with
  |
   pid _ _ _ us hp h h' =>
   exact⟨rfl,rfl,_,_,rfl,rj (.ptr β _ _ _ us (fun i hi=>by simpa using h i hi) h') off⟩
 ·simp only[DR.holds]
  intro⟨hk,hn⟩
  cases h with
  |
   x _ _ _ ho h =>
   have q:=sV (β:=β) h hk hn
   obtain⟨b,o,rfl⟩:=kM q
   exact⟨rfl,rfl,b,o,rfl,rj q off⟩
 ·trivial
end
end Go.VL
namespace Go.VL
open Go Go.RowKit
section
variable {P:Program} {M:Mem} {β:Lo} {w:World}
theorem LK.lr{k:LK}{a:AV}{v:Value}(h:bx M β a v)(hk:k.has a)(hq:k.kn=true):bx M β (k.cast a) v:=by
 cases k with
 |int k=>obtain⟨n,rfl⟩:=hk;exact h
 |bool=>obtain⟨n,rfl⟩:=hk;cases h;exact .b _ _
 |str=>obtain⟨n,rfl⟩:=hk;exact h
 |
  ptr =>
  rcases hk with rfl|⟨cs,rfl⟩|⟨b,cs,rfl⟩
  ·cases h;exact .x _ _ _ rfl (.v _ _)
  ·cases h with|ptr _ _ _ _ us h h'=>exact .x _ _ _ rfl (.ptr _ _ _ _ us h h')
  ·cases h with|pid _ _ _ us hp h h'=>exact .x _ _ _ rfl (.pid _ _ _ us hp h h')
 |
  sl =>
  rcases hk with rfl|⟨es,rfl⟩
  ·cases h;exact .x _ _ _ rfl (.v _ _)
  ·cases h with
   |slnil=>exact .x _ _ _ rfl (.slnil _)
   |sl _ _ _ _ _ sz us hc hs h h'=>exact .x _ _ _ rfl (.sl _ _ _ _ _ sz us hc hs h h')
 |jK=>cases hq
theorem eZ{t:Nat}{ti:TI}(h:ig P t ti)(b o:Nat)(us:Nat->Value)(hc:∀i,i<ti.sz->w.cell? ⟨b,o+i,none⟩=some (us i)) :
 (loadVar t ⟨b,o,none⟩).run P w=.ok (if ti.agg then .agg ((bf ti.sz).map us).toArray else us 0) w:=by
 unfold loadVar
 rw[Sem.run_bind,h.s9 w]
 simp only[Result.andThen_ok]
 cases ha:ti.agg with
 |
  true =>
  simp only[if_true]
  rw[Sem.run_bind,h.iZ w]
  simp only[Result.andThen_ok]
  rw[Sem.run_bind,run_loadCells w ⟨b,o,none⟩ ti.sz us (fun j hj=>by rw[jE];exact hc j hj)]
  rfl
 |
  false =>
  have h1:ti.sz=1:=h.one ha
  have:=hc 0 (by omega)
  simp only[bX]at this
  simp[run_load,this]
theorem kI{vs:Array Value}(h:∀v,v∈vs->v.oneCell'=true)(i:Nat)(hi:i<vs.size):(vs.getD i undef).oneCell'=true:=by
 have:vs.getD i undef=vs[i]:=by simp[hi]
 rw[this];exact h _ (Array.getElem_mem hi)
theorem uD{ks:List LK}(h:ks.all LK.kn=true)(i:Nat)(hi:i<ks.length):(ks.getD i .jK).kn=true:=by
 rw[bM]at h
 have:ks.getD i .jK=ks[i]:=by simp[aa,hi]
 rw[this];exact h _ (bN hi)
theorem ei(n:Nat)(us:Nat->Value)(i:Nat)(h:i<n):((bf n).map us).getD i undef=us i:=by
 simp[aa,h]
theorem nF(l:List AV):l.headD .any=l.getD 0 .any:=by cases l<;>rfl
theorem vX(t:TI):Av t=t.lk.getD 0 .jK:=by unfold Av;cases t.lk<;>rfl
theorem zj{t:Nat}{ti:TI}(h:ig P t ti){cs:List AV}{us:Nat->Value}(hh:zJ ti cs)(ho:∀i,i<ti.sz->(us i).oneCell'=true)(hr:∀i,i<ti.sz->bx M dm (cs.getD i .any) (us i)) :
 bx M β (sK ti cs) (if ti.agg then .agg ((bf ti.sz).map us).toArray else us 0):=by
 unfold sK
 unfold zJ at hh
 cases ha:ti.agg with
 |
  true =>
  simp only[ha,cond_true]at hh |-
  exact px hh ho (fun i hi=>by simpa using hr i hi)
 |
  false =>
  simp only[ha,cond_false]at hh |-
  have h1:ti.sz=1:=h.one ha
  rw[nF]at hh |-
  exact LK.gT (hr 0 (by omega)) hh
theorem sF{t:Nat}{T:eE}(hT:dc P T){cs:List AV}{b o k:Nat}{us:Nat->Value}(hk:o=k)(hc:∀i,i<cs.length->w.cell? ⟨b,i,none⟩=some (us i))(ho:∀i,i<cs.length->(us i).oneCell'=true)(hr:∀i,i<cs.length->bx M β (cs.getD i .any) (us i)) :
 (ns (T t) cs k).holds (Quiet fun r=>jI P M β (loadVar t ⟨b,o,none⟩) w r):=by
 subst hk
 unfold ns
 refine DR.aV fun hkn=>?_
 have h:=hT t hkn
 cases ha:(T t).agg with
 |
  true =>
  simp only[cond_true]
  cases hb:Nat.ble (o+(T t).sz) cs.length with
  |false=>simp only[cond_false];trivial
  |
   true =>
   have hle:=aQ hb
   simp only[cond_true]
   refine⟨rfl,rfl,_,eZ h b o (fun i=>us (o+i)) (fun i hi=>hc (o+i) (by omega)),?_⟩
   rw[if_pos ha]
   refine .agg _ _ _ (by simp;omega) (fun i hi=>by simp only[List.length_take,cm]at hi;rw[ei _ _ _ (by omega)];exact ho _ (by omega)) fun i hi=>?_
   simp only[List.length_take,cm]at hi
   rw[ei _ _ _ (by omega)]
   have e:((cs.drop o).take (T t).sz).getD i .any=cs.getD (o+i) .any:=by
    simp[aa,List.getElem?_take,cO,show i<(T t).sz by omega]
   rw[e]
   exact hr (o+i) (by omega)
 |
  false =>
  simp only[cond_false]
  cases hb:cA o cs.length with
  |false=>simp only[cond_false];trivial
  |
   true =>
   have hlt:o<cs.length:=by have:=aQ hb;omega
   have h1:(T t).sz=1:=h.one ha
   simp only[cond_true]
   refine⟨rfl,rfl,_,eZ h b o (fun i=>us (o+i)) (fun i hi=>hc (o+i) (by omega)),?_⟩
   simp only[ha,Bool.false_eq_true,if_false,bX]
   exact hr o hlt
theorem lI{t:Nat}{T:eE}(hT:dc P T){cs:List AV}{b o k:Nat}{us:Nat->Value}(hc:∀i,k+i<cs.length->w.cell? ⟨b,o+i,none⟩=some (us (k+i)))(ho:∀i,i<cs.length->(us i).oneCell'=true)(hr:∀i,i<cs.length->bx M β (cs.getD i .any) (us i)) :
 (jm (T t) cs k).holds (Quiet fun r=>jI P M β (loadVar t ⟨b,o,none⟩) w r):=by
 unfold jm
 refine DR.aV fun hkq=>?_
 rw[az]at hkq
 obtain⟨hkn,hq⟩:=hkq
 have h:=hT t hkn
 cases ha:(T t).agg with
 |
  true =>
  simp only[cond_true,DR.holds]
  intro⟨hle,hh⟩
  refine⟨rfl,rfl,_,eZ h b o (fun i=>us (k+i)) (fun i hi=>hc i (by omega)),?_⟩
  rw[if_pos ha]
  refine .agg _ _ _ (by simp[dr,TI.sz]) (fun i hi=>by rw[dr]at hi;rw[ei _ _ _ (show i<(T t).sz from hi)];exact ho _ (by unfold TI.sz at hle;omega)) fun i hi=>?_
  rw[dr]at hi
  rw[ei _ _ _ (show i<(T t).sz from hi),ku _ _ _ _ hi]
  exact LK.lr (hr (k+i) (by unfold TI.sz at hle;omega)) (kt _ _ _ _ hh hi) (uD hq i hi)
 |
  false =>
  simp only[cond_false,DR.holds]
  intro⟨hlt,hh⟩
  have h1:(T t).sz=1:=h.one ha
  refine⟨rfl,rfl,_,eZ h b o (fun i=>us (k+i)) (fun i hi=>hc i (by omega)),?_⟩
  simp only[ha,Bool.false_eq_true,if_false,bX]
  exact LK.lr (hr k hlt) hh (by rw[vX];exact uD hq 0 (by unfold TI.sz at h1;omega))
theorem Quiet.reads{X:AV->Prop}{r:DR}{o:Nat}(h:r.holds (Quiet X)):(r.reads o).holds (Quiet X):=DR.vn (DR.gk h fun d hd=>hd)
theorem cell_of{b:Nat}{vs:Array Value}{e:TypeId}{fr:Nat×Nat}(h:w.heap[b]?=some (.cells vs e fr))(i:Nat)(hi:i<vs.size):w.cell? ⟨b,i,none⟩=some (vs.getD i undef):=by
 rw[cell_of_row w b i vs e fr h]
 simp[hi]
theorem sG{T:eE}(hT:dc P T){ob:Nat->Option Ob}(hob:∀o x,ob o=some x->Own M β w o x)(hA:gP M w){t:Nat}{x:AV}{v:Value}(h:bx M β x v) :
 (loadAt ob (T t) x).holds (Quiet fun r=>jI P M β (Instr.loadAt t v) w r):=by
 have sure:∀b o,(Instr.loadAt t (.pointer (some ⟨b,o,none⟩))).run P w=(loadVar t ⟨b,o,none⟩).run P w:=fun b o=>by
  simp[Instr.loadAt,Instr.sureAddr,Sem.run_bind]
 have tr:∀(r:DR) b o,r.holds (Quiet fun q=>jI P M β (loadVar t ⟨b,o,none⟩) w q)->r.holds (Quiet fun q=>jI P M β (Instr.loadAt t (.pointer (some ⟨b,o,none⟩))) w q):=fun r b o hr =>
  DR.gk hr fun d hd=>⟨hd.1,hd.2.1,by obtain⟨q,h1,h2⟩:=hd.2.2;exact⟨q,by rw[sure];exact h1,h2⟩⟩
 have ptrL:∀(cs:List AV) b o,bx M β (.ptr cs) (.pointer (some ⟨b,o,none⟩))->(T t).kn=true->zJ (T t) cs->(T t).sz<=cs.length ->
  jI P M β (Instr.loadAt t (.pointer (some ⟨b,o,none⟩))) w (sK (T t) cs):=fun cs b o hr hkn hh hl=>by
  cases hr with
  |
   ptr _ _ _ _ us h h' =>
   refine⟨_,(sure b o).trans (eZ (hT t hkn) b o us fun i hi=>hA _ _ _ (h i (by omega))),zj (hT t hkn) hh (fun i hi=>M.one _ _ _ (h i (by omega))) fun i hi=>h' i (by omega)⟩
 unfold loadAt
 split
 ·rename_i o k
  cases h with
  |
   ref _ _ _ b hb =>
   split
   ·rename_i cs hcs
    obtain⟨b',vs,e,h1,h2,h3,h4,_,h5⟩:=hob _ _ hcs
    rw[hb]at h1;cases h1
    exact tr _ _ _ (Quiet.reads (sF hT rfl (us:=fun i=>vs.getD i undef) (fun i hi=>cell_of h2 i (by omega)) (fun i hi=>kI h5 i (by omega)) h4))
   ·rename_i cs hcs
    obtain⟨b',us,h1,h2⟩:=hob _ _ hcs
    rw[hb]at h1;cases h1
    exact tr _ _ _ (Quiet.reads (sF hT rfl (fun i hi=>hA _ _ _ (h2 i hi).1) (fun i hi=>M.one _ _ _ (h2 i hi).1) fun i hi=>(h2 i hi).2))
   ·trivial
 ·rename_i o k
  cases h with
  |
   nt _ _ _ b hb =>
   split
   ·rename_i cs hcs
    obtain⟨b',vs,e,h1,h2,h3,h4,_,h5⟩:=hob _ _ hcs
    rw[hb]at h1;cases h1
    exact tr _ _ _ (Quiet.reads (lI hT (us:=fun i=>vs.getD i undef) (fun i hi=>cell_of h2 (k+i) (by omega)) (fun i hi=>kI h5 i (by omega)) h4))
   ·rename_i cs hcs
    obtain⟨b',us,h1,h2⟩:=hob _ _ hcs
    rw[hb]at h1;cases h1
    exact tr _ _ _ (Quiet.reads (lI hT (fun i hi=>hA _ _ _ (h2 (k+i) hi).1) (fun i hi=>M.one _ _ _ (h2 i hi).1) fun i hi=>(h2 i hi).2))
   ·trivial
 ·rename_i o i k
  cases h with
  |
   mo _ _ _ _ sz b off n c hb =>
   split
   ·rename_i sz' es hes
    obtain⟨v',h1,h2,h3⟩:=hob _ _ hes
    rw[hb]at h1;cases h1
    refine Quiet.reads (DR.k9 fun hi=>?_)
    rcases h3 with⟨h3,_⟩|⟨b',off',c',vs,e,h3,h4,h5,h6,h7,_,_,h9'⟩
    ·cases h3
    ·injection h3 with h3 h3' h3''
     injection h3 with h3
     injection h3 with h3 h8 h9
     subst h3;subst h8
     refine tr _ _ _ (lI hT (us:=fun j=>vs.getD (off+(i*sz+j)) undef) (fun j hj=>?_) (fun j hj=>kI h9' _ (by
      rw[h2 i hi]at hj
      have hlt:i*sz+sz<=es.length*sz:=by rw[<-cZ];exact aX _ hi
      have hcc:es.length*sz<=c'*sz:=aX _ h4
      omega)) fun j hj=>(h7 i j hi (by rw[h2 i hi]at hj;exact hj)).up)
     rw[h2 i hi]at hj
     have hlt:i*sz+sz<=es.length*sz:=by rw[<-cZ];exact aX _ hi
     have hcc:es.length*sz<=c'*sz:=aX _ h4
     have:=cell_of h5 (off+(i*sz+(k+j))) (by omega)
     rw[show off+i*sz+k+j=off+(i*sz+(k+j)) by omega]
     exact this
   ·rename_i es hes
    obtain⟨v',sz',h1,h2,h3⟩:=hob _ _ hes
    rw[hb]at h1;cases h1
    refine Quiet.reads (DR.k9 fun hi=>?_)
    rcases h3 with⟨h3,_⟩|⟨b',off',c',us,h3,h4,h5,h7⟩
    ·cases h3
    ·injection h3 with h3 h3' h3''
     injection h3 with h3
     injection h3 with h3 h8 h9
     subst h3;subst h8
     refine tr _ _ _ (lI hT (us:=fun j=>us (i*sz+j)) (fun j hj=>?_) (fun j hj=>M.one _ _ _ (h5 (i*sz+j) (by
      rw[h2 i hi]at hj
      have hlt:i*sz+sz<=es.length*sz:=by rw[<-cZ];exact aX _ hi
      omega))) fun j hj=>(h7 i j hi (by rw[h2 i hi]at hj;exact hj)).up)
     rw[h2 i hi]at hj
     have hlt:i*sz+sz<=es.length*sz:=by rw[<-cZ];exact aX _ hi
     have:=hA _ _ _ (h5 (i*sz+(k+j)) (by omega))
     rw[show off+i*sz+k+j=off+(i*sz+(k+j)) by omega]
     exact this
   ·trivial
 ·obtain⟨b,o,rfl⟩:=kM h
  refine DR.aV fun hkn=>?_
  simp only[DR.holds]
  intro⟨hh,hl⟩
  exact⟨rfl,rfl,ptrL _ b o h hkn hh hl⟩
 ·cases h with
  |
   pid _ _ _ us hp h h' =>
   refine DR.aV fun hkn=>?_
   simp only[DR.holds]
   intro⟨hh,hl⟩
   exact⟨rfl,rfl,ptrL _ _ 0 (.ptr β _ _ _ us (fun i hi=>by simpa using h i hi) h') hkn hh hl⟩
 ·cases h with
  |
   x _ _ _ ho h =>
   refine DR.aV fun hkn=>?_
   simp only[DR.holds]
   intro⟨hk,hn,hh,hl⟩
   have q:=sV (β:=β) h hk hn
   obtain⟨b,o,rfl⟩:=kM q
   exact⟨rfl,rfl,ptrL _ b o q hkn hh hl⟩
 ·rename_i f js
  have hq:=h
  cases h with
  |
   fm _ _ _ b vs hc hl hs ho =>
   refine DR.aV fun hkq=>?_
   rw[az,cc]at hkq
   obtain⟨hkn,ha⟩:=hkq
   have h1:(T t).sz=1:=(hT t hkn).one ha
   refine⟨rfl,rfl,_,(sure b 0).trans (eZ (hT t hkn) b 0 (fun _=>.func (.func f) #[] vs.toArray) fun i hi=>by
    have:i=0:=by omega
    subst this;exact hA _ _ _ hc),?_⟩
   simp only[ha,Bool.false_eq_true,if_false]
   refine .fn _ _ _ vs (by simp[hl]) fun i hi=>?_
   have hi':i<js.length:=by simpa using hi
   have e:(js.map (Ps f js)).getD i .any=Ps f js (js.getD i none):=by
    simp[aa,hi']
   rw[e]
   cases e2:js.getD i none with
   |none=>rw[hs i hi' e2];exact hq
   |
    some o =>
    obtain⟨b',q1,q2⟩:=ho i o hi' e2
    rw[q2];exact .ref _ _ _ _ q1
 ·trivial
end
end Go.VL
namespace Go.VL
open Go Go.RowKit
section
variable {P:Program} {M:Mem} {β:Lo} {w:World}
theorem dE{y v:Value}(h:bx M β (.v y) v):v=y:=by cases h;rfl
def EJ(w:World)(M:Mem)(es:List (List AV))(v:Value):Prop :=
 (v=.slice none 0 0/\es=[])\/∃(b off c sz:Nat) (us:Nat->Value),v=.slice (some ⟨b,off,none⟩) es.length c/\es.length<=c/\(∀i,i<es.length->(es.getD i []).length=sz) /\
  (∀i,i<es.length*sz->w.cell? ⟨b,off+i,none⟩=some (us i))/\(∀i j,i<es.length->j<sz->bx M dm ((es.getD i []).getD j .any) (us (i*sz+j)))/\∀i,i<es.length*sz->(us i).oneCell'=true
theorem yb(hA:gP M w){es:List (List AV)}{v:Value}(h:bx M β (.sl es) v):EJ w M es v:=by
 cases h with
 |slnil=>exact .inl ⟨rfl,rfl⟩
 |sl _ _ b off c sz us hc hs h h'=>exact .inr ⟨b,off,c,sz,us,rfl,hc,hs,fun i hi=>hA _ _ _ (h i hi),h',fun i hi=>M.one _ _ _ (h i hi)⟩
theorem MQ(hA:gP M w){a:AV}{v:Value}(h:bx M dm a v)(hk:LK.sl.has a):EJ w M a.elems v:=by
 rcases hk with rfl|⟨es,rfl⟩
 ·cases h;exact .inl ⟨rfl,rfl⟩
 ·exact yb hA h
theorem DT{o sz:Nat}{es:List (List AV)}{v:Value}(h:bx M β (.vec o) v)(hw:Own M β w o (.vec sz es)):EJ w M es v:=by
 cases h with
 |
  vec _ _ _ sz' hov hb =>
  obtain⟨v',h1,h2,h3⟩:=hw
  rw[hb]at h1;cases h1
  rcases h3 with⟨rfl,rfl⟩|⟨b,off,c,vs,e,rfl,h4,h5,h6,h7,_,_,h8⟩
  ·exact .inl ⟨rfl,rfl⟩
  ·have lt:∀i,i<es.length*sz->off+i<vs.size:=fun i hi=>Nat.lt_of_lt_of_le (Nat.add_lt_add_left (Nat.lt_of_lt_of_le hi (aX _ h4)) _) h6
   exact .inr ⟨b,off,c,_,fun i=>vs.getD (off+i) undef,rfl,h4,h2,fun i hi=>cell_of h5 _ (lt i hi),h7,fun i hi=>kI h8 _ (lt i hi)⟩
theorem Bm(hA:gP M w){o:Nat}{es:List (List AV)}{v:Value}(h:bx M β (.vec o) v)(hw:Own M β w o (.l5 es)):EJ w M es v:=by
 cases h with
 |
  vec _ _ _ sz' hov hb =>
  obtain⟨v',sz,h1,h2,h3⟩:=hw
  rw[hb]at h1;cases h1
  rcases h3 with⟨rfl,rfl⟩|⟨b,off,c,us,rfl,h4,h5,h7⟩
  ·exact .inl ⟨rfl,rfl⟩
  ·exact .inr ⟨b,off,c,_,us,rfl,h4,h2,fun i hi=>hA _ _ _ (h5 i hi),h7,fun i hi=>M.one _ _ _ (h5 i hi)⟩
theorem kV{ob:Nat->Option Ob}(hob:∀o x,ob o=some x->Own M β w o x)(hA:gP M w){x:AV}{v:Value}(h:bx M β x v){p:Option Prop}{es:List (List AV)}{os:List Nat}
 (he:fh ob x=some (p,es,os)) (hp:∀q,p=some q->q):EJ w M es v:=by
 unfold fh at he
 split at he
 ·cases he;exact yb hA h
 ·cases he
  cases h with|x _ _ _ ho h=>exact MQ hA h (hp _ rfl)
 ·cases he;cases h;exact .inl ⟨rfl,rfl⟩
 ·split at he
  ·rename_i hes;cases he;exact DT h (hob _ _ hes)
  ·rename_i hes;cases he;exact Bm hA h (hob _ _ hes)
  ·cases he
 ·cases he
theorem ig.slice{t e:Nat}{ti:TI}(h:ig P t ti)(hk:ti.k=.slice e):P.underlying t=some (.slice e):=by
 obtain⟨d,hd,_,hc⟩:=h.EE
 rw[hk]at hc
 cases d<;>simp[si]at hc
 subst hc;exact hd
theorem ig.array{t n e:Nat}{ti:TI}(h:ig P t ti)(hk:ti.k=.array n e):P.underlying t=some (.array n e):=by
 obtain⟨d,hd,_,hc⟩:=h.EE
 rw[hk]at hc
 cases d<;>simp[si]at hc
 obtain⟨rfl,rfl⟩:=hc;exact hd
theorem ig.str{t:Nat}{ti:TI}(h:ig P t ti)(hk:ti.k=.str):P.underlying t=some .string:=by
 obtain⟨d,hd,_,hc⟩:=h.EE
 rw[hk]at hc
 cases d<;>simp[si]at hc
 exact hd
theorem ig.num{t:Nat}{k:IntKind}{ti:TI}(h:ig P t ti)(hk:ti.k=.num k):P.underlying t=some (.int k):=by
 obtain⟨d,hd,_,hc⟩:=h.EE
 rw[hk]at hc
 cases d<;>simp[si]at hc
 subst hc;exact hd
theorem ig.struct{t:Nat}{fs:List (Nat×Nat)}{ti:TI}(h:ig P t ti)(hk:ti.k=.struct fs):∃fl,P.underlying t=some (.struct fl)/\fl.toList.map (fun f=>(f.offset,f.type))=fs:=by
 obtain⟨d,hd,_,hc⟩:=h.EE
 rw[hk]at hc
 cases d<;>simp[si]at hc
 exact⟨_,hd,hc⟩
theorem run_indexAt_slice{t e:Nat}(hu:P.underlying t=some (.slice e)){te:TI}(he:ig P e te)(b off n c:Nat)(k:IntKind)(i:Int)(h0:0<=i)(h1:i<n) :
 (Instr.indexAt t (.slice (some ⟨b,off,none⟩) n c) (.int k i)).run P w=.ok (.pointer (some ⟨b,off+i.toNat*te.sz,none⟩)) w:=by
 unfold Instr.indexAt
 simp only[asIntOf,Sem.run_bind,Sem.run_pure,Result.andThen_ok,run_underlying hu w]
 rw[if_pos ⟨h0,h1⟩]
 simp only[Sem.run_bind,he.iZ w,Result.andThen_ok,Sem.run_pure,jE]
theorem run_indexAt_array{t m e:Nat}(hu:P.underlying t=some (.array m e)){te:TI}(he:ig P e te)(b off:Nat)(k:IntKind)(i:Int)(h0:0<=i)(h1:i<m) :
 (Instr.indexAt t (.pointer (some ⟨b,off,none⟩)) (.int k i)).run P w=.ok (.pointer (some ⟨b,off+i.toNat*te.sz,none⟩)) w:=by
 unfold Instr.indexAt
 simp only[asIntOf,Sem.run_bind,Sem.run_pure,Result.andThen_ok,run_underlying hu w,Instr.sureAddr]
 rw[if_pos ⟨h0,h1⟩]
 simp only[Sem.run_bind,he.iZ w,Result.andThen_ok,Sem.run_pure,jE]
theorem FB{es:List (List AV)}{b off c i z:Nat}(h:bx M β (.sl es) (.slice (some ⟨b,off,none⟩) es.length c))(hi:i<es.length)(hz:(es.getD i []).length=z) :
 bx M β (.ptr (es.getD i [])) (.pointer (some ⟨b,off+i*z,none⟩)):=by
 cases h with
 |
  sl _ _ _ _ _ sz us hc hs h h' =>
  have e:sz=z:=(hs i hi).symm.trans hz
  subst e
  have hle:i*sz+sz<=es.length*sz:=by rw[<-cZ];exact aX _ hi
  refine .ptr _ _ _ _ (fun j=>us (i*sz+j)) (fun j hj=>?_) (fun j hj=>h' i j hi (by omega))
  rw[hz]at hj
  rw[Nat.add_assoc]
  exact h _ (by omega)
theorem Cq{es:List (List AV)}{v:Value}(h:bx M β (.sl es) v)(hi:0<es.length):∃b off c,v=.slice (some ⟨b,off,none⟩) es.length c:=by
 cases h with
 |slnil=>simp at hi
 |sl=>exact⟨_,_,_,rfl⟩
theorem NX{a:AV}{v:Value}(h:bx M dm a v)(hk:LK.sl.has a):bx M β (.sl a.elems) v:=by
 rcases hk with rfl|⟨es,rfl⟩
 ·cases h;exact .slnil _
 ·exact h.up
theorem wV{T:eE}(hT:dc P T){ob:Nat->Option Ob}(hob:∀o x,ob o=some x->Own M β w o x){t:Nat}(ht:(T t).kn=true){x:AV}{v:Value}(h:bx M β x v)(k:IntKind)(i:Int) :
 (indexAt T ob (T t) x i).holds (Quiet fun r=>jI P M β (Instr.indexAt t v (.int k i)) w r):=by
 have slC:∀(es:List (List AV)) e,(T t).k=.slice e->(T e).kn=true->bx M β (.sl es) v->0<=i->i<es.length->(es.getD i.toNat []).length=(T e).sz ->
  jI P M β (Instr.indexAt t v (.int k i)) w (.ptr (es.getD i.toNat [])):=fun es e hk hkn hr h0 h1 hz=>by
  obtain⟨b,off,c,rfl⟩:=Cq hr (by omega)
  exact⟨_,run_indexAt_slice ((hT t ht).slice hk) (hT e hkn) b off _ c k i h0 h1,FB hr (by omega) hz⟩
 unfold indexAt
 split
 ·rename_i m e o q hk
  cases h with
  |
   ref _ _ _ b hb =>
   refine DR.aV fun hkn=>?_
   intro⟨h0,h1⟩
   exact⟨rfl,rfl,_,run_indexAt_array ((hT t ht).array hk) (hT e hkn) b q k i h0 h1,.nt _ _ _ _ hb⟩
 ·rename_i e o hk
  refine DR.aV fun hkn=>?_
  cases h with
  |
   vec _ _ _ sz hov hb =>
   split
   ·rename_i sz' es hes
    refine DR.aV fun hz=>?_
    intro⟨h0,h1⟩
    obtain⟨v',h3,h4,h5⟩:=hob _ _ hes
    rw[hb]at h3;cases h3
    have hz:=aE hz
    rcases h5 with⟨_,rfl⟩|⟨b,off,c,vs,e',rfl,h6,_⟩
    ·simp at h1;omega
    ·refine⟨rfl,rfl,_,run_indexAt_slice ((hT t ht).slice hk) (hT e hkn) b off _ c k i h0 h1,?_⟩
     rw[<-hz]
     exact .mo β o i.toNat 0 _ b off es.length c hb
   ·rename_i es hes
    intro⟨h0,h1,h2⟩
    obtain⟨v',sz',h3,h4,h5⟩:=hob _ _ hes
    rw[hb]at h3;cases h3
    rcases h5 with⟨_,rfl⟩|⟨b,off,c,us,rfl,h6,_⟩
    ·simp at h1;omega
    ·refine⟨rfl,rfl,_,run_indexAt_slice ((hT t ht).slice hk) (hT e hkn) b off _ c k i h0 h1,?_⟩
     have hz:sz=(T e).sz:=(h4 i.toNat (by omega)).symm.trans h2
     rw[<-hz]
     exact .mo β o i.toNat 0 _ b off es.length c hb
   ·trivial
 ·rename_i e es hk
  refine DR.aV fun hkn=>?_
  intro⟨h0,h1,h2⟩
  exact⟨rfl,rfl,slC es e hk hkn h h0 h1 h2⟩
 ·rename_i e a hk
  refine DR.aV fun hkn=>?_
  intro⟨hs,h0,h1,h2⟩
  cases h with
  |x _ _ _ ho h=>exact⟨rfl,rfl,slC a.elems e hk hkn (NX h hs) h0 h1 h2⟩
 ·trivial
theorem sr{t:Nat}(hu:P.underlying t=some .string)(s:ByteArray)(k:IntKind)(n:Int)(h0:0<=n)(h1:n<s.size):(Instr.index t (.string s) (.int k n)).run P w=.ok (.int .u8 (bt s n)) w:=by
 have hlt:n.toNat<s.size:=by omega
 unfold Instr.index
 simp only[asIntOf,Sem.run_bind,Sem.run_pure,Result.andThen_ok,run_underlying hu w]
 have e:(if 0<=n then s[n.toNat]? else none)=some (s[n.toNat]'hlt):=by rw[if_pos h0];simp[hlt]
 rw[e]
 simp[bt,hlt]
theorem qX{e:Operand->AV}{ρ:Operand->Value}(he:∀x,bx M β (e x) (ρ x))(isS:Bool)(len cap:Nat)(lo hi:Option Operand)(l h:Int)(hl:ik e lo=some l)(hh:gl e len hi=some h)
 (h0:0<=l) (h1:l<=h) (h2:h<=len) (hc:len<=cap) :
 (Instr.sliceBounds isS len cap (lo.map ρ) (hi.map ρ) none).run P w=.ok (l.toNat,h.toNat,cap) w:=by
 have b1:∀(x:Operand) (n:Int) (y:Nat) (code:BoundsCode),(∃k,e x=.v (.int k n))->0<=n->n<=y->(Instr.sliceBound (ρ x) y code).run P w=.ok n.toNat w:=by
  intro x n y code ⟨k,hx⟩ hn0 hn1
  have q:=he x
  rw[hx]at q
  rw[dE q]
  simp[Instr.sliceBound,asIntOf,hn0,hn1]
 have low:∀(x:Operand),ik e (some x)=some l->∃k,e x=.v (.int k l):=fun x hx=>by
  simp only[ik]at hx
  split at hx
  ·rename_i k n hq;cases hx;exact⟨k,hq⟩
  ·cases hx
 have high:∀(x:Operand),gl e len (some x)=some h->∃k,e x=.v (.int k h):=fun x hx=>by
  simp only[gl]at hx
  split at hx
  ·rename_i k n hq;cases hx;exact⟨k,hq⟩
  ·cases hx
 unfold Instr.sliceBounds
 cases hi with
 |
  none =>
  simp only[gl,Option.some.injEq]at hh
  subst hh
  cases lo with
  |
   none =>
   simp only[ik,Option.some.injEq]at hl
   subst hl
   simp[Sem.run_bind]
  |some x=>simp[Sem.run_bind,b1 x l len _ (low x hl) h0 (by omega)]
 |
  some y =>
  have c1:=b1 y h cap (if isS=true then .sliceAcap else .sliceAlen) (high y hh) (by omega) (by omega)
  cases lo with
  |
   none =>
   simp only[ik,Option.some.injEq]at hl
   subst hl
   simp[Sem.run_bind,c1]
  |some x=>simp[Sem.run_bind,c1,b1 x l h.toNat _ (low x hl) h0 (by omega)]
end
end Go.VL
namespace Go.VL
open Go Go.RowKit
section
variable {P:Program} {M:Mem} {β:Lo} {w:World}
def mU(tm:Nat->AV)(dst:Option Nat)(x:AV):Nat->AV:=match dst with|some t=>cx tm t x|none=>tm
theorem u4(a:Act)(dst:Option Nat)(v:Value):(a.put dst v).tmps.size=a.tmps.size/\(a.put dst v).defers=a.defers:=by
 cases dst<;>simp[Act.put]
theorem Db{a:Act}{tm:Nat->AV}{n:Nat}(hs:a.tmps.size=n)(h:∀t,bx M β (tm t) (a.tmps.getD t undef)){dst:Option Nat}{x:AV}{v:Value}(hr:bx M β x v)(hd:∀t,dst=some t->t<n) :
 ∀t,bx M β (mU tm dst x t) ((a.put dst v).tmps.getD t undef):=by
 intro t
 cases dst with
 |none=>exact h t
 |
  some d =>
  have hlt:=hd d rfl
  simp only[mU,Act.put]
  by_cases e:t=d
  ·subst e
   rw[aN]
   have:(a.tmps.setIfInBounds t v).getD t undef=v:=by simp[hs,hlt]
   rw[this];exact hr
  ·rw[a6 _ _ _ _ e]
   have:(a.tmps.setIfInBounds d v).getD t undef=a.tmps.getD t undef:=by
    simp[Array.getElem?_setIfInBounds_ne (Ne.symm e)]
   rw[this];exact h t
theorem di.put{n:Nat}{A:jz}{s:St}{a:Act}(g:di n A s a w M β){dst:Option Nat}{x:AV}{v:Value}(hr:bx M β x v)(hd:∀t,dst=some t->t<n) :
 di n A {s with tm:=mU s.tm dst x} (a.put dst v) w M β :=
 {size:=(u4 a dst v).1.trans g.size,defs:=(u4 a dst v).2.trans g.defs,tm:=Db g.size g.tm hr hd,le:=g.le,new:=g.new,agree:=g.agree,own:=g.own,place:=g.place,apart:=g.apart,us:=g.us,fix:=g.fix,cC:=g.cC}
theorem zi(s:St)(dst:Option Nat)(d:De)(hu:d.cx=[])(hn:d.new=[]):s.app dst d = {s with tm:=mU s.tm dst d.val}:=by
 unfold St.app
 rw[hu,hn]
 cases dst<;>rfl
theorem fN{s:St}{n:Nat}{dst:Option Nat}{d:De}(h:dK s n dst d=true):∀t,dst=some t->t<n:=by
 intro t ht
 unfold dK at h
 simp only[ht,az]at h
 have:=aQ h.2
 omega
def sa(P:Program)(M:Mem)(β:Lo)(o:Oper)(a:Act)(w:World)(r:AV):Prop:=∃v,(execOp a.eval o).run P w=Result.ok (.value v) w/\bx M β r v
def NK(P:Program)(o:Oper)(a:Act)(w:World)(v:Value)(w':World):Prop:=(execOp a.eval o).run P w=.ok (.value v) w'\/((execOp a.eval o).run P w=.ok .skip w'/\v=undef)
def Step(P:Program)(n:Nat)(A:jz)(o:Oper)(a:Act)(w:World)(s':St):Prop:=∃v w' M' β',NK P o a w v w'/\di n A s' (a.put o.dst v) w' M' β'
theorem Step.wp{n:Nat}{A:jz}{o:Oper}{a:Act}{s':St}(h:Step P n A o a w s'){K:Act->World->Prop}{Q:Exit->Act->World->Prop}(hk:∀a' w',fT n A s' a' w'->K a' w'):o.wp P a w K Q:=by
 obtain⟨v,w',M',β',hr,g⟩:=h
 unfold Oper.wp
 rcases hr with hr|⟨hr,rfl⟩
 ·rw[hr];exact hk _ _ ⟨M',β',g⟩
 ·rw[hr];exact hk _ _ ⟨M',β',g⟩
theorem lJ{n:Nat}{A:jz}{s:St}{a:Act}(g:di n A s a w M β){o:Oper}{r:DR}(h:r.holds (Quiet (sa P M β o a w))) :
 r.holds fun d=>dK s n o.dst d=true->Step P n A o a w (s.app o.dst d) :=
 DR.gk h fun d hd hn=>by
  obtain⟨v,hv,hr⟩:=hd.2.2
  exact⟨v,w,M,β,.inl hv,by rw[zi s o.dst d hd.1 hd.2.1];exact g.put hr (fN hn)⟩
theorem pG{o:Oper}{a:Act}{r:DR}{sv:Sem Value}(he:execOp a.eval o=(do pure (.value (<-sv))))(h:r.holds (Quiet fun x=>jI P M β sv w x)) :
 r.holds (Quiet (sa P M β o a w)) :=
 DR.gk h fun d hd=>⟨hd.1,hd.2.1,by
  obtain⟨v,h1,h2⟩:=hd.2.2
  exact⟨v,by rw[he];simp[Sem.run_bind,h1],h2⟩⟩
variable {n:Nat} {A:jz} {s:St} {a:Act}
theorem A7(g:di n A s a w M β)(o:Oper)(x:Operand)(ho:o.op=.move x\/o.op=.assign x) :
 (DR.yes {val:=ev s x}).holds (Quiet (sa P M β o a w)):=by
 refine⟨rfl,rfl,a.eval x,?_,g.ev x⟩
 rcases ho with ho|ho<;>simp[execOp,ho]
theorem E0(g:di n A s a w M β)(o:Oper)(c x y:Operand)(ho:o.op=.pick c x y) :
 (match ev s c with| .v (.bool true)=>DR.yes {val:=ev s x}| .v (.bool false)=>DR.yes {val:=ev s y}|_=>DR.no).holds (Quiet (sa P M β o a w)):=by
 have hc:=g.ev c
 split
 ·rename_i e
  rw[e]at hc
  exact⟨rfl,rfl,a.eval x,by simp[execOp,ho,dE hc,asBool],g.ev x⟩
 ·rename_i e
  rw[e]at hc
  exact⟨rfl,rfl,a.eval y,by simp[execOp,ho,dE hc,asBool],g.ev y⟩
 ·trivial
theorem JO(g:di n A s a w M β){T:eE}(hT:dc P T)(o:Oper)(op:BinOp)(t t':Nat)(x y:Operand)(ho:o.op=.binOp op t x y t') :
 (bin (T t) op (ev s x) (ev s y)).holds (Quiet (sa P M β o a w)) :=
 pG (sv:=do eqGuard op t x y (a.eval x) (a.eval y);binOp op t (a.eval x) (a.eval y)) (by simp[execOp,ho]) (Ga hT g.agree op t x y (g.ev x) (g.ev y))
theorem EI{t:Bool}{v:Value}(h:bx M β (.b t) v):v=.bool t:=by cases h;rfl
theorem JJ(g:di n A s a w M β)(o:Oper)(t:Nat)(x:Operand)(ho:o.op=.unOp .not t x) :
 (match ev s x with| .v (.bool b)=>DR.yes {val:=.v (.bool !b)}| .b b=>DR.yes {val:=.b (!b)}|_=>DR.no).holds (Quiet (sa P M β o a w)):=by
 have hc:=g.ev x
 split
 ·rename_i e
  rw[e]at hc
  exact⟨rfl,rfl,_,by simp[execOp,ho,dE hc,Op.unary],.v _ _⟩
 ·rename_i e
  rw[e]at hc
  exact⟨rfl,rfl,_,by simp[execOp,ho,EI hc,Op.unary],.b _ _⟩
 ·trivial
theorem Iq(g:di n A s a w M β)(o:Oper)(t:Nat)(x:Operand)(ho:o.op=.unOp .neg t x) :
 (match ev s x with| .v (.int k m)=>DR.yes {val:=.v (.int k (k.wrap (0-m)))}|_=>DR.no).holds (Quiet (sa P M β o a w)):=by
 have hc:=g.ev x
 split
 ·rename_i e
  rw[e]at hc
  exact⟨rfl,rfl,_,by simp[execOp,ho,dE hc,Op.unary,Op.intArith],.v _ _⟩
 ·trivial
theorem JL(g:di n A s a w M β)(o:Oper)(x:Operand)(ho:o.op=.nilCheck x) :
 (match ev s x with
 | .x a=>DR.ok (LK.ptr.has a/\a.isNil=false) {val:=.x a}
 | .ptr cs=>.yes {val:=.ptr cs}
 | .pid b cs=>.yes {val:=.pid b cs}
 | .ref o k=>.yes {val:=.ref o k}
 |_=>.no).holds (Quiet (sa P M β o a w)):=by
 have hc:=g.ev x
 have run:∀ad,a.eval x=.pointer (some ad)->(execOp a.eval o).run P w=.ok (.value (a.eval x)) w:=fun ad e=>by
  simp[execOp,ho,e]
 split
 ·rename_i y e
  rw[e]at hc
  intro⟨hk,hn⟩
  cases hc with
  |
   x _ _ _ ho h =>
   obtain⟨q,hq,hq'⟩:=xI h hk
   rw[hn]at hq'
   cases q with
   |none=>cases hq'
   |some ad=>exact⟨rfl,rfl,_,run ad hq,.x _ _ _ ho h⟩
 ·rename_i cs e
  rw[e]at hc
  obtain⟨b,o',hq⟩:=kM hc
  exact⟨rfl,rfl,_,run _ hq,hc⟩
 ·rename_i b cs e
  rw[e]at hc
  have:∃ad,a.eval x=.pointer (some ad):=by generalize a.eval x=v at hc;cases hc;exact⟨_,rfl⟩
  obtain⟨ad,hq⟩:=this
  exact⟨rfl,rfl,_,run _ hq,hc⟩
 ·rename_i o' k e
  rw[e]at hc
  have:∃ad,a.eval x=.pointer (some ad):=by generalize a.eval x=v at hc;cases hc;exact⟨_,rfl⟩
  obtain⟨ad,hq⟩:=this
  exact⟨rfl,rfl,_,run _ hq,hc⟩
 ·trivial
theorem vY(g:di n A s a w M β){T:eE}(hT:dc P T)(o:Oper)(t f:Nat)(x:Operand)(ho:o.op=.fieldAddr t x f) :
 (dz (T t).kn<|match (T t).k with
 |
  .struct fs=>match fs[f]? with
  |some (off,ft)=>dz ((T ft).kn&&cA 0 (T ft).sz)<|qP (ev s x) off
  |none=>.no
 |_=>.no).holds (Quiet (sa P M β o a w)):=by
 refine DR.aV fun hkn=>?_
 split
 ·rename_i fs hk
  obtain⟨fl,hu,hfl⟩:=(hT t hkn).struct hk
  split
  ·rename_i off ft hf
   refine DR.aV fun hq=>?_
   simp only[az]at hq
   have hsz:0<(T ft).sz:=by have:=aQ hq.2;omega
   have hf':∃fi,fl[f]?=some fi/\fi.offset=off/\fi.type=ft:=by
    rw[<-hfl,List.getElem?_map]at hf
    cases hq':fl.toList[f]? with
    |none=>rw[hq']at hf;cases hf
    |
     some fi =>
     rw[hq']at hf
     simp only[cu,Option.some.injEq,Prod.mk.injEq]at hf
     exact⟨fi,by simpa using hq',hf.1,hf.2⟩
   obtain⟨fi,h1,rfl,rfl⟩:=hf'
   refine DR.gk (wx (g.ev x) fi.offset) fun d hd=>⟨hd.1,hd.2.1,?_⟩
   obtain⟨b,q,hv,hr⟩:=hd.2.2
   refine⟨_,?_,hr⟩
   have hz:=(hT fi.type hq.1).iZ w
   simp only[execOp,ho,Instr.fieldAt,Sem.run_bind,run_underlying hu w,Result.andThen_ok,h1,hv,Instr.sureAddr,Sem.run_pure,fieldPlace,hz]
   rw[if_neg (by omega)]
   simp[jE]
  ·trivial
 ·trivial
theorem Fg(g:di n A s a w M β){T:eE}(hT:dc P T)(o:Oper)(t:Nat)(x:Operand)(ho:o.op=.load t x) :
 (loadAt s.ob (T t) (ev s x)).holds (Quiet (sa P M β o a w)) :=
 pG (sv:=Instr.loadAt t (a.eval x)) (by simp[execOp,ho]) (sG hT g.own g.agree (g.ev x))
theorem vN(g:di n A s a w M β){T:eE}(hT:dc P T)(o:Oper)(t:Nat)(x i:Operand)(ho:o.op=.indexAddr t x i) :
 (dz (T t).kn<|match ev s i with| .v (.int _ m)=>indexAt T s.ob (T t) (ev s x) m|_=>.no).holds (Quiet (sa P M β o a w)):=by
 refine DR.aV fun hkn=>?_
 have hi:=g.ev i
 split
 ·rename_i k m e
  rw[e]at hi
  exact pG (sv:=Instr.indexAt t (a.eval x) (a.eval i)) (by simp[execOp,ho]) (by rw[dE hi];exact wV hT g.own hkn (g.ev x) k m)
 ·trivial
theorem fM{cs:List AV}{v:Value}(h:bx M β (.agg cs) v):∃vs:List Value,v=.agg vs.toArray/\cs.length=vs.length/\(∀i,i<cs.length->bx M β (cs.getD i .any) (vs.getD i undef))/\∀i,i<cs.length->(vs.getD i undef).oneCell'=true:=by
 cases h with|agg _ _ vs hl ho h=>exact⟨vs,rfl,hl,h,ho⟩
theorem ov{t:Nat}{ti:TI}(h:ig P t ti)(vs:List Value)(off:Nat)(hl:off+ti.sz<=vs.length) :
 (part t vs.toArray off).run P w=.ok (if ti.agg then .agg ((bf ti.sz).map fun i=>vs.getD (off+i) undef).toArray else vs.getD off undef) w:=by
 unfold part
 rw[Sem.run_bind,h.s9 w]
 simp only[Result.andThen_ok]
 cases ha:ti.agg with
 |
  true =>
  simp only[if_true,Sem.run_bind,h.iZ w,Result.andThen_ok,Sem.run_pure]
  congr 2
  apply Array.ext'
  simp only[Array.toList_extract,List.extract_eq_take_drop]
  apply List.ext_getElem
  ·simp;omega
  ·intro i h1 h2
   simp at h1 h2
   simp[aa,show off+i<vs.length by omega]
 |
  false =>
  have h1:ti.sz=1:=h.one ha
  have hlt:off<vs.length:=by omega
  simp[hlt,aa]
theorem Du{T:eE}(hT:dc P T){t:Nat}{cs:List AV}{vs:List Value}(hl:cs.length=vs.length)(hr:∀i,i<cs.length->bx M β (cs.getD i .any) (vs.getD i undef))(ho:∀i,i<cs.length->(vs.getD i undef).oneCell'=true)(off:Nat) :
 (ns (T t) cs off).holds (Quiet fun r=>jI P M β (part t vs.toArray off) w r):=by
 unfold ns
 refine DR.aV fun hkn=>?_
 have h:=hT t hkn
 cases ha:(T t).agg with
 |
  true =>
  simp only[cond_true]
  cases hb:Nat.ble (off+(T t).sz) cs.length with
  |false=>simp only[cond_false];trivial
  |
   true =>
   have hle:=aQ hb
   simp only[cond_true]
   refine⟨rfl,rfl,_,ov h vs off (by omega),?_⟩
   rw[if_pos ha]
   refine .agg _ _ _ (by simp;omega) (fun i hi=>by simp only[List.length_take,cm]at hi;rw[ei _ _ _ (by omega)];exact ho _ (by omega)) fun i hi=>?_
   simp only[List.length_take,cm]at hi
   rw[ei _ _ _ (by omega)]
   have e:((cs.drop off).take (T t).sz).getD i .any=cs.getD (off+i) .any:=by
    simp[aa,List.getElem?_take,cO,show i<(T t).sz by omega]
   rw[e]
   exact hr (off+i) (by omega)
 |
  false =>
  simp only[cond_false]
  cases hb:cA off cs.length with
  |false=>simp only[cond_false];trivial
  |
   true =>
   have hlt:off<cs.length:=by have:=aQ hb;omega
   have h1:(T t).sz=1:=h.one ha
   simp only[cond_true]
   refine⟨rfl,rfl,_,ov h vs off (by omega),?_⟩
   simp only[ha,Bool.false_eq_true,if_false]
   exact hr off hlt
theorem z8{T:eE}(hT:dc P T){t:Nat}{cs:List AV}{vs:List Value}(hl:cs.length=vs.length)(hr:∀i,i<cs.length->bx M β (cs.getD i .any) (vs.getD i undef))(ho:∀i,i<cs.length->(vs.getD i undef).oneCell'=true)(off:Nat) :
 (jm (T t) cs off).holds (Quiet fun r=>jI P M β (part t vs.toArray off) w r):=by
 unfold jm
 refine DR.aV fun hkq=>?_
 rw[az]at hkq
 obtain⟨hkn,hq⟩:=hkq
 have h:=hT t hkn
 cases ha:(T t).agg with
 |
  true =>
  simp only[cond_true,DR.holds]
  intro⟨hle,hh⟩
  refine⟨rfl,rfl,_,ov h vs off (by omega),?_⟩
  rw[if_pos ha]
  refine .agg _ _ _ (by simp[dr,TI.sz]) (fun i hi=>by rw[dr]at hi;rw[ei _ _ _ (show i<(T t).sz from hi)];exact ho _ (by unfold TI.sz at hle;omega)) fun i hi=>?_
  rw[dr]at hi
  rw[ei _ _ _ (show i<(T t).sz from hi),ku _ _ _ _ hi]
  exact LK.lr (hr (off+i) (by unfold TI.sz at hle;omega)) (kt _ _ _ _ hh hi) (uD hq i hi)
 |
  false =>
  simp only[cond_false,DR.holds]
  intro⟨hlt,hh⟩
  have h1:(T t).sz=1:=h.one ha
  refine⟨rfl,rfl,_,ov h vs off (by omega),?_⟩
  simp only[ha,Bool.false_eq_true,if_false]
  exact LK.lr (hr off hlt) hh (by rw[vX];exact uD hq 0 (by unfold TI.sz at h1;omega))
theorem Dq(g:di n A s a w M β){T:eE}(hT:dc P T)(o:Oper)(t f:Nat)(x:Operand)(ho:o.op=.field t x f) :
 (dz (T t).kn<|match (T t).k,ev s x with
 |
  .struct fs,.agg cs=>match fs[f]? with
  |some (off,ft)=>ns (T ft) cs off
  |none=>.no
 |_,_=>.no).holds (Quiet (sa P M β o a w)):=by
 refine DR.aV fun hkn=>?_
 have hx:=g.ev x
 split
 ·rename_i fs cs hk e
  rw[e]at hx
  obtain⟨vs,hv,hl,hr,hone⟩:=fM hx
  obtain⟨fl,hu,hfl⟩:=(hT t hkn).struct hk
  split
  ·rename_i off ft hf
   have hf':∃fi,fl[f]?=some fi/\fi.offset=off/\fi.type=ft:=by
    rw[<-hfl,List.getElem?_map]at hf
    cases hq':fl.toList[f]? with
    |none=>rw[hq']at hf;cases hf
    |
     some fi =>
     rw[hq']at hf
     simp only[cu,Option.some.injEq,Prod.mk.injEq]at hf
     exact⟨fi,by simpa using hq',hf.1,hf.2⟩
   obtain⟨fi,h1,rfl,rfl⟩:=hf'
   refine DR.gk (Du (P:=P) (w:=w) hT hl hr hone fi.offset) fun d hd=>⟨hd.1,hd.2.1,?_⟩
   obtain⟨v,q1,q2⟩:=hd.2.2
   exact⟨v,by simp[execOp,ho,Instr.field,Sem.run_bind,run_underlying hu w,h1,hv,asAgg,q1],q2⟩
  ·trivial
 ·trivial
theorem Ck(g:di n A s a w M β){T:eE}(hT:dc P T)(o:Oper)(t:Nat)(x i:Operand)(ho:o.op=.index t x i) :
 (dz (T t).kn<|match (T t).k,ev s x,ev s i with
 | .str,.v (.string q),.v (.int _ m)=>.ok (0<=m/\m<q.size) {val:=.v (.int .u8 (bt q m))}
 | .array l el,.agg cs,.v (.int _ m)=>((jm (T el) cs (m.toNat*(T el).sz))).At (0<=m/\m<l)
 |_,_,_=>.no).holds (Quiet (sa P M β o a w)):=by
 refine DR.aV fun hkn=>?_
 have hx:=g.ev x
 have hi:=g.ev i
 split
 ·rename_i q k m hk e e'
  rw[e]at hx;rw[e']at hi
  intro⟨h0,h1⟩
  refine⟨rfl,rfl,_,?_,.v _ _⟩
  simp[execOp,ho,dE hx,dE hi,Sem.run_bind,sr ((hT t hkn).str hk) q k m h0 h1]
 ·rename_i l el cs k m hk e e'
  rw[e]at hx;rw[e']at hi
  obtain⟨vs,hv,hl,hr,hone⟩:=fM hx
  refine DR.k9 fun⟨h0,h1⟩=>?_
  by_cases hel:(T el).kn=true
  ·refine DR.gk (z8 (P:=P) (w:=w) hT hl hr hone _) fun d hd=>⟨hd.1,hd.2.1,?_⟩
   obtain⟨v,q1,q2⟩:=hd.2.2
   refine⟨v,?_,q2⟩
   simp only[execOp,ho,Instr.index,dE hi,hv,asIntOf,Sem.run_bind,Sem.run_pure,Result.andThen_ok,run_underlying ((hT t hkn).array hk) w]
   rw[if_pos ⟨h0,h1⟩]
   simp[Sem.run_bind,(hT el hel).iZ w,q1]
  ·unfold jm
   exact DR.aV fun h=>absurd (az _ _ |>.mp h).1 hel
 ·trivial
theorem zM(g:di n A s a w M β)(o:Oper)(x:Operand)(i:Nat)(ho:o.op=.extract x i) :
 (match ev s x with| .cy cs=>dz (cA i cs.length)<|DR.yes {val:=cs.getD i .any}|_=>.no).holds (Quiet (sa P M β o a w)):=by
 have hx:=g.ev x
 split
 ·rename_i cs e
  rw[e]at hx
  have:∃vs:List Value,a.eval x=.tuple vs.toArray/\cs.length=vs.length/\∀i,i<cs.length->bx M β (cs.getD i .any) (vs.getD i undef):=by
   generalize a.eval x=v at hx
   cases hx with|cy _ _ vs hl h=>exact⟨vs,rfl,hl,h⟩
  obtain⟨vs,hv,hl,hr⟩:=this
  refine DR.aV fun hq=>?_
  have hi:i<cs.length:=by have:=aQ hq;omega
  refine⟨rfl,rfl,_,?_,hr i hi⟩
  have:i<vs.length:=by omega
  simp[execOp,ho,hv,Instr.extract,this,aa]
 ·trivial
end
end Go.VL
namespace Go.VL
open Go Go.RowKit
section
variable {P:Program} {M M':Mem} {β β':Lo} {w w':World}
theorem Own.GV{o:Nat}{x:Ob}(h:Own M β w o x)(hx:x≠.dead):∃l,β o=some l:=by
 cases x with
 |cells cs=>obtain⟨b,_,_,h1,_⟩:=h;exact⟨_,h1⟩
 |vec sz es=>obtain⟨v,h1,_⟩:=h;exact⟨_,h1⟩
 |mv sz es=>obtain⟨v,h1,_⟩:=h;exact⟨_,h1⟩
 |gW cs=>obtain⟨b,_,h1,_⟩:=h;exact⟨_,h1⟩
 |l5 es=>obtain⟨v,_,h1,_⟩:=h;exact⟨_,h1⟩
 |dead=>exact absurd rfl hx
theorem Own.mono{o:Nat}{x:Ob}(h:Own M β w o x)(hM:M.le M')(hβ:Lo.le β β')(hw:∀b,x.live=true->dZ β o=some b->w'.heap[b]?=w.heap[b]?/\∀k,M'.c b k=none):Own M' β' w' o x:=by
 cases x with
 |
  cells cs =>
  obtain⟨b,vs,e,h1,h2,h3,h4,h5,h6⟩:=h
  obtain⟨q1,q2⟩:=hw b rfl (by simp[dZ,h1,Loc.block])
  exact⟨b,vs,e,hβ _ _ h1,q1.trans h2,h3,fun i hi=>(h4 i hi).mono hM hβ,q2,h6⟩
 |
  vec sz es =>
  obtain⟨v,h1,h2,h3⟩:=h
  refine⟨v,hβ _ _ h1,h2,?_⟩
  rcases h3 with h3|⟨b,off,c,vs,e,rfl,h4,h5,h6,h7,h8,h9⟩
  ·exact .inl h3
  ·obtain⟨q1,q2⟩:=hw b rfl (by simp[dZ,h1,Loc.block])
   exact .inr ⟨b,off,c,vs,e,rfl,h4,q1.trans h5,h6,fun i j hi hj=>(h7 i j hi hj).mono hM (Lo.le.refl _),q2,h9⟩
 |
  mv sz es =>
  obtain⟨v,h1,h2,h3⟩:=h
  refine⟨v,hβ _ _ h1,h2,?_⟩
  rcases h3 with h3|⟨b,off,c,vs,e,rfl,h4,h5,h6,h7,h8,h9⟩
  ·exact .inl h3
  ·obtain⟨q1,q2⟩:=hw b rfl (by simp[dZ,h1,Loc.block])
   exact .inr ⟨b,off,c,vs,e,rfl,h4,q1.trans h5,h6,fun i j hi hj=>(h7 i j hi hj).mono hM (Lo.le.refl _),q2,h9⟩
 |
  gW cs =>
  obtain⟨b,us,h1,h2⟩:=h
  exact⟨b,us,hβ _ _ h1,fun i hi=>⟨hM.c _ _ _ (h2 i hi).1,(h2 i hi).2.mono hM hβ⟩⟩
 |
  l5 es =>
  obtain⟨v,sz,h1,h2,h3⟩:=h
  refine⟨v,sz,hβ _ _ h1,h2,?_⟩
  rcases h3 with h3|⟨b,off,c,us,rfl,h4,h5,h7⟩
  ·exact .inl h3
  ·exact .inr ⟨b,off,c,us,rfl,h4,fun i hi=>hM.c _ _ _ (h5 i hi),fun i j hi hj=>(h7 i j hi hj).mono hM (Lo.le.refl _)⟩
 |dead=>trivial
theorem Own.lt{o:Nat}{x:Ob}(h:Own M β w o x)(hx:x.live=true){b:Nat}(hb:dZ β o=some b):b<w.heap.size:=by
 have key:∀(b':Nat) (ob:Go.Obj),w.heap[b']?=some ob->b'<w.heap.size:=fun b' ob hh=>(Array.getElem?_eq_some_iff.1 hh).1
 cases x with
 |
  cells cs =>
  obtain⟨b',vs,e,h1,h2,_⟩:=h
  simp[dZ,h1,Loc.block]at hb
  subst hb;exact key _ _ h2
 |
  vec sz es =>
  obtain⟨v,h1,h2,h3⟩:=h
  rcases h3 with⟨rfl,_⟩|⟨b',off,c,vs,e,rfl,h4,h5,_⟩
  ·simp[dZ,h1,Loc.block]at hb
  ·simp[dZ,h1,Loc.block]at hb
   subst hb;exact key _ _ h5
 |
  mv sz es =>
  obtain⟨v,h1,h2,h3⟩:=h
  rcases h3 with⟨rfl,_⟩|⟨b',off,c,vs,e,rfl,h4,h5,_⟩
  ·simp[dZ,h1,Loc.block]at hb
  ·simp[dZ,h1,Loc.block]at hb
   subst hb;exact key _ _ h5
 |_=>cases hx
theorem Own.Ae{o:Nat}{x:Ob}(h:Own M β w o x)(hx:x.live=true){b:Nat}(hb:dZ β o=some b):∀k,M.c b k=none:=by
 cases x with
 |
  cells cs =>
  obtain⟨b',vs,e,h1,_,_,_,h5,_⟩:=h
  simp[dZ,h1,Loc.block]at hb
  subst hb;exact h5
 |
  vec sz es =>
  obtain⟨v,h1,h2,h3⟩:=h
  rcases h3 with⟨rfl,_⟩|⟨b',off,c,vs,e,rfl,h4,h5,_,_,h6,_⟩
  ·simp[dZ,h1,Loc.block]at hb
  ·simp[dZ,h1,Loc.block]at hb
   subst hb;exact h6
 |
  mv sz es =>
  obtain⟨v,h1,h2,h3⟩:=h
  rcases h3 with⟨rfl,_⟩|⟨b',off,c,vs,e,rfl,h4,h5,_,_,h6,_⟩
  ·simp[dZ,h1,Loc.block]at hb
  ·simp[dZ,h1,Loc.block]at hb
   subst hb;exact h6
 |_=>cases hx
theorem gP.lt(h:gP M w){b k:Nat}{v:Value}(hc:M.c b k=some v):b<w.heap.size:=World.block_lt_of_cell? w _ (h b k v hc)
theorem gP.world(h:gP M w)(hw:∀b k v,M.c b k=some v->w'.heap[b]?=w.heap[b]?):gP M w':=⟨fun b k v hc =>
 (World.cell?_of_block (w:=w) (a:=⟨b,k,none⟩) (hw b k v hc)).trans (h b k v hc),fun b hb=>by
  obtain⟨k,v,hc⟩:=M.pc b hb
  rw[hw b k v hc];exact h.p b hb⟩
theorem zo.jT{A:jz}(h:zo A w)(ho:w'.os=w.os)(ht:w'.tape=w.tape)(hp:w'.output=w.output)(hs:w.heap.size<=w'.heap.size)(hb:∀b,b<A.w0.heap.size->¬A.uT b->w'.heap[b]?=w.heap[b]?):zo A w' :=
 ⟨ho.trans h.os,ht.trans h.tape,hp.trans h.output,Nat.le_trans h.size hs,fun b hlt hn=>(hb b hlt hn).trans (h.block b hlt hn)⟩
variable {n:Nat} {A:jz} {s:St} {a:Act}
theorem di.write(g:di n A s a w M β){o b:Nat}{x:Ob}(hx:s.ob o=some x)(hlv:x.live=true)(hb:dZ β o=some b)(vs:Array Value)(x':Ob)(hx':Own M β (w.setRow b vs) o x')(hlv':x'.live=true) :
 di n A {s with ob:=cx s.ob o (some x')} a (w.setRow b vs) M β:=by
 have other:∀b',b'≠b->(w.setRow b vs).heap[b']?=w.heap[b']?:=fun b' hne=>setRow_other w b b' vs hne
 refine {size:=g.size,defs:=g.defs,tm:=g.tm,le:=g.le,new:=g.new,agree:=?_,own:=?_,place:=?_,apart:=?_,us:=?_,fix:=g.Hb fun o' y hy=>(by
  by_cases e:o'=o
  ·subst e;exact⟨x,hx⟩
  ·exact⟨y,by rw[<-hy];exact(a6 _ _ _ _ e).symm⟩),cC:=?_}
 ·have hM:=(g.own o x hx).Ae hlv hb
  refine g.agree.world fun b' k v hc=>other b' fun e=>?_
  subst e;rw[hM k]at hc;cases hc
 ·intro o' y hy
  by_cases ho:o'=o
  ·subst ho
   rw[show ({s with ob:=cx s.ob o' (some x')}:St).ob o'=some x' from aN _ _ _]at hy
   cases hy;exact hx'
  ·have hy':s.ob o'=some y:=by simpa[a6 _ _ _ _ ho]using hy
   refine(g.own o' y hy').mono (Mem.le.refl _) (Lo.le.refl _) fun b' hl hb'=>⟨other b' fun e=>?_,(g.own o' y hy').Ae hl hb'⟩
   subst e
   exact g.apart o o' x y b' (Ne.symm ho) hx hlv hy' hl hb hb'
 ·intro o' y b' hy hl hb'
  by_cases ho:o'=o
  ·subst ho;exact g.place o' x b' hx hlv hb'
  ·have hy':s.ob o'=some y:=by simpa[a6 _ _ _ _ ho]using hy
   exact g.place o' y b' hy' hl hb'
 ·intro o1 o2 y1 y2 b' hne h1 l1 h2 l2 hb1 hb2
  have back:∀o' y,({s with ob:=cx s.ob o (some x')}:St).ob o'=some y->y.live=true->∃z,s.ob o'=some z/\z.live=true:=fun o' y hy hl=>by
   by_cases ho:o'=o
   ·subst ho;exact⟨x,hx,hlv⟩
   ·exact⟨y,by simpa[a6 _ _ _ _ ho]using hy,hl⟩
  obtain⟨z1,q1,r1⟩:=back o1 y1 h1 l1
  obtain⟨z2,q2,r2⟩:=back o2 y2 h2 l2
  exact g.apart o1 o2 z1 z2 b' hne q1 r1 q2 r2 hb1 hb2
 ·intro o' hu
  obtain⟨q1,q2⟩:=g.us o' hu
  refine⟨q1,?_⟩
  have ho:o'≠o:=fun e=>by subst e;rw[q2]at hx;cases hx
  show cx s.ob o (some x') o'=none
  rw[a6 _ _ _ _ ho];exact q2
 ·refine g.cC.jT rfl rfl rfl (by simp) fun b' hlt hni=>other b' fun e=>?_
  subst e
  rcases g.place o x b' hx hlv hb with h|h
  ·omega
  ·exact hni h
end
end Go.VL
namespace Go.VL
open Go Go.RowKit
section
variable {P:Program} {M M':Mem} {β β':Lo} {w w':World} {n:Nat} {A:jz} {s:St} {a:Act}
def Mem.add(M:Mem)(b:Nat)(vs:Array Value)(h1:∀v,v∈vs->v.oneCell'=true)(hb:∀k,M.c b k=none):Mem where
 c b' k:=if b'=b then vs[k]? else M.c b' k
 one b' k v h:=by
  by_cases e:b'=b
  ·rw[if_pos e]at h;exact h1 v (Array.mem_of_getElem? h)
  ·rw[if_neg e]at h;exact M.one _ _ _ h
 p b':=M.p b'\/(b'=b/\vs.size≠0)
 pc b' h:=by
  rcases h with h|⟨rfl,h⟩
  ·obtain⟨k,v,hc⟩:=M.pc b' h
   have:b'≠b:=fun e=>by subst e;rw[hb k]at hc;cases hc
   exact⟨k,v,by rw[if_neg this];exact hc⟩
  ·exact⟨0,vs[0]'(by omega),by rw[if_pos rfl];simp⟩
theorem Mem.uA{M:Mem}{b:Nat}{vs:Array Value}{h1:∀v,v∈vs->v.oneCell'=true}(h:∀k,M.c b k=none):M.le (M.add b vs h1 h):=by
 refine⟨fun b' k v hc=>?_,fun b' hb=>.inl hb⟩
 have:b'≠b:=fun e=>by subst e;rw[h k]at hc;cases hc
 simp[Mem.add,this,hc]
theorem vd{w:World}{b k:Nat}{vs:Array Value}{e:TypeId}(h:w.heap[b]?=some (.cells vs e (0,0))):w.cell? ⟨b,k,none⟩=vs[k]?:=by
 simp[World.cell?,h]
theorem di.sB(g:di n A s a w M β){o:Nat}{x:Ob}(hx:s.ob o=some x)(hlv:x.live=true) :
 ∃M',M.le M'/\di n A {s with ob:=cx s.ob o (cG (some x))} a w M' β/\∀cs b,x=.cells cs->cs≠[]->β o=some (.cells b)->M'.p b:=by
 have hown:=g.own o x hx
 have key:(∀b,dZ β o≠some b)/\(∀M',M.le M'->∀y,cG (some x)=some y->Own M' β w o y) ∨
  ∃b vs e,dZ β o=some b/\w.heap[b]?=some (.cells vs e (0,0))/\(∀k,M.c b k=none)/\(∀v,v∈vs->v.oneCell'=true)/\(∀M',M.le M'->(∀k,M'.c b k=vs[k]?)->∀y,cG (some x)=some y->Own M' β w o y)/\∀cs,x=.cells cs->vs.size=cs.length:=by
  cases x with
  |
   cells cs =>
   obtain⟨b,vs,e,h1,h2,h3,h4,h5,h6⟩:=hown
   refine .inr ⟨b,vs,e,by simp[dZ,h1,Loc.block],h2,h5,h6,fun M' hM hk y hy=>?_,fun cs' e'=>by cases e';exact h3⟩
   cases hy
   refine⟨b,fun i=>vs.getD i undef,h1,fun i hi=>⟨?_,(h4 i hi).mono hM (Lo.le.refl _)⟩⟩
   rw[hk i]
   have:i<vs.size:=by omega
   simp[this]
  |
   vec sz es =>
   obtain⟨v,h1,h2,h3⟩:=hown
   rcases h3 with⟨rfl,rfl⟩|⟨b,off,c,vs,e,rfl,h4,h5,h6,h7,h8,h9,h10⟩
   ·refine .inl ⟨fun b hb=>by simp[dZ,h1,Loc.block]at hb,fun M' hM y hy=>?_⟩
    cases hy
    exact⟨_,sz,h1,h2,.inl ⟨rfl,rfl⟩⟩
   ·refine .inr ⟨b,vs,e,by simp[dZ,h1,Loc.block],h5,h8,h10,fun M' hM hk y hy=>?_,fun cs' e'=>by cases e'⟩
    cases hy
    refine⟨_,sz,h1,h2,.inr ⟨b,off,c,fun i=>vs.getD (off+i) undef,rfl,h4,fun i hi=>?_,fun i j hi hj=>(h7 i j hi hj).mono hM (Lo.le.refl _)⟩⟩
    rw[hk]
    have:es.length*sz<=c*sz:=aX _ h4
    have:off+i<vs.size:=by omega
    simp[this]
  |
   mv sz es =>
   obtain⟨v,h1,h2,h3⟩:=hown
   rcases h3 with⟨rfl,rfl⟩|⟨b,off,c,vs,e,rfl,h4,h5,h6,h7,h8,h9,h10⟩
   ·refine .inl ⟨fun b hb=>by simp[dZ,h1,Loc.block]at hb,fun M' hM y hy=>?_⟩
    cases hy
    exact⟨_,sz,h1,h2,.inl ⟨rfl,rfl⟩⟩
   ·refine .inr ⟨b,vs,e,by simp[dZ,h1,Loc.block],h5,h8,h10,fun M' hM hk y hy=>?_,fun cs' e'=>by cases e'⟩
    cases hy
    refine⟨_,sz,h1,h2,.inr ⟨b,off,c,fun i=>vs.getD (off+i) undef,rfl,h4,fun i hi=>?_,fun i j hi hj=>(h7 i j hi hj).mono hM (Lo.le.refl _)⟩⟩
    rw[hk]
    have:es.length*sz<=c*sz:=aX _ h4
    have:off+i<vs.size:=by omega
    simp[this]
  |_=>cases hlv
 have fr:∀y,cG (some x)=some y->y.live=false:=by
  intro y hy
  cases x<;>simp[cG,Ob.live]at hy hlv
  all_goals subst hy;rfl
 have build:∀M',M.le M'->(∀b k v,M'.c b k=some v->M.c b k=some v\/dZ β o=some b)->gP M' w->(∀b,dZ β o≠some b->∀k,M'.c b k=M.c b k)->(∀y,cG (some x)=some y->Own M' β w o y) ->
  di n A {s with ob:=cx s.ob o (cG (some x))} a w M' β:=by
  intro M' hM hnew hag hoth hfz
  refine {size:=g.size,defs:=g.defs,tm:=fun t=>(g.tm t).mono hM (Lo.le.refl _),le:=g.le.trans hM,new:=?_,agree:=hag,own:=?_,place:=?_,apart:=?_,us:=?_,fix:=g.Hb fun o' y hy=>(by
   by_cases e:o'=o
   ·subst e;exact⟨x,hx⟩
   ·exact⟨y,by rw[<-hy];exact(a6 _ _ _ _ e).symm⟩),cC:=g.cC}
  ·intro b k v hc
   rcases hnew b k v hc with h|h
   ·exact g.new b k v h
   ·exact .inr (g.place o x b hx hlv h)
  ·intro o' y hy
   by_cases ho:o'=o
   ·subst ho
    have hy':cG (some x)=some y:=by simpa[aN]using hy
    exact hfz y hy'
   ·have hy':s.ob o'=some y:=by simpa[a6 _ _ _ _ ho]using hy
    refine(g.own o' y hy').mono hM (Lo.le.refl _) fun b hl hb=>⟨rfl,fun k=>?_⟩
    rw[hoth b fun hb'=>g.apart o o' x y b (Ne.symm ho) hx hlv hy' hl hb' hb]
    exact(g.own o' y hy').Ae hl hb k
  ·intro o' y b hy hl hb
   by_cases ho:o'=o
   ·subst ho
    have hy':cG (some x)=some y:=by simpa[aN]using hy
    rw[fr y hy']at hl;cases hl
   ·have hy':s.ob o'=some y:=by simpa[a6 _ _ _ _ ho]using hy
    exact g.place o' y b hy' hl hb
  ·intro o1 o2 y1 y2 b hne h1 l1 h2 l2
   have back:∀o' y,({s with ob:=cx s.ob o (cG (some x))}:St).ob o'=some y->y.live=true->s.ob o'=some y:=fun o' y hy hl=>by
    by_cases ho:o'=o
    ·subst ho
     have hy':cG (some x)=some y:=by simpa[aN]using hy
     rw[fr y hy']at hl;cases hl
    ·simpa[a6 _ _ _ _ ho]using hy
   exact g.apart o1 o2 y1 y2 b hne (back o1 y1 h1 l1) l1 (back o2 y2 h2 l2) l2
  ·intro o' hu
   obtain⟨q1,q2⟩:=g.us o' hu
   refine⟨q1,?_⟩
   have ho:o'≠o:=fun e=>by subst e;rw[q2]at hx;cases hx
   show cx s.ob o (cG (some x)) o'=none
   rw[a6 _ _ _ _ ho];exact q2
 rcases key with⟨h1,h2⟩|⟨b,vs,e,h1,h2,h3,hone,h4,h5⟩
 ·exact⟨M,Mem.le.refl M,build M (Mem.le.refl M) (fun b k v h=>.inl h) g.agree (fun _ _ _=>rfl) (h2 M (Mem.le.refl M)),fun cs b _ _ hb=>absurd (by simp[dZ,hb,Loc.block]) (h1 b)⟩
 ·refine⟨M.add b vs hone h3,Mem.uA h3,build _ (Mem.uA h3) (fun b' k v hc=>?_) ⟨fun b' k v hc=>?_,fun b' hb=>?_⟩ (fun b' hne k=>?_) (h4 _ (Mem.uA h3) fun k=>by simp[Mem.add]),fun cs b' hc hne hb=>?_⟩
  rotate_right
  ·have e1:dZ β o=some b':=by simp[dZ,hb,Loc.block]
   rw[h1]at e1;cases e1
   exact .inr ⟨rfl,by rw[h5 cs hc];cases cs<;>simp at hne |-⟩
  ·by_cases hb:b'=b
   ·subst hb;exact .inr h1
   ·left;simpa[Mem.add,hb]using hc
  ·by_cases hb:b'=b
   ·subst hb
    rw[vd h2]
    simpa[Mem.add]using hc
   ·exact g.agree b' k v (by simpa[Mem.add,hb]using hc)
  ·rcases hb with hb|⟨rfl,hb⟩
   ·exact g.agree.p b' hb
   ·exact⟨vs,e,h2,hb⟩
  ·have hb:b'≠b:=fun e=>by subst e;exact hne h1
   simp[Mem.add,hb]
theorem xf{α:Type}(f:Nat->α)(o:Nat):cx f o (f o)=f:=by
 funext j
 by_cases h:j=o
 ·subst h;rw[aN]
 ·rw[a6 _ _ _ _ h]
theorem qn{x:Ob}(h:x.live=false):cG (some x)=some x:=by cases x<;>simp[Ob.live]at h<;>rfl
theorem di.xX(ob0:Nat->Option Ob):∀(os:List Nat) {s:St} {M:Mem},di n A s a w M β->(∀o,s.ob o=ob0 o\/s.ob o=cG (ob0 o)) ->
 ∃M',M.le M'/\di n A {s with ob:=cD s.ob (fE ob0 os)} a w M' β/\∀o,o∈os->∀cs b,s.ob o=some (.cells cs)->s.ob o=ob0 o->cs≠[]->β o=some (.cells b)->M'.p b
 |[],s,M,g,_=>⟨M,Mem.le.refl M,g,fun o ho=>by cases ho⟩
 |
  o::os,s,M,g,h=>by
  have step:∃M',M.le M'/\di n A {s with ob:=cx s.ob o (cG (ob0 o))} a w M' β/\∀cs b,s.ob o=some (.cells cs)->s.ob o=ob0 o->cs≠[]->β o=some (.cells b)->M'.p b:=by
   rcases h o with ho|ho
   ·cases e:ob0 o with
    |none=>exact⟨M,Mem.le.refl M,by rw[show cG none=s.ob o by rw[ho,e];rfl,xf];exact g,fun cs b hc _=>by rw[ho,e]at hc;cases hc⟩
    |
     some x =>
     cases hl:x.live with
     |
      true =>
      obtain⟨M',q1,q2,q3⟩:=g.sB (x:=x) (by rw[ho,e]) hl
      exact⟨M',q1,q2,fun cs b hc _=>q3 cs b (by rw[ho,e]at hc;cases hc;rfl)⟩
     |false=>exact⟨M,Mem.le.refl M,by rw[qn hl,show some x=s.ob o by rw[ho,e],xf];exact g,fun cs b hc _=>by rw[ho,e]at hc;cases hc;cases hl⟩
   ·refine⟨M,Mem.le.refl M,by rw[<-ho,xf];exact g,fun cs b hc he=>?_⟩
    rw[he]at hc
    rw[he,hc]at ho
    cases ho
  obtain⟨M1,hM1,g1,p1⟩:=step
  obtain⟨M2,hM2,g2,p2⟩:=di.xX ob0 os g1 (fun o'=>by
   by_cases ho:o'=o
   ·subst ho;right;exact aN _ _ _
   ·rcases h o' with h|h
    ·left;exact(a6 _ _ _ _ ho).trans h
    ·right;exact(a6 _ _ _ _ ho).trans h)
  refine⟨M2,hM1.trans hM2,g2,fun o' ho' cs b hc he hne hb=>?_⟩
  by_cases e:o'=o
  ·subst e;exact hM2.p _ (p1 cs b hc he hne hb)
  ·rcases aH.1 ho' with h'|h'
   ·exact absurd h' e
   ·exact p2 o' h' cs b ((a6 _ _ _ _ e).trans hc) ((a6 _ _ _ _ e).trans he) hne hb
theorem di.xW(g:di n A s a w M β)(os:List Nat):∃M',M.le M'/\di n A {s with ob:=cD s.ob (fE s.ob os)} a w M' β/\∀o,o∈os->∀cs b,s.ob o=some (.cells cs)->cs≠[]->β o=some (.cells b)->M'.p b:=by
 obtain⟨M',h1,h2,h3⟩:=g.xX s.ob os fun _=>.inl rfl
 exact⟨M',h1,h2,fun o ho cs b hc=>h3 o ho cs b hc rfl⟩
theorem di.freeze(g:di n A s a w M β)(os:List Nat):∃M',M.le M'/\di n A {s with ob:=cD s.ob (fE s.ob os)} a w M' β:=by
 obtain⟨M',h1,h2,_⟩:=g.xW os
 exact⟨M',h1,h2⟩
theorem oG(ob0:Nat->Option Ob):∀(os:List Nat) (f:Nat->Option Ob) (o:Nat),(o∈os\/f o=cG (ob0 o))->cD f (fE ob0 os) o=cG (ob0 o)
 |[],f,o,h=>by rcases h with h|h;cases h;exact h
 |
  q::os,f,o,h=>by
  show cD (cx f q (cG (ob0 q))) (fE ob0 os) o=_
  refine oG ob0 os _ o ?_
  by_cases e:o=q
  ·subst e;right;exact aN _ _ _
  ·rcases h with h|h
   ·left;rcases aH.1 h with h|h
    ·exact absurd h e
    ·exact h
   ·right;rw[a6 _ _ _ _ e];exact h
def Fz(M:Mem)(β:Lo)(w:World)(ob:Nat->Option Ob)(os:List Nat):Prop:=∀o,o∈os->∀x,cG (ob o)=some x->Own M β w o x
theorem di.fz{ob:Nat->Option Ob}{os:List Nat}(g:di n A {s with ob:=cD ob (fE ob os)} a w M β):Fz M β w ob os:=fun o ho x hx=>g.own o x ((oG ob os ob o (.inl ho)).trans hx)
theorem Fz.left{ob:Nat->Option Ob}{p q:List Nat}(h:Fz M β w ob (p++q)):Fz M β w ob p:=fun o ho=>h o (aC _ ho)
theorem Fz.right{ob:Nat->Option Ob}{p q:List Nat}(h:Fz M β w ob (p++q)):Fz M β w ob q:=fun o ho=>h o (aB _ ho)
theorem pA{ob:Nat->Option Ob}{f:AV->Option (AV×List Nat)}(hf:∀c a' os v,f c=some (a',os)->Fz M β w ob os->bx M β c v->bx M dm a' v) :
 ∀(cs:List AV) (asq:List AV) (os:List Nat),mz f cs=some (asq,os)->Fz M β w ob os->asq.length=cs.length/\∀i v,i<cs.length->bx M β (cs.getD i .any) v->bx M dm (asq.getD i .any) v
 |
  [],asq,os,h,_=>by
  simp[mz]at h
  obtain⟨rfl,rfl⟩:=h
  exact⟨rfl,fun i v hi=>by simp at hi⟩
 |
  c::cs,asq,os,h,hz=>by
  unfold mz at h
  split at h
  ·rename_i a1 os1 as2 os2 h1 h2
   cases h
   obtain⟨q1,q2⟩:=pA hf cs _ _ h2 hz.right
   refine⟨by simp[q1],fun i v hi hr=>?_⟩
   cases i with
   |zero=>simpa using hf _ _ _ _ h1 hz.left (by simpa using hr)
   |succ i=>simpa using q2 i v (by simpa using hi) (by simpa using hr)
  ·cases h
theorem ot{o:Nat}{es:List (List AV)}{v:Value}(h:Own M β w o (.l5 es))(hr:bx M β (.vec o) v):bx M dm (.sl es) v:=by
 obtain⟨v',sz,h1,h2,h3⟩:=h
 have hv:v=v':=by
  cases hr with
  |vec _ _ _ sz' ho h=>rw[h1]at h;cases h;rfl
 subst hv
 rcases h3 with⟨rfl,rfl⟩|⟨b,off,c,us,rfl,h4,h5,h6⟩
 ·exact .slnil _
 ·exact .sl _ _ _ _ _ sz us h4 h2 h5 h6
theorem gF{ob:Nat->Option Ob}:∀(k:Nat) (c a':AV) (os:List Nat) (v:Value),VL.freeze ob k c=some (a',os)->Fz M β w ob os->bx M β c v->bx M dm a' v
 |0,c,a',os,v,h,_,_=>by simp[VL.freeze]at h
 |
  k+1,c,a',os,v,h,hz,hr=>by
  have ih:∀c a' os v,VL.freeze ob k c=some (a',os)->Fz M β w ob os->bx M β c v->bx M dm a' v:=fun c a' os v=>gF k c a' os v
  have ptrCase:∀o cs r,(ob o=some (.cells cs)\/ob o=some (.gW cs))->mz (VL.freeze ob k) cs=some r->a'=.ptr r.1->os=o::r.2->bx M β (.ref o 0) v->bx M dm a' v:=by
   intro o cs r ho hfz ea eo hr
   subst ea;subst eo
   obtain⟨asq,os'⟩:=r
   have hfr:cG (ob o)=some (.gW cs):=by rcases ho with ho|ho<;>rw[ho]<;>rfl
   obtain⟨b,us,h1,h2⟩:=hz o ai _ hfr
   obtain⟨q1,q2⟩:=pA ih cs _ _ hfz (fun o' ho'=>hz o' (al _ ho'))
   cases hr with
   |
    ref _ _ _ b' hb =>
    rw[h1]at hb;cases hb
    simp only at q1 q2 |-
    exact .ptr _ _ _ _ us (fun i hi=>by simpa using(h2 i (by omega)).1) fun i hi=>q2 i _ (by omega) (h2 i (by omega)).2
  unfold VL.freeze at h
  split at h
  ·rename_i o
   split at h
   ·rename_i cs ho
    cases e:mz (VL.freeze ob k) cs with
    |none=>rw[e]at h;cases h
    |some r=>rw[e]at h;cases h;exact ptrCase o cs r (.inl ho) e rfl rfl hr
   ·rename_i cs ho
    cases e:mz (VL.freeze ob k) cs with
    |none=>rw[e]at h;cases h
    |some r=>rw[e]at h;cases h;exact ptrCase o cs r (.inr ho) e rfl rfl hr
   ·cases h
  ·rename_i o
   split at h
   ·rename_i sz es ho
    cases h
    exact ot (hz o ai _ (by rw[ho];rfl)) hr
   ·rename_i es ho
    cases h
    exact ot (hz o ai _ (by rw[ho];rfl)) hr
   ·cases h
  ·cases h;cases hr with|x _ _ _ ho h=>exact h
  ·rename_i cs
   cases e:mz (VL.freeze ob k) cs with
   |none=>rw[e]at h;cases h
   |
    some r =>
    rw[e]at h;cases h
    obtain⟨q1,q2⟩:=pA ih cs _ _ (by rw[e]) hz
    cases hr with
    |
     agg _ _ vs hl ho h =>
     exact .agg _ _ _ (q1.trans hl) (fun i hi=>ho i (by omega)) fun i hi=>q2 i _ (by omega) (h i (by omega))
  ·cases h;exact .any _ _
  ·cases h;cases hr;exact .v _ _
  ·cases h;cases hr;exact .v _ _
  ·cases h;cases hr with|ptr _ _ b off us h h'=>exact .ptr _ _ _ _ us h h'
  ·cases h;cases hr with|pid _ _ b us hp h h'=>exact .pid _ _ _ us hp h h'
  ·cases h;cases hr with
   |slnil=>exact .slnil _
   |sl _ _ b off c sz us hc hs h h'=>exact .sl _ _ _ _ _ sz us hc hs h h'
  ·cases h
theorem wG{ob:Nat->Option Ob}{c a':AV}{v:Value}(h:ext ob c=some a')(hr:bx M β c v):bx M dm a' v:=by
 unfold ext at h
 split at h
 ·rename_i a1 e
  cases h
  exact gF (w:=default) _ _ _ _ _ e (fun o ho=>by cases ho) hr
 ·cases h
end
end Go.VL
namespace Go.VL
open Go Go.RowKit
section
variable {P:Program} {M:Mem} {β:Lo} {w:World} {n:Nat} {A:jz} {s:St} {a:Act}
theorem vz(es:List (List AV))(l h i:Nat)(hi:i<h-l):((es.take h).drop l).getD i []=es.getD (l+i) []:=by
 simp[aa,cO,List.getElem?_take,show l+i<h by omega]
theorem tR{es:List (List AV)}{v:Value}(hv:bx M dm (.sl es) v){l h size:Nat}(h1:l<=h)(h2:h<=es.length)(hz:l=0\/∀c,c∈es->c.length=size) :
 ∃ad len cap,v=.slice ad len cap/\len=es.length/\es.length<=cap /\
 bx M β (.sl ((es.take h).drop l)) (.slice (if cap=l then ad else ad.map (·.add (l*size))) (h-l) (cap-l)):=by
 cases hv with
 |
  slnil =>
  refine⟨none,0,0,rfl,rfl,aw _,?_⟩
  simp at h2
  subst h2
  have:l=0:=by omega
  subst this
  exact .slnil _
 |
  sl _ _ b off c sz us hc hs hh h' =>
  refine⟨_,_,c,rfl,rfl,hc,?_⟩
  have hlen:((es.take h).drop l).length=h-l:=by simp;omega
  by_cases hcl:c=l
  ·rw[if_pos hcl]
   have e0:(es.take h).drop l=[]:=List.length_eq_zero_iff.1 (by rw[hlen];omega)
   rw[e0,show h-l=([]:List (List AV)).length by simp;omega]
   exact .sl _ _ _ _ _ sz us (by simp) (fun i hi=>by simp at hi) (fun i hi=>by simp at hi) (fun i j hi=>by simp at hi)
  ·rw[if_neg hcl]
   have e1:Option.map (·.add (l*size)) (some (⟨b,off,none⟩:Addr))=some ⟨b,off+l*size,none⟩:=by simp[jE]
   rw[e1]
   by_cases hne:h-l=0
   ·have e0:(es.take h).drop l=[]:=List.length_eq_zero_iff.1 (by rw[hlen];omega)
    rw[e0,show h-l=([]:List (List AV)).length by simp;omega]
    exact .sl _ _ _ _ _ sz us (by simp) (fun i hi=>by simp at hi) (fun i hi=>by simp at hi) (fun i j hi=>by simp at hi)
   ·have e2:l*size=l*sz:=by
     rcases hz with hz|hz
     ·subst hz;simp
     ·have hl:l<es.length:=by omega
      have m1:=hs l hl
      have m2:es.getD l []∈es:=by
       have:es.getD l []=es[l]:=by simp[aa,hl]
       rw[this];exact bN hl
      rw[<-m1,hz _ m2]
    rw[e2,<-hlen]
    refine .sl _ _ _ _ _ sz (fun k=>us (l*sz+k)) (by rw[hlen];omega) (fun i hi=>?_) (fun i hi=>?_) fun i j hi hj=>?_
    ·rw[hlen]at hi
     rw[vz _ _ _ _ hi];exact hs _ (by omega)
    ·rw[hlen]at hi
     have:(h-l)*sz+l*sz<=es.length*sz:=by rw[<-Nat.add_mul];exact aX _ (by omega)
     have q:=hh (l*sz+i) (by omega)
     rw[show off+l*sz+i=off+(l*sz+i) by omega]
     exact q
    ·rw[hlen]at hi
     rw[vz _ _ _ _ hi]
     have q:=h' (l+i) j (by omega) hj
     rw[Nat.add_mul]at q
     rw[show l*sz+(i*sz+j)=l*sz+i*sz+j by omega]
     exact q
theorem lE{t el:Nat}{T:eE}(hT:dc P T)(hkn:(T t).kn=true)(hel:(T el).kn=true)(hk:(T t).k=.slice el){ρ:Operand->Value}{e:Operand->AV}(he:∀x,bx M β (e x) (ρ x)){ad:Option Addr}{len cap:Nat}(lo hi:Option Operand)(l h:Int)
 (hl:ik e lo=some l) (hh:gl e len hi=some h) (h0:0<=l) (h1:l<=h) (h2:h<=len) (hc:len<=cap) :
 (Instr.sliceAt t (.slice ad len cap) (lo.map ρ) (hi.map ρ) none).run P w=.ok (.slice (if cap=l.toNat then ad else ad.map (·.add (l.toNat*(T el).sz))) (h.toNat-l.toNat) (cap-l.toNat)) w:=by
 have hb:=qX (P:=P) (w:=w) he true len cap lo hi l h hl hh h0 h1 h2 hc
 have hu:=run_underlying ((hT t hkn).slice hk) w
 simp[Instr.sliceAt,Instr.slice,Sem.run_bind,hu,hb,(hT el hel).iZ w]
theorem sw{t:Nat}{T:eE}(hT:dc P T)(hkn:(T t).kn=true)(hk:(T t).k=.str){ρ:Operand->Value}{e:Operand->AV}(he:∀x,bx M β (e x) (ρ x))(q:ByteArray)(lo hi:Option Operand)(l h:Int)
 (hl:ik e lo=some l) (hh:gl e q.size hi=some h) (h0:0<=l) (h1:l<=h) (h2:h<=q.size) :
 (Instr.sliceAt t (.string q) (lo.map ρ) (hi.map ρ) none).run P w=.ok (.string (q.extract l.toNat h.toNat)) w:=by
 have hb:=qX (P:=P) (w:=w) he false q.size q.size lo hi l h hl hh h0 h1 h2 (aw _)
 have hu:=run_underlying ((hT t hkn).str hk) w
 simp[Instr.sliceAt,Instr.slice,Sem.run_bind,hu,hb]
theorem Bs{x:AV}{v:Value}(h:bx M β (.x x) v)(hk:LK.sl.has x):bx M dm (.sl x.elems) v:=by
 cases h with
 |
  x _ _ _ ho h =>
  rcases hk with rfl|⟨es,rfl⟩
  ·cases h;exact .slnil _
  ·exact h
theorem zO{es:List (List AV)}{v:Value}(h:bx M β (.sl es) v):bx M dm (.sl es) v:=by
 cases h with
 |slnil=>exact .slnil _
 |sl _ _ b off c sz us hc hs h h'=>exact .sl _ _ _ _ _ sz us hc hs h h'
theorem tU{ob:Nat->Option Ob}(hob:∀o x,ob o=some x->Own M β w o x){x:AV}{v:Value}(h:bx M β x v)(hx:∀o,x≠.vec o){p:Option Prop}{es:List (List AV)}{os:List Nat}
 (he:fh ob x=some (p,es,os)) (hp:∀q,p=some q->q):bx M dm (.sl es) v:=by
 unfold fh at he
 split at he
 ·cases he;exact zO h
 ·cases he;exact Bs h (hp _ rfl)
 ·cases he;cases h;exact .slnil _
 ·exact absurd rfl (hx _)
 ·cases he
theorem mO{o:Oper}{t:Nat}{x:Operand}{lo hi:Option Operand}(ho:o.op=.slice t x lo hi none){v:Value}(h:(Instr.sliceAt t (a.eval x) (lo.map a.eval) (hi.map a.eval) none).run P w=.ok v w) :
 (execOp a.eval o).run P w=.ok (.value v) w:=by
 simp[execOp,ho,h]
theorem Aa{ob:Nat->Option Ob}{T:eE}{t el:Nat}{lo:Option Operand}{es:List (List AV)}{l:Int}{e:Operand->AV}(hl:ik e lo=some l)(hw:∀q,lo.map (fun _=>cV (T el).sz es)=some q->q):l.toNat=0\/∀c,c∈es->c.length=(T el).sz:=by
 cases lo with
 |none=>simp[ik]at hl;subst hl;exact .inl rfl
 |some x=>exact .inr (hw _ rfl)
theorem C5(g:di n A s a w M β){T:eE}(hT:dc P T)(o:Oper)(t:Nat)(x:Operand)(lo hi:Option Operand)(ho:o.op=.slice t x lo hi none) :
 (dS T (ev s) s.ob o).holds fun d=>dK s n o.dst d=true->Step P n A o a w (s.app o.dst d):=by
 unfold dS
 rw[ho]
 refine DR.aV fun hkn=>?_
 have hx:=g.ev x
 split
 ·rename_i q hk e
  rw[e]at hx
  refine lJ g ?_
  split
  ·rename_i l h hl hh
   intro⟨h0,h1,h2⟩
   have:=dE hx
   exact⟨rfl,rfl,_,mO ho (by rw[this];exact sw hT hkn hk g.ev q lo hi l h hl hh h0 h1 h2),.v _ _⟩
  ·trivial
 ·rename_i el o' hk e
  rw[e]at hx
  refine DR.aV fun hel=>?_
  split
  ·rename_i sz es hes
   refine DR.aV fun hz=>?_
   have hz:=aE hz
   split
   ·rename_i l h hl hh
    intro⟨h0,h1,h2⟩ hn
    obtain⟨M',hM,g',_⟩:=g.sB hes rfl
    have hfz:=g'.own o' (.l5 es) (by rw[show cG (some (Ob.vec sz es))=some (.l5 es) from rfl];exact aN _ _ _)
    have hsl:=ot hfz (hx.mono hM (Lo.le.refl _))
    have hlen:∀c,c∈es->c.length=(T el).sz:=by
     obtain⟨v,_,q,_⟩:=g.own _ _ hes
     intro c hc
     obtain⟨i,hi,rfl⟩:=List.getElem_of_mem hc
     have:=q i hi
     rw[<-hz];simpa[aa,hi]using this
    obtain⟨ad,len,cap,hv,hlen',hcap,hr⟩:=tR (β:=β) hsl (l:=l.toNat) (h:=h.toNat) (size:=(T el).sz) (by omega) (by omega) (.inr hlen)
    subst hlen'
    refine⟨_,w,M',β,.inl (mO ho (by rw[hv];exact lE hT hkn hel hk g.ev lo hi l h hl hh h0 h1 h2 hcap)),?_⟩
    have:=di.put g' hr (fN hn)
    exact this
   ·trivial
  ·rename_i es hes
   refine lJ g ?_
   split
   ·rename_i l h hl hh
    refine DR.gj fun hw=>?_
    intro⟨h0,h1,h2⟩
    have hsl:=ot (g.own _ _ hes) hx
    obtain⟨ad,len,cap,hv,hlen',hcap,hr⟩:=tR (β:=β) hsl (l:=l.toNat) (h:=h.toNat) (size:=(T el).sz) (by omega) (by omega) (Aa (ob:=s.ob) (t:=t) hl hw)
    subst hlen'
    exact⟨rfl,rfl,_,mO ho (by rw[hv];exact lE hT hkn hel hk g.ev lo hi l h hl hh h0 h1 h2 hcap),hr⟩
   ·trivial
  ·trivial
 ·rename_i el hk hnv
  refine DR.aV fun hel=>lJ g ?_
  split
  ·rename_i p es os hes
   split
   ·rename_i l h hl hh
    refine DR.gj fun hp=>DR.gj fun hw=>?_
    intro⟨h0,h1,h2⟩
    have hsl:=tU g.own hx (fun o he=>hnv o he) hes hp
    obtain⟨ad,len,cap,hv,hlen',hcap,hr⟩:=tR (β:=β) hsl (l:=l.toNat) (h:=h.toNat) (size:=(T el).sz) (by omega) (by omega) (Aa (ob:=s.ob) (t:=t) hl hw)
    subst hlen'
    exact⟨rfl,rfl,_,mO ho (by rw[hv];exact lE hT hkn hel hk g.ev lo hi l h hl hh h0 h1 h2 hcap),hr⟩
   ·trivial
  ·trivial
 ·trivial
end
end Go.VL
namespace Go.VL
open Go Go.RowKit
section
variable {P:Program} {M:Mem} {β:Lo} {w:World} {n:Nat} {A:jz} {s:St} {a:Act}
def pz(es:List (List AV)):List Int:=es.map fun e=>(e.headD .any).toInt
theorem oD:∀(es:List (List AV)),bytesOf es=(pz es).map fun n=>a8 n.toNat
 |[]=>rfl
 |e::es=>by rw[bytesOf,oD es];rfl
theorem sH:∀{es:List (List AV)},im es->∀i,i<es.length->(es.getD i []).length=1/\(es.getD i []).getD 0 .any=.v (.int .u8 ((pz es).getD i 0))
 |[],_,i,hi=>by simp at hi
 |
  e::es,h,0,_=>by
  obtain⟨h1,⟨m,h2⟩,_⟩:=h
  refine⟨by simpa using h1,?_⟩
  rw[nF]at h2
  simp only[bp,pz,bz,nF]
  rw[h2];rfl
 |
  e::es,h,i+1,hi=>by
  have:=sH h.2.2 i (by simpa using hi)
  simpa[pz]using this
theorem se{src dst el:Nat}(hs:P.underlying src=some (.slice el))(he:P.underlying el=some (.int .u8))(hd:P.underlying dst=some .string){es:List (List AV)}{v:Value}(h:EJ w M es v)(hb:im es) :
 (convert src dst v).run P w=.ok (.string ⟨(bytesOf es).toArray⟩) w:=by
 rcases h with⟨rfl,rfl⟩|⟨b,off,c,sz,us,rfl,h1,h2,h3,h4,_⟩
 ·rw[run_convert_bytes_nil w src el hs he 0 0 dst hd];rfl
 ·rw[oD]
  refine run_convert_bytes_arg w src el hs he b off es.length c (pz es) (by simp[pz]) (fun i hi=>?_) dst hd
  obtain⟨q1,q2⟩:=sH hb i hi
  have hz:sz=1:=by rw[<-h2 i hi,q1]
  subst hz
  have r:=h4 i 0 hi (by omega)
  rw[q2]at r
  have:=dE r
  rw[h3 i (by omega),<-this];simp
theorem zl(g:di n A s a w M β){T:eE}(hT:dc P T)(o:Oper)(st dt:Nat)(x:Operand)(ho:o.op=.convert st dt x) :
 (dS T (ev s) s.ob o).holds (Quiet (sa P M β o a w)):=by
 unfold dS
 rw[ho]
 refine DR.aV fun hkn=>?_
 simp only[az]at hkn
 obtain⟨hs,hd⟩:=hkn
 have hx:=g.ev x
 split
 ·rename_i el hk1 hk2
  refine DR.aV fun hel=>?_
  simp only[az]at hel
  obtain⟨hel,hu⟩:=hel
  have hu8:(T el).k=.num .u8:=by split at hu<;>first|assumption|cases hu
  split
  ·rename_i p es os hes
   refine DR.gj fun hp=>?_
   intro hb
   have hsl:=kV g.own g.agree hx hes hp
   exact⟨rfl,rfl,_,by simp[execOp,ho,se ((hT st hs).slice hk1) ((hT el hel).num hu8) ((hT dt hd).str hk2) hsl hb],.v _ _⟩
  ·trivial
 ·rename_i k1 k2 k3 m hk1 hk2 e
  rw[e]at hx
  have hv:=dE hx
  refine⟨rfl,rfl,_,?_,.v _ _⟩
  have u1:=run_underlying ((hT st hs).num hk1) w
  have u2:=run_underlying ((hT dt hd).num hk2) w
  simp[execOp,ho,hv,convert,Sem.run_bind,u1,u2,Conv.intToInt]
 ·trivial
theorem jl{o:Oper}{b:Builtin}{xs:Array Operand}{ts:Array TypeId}(ho:o.op=.call ⟨.builtin b,xs,ts⟩) :
 ∃cs,(execOp a.eval o).run P w=(builtin b ts o.type cs (xs.map a.eval)).run P w:=by
 have key:∀c:Array Bool,(invoke (.builtin b ts o.type c) (xs.map a.eval)).run P w=(builtin b ts o.type c (xs.map a.eval)).run P w:=fun c=>rfl
 simp only[execOp,ho,resolve,Sem.run_bind,Sem.run_pure,Result.andThen_ok,key]
 exact⟨_,rfl⟩
theorem J9(g:di n A s a w M β){T:eE}(hT:dc P T)(o:Oper)(xs:Array Operand)(ts:Array TypeId)(ho:o.op=.call ⟨.builtin .len,xs,ts⟩) :
 (dS T (ev s) s.ob o).holds (Quiet (sa P M β o a w)):=by
 unfold dS
 rw[ho]
 simp only
 split
 ·rename_i x t hxs hts
  have ex:xs = #[x]:=by rw[<-Array.toArray_toList (xs:=xs),hxs]
  have et:ts = #[t]:=by rw[<-Array.toArray_toList (xs:=ts),hts]
  subst ex;subst et
  refine DR.aV fun hkn=>?_
  have hx:=g.ev x
  have run:∀v,(Builtin.len_ #[t] o.type #[a.eval x]).run P w=.ok v w->(execOp a.eval o).run P w=.ok (.value v) w:=fun v h=>by
   obtain⟨_,e⟩:=jl (P:=P) (a:=a) (w:=w) ho
   rw[e];simp[builtin,h]
  split
  ·rename_i q hk e
   rw[e]at hx
   have hv:=dE hx
   exact⟨rfl,rfl,_,run _ (by simp[Builtin.len_,Sem.run_bind,run_underlying ((hT t hkn).str hk) w,hv,goInt]),.v _ _⟩
  ·rename_i m el hk
   exact⟨rfl,rfl,_,run _ (by simp[Builtin.len_,Sem.run_bind,run_underlying ((hT t hkn).array hk) w,goInt]),.v _ _⟩
  ·rename_i el hk
   split
   ·rename_i p es os hes
    refine DR.gj fun hp=>?_
    have hsl:=kV g.own g.agree hx hes hp
    refine⟨rfl,rfl,_,run _ ?_,.v _ _⟩
    have u:=run_underlying ((hT t hkn).slice hk) w
    rcases hsl with⟨hv,rfl⟩|⟨b,off,c,sz,us,hv,_⟩
    ·simp[Builtin.len_,Sem.run_bind,u,hv,goInt]
    ·simp[Builtin.len_,Sem.run_bind,u,hv,goInt]
   ·trivial
  ·trivial
 ·trivial
theorem LZ(g:di n A s a w M β){T:eE}(o:Oper)(xs:Array Operand)(ts:Array TypeId)(ho:o.op=.call ⟨.builtin .max,xs,ts⟩) :
 (dS T (ev s) s.ob o).holds (Quiet (sa P M β o a w)):=by
 unfold dS
 rw[ho]
 simp only
 split
 ·rename_i x y hxs
  have ex:xs = #[x,y]:=by rw[<-Array.toArray_toList (xs:=xs),hxs]
  subst ex
  have hx:=g.ev x
  have hy:=g.ev y
  split
  ·rename_i k p k' q e e'
   rw[e]at hx;rw[e']at hy
   have h1:=dE hx
   have h2:=dE hy
   split
   ·refine⟨rfl,rfl,_,?_,.v _ _⟩
    obtain⟨_,e⟩:=jl (P:=P) (a:=a) (w:=w) ho
    rw[e]
    simp[builtin,Builtin.max_,h1,h2,Builtin.max2]
   ·trivial
  ·trivial
 ·trivial
theorem Le(g:di n A s a w M β){T:eE}(o:Oper)(xs:Array Operand)(ts:Array TypeId)(ho:o.op=.call ⟨.builtin .min,xs,ts⟩) :
 (dS T (ev s) s.ob o).holds (Quiet (sa P M β o a w)):=by
 unfold dS
 rw[ho]
 simp only
 split
 ·rename_i x y hxs
  have ex:xs = #[x,y]:=by rw[<-Array.toArray_toList (xs:=xs),hxs]
  subst ex
  have hx:=g.ev x
  have hy:=g.ev y
  split
  ·rename_i k p k' q e e'
   rw[e]at hx;rw[e']at hy
   have h1:=dE hx
   have h2:=dE hy
   split
   ·refine⟨rfl,rfl,_,?_,.v _ _⟩
    obtain⟨_,e⟩:=jl (P:=P) (a:=a) (w:=w) ho
    rw[e]
    simp[builtin,Builtin.min_,h1,h2,Builtin.min2]
   ·trivial
  ·trivial
 ·trivial
theorem xj(g:di n A s a w M β){T:eE}(o:Oper)(f:Nat)(fs cs:Array Operand)(ho:o.op=.makeFunc (.func f) fs cs) :
 (dS T (ev s) s.ob o).holds (Quiet (sa P M β o a w)):=by
 unfold dS
 rw[ho]
 simp only
 cases h:aJ fs.size 0 with
 |false=>simp only[cond_false];trivial
 |
  true =>
  simp only[cond_true]
  have h0:=aE h
  have e:fs = #[]:=Array.size_eq_zero_iff.1 h0
  subst e
  refine⟨rfl,rfl,.func (.func f) #[] (cs.toList.map a.eval).toArray,?_,?_⟩
  ·have:Array.map a.eval cs=(List.map a.eval cs.toList).toArray:=by apply Array.ext';simp
   simp[execOp,ho,Instr.makeFunc,this]
  ·refine .fn _ _ _ _ (by simp) fun i hi=>?_
   have hi':i<cs.size:=by simpa using hi
   simp[aa,hi']
   exact g.ev _
theorem lZ{x:AV}{v:Value}(h:bx M β x v)(ho:mS x=true):v.cells.size=(flat x).length/\(∀i,i<(flat x).length->bx M β ((flat x).getD i .any) (v.cells.getD i undef))/\∀u,u∈v.cells->u.oneCell'=true:=by
 by_cases ha:∃cs,x=.agg cs
 ·obtain⟨cs,rfl⟩:=ha
  obtain⟨vs,rfl,hl,hr,hone⟩:=fM h
  refine⟨by simp[Value.cells,flat,hl],fun i hi=>by simpa[Value.cells,flat]using hr i hi,fun u hu=>?_⟩
  simp only[Value.cells,List.mem_toArray]at hu
  obtain⟨i,hi,rfl⟩:=List.getElem_of_mem hu
  have:=hone i (by omega)
  simpa[aa,hi]using this
 ·have e1:flat x=[x]:=by cases x<;>first|rfl|exact absurd ⟨_,rfl⟩ ha
  have e2:Bx x=true:=by
   have:mS x=Bx x:=by cases x<;>first|rfl|exact absurd ⟨_,rfl⟩ ha
   rw[<-this];exact ho
  have e3:=BM h e2
  have e4:v.cells = #[v]:=by cases v<;>first|rfl|(cases e3)
  rw[e1,e4]
  refine⟨rfl,fun i hi=>?_,fun u hu=>?_⟩
  ·have:i=0:=by simp at hi;exact hi
   subst this;simpa using h
  ·simp at hu;subst hu;exact e3
theorem ja{α:Type}:∀(ys l:List α) (k:Nat),(ic l k ys).length=l.length
 |[],l,k=>rfl
 |y::ys,l,k=>by simp[ic,ja ys]
def CR(M:Mem)(β:Lo)(cs:List AV)(vs:Array Value):Prop:=vs.size=cs.length/\(∀i,i<cs.length->bx M β (cs.getD i .any) (vs.getD i undef))/\∀u,u∈vs->u.oneCell'=true
theorem CR.set{cs:List AV}{vs:Array Value}(h:CR M β cs vs){c:AV}{v:Value}(hr:bx M β c v)(ho:v.oneCell'=true)(k:Nat):CR M β (cs.set k c) (vs.setIfInBounds k v):=by
 obtain⟨h1,h2,h3⟩:=h
 refine⟨by simp[h1],fun i hi=>?_,fun u hu=>?_⟩
 ·have hi':i<cs.length:=by simpa using hi
  by_cases e:k=i
  ·subst e
   have h4:k<vs.size:=by omega
   simp[aa,hi',h4]
   exact hr
  ·have:=h2 i hi'
   simpa[aa,List.getElem?_set,e,Array.getElem?_setIfInBounds]using this
 ·rcases Array.mem_or_eq_of_mem_setIfInBounds hu with h|h
  ·exact h3 u h
  ·subst h;exact ho
theorem CR.ic{cs:List AV}{vs:Array Value}:∀(ys:List AV) (us:List Value) (k j:Nat) {cs:List AV} {vs:Array Value},CR M β cs vs->us.length=ys.length->(∀i,i<ys.length->bx M β (ys.getD i .any) (us.getD i undef))->(∀u,u∈us->u.oneCell'=true) ->
 CR M β (VL.ic cs (k+j) ys) ((us.zipIdx j).foldl (fun cs (c,j)=>cs.setIfInBounds (k+j) c) vs)
 |[],[],k,j,cs,vs,h,_,_,_=>h
 |[],_::_,_,_,_,_,_,h,_,_=>by simp at h
 |_::_,[],_,_,_,_,_,h,_,_=>by simp at h
 |
  y::ys,u::us,k,j,cs,vs,h,hl,hr,ho=>by
  have h1:=h.set (hr 0 (by simp)) (ho u ai) (k+j)
  have:=CR.ic (cs:=cs) (vs:=vs) ys us k (j+1) h1 (by simpa using hl) (fun i hi=>by simpa using hr (i+1) (by simpa using hi)) fun q hq=>ho q (al _ hq)
  simpa[VL.ic,List.zipIdx_cons,Nat.add_assoc]using this
theorem uE{e:Operand->AV}{ρ:Operand->Value}(he:∀x,bx M β (e x) (ρ x))(place:Nat->Option (Nat×Nat))(offOf:Nat->Nat):∀(ps:List (Nat×Operand)) {cs:List AV} {vs:Array Value},CR M β cs vs ->
 (∀p,p∈ps->mS (e p.2)=true/\place p.1=some (offOf p.1,(flat (e p.2)).length)/\offOf p.1+(flat (e p.2)).length<=cs.length) ->
 ∃vs',Instr.fill place vs (ps.map fun p=>(p.1,ρ p.2))=some vs'/\CR M β (ps.foldl (fun cs p=>VL.ic cs (offOf p.1) (flat (e p.2))) cs) vs'
 |[],cs,vs,h,_=>⟨vs,rfl,h⟩
 |
  p::ps,cs,vs,h,hp=>by
  obtain⟨h1,h2,h3⟩:=hp p ai
  obtain⟨f1,f2,f3⟩:=lZ (he p.2) h1
  have step:=CR.ic (cs:=cs) (vs:=vs) (flat (e p.2)) (ρ p.2).cells.toList (offOf p.1) 0 h (by simpa using f1) (fun i hi=>by
   have:=f2 i hi
   have hi':i<(ρ p.2).cells.size:=by omega
   simpa[aa,hi']using this) fun u hu=>f3 u (by simpa using hu)
  obtain⟨vs',q1,q2⟩:=uE he place offOf ps step fun q hq=>by
   obtain⟨r1,r2,r3⟩:=hp q (al _ hq)
   exact⟨r1,r2,by simpa[ja]using r3⟩
  refine⟨vs',?_,by simpa using q2⟩
  rw[bz]
  unfold Instr.fill
  rw[h2]
  simp only
  rw[if_neg (by simp[f1,h.1];omega)]
  rw[<-q1]
  congr 1
  rw[<-Array.foldl_toList]
  simp[Array.toList_zipIdx]
end
end Go.VL
namespace Go.VL
open Go Go.RowKit
section
variable {P:Program} {M:Mem} {β:Lo} {w w':World} {n:Nat} {A:jz} {s:St} {a:Act}
def kill(k:Option Nat)(f:Nat->Option Ob):Nat->Option Ob:=match k with|some o=>cx f o none|none=>f
theorem di.fresh(g:di n A s a w M β){d:Nat}(hd:s.us d=false)(k:Option Nat)(hk:∀o,k=some o->∃x,s.ob o=some x/\x.live=true)
 (ho:w'.os=w.os) (ht:w'.tape=w.tape) (hp:w'.output=w.output) (hs:w.heap.size<=w'.heap.size) (hw:∀b,b<w.heap.size->(∀o,k=some o->dZ β o≠some b)->w'.heap[b]?=w.heap[b]?)
 (l:Loc) (x:Ob) (hx:Own M (cx β d (some l)) w' d x) (hl:∀b,l.block=some b->w.heap.size<=b\/∃o,k=some o/\dZ β o=some b) :
 di n A {s with ob:=cx (kill k s.ob) d (some x),us:=cx s.us d true} a w' M (cx β d (some l)):=by
 have hβ:Lo.le β (cx β d (some l)):=fun o q hq=>by
  by_cases ho:o=d
  ·subst ho;rw[(g.us o hd).1]at hq;cases hq
  ·rw[a6 _ _ _ _ ho];exact hq
 have hbd:∀o b,o≠d->dZ (cx β d (some l)) o=some b->dZ β o=some b:=fun o b ho hb=>by
  unfold dZ at hb |-;rw[a6 _ _ _ _ ho]at hb;exact hb
 have hdd:dZ (cx β d (some l)) d=l.block:=by unfold dZ;rw[aN];rfl
 have hobs:∀o y,o≠d->cx (kill k s.ob) d (some x) o=some y->s.ob o=some y/\k≠some o:=fun o y hne hy=>by
  rw[a6 _ _ _ _ hne]at hy
  cases k with
  |none=>exact⟨hy,by simp⟩
  |
   some o' =>
   by_cases e:o=o'
   ·subst e;simp only[kill]at hy;rw[aN]at hy;cases hy
   ·simp only[kill]at hy;rw[a6 _ _ _ _ e]at hy;exact⟨hy,by simp;exact fun h=>e h.symm⟩
 have old:∀o y b,s.ob o=some y->y.live=true->dZ β o=some b->k≠some o->w'.heap[b]?=w.heap[b]?:=fun o y b hy hl hb hne=>by
  refine hw b ((g.own o y hy).lt hl hb) fun o' ho' hb'=>?_
  obtain⟨x',hx',hl'⟩:=hk o' ho'
  exact g.apart o' o x' y b (fun e=>hne (by rw[<-e];exact ho')) hx' hl' hy hl hb' hb
 refine {size:=g.size,defs:=g.defs,tm:=fun t=>(g.tm t).mono (Mem.le.refl _) hβ,le:=g.le,new:=g.new,agree:=?_,own:=?_,place:=?_,apart:=?_,us:=?_,fix:=g.PG hd fun o y hne hy=>⟨y,(hobs o y hne hy).1⟩,cC:=?_}
 ·refine g.agree.world fun b k' v hc=>hw b (g.agree.lt hc) fun o ho' hb'=>?_
  obtain⟨x',hx',hl'⟩:=hk o ho'
  rw[(g.own o x' hx').Ae hl' hb']at hc;cases hc
 ·intro o y hy
  by_cases ho:o=d
  ·subst ho
   have:x=y:=by simpa[aN]using hy
   subst this;exact hx
  ·obtain⟨hy',hne⟩:=hobs o y ho hy
   exact(g.own o y hy').mono (Mem.le.refl _) hβ fun b hlv hb=>⟨old o y b hy' hlv hb hne,(g.own o y hy').Ae hlv hb⟩
 ·intro o y b hy hlv hb
  by_cases ho:o=d
  ·subst ho
   rw[hdd]at hb
   rcases hl b hb with h|⟨o',ho',hb'⟩
   ·exact .inl (Nat.le_trans g.cC.size h)
   ·obtain⟨x',hx',hl'⟩:=hk o' ho'
    exact g.place o' x' b hx' hl' hb'
  ·exact g.place o y b (hobs o y ho hy).1 hlv (hbd o b ho hb)
 ·have dcase:∀o y b,o≠d->s.ob o=some y->y.live=true->k≠some o->dZ β o=some b->l.block≠some b:=fun o y b ho hy hlv hne hb hb'=>by
   rcases hl b hb' with h|⟨o',ho',hb''⟩
   ·have:=(g.own o y hy).lt hlv hb;omega
   ·obtain⟨x',hx',hl'⟩:=hk o' ho'
    exact g.apart o' o x' y b (fun e=>hne (by rw[<-e];exact ho')) hx' hl' hy hlv hb'' hb
  intro o o' y y' b hne hy hlv hy' hlv' hb hb'
  by_cases ho:o=d
  ·subst ho
   have ho':o'≠o:=Ne.symm hne
   obtain⟨q1,q2⟩:=hobs o' y' ho' hy'
   rw[hdd]at hb
   exact dcase o' y' b ho' q1 hlv' q2 (hbd o' b ho' hb') hb
  ·obtain⟨p1,p2⟩:=hobs o y ho hy
   by_cases ho':o'=d
   ·subst ho'
    rw[hdd]at hb'
    exact dcase o y b ho p1 hlv p2 (hbd o b ho hb) hb'
   ·obtain⟨q1,q2⟩:=hobs o' y' ho' hy'
    exact g.apart o o' y y' b hne p1 hlv q1 hlv' (hbd o b ho hb) (hbd o' b ho' hb')
 ·intro o hu
  by_cases ho:o=d
  ·subst ho
   have:({s with ob:=cx (kill k s.ob) o (some x),us:=cx s.us o true}:St).us o=true:=aN _ _ _
   rw[this]at hu;cases hu
  ·have hu':s.us o=false:=by simpa[a6 _ _ _ _ ho]using hu
   obtain⟨q1,q2⟩:=g.us o hu'
   refine⟨by rw[a6 _ _ _ _ ho];exact q1,?_⟩
   show cx (kill k s.ob) d (some x) o=none
   rw[a6 _ _ _ _ ho]
   cases k with
   |none=>exact q2
   |
    some o' =>
    by_cases e:o=o'
    ·subst e;exact aN _ _ _
    ·simp only[kill];rw[a6 _ _ _ _ e];exact q2
 ·refine g.cC.jT ho ht hp hs fun b hlt hni=>hw b (Nat.lt_of_lt_of_le hlt g.cC.size) fun o ho' hb'=>?_
  obtain⟨x',hx',hl'⟩:=hk o ho'
  rcases g.place o x' b hx' hl' hb' with h|h
  ·omega
  ·exact hni h
theorem qy{d:Nat}{dst:Option Nat}{de:De}(h:dK s n dst de=true)(hn:de.new=[d]):s.us d=false:=by
 unfold dK at h
 rw[hn]at h
 simp at h
 exact h.1.1
theorem ig.s5{t:Nat}{ti:TI}(h:ig P t ti):∃i z,P.info? t=some i/\i.size=ti.sz/\i.bytes=ti.bytes/\i.zero=some z/\CR M β (jg ti) z.cells/\z.cells.size=ti.sz:=by
 obtain⟨i,z,hi,hs,hb,hz,hc,_⟩:=h.info
 have hlen:z.cells.size=ti.lk.length:=by have:=sA hc;simpa using this.symm
 refine⟨i,z,hi,hs,hb,hz,⟨by simp[jg,hlen],fun j hj=>?_,fun u hu=>sZ hc u (by simpa using hu)⟩,hlen⟩
 have hj':j<ti.lk.length:=by simpa[jg]using hj
 have:=sN (M:=M) (β:=β) hc j hj'
 have e:j<z.cells.size:=by omega
 simpa[jg,aa,e]using this
theorem CR.cells{cs:List AV}{vs:Array Value}(h:CR M β cs vs){d b:Nat}{e:TypeId}(hw:w.heap[b]?=some (.cells vs e (0,0)))(hM:∀k,M.c b k=none)(hb:β d=some (.cells b)):Own M β w d (.cells cs) :=
 ⟨b,vs,e,hb,hw,h.1,h.2.1,hM,h.2.2⟩
theorem CR.mono{M':Mem}{β':Lo}{cs:List AV}{vs:Array Value}(h:CR M β cs vs)(hM:M.le M')(hβ:Lo.le β β'):CR M' β' cs vs:=⟨h.1,fun i hi=>(h.2.1 i hi).mono hM hβ,h.2.2⟩
theorem xP(g:di n A s a w M β)(k:Nat):M.c w.heap.size k=none:=by
 cases e:M.c w.heap.size k with
 |none=>rfl
 |some v=>have:=g.agree.lt e;omega
theorem vE(g:di n A s a w M β){d:Nat}(hd:s.us d=false)(l:Loc):Lo.le β (cx β d (some l)):=fun o q hq=>by
 by_cases ho:o=d
 ·subst ho;rw[(g.us o hd).1]at hq;cases hq
 ·rw[a6 _ _ _ _ ho];exact hq
theorem mW(g:di n A s a w M β){o:Oper}{d:Nat}{cs:List AV}{vs:Array Value}{e:TypeId}(hcr:CR M β cs vs)
 (hr:(execOp a.eval o).run P w=.ok (.value (.pointer (some ⟨w.heap.size,0,none⟩))) (w.alloc (.cells vs e))) (hn:dK s n o.dst {val:=.ref d 0,cx:=[(d,some (.cells cs))],new:=[d]}=true) :
 Step P n A o a w (s.app o.dst {val:=.ref d 0,cx:=[(d,some (.cells cs))],new:=[d]}):=by
 have hd:=qy hn rfl
 have hle:=vE g hd (.cells w.heap.size)
 have g':=g.fresh hd none (fun o h=>by cases h) (w':=w.alloc (.cells vs e)) rfl rfl rfl (by simp) (fun b hb _=>heap_alloc_old w _ b hb) (.cells w.heap.size) (.cells cs)
  ((hcr.mono (Mem.le.refl _) hle).cells (heap_alloc_new w _) (xP g) (aN _ _ _)) (fun b hb=>.inl (by simp[Loc.block]at hb;omega))
 have g2:=di.put g' (x:=.ref d 0) (v:=.pointer (some ⟨w.heap.size,0,none⟩)) (.ref _ _ _ _ (aN _ _ _)) (fN hn)
 exact⟨_,_,M,cx β d (some (.cells w.heap.size)),.inl hr,g2⟩
theorem CZ(g:di n A s a w M β){T:eE}(hT:dc P T)(o:Oper)(t:Nat)(ho:o.op=.alloc t) :
 (dS T (ev s) s.ob o).holds fun d=>dK s n o.dst d=true->Step P n A o a w (s.app o.dst d):=by
 unfold dS
 rw[ho]
 refine DR.aV fun hkn=>?_
 split
 ·rename_i d hd
  intro hn
  obtain⟨i,z,hi,hs,hb,hz,hcr,hsz⟩:=(hT t hkn).s5 (M:=M) (β:=β)
  exact mW (P:=P) g hcr (by simp[execOp,ho,Instr.alloc,zeroValue,typeInfo,hi,hz,newVar,newRow];rfl) hn
 ·trivial
theorem L9(g:di n A s a w M β){T:eE}(hT:dc P T)(o:Oper)(t:Nat)(x:Operand)(ho:o.op=.box t x) :
 (dS T (ev s) s.ob o).holds fun d=>dK s n o.dst d=true->Step P n A o a w (s.app o.dst d):=by
 unfold dS
 rw[ho]
 refine DR.aV fun hkn=>?_
 split
 ·rename_i d hd
  refine DR.aV fun hq=>?_
  rw[az]at hq
  intro hn
  obtain⟨f1,f2,f3⟩:=lZ (g.ev x) hq.2
  exact mW (P:=P) g (cs:=flat (ev s x)) (vs:=(a.eval x).cells) (e:=t) ⟨f1,f2,f3⟩ (by simp[execOp,ho,Instr.box,newVar,newRow]) hn
 ·trivial
end
end Go.VL
namespace Go.VL
open Go Go.RowKit
section
variable {P:Program} {M:Mem} {β:Lo} {w w':World} {n:Nat} {A:jz} {s:St} {a:Act}
theorem i7{α:Type}(l1 l2:List α)(i:Nat)(d:α):(l1++l2).getD i d=if i<l1.length then l1.getD i d else l2.getD (i-l1.length) d:=by
 simp only[aa,a7]
 split<;>rfl
def iM{α:Type}(l:List α)(k:Nat)(ys:List α):List α:=l.take k++ys++l.drop (k+ys.length)
theorem kh{α:Type}(l:List α)(k:Nat)(ys:List α)(h:k+ys.length<=l.length):(iM l k ys).length=l.length:=by
 simp[iM];omega
theorem j3{α:Type}(l:List α)(k:Nat)(ys:List α)(h:k+ys.length<=l.length)(i:Nat)(d:α):(iM l k ys).getD i d=if k<=i/\i<k+ys.length then ys.getD (i-k) d else l.getD i d:=by
 have ht:(l.take k).length=k:=by simp;omega
 unfold iM
 rw[i7,i7]
 simp only[aq,ht]
 by_cases h1:i<k
 ·rw[if_pos (by omega),if_pos h1,if_neg (by omega)]
  simp[aa,List.getElem?_take,h1]
 ·by_cases h2:i<k+ys.length
  ·rw[if_pos h2,if_neg h1,if_pos ⟨by omega,h2⟩]
  ·rw[if_neg h2,if_neg (by omega)]
   simp only[aa,cO]
   congr 2
   omega
theorem pL{α:Type}:∀(ys l:List α) (k i:Nat) (d:α),k+ys.length<=l.length->(ic l k ys).getD i d=if k<=i/\i<k+ys.length then ys.getD (i-k) d else l.getD i d
 |
  [],l,k,i,d,h=>by
  rw[if_neg (by simp only[aG];omega)];rfl
 |
  y::ys,l,k,i,d,h=>by
  simp only[au]at h |-
  rw[ic,pL ys (l.set k y) (k+1) i d (by simp;omega)]
  by_cases h1:k+1<=i/\i<k+1+ys.length
  ·rw[if_pos h1,if_pos (by omega)]
   rw[show i-k=(i-(k+1))+1 by omega]
   rfl
  ·rw[if_neg h1]
   by_cases h2:i=k
   ·subst h2
    rw[if_pos (by omega)]
    have:i<l.length:=by omega
    simp[aa,this]
   ·rw[if_neg (by omega)]
    simp[aa,List.getElem?_set,Ne.symm h2]
theorem eI(vs:Array Value)(i:Nat):vs.toList.getD i undef=vs.getD i undef:=by simp[aa]
theorem lD(l:List Value)(i:Nat):l.toArray.getD i undef=l.getD i undef:=by simp[aa]
theorem nn{α:Type}{l:List α}{k:Nat}{ys:List α}{x:α}(h:x∈iM l k ys):x∈l\/x∈ys:=by
 unfold iM at h
 rcases aK.1 h with h|h
 ·rcases aK.1 h with h|h
  ·exact .inl (List.mem_of_mem_take h)
  ·exact .inr h
 ·exact .inl (List.mem_of_mem_drop h)
theorem CR.iM{cs ys:List AV}{vs us:Array Value}(h:CR M β cs vs)(h':CR M β ys us){k:Nat}(hk:k+ys.length<=cs.length):CR M β (VL.ic cs k ys) (VL.iM vs.toList k us.toList).toArray:=by
 have e1:us.toList.length=ys.length:=by simp[h'.1]
 have e2:vs.toList.length=cs.length:=by simp[h.1]
 refine⟨by rw[List.size_toArray,kh _ _ _ (by omega),ja,e2],fun i hi=>?_,fun u hu=>?_⟩
 ·rw[ja]at hi
  rw[pL _ _ _ _ _ hk,lD,j3 _ _ _ (by omega),e1]
  by_cases hc:k<=i/\i<k+ys.length
  ·rw[if_pos hc,if_pos hc,eI];exact h'.2.1 _ (by omega)
  ·rw[if_neg hc,if_neg hc,eI];exact h.2.1 i hi
 ·rcases nn (by simpa using hu)with hu|hu
  ·exact h.2.2 u (by simpa using hu)
  ·exact h'.2.2 u (by simpa using hu)
theorem oH{t b k:Nat}{T:eE}(hT:dc P T)(hkn:(T t).kn=true){v:Value}{vs:Array Value}{e:TypeId}(hw:w.heap[b]?=some (.cells vs e (0,0)))(hs:v.cells.size=(T t).sz)(hk:k+v.cells.size<=vs.size)
 (h1:∀u,u∈v.cells->u.oneCell'=true) :
 (Instr.storeAt t (.pointer (some ⟨b,k,none⟩)) v).run P w=.ok () (w.setRow b (iM vs.toList k v.cells.toList).toArray):=by
 have:=run_storeCells_at P b k e v.cells.toList 0 vs w hw (by simpa using hk) (fun u hu=>h1 u (by simpa using hu))
 simp only[bX]at this
 unfold Instr.storeAt
 simp only[Instr.sureAddr,Sem.run_bind,Sem.run_pure,Result.andThen_ok]
 unfold storeVar
 rw[Sem.run_bind,(hT t hkn).iZ w]
 simp only[Result.andThen_ok]
 rw[if_neg (by simp[hs])]
 exact this
theorem Step.skip{o:Oper}{d:De}{M':Mem}{β':Lo}(hr:(execOp a.eval o).run P w=.ok .skip w')(hv:d.val=.any)(hn:dK s n o.dst d=true)(g:di n A {s with ob:=cD s.ob d.cx,us:=eY s.us d.new} a w' M' β'):Step P n A o a w (s.app o.dst d):=by
 refine⟨undef,w',M',β',.inr ⟨hr,rfl⟩,?_⟩
 have:=di.put g (x:=.any) (v:=undef) (.any _ _) (fN hn)
 rw[<-hv]at this
 exact this
theorem Step.val{o:Oper}{d:De}{M':Mem}{β':Lo}{v:Value}(hr:(execOp a.eval o).run P w=.ok (.value v) w')(hv:bx M' β' d.val v)(hn:dK s n o.dst d=true)(g:di n A {s with ob:=cD s.ob d.cx,us:=eY s.us d.new} a w' M' β'):Step P n A o a w (s.app o.dst d) :=
 ⟨v,w',M',β',.inl hr,di.put g hv (fN hn)⟩
theorem kT{o k:Nat}{v:Value}(h:bx M β (.ref o k) v):∃b,β o=some (.cells b)/\v=.pointer (some ⟨b,k,none⟩):=by
 cases h with|ref _ _ _ b hb=>exact⟨b,hb,rfl⟩
theorem BH{o k:Nat}{v:Value}(h:bx M β (.nt o k) v):∃b,β o=some (.cells b)/\v=.pointer (some ⟨b,k,none⟩):=by
 cases h with|nt _ _ _ b hb=>exact⟨b,hb,rfl⟩
theorem pV(g:di n A s a w M β){T:eE}(hT:dc P T)(o:Oper)(t:Nat)(x y:Operand)(ho:o.op=.store t x y)(hkn:(T t).kn=true)(hl:(flat (ev s y)).length=(T t).sz)(h1:mS (ev s y)=true)
 {m k b:Nat} {cs:List AV} (hb:β m=some (.cells b)) (hv:a.eval x=.pointer (some ⟨b,k,none⟩)) (hm:s.ob m=some (.cells cs)) (hk:k+(flat (ev s y)).length<=cs.length)
 (hn:dK s n o.dst {val:=.any,cx:=[(m,some (.cells (ic cs k (flat (ev s y)))))]}=true):Step P n A o a w (s.app o.dst {val:=.any,cx:=[(m,some (.cells (ic cs k (flat (ev s y)))))]}):=by
 obtain⟨b',vs,e,q1,q2,q3,q4,q5,q6⟩:=g.own m _ hm
 rw[hb]at q1;cases q1
 have f:=lZ (g.ev y) h1
 have hcr:CR M β cs vs:=⟨q3,q4,q6⟩
 have hcr':=hcr.iM (β:=β) (us:=(a.eval y).cells) f hk
 have hx':Own M β (w.setRow b (iM vs.toList k (a.eval y).cells.toList).toArray) m (.cells (ic cs k (flat (ev s y)))) :=
  CR.cells hcr' (setRow_heap w b vs _ e (0,0) q2) q5 hb
 refine Step.skip ?_ rfl hn (g.write hm rfl (by simp[dZ,hb,Loc.block]) _ _ hx' rfl)
 have hr:=oH (P:=P) hT hkn (v:=a.eval y) (b:=b) (k:=k) q2 (by rw[f.1,hl]) (by rw[f.1,q3];exact hk) f.2.2
 simp[execOp,ho,hv,hr]
theorem zr(g:di n A s a w M β){T:eE}(hT:dc P T)(o:Oper)(t:Nat)(x y:Operand)(ho:o.op=.store t x y)(hkn:(T t).kn=true)(hl:(flat (ev s y)).length=(T t).sz)(h1:mS (ev s y)=true)
 {m i k sz:Nat} {es:List (List AV)} {xs:List AV} (hx:ev s x=.mo m i k) (hm:s.ob m=some (.vec sz es)) (hf:mz (VL.freeze s.ob eB) (flat (ev s y))=some (xs,[])) (hi:i<es.length) (hk:k+xs.length<=sz)
 (hn:dK s n o.dst {val:=.any,cx:=[(m,some (.vec sz (es.set i (ic (es.getD i []) k xs))))]}=true):Step P n A o a w (s.app o.dst {val:=.any,cx:=[(m,some (.vec sz (es.set i (ic (es.getD i []) k xs))))]}):=by
 have hrx:=g.ev x
 rw[hx]at hrx
 have:∃sz' b off n' c,β m=some (.vec (.slice (some ⟨b,off,none⟩) n' c) sz')/\a.eval x=.pointer (some ⟨b,off+i*sz'+k,none⟩):=by
  generalize a.eval x=v at hrx
  cases hrx with|mo _ _ _ _ sz' b off n' c hb=>exact⟨sz',b,off,n',c,hb,rfl⟩
 obtain⟨sz',b,off,n',c,hb,hv⟩:=this
 obtain⟨v',q1,q2,q3⟩:=g.own m _ hm
 rw[hb]at q1;cases q1
 rcases q3 with⟨q3,_⟩|⟨b',off',c',vs,e,q3,q4,q5,q6,q7,q8,q9,q10⟩
 ·cases q3
 ·injection q3 with e1 e2 e3
  injection e1 with e1
  injection e1 with e1 e4
  subst e1;subst e4;subst e2;subst e3
  have f:=lZ (g.ev y) h1
  obtain⟨z1,z2⟩:=pA (M:=M) (β:=β) (w:=w) (ob:=s.ob) (fun c a' os v=>gF eB c a' os v) _ _ _ hf (fun o ho=>by cases ho)
  have hlt:i*sz+sz<=es.length*sz:=by rw[<-cZ];exact aX _ hi
  have hcc:es.length*sz<=c*sz:=aX _ q4
  have hfit:off+i*sz+k+(a.eval y).cells.size<=vs.size:=by rw[f.1];omega
  have ul:(a.eval y).cells.toList.length=xs.length:=by simp[f.1,z1]
  have vl:off+i*sz+k+(a.eval y).cells.toList.length<=vs.toList.length:=by rw[ul];simp;rw[f.1]at hfit;omega
  have hx':Own M β (w.setRow b (iM vs.toList (off+i*sz+k) (a.eval y).cells.toList).toArray) m (.vec sz (es.set i (ic (es.getD i []) k xs))):=by
   refine⟨_,hb,fun j hj=>?_,.inr ⟨b,off,c,_,e,by simp,by simpa using q4,setRow_heap w b vs _ e (0,0) q5,?_,fun i' j hi' hj=>?_,q8,q9,fun u hu=>?_⟩⟩
   ·have hj':j<es.length:=by simpa using hj
    by_cases e:i=j
    ·subst e
     simp only[aa,List.getElem?_set,hi,if_true,cz,ja]
     have:=q2 i hi
     simpa[aa]using this
    ·have:=q2 j hj'
     simpa[aa,List.getElem?_set,e]using this
   ·rw[List.size_toArray,kh _ _ _ vl];simpa using q6
   ·have hi'':i'<es.length:=by simpa using hi'
    rw[lD,j3 _ _ _ vl,ul]
    have old:=q7 i' j hi'' hj
    by_cases e:i=i'
    ·subst e
     have e2:(es.set i (ic (es.getD i []) k xs)).getD i []=ic (es.getD i []) k xs:=by simp[aa,hi]
     rw[e2,pL _ _ _ _ _ (by rw[q2 i hi];exact hk)]
     by_cases hc:k<=j/\j<k+xs.length
     ·rw[if_pos hc,if_pos (by omega)]
      have hq:=f.2.1 (j-k) (by omega)
      have:=z2 (j-k) _ (by omega) hq
      rw[eI]
      rw[show off+(i*sz+j)-(off+i*sz+k)=j-k by omega]
      exact this
     ·rw[if_neg hc,if_neg (by omega),eI];exact old
    ·have e2:(es.set i (ic (es.getD i []) k xs)).getD i' []=es.getD i' []:=by simp[aa,List.getElem?_set,e]
     rw[e2]
     have:¬(off+i*sz+k<=off+(i'*sz+j)/\off+(i'*sz+j)<off+i*sz+k+xs.length):=by
      intro⟨p1,p2⟩
      rcases Nat.lt_or_gt_of_ne e with h|h
      ·have:i*sz+sz<=i'*sz:=by rw[<-cZ];exact aX _ h
       omega
      ·have:i'*sz+sz<=i*sz:=by rw[<-cZ];exact aX _ h
       omega
     rw[if_neg this,eI];exact old
   ·rcases nn (by simpa using hu)with hu|hu
    ·exact q10 u (by simpa using hu)
    ·exact f.2.2 u (by simpa using hu)
  refine Step.skip ?_ rfl hn (g.write hm rfl (by simp[dZ,hb,Loc.block]) _ _ hx' rfl)
  have hr:=oH (P:=P) hT hkn (v:=a.eval y) (b:=b) (k:=off+i*sz+k) q5 (by rw[f.1,hl]) hfit f.2.2
  simp[execOp,ho,hv,hr]
theorem D1(g:di n A s a w M β){T:eE}(hT:dc P T)(o:Oper)(t:Nat)(x y:Operand)(ho:o.op=.store t x y) :
 (dS T (ev s) s.ob o).holds fun d=>dK s n o.dst d=true->Step P n A o a w (s.app o.dst d):=by
 unfold dS
 rw[ho]
 refine DR.aV fun hkn=>DR.aV fun hq=>?_
 rw[az]at hq
 have hl:=aE hq.1
 have hx:=g.ev x
 split
 ·rename_i m k e
  rw[e]at hx
  split
  ·rename_i cs hm
   refine DR.aV fun hk=>?_
   intro hn
   obtain⟨b,hb,hv⟩:=kT hx
   exact pV g hT o t x y ho hkn hl hq.2 hb hv hm (aQ hk) hn
  ·trivial
 ·rename_i m k e
  rw[e]at hx
  split
  ·rename_i cs hm
   intro hk hn
   obtain⟨b,hb,hv⟩:=BH hx
   exact pV g hT o t x y ho hkn hl hq.2 hb hv hm hk hn
  ·trivial
 ·rename_i m i k e
  split
  ·rename_i sz es hm
   split
   ·rename_i xs hf
    intro⟨hi,hk⟩ hn
    exact zr g hT o t x y ho hkn hl hq.2 e hm hf hi hk hn
   ·trivial
  ·trivial
 ·trivial
end
end Go.VL
namespace Go.VL
open Go Go.RowKit
section
variable {P:Program} {M:Mem} {β:Lo} {w w':World} {n:Nat} {A:jz} {s:St} {a:Act}
theorem sW{T:eE}(hT:dc P T):∀(fl:List Field),(fl.map fun f=>(f.offset,f.type)).all (fun p=>(T p.2).kn)=true ->
 fl.mapM (fun f=>(P.info? f.type).map fun i=>(f.offset,i.size))=some (fl.map fun f=>(f.offset,(T f.type).sz))
 |[],_=>rfl
 |
  f::fl,h=>by
  simp only[bz,cT,az]at h
  obtain⟨i,z,hi,hs,_⟩:=(hT f.type h.1).info
  rw[List.mapM_cons,sW hT fl h.2,hi]
  simp[hs,TI.sz]
theorem sS{T:eE}{fs:List (Nat×Nat)}{m:Nat}{e:Operand->AV}:∀{ps:List (Nat×Operand)},qZ T fs m e ps=true->∀p,p∈ps->∃off ft,fs[p.1]?=some (off,ft)/\(flat (e p.2)).length=(T ft).sz/\off+(flat (e p.2)).length<=m/\mS (e p.2)=true
 |[],_,p,hp=>by cases hp
 |
  q::ps,h,p,hp=>by
  simp only[qZ,az]at h
  rcases aH.1 hp with rfl|hp
  ·obtain⟨⟨h1,h2⟩,_⟩:=h
   split at h1
   ·rename_i off ft hf
    simp only[az]at h1
    exact⟨off,ft,hf,aE h1.1,aQ h1.2,h2⟩
   ·cases h1
  ·exact sS h.2 p hp
theorem sL{z m:Nat}{e:Operand->AV}:∀{ps:List (Nat×Operand)},rT z m e ps=true->∀p,p∈ps->(flat (e p.2)).length=z/\p.1*z+(flat (e p.2)).length<=m/\mS (e p.2)=true
 |[],_,p,hp=>by cases hp
 |
  q::ps,h,p,hp=>by
  simp only[rT,az]at h
  rcases aH.1 hp with rfl|hp
  ·exact⟨aE h.1.1.1,aQ h.1.1.2,h.1.2⟩
  ·exact sL h.2 p hp
theorem CR.agg{cs:List AV}{vs:Array Value}(h:CR M β cs vs):bx M β (.agg cs) (.agg vs):=by
 have e:vs=vs.toList.toArray:=by simp
 rw[e]
 refine .agg _ _ _ (by simp[h.1]) (fun i hi=>?_) fun i hi=>?_
 ·rw[eI];exact kI h.2.2 i (by have:=h.1;omega)
 ·rw[eI];exact h.2.1 i hi
theorem DP(g:di n A s a w M β){T:eE}(hT:dc P T)(o:Oper)(t:Nat)(ps:Array (Nat×Operand))(ho:o.op=.build t ps) :
 (dS T (ev s) s.ob o).holds (Quiet (sa P M β o a w)):=by
 unfold dS
 rw[ho]
 refine DR.aV fun hkn=>?_
 have el:(ps.map fun(i,x)=>(i,a.eval x)).toList=ps.toList.map fun p=>(p.1,a.eval p.2):=by simp
 obtain⟨i,z,hi,hs,hb,hz,hcr,hsz⟩:=(hT t hkn).s5 (M:=M) (β:=β)
 have hzl:(jg (T t)).length=(T t).sz:=by simp[jg,TI.sz]
 split
 ·rename_i fs hk
  refine DR.aV fun hq=>?_
  rw[az]at hq
  obtain⟨fl,hu,hfl⟩:=(hT t hkn).struct hk
  have hp:=sW hT fl.toList (by rw[hfl];exact hq.1)
  obtain⟨vs',h1,h2⟩:=uE g.ev ((fl.toList.map fun f=>(f.offset,(T f.type).sz)).toArray[·]?) (fun i=>(fs.getD i (0,0)).1) ps.toList hcr (fun p hp=>by
   obtain⟨off,ft,f1,f2,f3,f4⟩:=sS hq.2 p hp
   have e1:fs.getD p.1 (0,0)=(off,ft):=by simp[aa,f1]
   refine⟨f4,?_,by rw[e1,hzl];exact f3⟩
   rw[e1,f2]
   rw[<-hfl]at f1
   simp only[List.getElem?_map]at f1
   cases e:fl.toList[p.1]? with
   |none=>rw[e]at f1;cases f1
   |
    some fi =>
    rw[e]at f1
    simp only[cu,Option.some.injEq,Prod.mk.injEq]at f1
    obtain⟨rfl,rfl⟩:=f1
    simp[e])
  refine⟨rfl,rfl,_,?_,h2.agg⟩
  have hbt:P.built t (ps.map fun(i,x)=>(i,a.eval x)).toList=some vs':=by
   rw[el]
   simp only[Program.built,hi,hu,hz,hp]
   exact h1
  simp[execOp,ho,run_build w t _ _ hbt]
 ·rename_i m el' hk
  refine DR.aV fun hq=>?_
  rw[az]at hq
  obtain⟨ie,ze,hie,hse,_⟩:=(hT el' hq.1).info
  obtain⟨vs',h1,h2⟩:=uE g.ev (fun i=>some (i*ie.size,ie.size)) (fun i=>i*(T el').sz) ps.toList hcr (fun p hp=>by
   obtain⟨f2,f3,f4⟩:=sL hq.2 p hp
   exact⟨f4,by rw[f2,hse];rfl,by rw[hzl];exact f3⟩)
  refine⟨rfl,rfl,_,?_,h2.agg⟩
  have hbt:P.built t (ps.map fun(i,x)=>(i,a.eval x)).toList=some vs':=by
   rw[el]
   simp only[Program.built,hi,(hT t hkn).array hk,hz,hie]
   exact h1
  simp[execOp,ho,run_build w t _ _ hbt]
 ·trivial
theorem foldl_set(k:Nat):∀(us:List Value) (j:Nat) (vs:Array Value),((us.zipIdx j).foldl (fun cs (c,j)=>cs.setIfInBounds (k+j) c) vs).size=vs.size /\
 (∀i,k+j+us.length<=vs.size->((us.zipIdx j).foldl (fun cs (c,j)=>cs.setIfInBounds (k+j) c) vs).getD i undef=if k+j<=i/\i<k+j+us.length then us.getD (i-(k+j)) undef else vs.getD i undef) /\
 ∀u,u∈(us.zipIdx j).foldl (fun cs (c,j)=>cs.setIfInBounds (k+j) c) vs->u∈vs\/u∈us
 |[],j,vs=>⟨rfl,fun i h=>by rw[if_neg (by simp only[aG];omega)];rfl,fun u hu=>.inl hu⟩
 |
  x::us,j,vs=>by
  obtain⟨h1,h2,h3⟩:=foldl_set k us (j+1) (vs.setIfInBounds (k+j) x)
  rw[List.zipIdx_cons,List.foldl_cons]
  refine⟨by rw[h1];simp,fun i h=>?_,fun u hu=>?_⟩
  ·simp only[au]at h |-
   rw[h2 i (by simp;omega)]
   by_cases hc:k+(j+1)<=i/\i<k+(j+1)+us.length
   ·rw[if_pos hc,if_pos (by omega),show i-(k+j)=(i-(k+(j+1)))+1 by omega];rfl
   ·rw[if_neg hc]
    by_cases e:i=k+j
    ·subst e
     rw[if_pos (by omega)]
     have:k+j<vs.size:=by omega
     simp[this]
    ·rw[if_neg (by omega)]
     simp[Array.getElem?_setIfInBounds,Ne.symm e]
  ·rcases h3 u hu with h|h
   ·rcases Array.mem_or_eq_of_mem_setIfInBounds h with h|h
    ·exact .inl h
    ·exact .inr (by simp[h])
   ·exact .inr (al _ h)
theorem u5(sz:Nat):∀(L:List (Nat×Value)) (k:Nat) (vs:Array Value),L.map (·.1)=List.range' k L.length->(∀p,p∈L->p.2.cells.size=sz)->(k+L.length)*sz<=vs.size ->
 ∃vs',Instr.fill (fun i=>some (i*sz,sz)) vs L=some vs'/\vs'.size=vs.size/\(∀i,i<k*sz->vs'.getD i undef=vs.getD i undef) /\
  (∀i j,i<L.length->j<sz->vs'.getD ((k+i)*sz+j) undef=(L.getD i (0,undef)).2.cells.getD j undef)/\∀u,u∈vs'->u∈vs\/∃p,p∈L/\u∈p.2.cells
 |[],k,vs,_,_,_=>⟨vs,rfl,rfl,fun _ _=>rfl,fun i j hi=>by simp at hi,fun u hu=>.inl hu⟩
 |
  p::L,k,vs,hr,hs,hl=>by
  simp only[bz,au,List.range'_succ,List.cons.injEq]at hr
  have hp:=hs p ai
  have hle:k*sz+sz<=vs.size:=by
   have:(k+1)*sz<=(k+(L.length+1))*sz:=aX _ (by omega)
   rw[cZ]at this
   simp only[au]at hl
   omega
  obtain⟨f1,f2,f3⟩:=foldl_set (k*sz) p.2.cells.toList 0 vs
  have f2:=fun i=>f2 i (by simp[hp];omega)
  obtain⟨vs',g1,g2,g3,g4,g5⟩:=u5 sz L (k+1) ((p.2.cells.toList.zipIdx 0).foldl (fun cs (c,j)=>cs.setIfInBounds (k*sz+j) c) vs) (by simpa using hr.2) (fun q hq=>hs q (al _ hq)) (by rw[f1];simp only[au]at hl;rw[show k+1+L.length=k+(L.length+1) by omega];exact hl)
  refine⟨vs',?_,by rw[g2,f1],fun i hi=>?_,fun i j hi hj=>?_,fun u hu=>?_⟩
  ·unfold Instr.fill
   rw[hr.1]
   simp only
   rw[if_neg (by simp[hp];omega),<-g1]
   congr 1
   rw[<-Array.foldl_toList]
   simp[Array.toList_zipIdx]
  ·rw[g3 i (by rw[cZ];omega),f2,if_neg (by omega)]
  ·cases i with
   |
    zero =>
    rw[bX,g3 _ (by rw[cZ];omega),f2,if_pos (by simp[hp];omega)]
    simp only[bp]
    rw[show k*sz+j-(k*sz+0)=j by omega,eI]
   |
    succ i =>
    have:=g4 i j (by simpa using hi) hj
    rw[show k+(i+1)=k+1+i by omega,this]
    rfl
  ·rcases g5 u hu with h|⟨q,hq,h⟩
   ·rcases f3 u h with h|h
    ·exact .inl h
    ·exact .inr ⟨p,ai,by simpa using h⟩
   ·exact .inr ⟨q,al _ hq,h⟩
theorem xA{ob:Nat->Option Ob}{f:AV->Option (AV×List Nat)}:∀{xs:List AV} {asq:List (List AV)} {os:List Nat},uC f xs=some (asq,os)->Fz M β w ob os ->
 asq.length=xs.length/\∀i,i<xs.length->∃os',mz f (flat (xs.getD i .any))=some (asq.getD i [],os')/\Fz M β w ob os'
 |
  [],asq,os,h,_=>by
  simp[uC]at h
  obtain⟨rfl,rfl⟩:=h
  exact⟨rfl,fun i hi=>by simp at hi⟩
 |
  x::xs,asq,os,h,hz=>by
  unfold uC at h
  split at h
  ·rename_i a1 o1 a2 o2 h1 h2
   cases h
   obtain⟨q1,q2⟩:=xA h2 hz.right
   refine⟨by simp[q1],fun i hi=>?_⟩
   cases i with
   |zero=>exact⟨o1,by simpa using h1,hz.left⟩
   |succ i=>simpa using q2 i (by simpa using hi)
  ·cases h
theorem QT{sz i j:Nat}(hj:j<sz):(i*sz+j)%sz=j:=by rw[Nat.mul_comm,Nat.mul_add_mod,Nat.mod_eq_of_lt hj]
theorem j7(g:di n A s a w M β){o:Oper}{d sz c:Nat}{es:List (List AV)}{vs:Array Value}{e:TypeId}{w1:World}(hh:w1.heap=w.heap)(ho1:w1.os=w.os)(ht1:w1.tape=w.tape)(hp1:w1.output=w.output)(hc:es.length<=c)(hs:∀i,i<es.length->(es.getD i []).length=sz)(hv:c*sz<=vs.size)
 (hr':∀i j,i<es.length->j<sz->bx M dm ((es.getD i []).getD j .any) (vs.getD (i*sz+j) undef)) (h1:∀u,u∈vs->u.oneCell'=true)
 (hr:(execOp a.eval o).run P w=.ok (.value (.slice (some ⟨w.heap.size,0,none⟩) es.length c)) (w1.alloc (.cells vs e))) {u:List (Nat×Option Ob)} {rd:List Nat}
 (k:Option Nat) (hk:∀o,k=some o->∃x,s.ob o=some x/\x.live=true) (hu:cD s.ob u=cx (kill k s.ob) d (some (.vec sz es)))
 (hn:dK s n o.dst {val:=.vec d,cx:=u,rd:=rd,new:=[d]}=true) :
 Step P n A o a w (s.app o.dst {val:=.vec d,cx:=u,rd:=rd,new:=[d]}):=by
 have hd:=qy hn rfl
 have hle:=vE g hd (.vec (.slice (some ⟨w.heap.size,0,none⟩) es.length c) sz)
 have hnew:(w1.alloc (.cells vs e)).heap[w.heap.size]?=some (.cells vs e (0,0)):=by rw[<-hh];exact heap_alloc_new w1 _
 have g':=g.fresh hd k hk (w':=w1.alloc (.cells vs e)) ho1 ht1 hp1 (by simp[hh]) (fun b hb _=>by rw[<-hh];exact heap_alloc_old w1 _ b (by rw[hh];exact hb)) (.vec (.slice (some ⟨w.heap.size,0,none⟩) es.length c) sz) (.vec sz es)
  ⟨_,aN _ _ _,hs,.inr ⟨w.heap.size,0,c,vs,e,rfl,hc,hnew,by simpa using hv,fun i j hi hj=>by rw[aZ];exact hr' i j hi hj,xP g,rfl,h1⟩⟩
  (fun b hb=>.inl (by simp[Loc.block]at hb;omega))
 refine Step.val (M':=M) (β':=cx β d (some (.vec (.slice (some ⟨w.heap.size,0,none⟩) es.length c) sz))) hr (.vec _ _ _ _ rfl (aN _ _ _)) hn ?_
 show di n A {s with ob:=cD s.ob u,us:=cx s.us d true} a _ M _
 rw[hu]
 exact g'
end
end Go.VL
namespace Go.VL
open Go Go.RowKit
section
variable {P:Program} {M:Mem} {β:Lo} {w w':World} {n:Nat} {A:jz} {s:St} {a:Act}
theorem kb(es:List (List AV))(i:Nat)(h:i<es.length):es.getD i []∈es:=by
 have:es.getD i []=es[i]:=by simp[aa,h]
 rw[this];exact bN h
theorem CQ{sz:Nat}{asq:List (List AV)}(h:asq.all (fun a=>aJ a.length sz)=true)(i:Nat)(hi:i<asq.length):(asq.getD i []).length=sz:=by
 rw[bM]at h
 exact aE (h _ (kb asq i hi))
theorem mj(f:Nat->Option Ob):∀(l r:List (Nat×Option Ob)),cD f (l++r)=cD (cD f l) r
 |[],r=>rfl
 |(o,c)::l,r=>by show cD (cx f o c) (l++r)=_;rw[mj (cx f o c) l r];rfl
theorem tI(g:di n A s a w M β){T:eE}(hT:dc P T)(o:Oper)(t m:Nat)(ps:Array (Nat×Operand))(ho:o.op=.buildSlice t m ps) :
 (dS T (ev s) s.ob o).holds fun d=>dK s n o.dst d=true->Step P n A o a w (s.app o.dst d):=by
 unfold dS
 rw[ho]
 refine DR.aV fun hkn=>?_
 split
 ·rename_i el d hk hd
  refine DR.aV fun hel=>?_
  split
  ·rename_i asq os hf
   refine DR.aV fun hq=>?_
   simp only[az]at hq
   obtain⟨⟨⟨hq1,hq2⟩,hq3⟩,hq4⟩:=hq
   intro hn
   obtain⟨M',hM,g'⟩:=g.freeze os
   obtain⟨l1,l2⟩:=xA hf g'.fz
   have hlen:asq.length=ps.toList.length:=by rw[l1];simp
   have hps:ps.toList.map (·.1)=bf m:=by simpa using hq1
   have hm:ps.toList.length=m:=by have:=congrArg List.length hps;simpa using this
   obtain⟨i,z,hi,hs,hb,hz,hcr,hsz⟩:=(hT el hel).s5 (M:=M') (β:=dm)
   have hsl:=CQ hq3
   have hpart:∀i,i<ps.toList.length->∃p∈ps.toList,ps.toList[i]?=some p/\(a.eval p.2).cells.size=(T el).sz/\(∀j,j<(T el).sz->bx M' dm ((asq.getD i []).getD j .any) ((a.eval p.2).cells.getD j undef))/\∀u,u∈(a.eval p.2).cells->u.oneCell'=true:=by
    intro i hi
    have hp:ps.toList[i]?=some ps.toList[i]:=bg hi
    refine⟨ps.toList[i],bN hi,hp,?_⟩
    obtain⟨os',z1,z2⟩:=l2 i (by simpa using hi)
    have e1:(List.map (fun p=>ev s p.2) ps.toList).getD i .any=ev s (ps.toList[i]).2:=by simp[aa,hi,hp]
    rw[e1]at z1
    have h1:mS (ev s (ps.toList[i]).2)=true:=(bM.1 hq4) _ (bN hi)
    have f:=lZ ((g.ev (ps.toList[i]).2).mono hM (Lo.le.refl _)) h1
    obtain⟨y1,y2⟩:=pA (M:=M') (β:=β) (w:=w) (ob:=s.ob) (fun c a' os v=>gF eB c a' os v) _ _ _ z1 z2
    have hls:=hsl i (by omega)
    refine⟨by rw[f.1,<-y1,hls],fun j hj=>y2 j _ (by omega) (f.2.1 j (by omega)),f.2.2⟩
   have hL:(ps.toList.map fun p=>(p.1,a.eval p.2)).map (·.1)=List.range' 0 (ps.toList.map fun p=>(p.1,a.eval p.2)).length:=by
    rw[List.map_map,cg,hm,<-List.range_eq_range']
    exact hps
   have hsz':∀p,p∈(ps.toList.map fun p=>(p.1,a.eval p.2))->p.2.cells.size=(T el).sz:=by
    intro p hp
    obtain⟨q,hq,rfl⟩:=bJ.1 hp
    obtain⟨i,hi,rfl⟩:=List.getElem_of_mem hq
    obtain⟨p',_,e,h,_⟩:=hpart i hi
    rw[bg hi]at e
    cases e;exact h
   have zsz:((Array.range (m*(T el).sz)).map (z.cells[· % z.cells.size]!)).size=m*(T el).sz:=by simp
   obtain⟨vs',f1,f2,f3,f4,f5⟩:=u5 (T el).sz (ps.toList.map fun p=>(p.1,a.eval p.2)) 0 ((Array.range (m*(T el).sz)).map (z.cells[· % z.cells.size]!)) hL hsz' (by rw[zsz];simp[hm])
   have hrun:(Instr.buildSlice t m (ps.map fun(i,x)=>(i,a.eval x))).run P w=.ok (.slice (some ⟨w.heap.size,0,none⟩) m m) (w.alloc (.cells vs' el)):=by
    have e1:(ps.map fun(i,x)=>(i,a.eval x)).toList=ps.toList.map fun p=>(p.1,a.eval p.2):=by simp
    by_cases h0:m*i.size=0
    ·have h0':m*(T el).sz=0:=by rw[<-hs];exact h0
     have:(Array.range (m*(T el).sz)).map (z.cells[· % z.cells.size]!)=(Array.range 0).map (fun _=>default):=by
      rw[h0'];simp[Array.range_zero']
     rw[this]at f1
     simp only[<-hs]at f1
     simp[Instr.buildSlice,run_underlying ((hT t hkn).slice hk),sizeOf,typeInfo,hi,h0,e1,newRow]
     rw[f1]
     simp
    ·refine run_buildSlice w t el m _ vs' i z ((hT t hkn).slice hk) hi hz ?_ h0 ?_
     ·have:=aQ hq2;rw[<-hs]at this;omega
     ·rw[e1,hs];exact f1
   have key:∀i j,i<asq.length->j<(T el).sz->bx M' dm ((asq.getD i []).getD j .any) (vs'.getD (i*(T el).sz+j) undef):=by
    intro i j hi hj
    obtain⟨p,_,e,_,h,_⟩:=hpart i (by omega)
    have:=f4 i j (by simp only[cg];omega) hj
    rw[aZ]at this
    rw[this]
    have e2:(ps.toList.map fun p=>(p.1,a.eval p.2)).getD i (0,undef)=(p.1,a.eval p.2):=by simp[aa,e]
    rw[e2]
    exact h j hj
   have ones:∀u,u∈vs'->u.oneCell'=true:=by
    intro u hu
    rcases f5 u hu with h|⟨p,hp,h⟩
    ·simp only[Array.mem_map,Array.mem_range]at h
     obtain⟨j,hj,rfl⟩:=h
     by_cases h0:z.cells.size=0
     ·exfalso;rw[<-hs,show i.size=0 by rw[hs,<-hsz];exact h0]at hj;simp at hj
     ·have:j%z.cells.size<z.cells.size:=Nat.mod_lt _ (by omega)
      rw[getElem!_pos z.cells _ this]
      exact hcr.2.2 _ (Array.getElem_mem this)
    ·obtain⟨q,hq,rfl⟩:=bJ.1 hp
     obtain⟨i,hi,rfl⟩:=List.getElem_of_mem hq
     obtain⟨p',_,e,_,_,h'⟩:=hpart i hi
     rw[bg hi]at e
     cases e;exact h' u h
   have hn':dK {s with ob:=cD s.ob (fE s.ob os)} n o.dst {val:=.vec d,cx:=[(d,some (.vec (T el).sz asq))],rd:=[],new:=[d]}=true:=hn
   have hlm:asq.length=m:=by omega
   have st:=j7 (P:=P) (w1:=w) g' (d:=d) (sz:=(T el).sz) (c:=asq.length) (es:=asq) (vs:=vs') (e:=el) rfl rfl rfl rfl (aw _) hsl (by rw[f2,zsz,hlm];exact aw _) key ones (by
    rw[hlm]
    simp[execOp,ho,hrun]) (u:=[(d,some (.vec (T el).sz asq))]) (rd:=[]) none (fun o h=>by cases h) rfl hn'
   have e:s.app o.dst {val:=.vec d,cx:=fE s.ob os++[(d,some (.vec (T el).sz asq))],new:=[d]}=St.app {s with ob:=cD s.ob (fE s.ob os)} o.dst {val:=.vec d,cx:=[(d,some (.vec (T el).sz asq))],rd:=[],new:=[d]}:=by
    unfold St.app
    simp only[mj]
   rw[e]
   exact st
  ·trivial
 ·trivial
theorem v8(g:di n A s a w M β){T:eE}(hT:dc P T)(o:Oper)(t:Nat)(l c:Operand)(ho:o.op=.makeSlice t l c) :
 (dS T (ev s) s.ob o).holds fun d=>dK s n o.dst d=true->Step P n A o a w (s.app o.dst d):=by
 unfold dS
 rw[ho]
 refine DR.aV fun hkn=>?_
 have hl:=g.ev l
 split
 ·rename_i el d k m hk hd e
  rw[e]at hl
  have hlv:=dE hl
  refine DR.aV fun hel=>?_
  rw[az]at hel
  obtain⟨hel,hpos⟩:=hel
  have hpos:0<(T el).bytes:=aQ hpos
  cases hsame:wT l c with
  |false=>simp only[cond_false];trivial
  |
   true =>
   simp only[cond_true]
   have hcv:∃k',a.eval c=.int k' m:=by
    unfold wT at hsame
    split at hsame
    ·have:=aE hsame
     subst this;exact⟨k,hlv⟩
    ·rename_i k1 p k2 q
     have:p=q:=by simpa using hsame
     subst this
     have:a.eval (.const (.int k1 p))=.int k1 p:=rfl
     rw[this]at hlv
     cases hlv;exact⟨k2,rfl⟩
    ·cases hsame
   obtain⟨k',hcv⟩:=hcv
   intro⟨h0,hb⟩ hn
   obtain⟨i,z,hi,hs,hby,hz,hcr,hsz⟩:=(hT el hel).s5 (M:=M) (β:=dm)
   have hbytes:(i.bytes:Int)*m<=281474976710656:=by rw[hby,Int.mul_comm];omega
   have h63:m<=9223372036854775807:=by
    have:m*1<=m*((T el).bytes:Int):=Int.mul_le_mul_of_nonneg_left (by omega) h0
    omega
   have hr:=run_make (P:=P) w t el i z ((hT t hkn).slice hk) hi hz k k' m m h0 (Int.le_refl _) hbytes h63
   have hlen:(List.replicate m.toNat (jg (T el))).length=m.toNat:=by simp
   have hzl:(jg (T el)).length=(T el).sz:=by simp[jg,TI.sz]
   have hget:∀q,q<m.toNat->(List.replicate m.toNat (jg (T el))).getD q []=jg (T el):=fun q hq=>by simp[aa,hq]
   refine j7 (P:=P) (w1:=w) g (d:=d) (sz:=(T el).sz) (c:=m.toNat) (es:=List.replicate m.toNat (jg (T el))) (vs:=madeCells z.cells (m.toNat*i.size)) (e:=el) rfl rfl rfl rfl (by rw[hlen];exact aw _)
    (fun q hq=>by rw[hlen]at hq;rw[hget q hq,hzl]) (by rw[size_madeCells,hs];exact aw _) (fun q j hq hj=>?_) (fun u hu=>?_) (by rw[hlen];simp[execOp,ho,hlv,hcv,hr]) none (fun o h=>by cases h) rfl hn
   ·rw[hlen]at hq
    rw[hget q hq]
    have hlt:q*(T el).sz+j<m.toNat*i.size:=by
     have:q*(T el).sz+(T el).sz<=m.toNat*(T el).sz:=by rw[<-cZ];exact aX _ hq
     rw[hs];omega
    have e:(madeCells z.cells (m.toNat*i.size)).getD (q*(T el).sz+j) undef=z.cells.getD j undef:=by
     have hj':j<z.cells.size:=by omega
     simp[madeCells,hlt,hsz,QT hj]
     rw[getElem!_pos z.cells _ hj'];simp[hj']
    rw[e]
    exact hcr.2.1 j (by omega)
   ·simp only[madeCells,Array.mem_map,Array.mem_range]at hu
    obtain⟨j,hj,rfl⟩:=hu
    by_cases h0:z.cells.size=0
    ·exfalso;rw[hs,<-hsz,h0]at hj;simp at hj
    ·have:j%z.cells.size<z.cells.size:=Nat.mod_lt _ (by omega)
     rw[getElem!_pos z.cells _ this]
     exact hcr.2.2 _ (Array.getElem_mem this)
 ·trivial
theorem By{es fs:List (List AV)}{sz:Nat}{vs:Array Value}{old us:Nat->Value}(hs:∀i,i<es.length->(es.getD i []).length=sz)(hf:cV sz fs)
 (ho:∀i,i<es.length*sz->vs.getD i undef=old i) (hu:∀i,i<fs.length*sz->vs.getD (es.length*sz+i) undef=us i)
 (r1:∀i j,i<es.length->j<sz->bx M dm ((es.getD i []).getD j .any) (old (i*sz+j))) (r2:∀i j,i<fs.length->j<sz->bx M dm ((fs.getD i []).getD j .any) (us (i*sz+j))) :
 (∀i,i<(es++fs).length->((es++fs).getD i []).length=sz)/\∀i j,i<(es++fs).length->j<sz->bx M dm (((es++fs).getD i []).getD j .any) (vs.getD (i*sz+j) undef):=by
 have g1:∀i,i<es.length->(es++fs).getD i []=es.getD i []:=fun i hi=>by rw[i7,if_pos hi]
 have g2:∀i,¬i<es.length->(es++fs).getD i []=fs.getD (i-es.length) []:=fun i hi=>by rw[i7,if_neg hi]
 constructor
 ·intro i hi
  by_cases h:i<es.length
  ·rw[g1 i h];exact hs i h
  ·rw[g2 i h];exact hf _ (kb fs _ (by simp at hi;omega))
 ·intro i j hi hj
  by_cases h:i<es.length
  ·rw[g1 i h,ho _ (Nat.lt_of_lt_of_le (Nat.add_lt_add_left hj _) (by rw[<-cZ];exact aX _ h))]
   exact r1 i j h hj
  ·have hi':i-es.length<fs.length:=by simp at hi;omega
   rw[g2 i h]
   have e:i*sz+j=es.length*sz+((i-es.length)*sz+j):=by
    rw[<-Nat.add_assoc,<-Nat.add_mul,show es.length+(i-es.length)=i by omega]
   rw[e,hu _ (Nat.lt_of_lt_of_le (Nat.add_lt_add_left hj _) (by rw[<-cZ];exact aX _ hi'))]
   exact r2 _ j hi' hj
theorem mZ{z:Value}(h:∀u,u∈z.cells->u.oneCell'=true)(k:Nat):∀u,u∈Builtin.zeroCells z.cells k->u.oneCell'=true:=by
 intro u hu
 simp only[Builtin.zeroCells,Array.mem_map,Array.mem_range]at hu
 obtain⟨j,hj,rfl⟩:=hu
 by_cases h0:z.cells.size=0
 ·exfalso;rw[h0]at hj;simp at hj
 ·have:j%z.cells.size<z.cells.size:=Nat.mod_lt _ (by omega)
  rw[getElem!_pos z.cells _ this]
  exact h _ (Array.getElem_mem this)
theorem gA{o:Oper}{x y:Operand}{t:Nat}(ho:o.op=.call ⟨.builtin .append,#[x,y],#[t,t]⟩){v:Value}{w':World}(h:(Builtin.append_ #[t,t] o.type #[a.eval x,a.eval y]).run P w=.ok v w') :
 (execOp a.eval o).run P w=.ok (.value v) w':=by
 obtain⟨_,e⟩:=jl (P:=P) (a:=a) (w:=w) ho
 rw[e];simp[builtin,h]
theorem xe{fs:List (List AV)}{sz b off c:Nat}{us:Nat->Value}(h3:∀i,i<fs.length*sz->w.cell? ⟨b,off+i,none⟩=some (us i)) :
 ((bf (fs.length*sz)).map us).length=fs.length*sz/\∀j v,((bf (fs.length*sz)).map us)[j]?=some v->w.cell? ((⟨b,off,none⟩:Addr).add j)=some v:=by
 refine⟨by simp,fun j v h=>?_⟩
 rw[jE]
 simp only[List.getElem?_map]at h
 by_cases hj:j<fs.length*sz
 ·rw[List.getElem?_range hj]at h
  cases h;exact h3 j hj
 ·rw[List.getElem?_eq_none (by simp;omega)]at h;cases h
theorem tY{vs:List Value}{z:Array Value}{m:Nat}(i:Nat)(hi:i<vs.length):(vs.toArray++z).getD i undef=vs.getD i undef:=by
 simp[aa,Array.getElem?_append,hi]
theorem append_nil(g:di n A s a w M β){T:eE}(hT:dc P T)(o:Oper){x y:Operand}{t el d sz:Nat}(ho:o.op=.call ⟨.builtin .append,#[x,y],#[t,t]⟩)(hkn:(T t).kn=true)(hk:(T t).k=.slice el)(hel:(T el).kn=true)(hpos:0<(T el).bytes)(hz:sz=(T el).sz)
 {fs:List (List AV)} (hv:a.eval x=.slice none 0 0) (hy:EJ w M fs (a.eval y)) (hf:cV sz fs) (hb:fs.length*(T el).bytes<=140737488355328)
 (k:Option Nat) (hkk:∀o,k=some o->∃x,s.ob o=some x/\x.live=true) {u:List (Nat×Option Ob)} {rd:List Nat} (hu:cD s.ob u=cx (kill k s.ob) d (some (.vec sz fs)))
 (hn:dK s n o.dst {val:=.vec d,cx:=u,rd:=rd,new:=[d]}=true):Step P n A o a w (s.app o.dst {val:=.vec d,cx:=u,rd:=rd,new:=[d]}):=by
 have hd:=qy hn rfl
 obtain⟨i,z,hi,hs,hby,hzz,hcr,hsz⟩:=(hT el hel).s5 (M:=M) (β:=dm)
 have ht:=(hT t hkn).slice hk
 by_cases hne:fs.length=0
 ·
  have e0:fs=[]:=List.length_eq_zero_iff.1 hne
  subst e0
  have hr:(Builtin.append_ #[t,t] o.type #[a.eval x,a.eval y]).run P w=.ok (.slice none 0 0) w:=by
   rcases hy with⟨hy,_⟩|⟨b,off,c,sz',us,hy,_⟩
   ·simp[hv,hy,Builtin.append_,run_underlying ht,sizeOf,typeInfo,hi,Builtin.lenOf,Builtin.firstCells]
   ·have hl:=run_loadCells (P:=P) w ⟨b,off,none⟩ 0 us (fun j hj=>by omega)
    simp[hv,hy,Builtin.append_,run_underlying ht,sizeOf,typeInfo,hi,Builtin.lenOf,Builtin.firstCells,hl]
  have g':=g.fresh hd k hkk (w':=w) rfl rfl rfl (aw _) (fun b hb _=>rfl) (.vec (.slice none 0 0) sz) (.vec sz [])
   ⟨_,aN _ _ _,fun i hi=>by simp at hi,.inl ⟨rfl,rfl⟩⟩ (fun b hb=>by simp[Loc.block]at hb)
  refine Step.val (M':=M) (β':=cx β d (some (.vec (.slice none 0 0) sz))) (gA ho hr) (.vec _ _ _ _ rfl (aN _ _ _)) hn ?_
  show di n A {s with ob:=cD s.ob u,us:=cx s.us d true} a _ M _
  rw[hu];exact g'
 ·rcases hy with⟨hy,rfl⟩|⟨b,off,c,sz',us,hy,h1,h2,h3,h4,h5⟩
  ·simp at hne
  ·have hsz':sz'=sz:=by rw[<-h2 0 (by omega)];exact hf _ (kb fs 0 (by omega))
   subst hsz'
   obtain⟨n1,n2⟩:=xe (c:=c) h3
   have hbb:fs.length<=fs.length*(T el).bytes:=Nat.le_mul_of_pos_right _ hpos
   have hr:=run_append_nil (P:=P) w t o.type el i z ht hi hzz ⟨b,off,none⟩ fs.length c _ (by rw[n1,hs,hz]) n2 (by omega) (by omega) (by rw[hby];omega)
   rw[<-hv,<-hy]at hr
   have hge:=grownCap_ge w fs.length 0 el
   refine j7 (P:=P) (w1:=w.drew) g (sz:=sz') (es:=fs) rfl rfl rfl rfl hge (fun i hi=>h2 i hi) ?_ (fun q j hq hj=>?_) (fun u hu=>?_) (gA ho hr) k hkk hu hn
   ·simp only[Array.size_append,List.size_toArray,n1,size_zeroCells,hsz,<-hz]
    rw[<-Nat.add_mul,show fs.length+(grownCap w fs.length 0 el-fs.length)=grownCap w fs.length 0 el by omega]
    exact aw _
   ·have hlt:q*sz'+j<fs.length*sz':=Nat.lt_of_lt_of_le (Nat.add_lt_add_left hj _) (by rw[<-cZ];exact aX _ hq)
    rw[tY (m:=0) _ (by rw[n1];exact hlt),ei _ _ _ hlt]
    exact h4 q j hq hj
   ·rcases Array.mem_append.1 hu with hu|hu
    ·simp only[List.mem_toArray,bJ,List.mem_range]at hu
     obtain⟨j,hj,rfl⟩:=hu
     exact h5 j hj
    ·exact mZ hcr.2.2 _ u hu
end
end Go.VL
namespace Go.VL
open Go Go.RowKit
section
variable {P:Program} {M:Mem} {β:Lo} {w w':World} {n:Nat} {A:jz} {s:St} {a:Act}
theorem sj(w:World)(t ty e e':TypeId)(i:TypeInfo)(ht:P.underlying t=some (.slice e))(hi:P.info? e=some i)
 (g sLen sCap:Nat) (cur:Array Value) (hg:w.heap[g]?=some (.cells cur e' (0,0)))
 (a:Addr) (m c:Nat) (news:List Value) (hl:news.length=m*i.size) (hnews:∀j u,news[j]?=some u->w.cell? (a.add j)=some u) (h1:∀u∈news,u.oneCell'=true)
 (hroom:sLen+m<=sCap) (hfit:sLen*i.size+news.length<=cur.size) :
 (Builtin.append_ #[t,t] ty #[.slice (some ⟨g,0,none⟩) sLen sCap,.slice (some a) m c]).run P w =
  .ok (.slice (some ⟨g,0,none⟩) (sLen+m) sCap) (w.setRow g (cur.toList.take (sLen*i.size)++news++cur.toList.drop (sLen*i.size+news.length)).toArray):=by
 have hf:=run_firstCells_some (P:=P) w i.size m a m c news hl hnews
 have hst:=run_storeCells_at P g (sLen*i.size) e' news 0 cur w hg (by simpa using hfit) h1
 simp only[bX]at hst
 simp[Builtin.append_,run_underlying ht,sizeOf,typeInfo,hi,Builtin.lenOf,hroom,hf,jE,hst]
theorem xc(g:di n A s a w M β){T:eE}(hT:dc P T)(o:Oper){x y:Operand}{t el d m sz:Nat}(ho:o.op=.call ⟨.builtin .append,#[x,y],#[t,t]⟩)(hkn:(T t).kn=true)(hk:(T t).k=.slice el)(hel:(T el).kn=true)(hpos:0<(T el).bytes)(hz:sz=(T el).sz)
 {es fs:List (List AV)} (hx:ev s x=.vec m) (hm:s.ob m=some (.vec sz es)) (hy:EJ w M fs (a.eval y)) (hf:cV sz fs) (hb:(es.length+fs.length)*(T el).bytes<=140737488355328) {rd:List Nat}
 (hn:dK s n o.dst {val:=.vec d,cx:=[(m,none),(d,some (.vec sz (es++fs)))],rd:=rd,new:=[d]}=true):Step P n A o a w (s.app o.dst {val:=.vec d,cx:=[(m,none),(d,some (.vec sz (es++fs)))],rd:=rd,new:=[d]}):=by
 have hd:=qy hn rfl
 have hrx:=g.ev x
 rw[hx]at hrx
 obtain⟨v,q1,q2,q3⟩:=g.own m _ hm
 have hv:a.eval x=v:=by
  generalize a.eval x=v' at hrx
  cases hrx with|vec _ _ _ sz' hov hb=>rw[q1]at hb;cases hb;rfl
 have hkk:∀o,some m=some o->∃x,s.ob o=some x/\x.live=true:=fun o h=>by cases h;exact⟨_,hm,rfl⟩
 rcases q3 with⟨rfl,rfl⟩|⟨b,off,c,vs,e,rfl,q4,q5,q6,q7,q8,rfl,q10⟩
 ·exact append_nil g hT o ho hkn hk hel hpos hz hv hy hf (by simpa using hb) (some m) hkk rfl hn
 ·obtain⟨i,z,hi,hs,hby,hzz,hcr,hsz⟩:=(hT el hel).s5 (M:=M) (β:=dm)
  have ht:=(hT t hkn).slice hk
  have hcc:es.length*sz<=c*sz:=aX _ q4
  have hbm:dZ β m=some b:=by simp[dZ,q1,Loc.block]
  have stay:∀(w':World) (vs':Array Value) (c':Nat) (us:Nat->Value),(w'=w/\vs'=vs\/w'=w.setRow b vs')->(execOp a.eval o).run P w=.ok (.value (.slice (some ⟨b,0,none⟩) (es++fs).length c')) w'->(es++fs).length<=c'->c'*sz<=vs'.size ->
   (∀i,i<es.length*sz->vs'.getD i undef=vs.getD (0+i) undef)->(∀i,i<fs.length*sz->vs'.getD (es.length*sz+i) undef=us i)->(∀i j,i<fs.length->j<sz->bx M dm ((fs.getD i []).getD j .any) (us (i*sz+j))) ->
   (∀u,u∈vs'->u.oneCell'=true)->Step P n A o a w (s.app o.dst {val:=.vec d,cx:=[(m,none),(d,some (.vec sz (es++fs)))],rd:=rd,new:=[d]}):=by
   intro w' vs' c' us hw hr hlc hcs hold hnew hus hone
   have hblk:w'.heap[b]?=some (.cells vs' e (0,0)):=by
    rcases hw with⟨rfl,rfl⟩|rfl
    ·exact q5
    ·exact setRow_heap w b vs vs' e (0,0) q5
   have hoth:∀b',b'≠b->w'.heap[b']?=w.heap[b']?:=by
    rcases hw with⟨rfl,rfl⟩|rfl
    ·exact fun _ _=>rfl
    ·exact fun b' hne=>setRow_other w b b' vs' hne
   have hsame:w'.os=w.os/\w'.tape=w.tape/\w'.output=w.output/\w.heap.size<=w'.heap.size:=by
    rcases hw with⟨rfl,rfl⟩|rfl
    ·exact⟨rfl,rfl,rfl,aw _⟩
    ·exact⟨rfl,rfl,rfl,by simp⟩
   obtain⟨v1,v2⟩:=By (M:=M) (es:=es) (fs:=fs) (sz:=sz) (vs:=vs') (old:=fun i=>vs.getD (0+i) undef) (us:=us) q2 hf hold hnew (fun i j hi hj=>q7 i j hi hj) hus
   have g':=g.fresh hd (some m) hkk (w':=w') hsame.1 hsame.2.1 hsame.2.2.1 hsame.2.2.2 (fun b' _ h=>hoth b' fun e=>h m rfl (by rw[e];exact hbm)) (.vec (.slice (some ⟨b,0,none⟩) (es++fs).length c') sz) (.vec sz (es++fs))
    ⟨_,aN _ _ _,v1,.inr ⟨b,0,c',vs',e,rfl,hlc,hblk,by simpa using hcs,fun i j hi hj=>by rw[aZ];exact v2 i j hi hj,q8,rfl,hone⟩⟩ (fun b' hb'=>.inr ⟨m,rfl,by simp[Loc.block]at hb';rw[<-hb'];exact hbm⟩)
   exact Step.val (M':=M) (β':=cx β d (some (.vec (.slice (some ⟨b,0,none⟩) (es++fs).length c') sz))) hr (.vec _ _ _ _ rfl (aN _ _ _)) hn g'
  rcases hy with⟨hy,rfl⟩|⟨b',off',c',sz',us,hy,h1,h2,h3,h4,h5⟩
  ·refine stay w vs c (fun _=>undef) (.inl ⟨rfl,rfl⟩) (gA ho ?_) (by simpa using q4) (by simpa using q6) (fun i _=>by rw[aZ]) (fun i hi=>by simp at hi) (fun i j hi=>by simp at hi) q10
   simp[hv,hy,Builtin.append_,run_underlying ht,sizeOf,typeInfo,hi,Builtin.lenOf,Builtin.firstCells,q4,storeCells]
  ·by_cases hne:fs.length=0
   ·have e0:fs=[]:=List.length_eq_zero_iff.1 hne
    subst e0
    refine stay w vs c (fun _=>undef) (.inl ⟨rfl,rfl⟩) (gA ho ?_) (by simpa using q4) (by simpa using q6) (fun i _=>by rw[aZ]) (fun i hi=>by simp at hi) (fun i j hi=>by simp at hi) q10
    have hl:=run_loadCells (P:=P) w ⟨b',off',none⟩ 0 us (fun j hj=>by omega)
    simp[hv,hy,Builtin.append_,run_underlying ht,sizeOf,typeInfo,hi,Builtin.lenOf,Builtin.firstCells,q4,hl,storeCells]
   ·have hsz':sz'=sz:=by rw[<-h2 0 (by omega)];exact hf _ (kb fs 0 (by omega))
    subst hsz'
    obtain⟨n1,n2⟩:=xe (c:=c') h3
    have hbb:es.length+fs.length<=(es.length+fs.length)*(T el).bytes:=Nat.le_mul_of_pos_right _ hpos
    have h1c:∀u,u∈(bf (fs.length*sz')).map us->u.oneCell'=true:=fun u hu=>by
     simp only[bJ,List.mem_range]at hu
     obtain⟨j,hj,rfl⟩:=hu
     exact h5 j hj
    by_cases hroom:es.length+fs.length<=c
    ·have hfit:es.length*sz'+fs.length*sz'<=vs.size:=by
      have:(es.length+fs.length)*sz'<=c*sz':=aX _ hroom
      rw[Nat.add_mul]at this;omega
     have hr:=sj (P:=P) w t o.type el e i ht hi b es.length c vs q5 ⟨b',off',none⟩ fs.length c' _ (by rw[n1,hs,hz]) n2 h1c hroom (by rw[n1,hs,<-hz];exact hfit)
     rw[<-hy,<-hv,hs,<-hz]at hr
     have vl:es.length*sz'+((bf (fs.length*sz')).map us).length<=vs.toList.length:=by rw[n1];simpa using hfit
     refine stay _ (iM vs.toList (es.length*sz') ((bf (fs.length*sz')).map us)).toArray c us (.inr rfl) (gA ho ?_) (by simpa using hroom) ?_ (fun i hi=>?_) (fun i hi=>?_) h4 (fun u hu=>?_)
     ·rw[hr,aq];rfl
     ·rw[List.size_toArray,kh _ _ _ vl];simpa using q6
     ·rw[lD,j3 _ _ _ vl,if_neg (by omega),eI,aZ]
     ·rw[lD,j3 _ _ _ vl,if_pos (by rw[n1];omega),show es.length*sz'+i-es.length*sz'=i by omega,ei _ _ _ hi]
     ·rcases nn (by simpa using hu)with hu|hu
      ·exact q10 u (by simpa using hu)
      ·exact h1c u hu
    ·
     have holdlen:∀i,i<es.length*sz'->w.cell? ⟨b,0+i,none⟩=some (vs.getD (0+i) undef):=fun i hi=>cell_of q5 _ (by omega)
     obtain⟨m1,m2⟩:=xe (c:=c) (fs:=es) (sz:=sz') (us:=fun i=>vs.getD (0+i) undef) holdlen
     have hr:=run_append_grow (P:=P) w t o.type el i z ht hi hzz ⟨b,0,none⟩ es.length c _ (by rw[m1,hs,hz]) m2 ⟨b',off',none⟩ fs.length c' _ (by rw[n1,hs,hz]) n2 (by omega) (by omega)
      (by rw[hby];exact growslice_fits (by omega) hb)
     rw[<-hy,<-hv,<-aq]at hr
     have hge:=grownCap_ge w (es++fs).length c el
     have hl1:((bf (es.length*sz')).map fun i=>vs.getD (0+i) undef).toArray++((bf (fs.length*sz')).map us).toArray=(((bf (es.length*sz')).map fun i=>vs.getD (0+i) undef)++(bf (fs.length*sz')).map us).toArray:=by simp
     rw[hl1]at hr
     have ln:(((bf (es.length*sz')).map fun i=>vs.getD (0+i) undef)++(bf (fs.length*sz')).map us).length=es.length*sz'+fs.length*sz':=by rw[aq,m1,n1]
     obtain⟨v1,v2⟩:=By (M:=M) (es:=es) (fs:=fs) (sz:=sz') (vs:=(((bf (es.length*sz')).map fun i=>vs.getD (0+i) undef)++(bf (fs.length*sz')).map us).toArray++Builtin.zeroCells z.cells (grownCap w (es++fs).length c el-(es++fs).length)) (old:=fun i=>vs.getD (0+i) undef) (us:=us) q2 hf
      (fun i hi=>by rw[tY (m:=0) _ (by rw[ln];omega),i7,if_pos (by rw[m1];exact hi),ei _ _ _ hi]) (fun i hi=>by rw[tY (m:=0) _ (by rw[ln];omega),i7,if_neg (by rw[m1];omega),m1,show es.length*sz'+i-es.length*sz'=i by omega,ei _ _ _ hi])
      (fun i j hi hj=>q7 i j hi hj) h4
     refine j7 (P:=P) (w1:=w.drew) g (sz:=sz') (es:=es++fs) rfl rfl rfl rfl hge v1 ?_ v2 (fun u hu=>?_) (gA ho hr) (some m) hkk rfl hn
     ·simp only[Array.size_append,List.size_toArray,ln,size_zeroCells,hsz,<-hz]
      rw[<-Nat.add_mul,<-Nat.add_mul,<-aq,show (es++fs).length+(grownCap w (es++fs).length c el-(es++fs).length)=grownCap w (es++fs).length c el by omega]
      exact aw _
     ·rcases Array.mem_append.1 hu with hu|hu
      ·rw[List.mem_toArray]at hu
       rcases aK.1 hu with hu|hu
       ·simp only[bJ,List.mem_range]at hu
        obtain⟨j,hj,rfl⟩:=hu
        exact kI q10 _ (by omega)
       ·exact h1c u hu
      ·exact mZ hcr.2.2 _ u hu
theorem Ca(g:di n A s a w M β){T:eE}(hT:dc P T)(o:Oper)(xs:Array Operand)(ts:Array TypeId)(ho:o.op=.call ⟨.builtin .append,xs,ts⟩) :
 (dS T (ev s) s.ob o).holds fun d=>dK s n o.dst d=true->Step P n A o a w (s.app o.dst d):=by
 unfold dS
 rw[ho]
 simp only
 split
 ·rename_i x y t t' d hxs hts hd
  have ex:xs = #[x,y]:=by rw[<-Array.toArray_toList (xs:=xs),hxs]
  have et:ts = #[t,t']:=by rw[<-Array.toArray_toList (xs:=ts),hts]
  subst ex;subst et
  refine DR.aV fun hq=>?_
  rw[az]at hq
  obtain⟨hkn,htt⟩:=hq
  obtain rfl:=aE htt
  have hx:=g.ev x
  have hy:=g.ev y
  split
  ·rename_i el p fs os hk hes
   refine DR.aV fun hq=>?_
   rw[az]at hq
   obtain⟨hel,hpos⟩:=hq
   have hpos:0<(T el).bytes:=aQ hpos
   split
   ·rename_i m e
    split
    ·rename_i sz es hm
     refine DR.aV fun hz=>DR.gj fun hp=>?_
     intro⟨hf,hb⟩ hn
     have hsl:=kV g.own g.agree hy hes hp
     have hz:=aE hz
     subst hz
     exact xc g hT o ho hkn hk hel hpos rfl e hm hsl hf hb hn
    ·trivial
   ·rename_i e
    rw[e]at hx
    refine DR.gj fun hp=>?_
    intro⟨hf,hb⟩ hn
    have hsl:=kV g.own g.agree hy hes hp
    exact append_nil g hT o ho hkn hk hel hpos rfl (dE hx) hsl hf hb none (fun o h=>by cases h) rfl hn
   ·trivial
  ·trivial
 ·trivial
end
end Go.VL
namespace Go.VL
open Go Go.RowKit
section
variable {P:Program} {M:Mem} {β:Lo} {w w':World} {n:Nat} {A:jz} {s:St} {a:Act}
theorem GO(g:di n A s a w M β){T:eE}(hT:dc P T)(o:Oper) :
 (dS T (ev s) s.ob o).holds fun d=>dK s n o.dst d=true->Step P n A o a w (s.app o.dst d):=by
 have quiet:(dS T (ev s) s.ob o).holds (Quiet (sa P M β o a w))->(dS T (ev s) s.ob o).holds fun d=>dK s n o.dst d=true->Step P n A o a w (s.app o.dst d):=fun h=>lJ g h
 have conv:∀(r:DR),dS T (ev s) s.ob o=r->r.holds (Quiet (sa P M β o a w))->(dS T (ev s) s.ob o).holds (Quiet (sa P M β o a w)):=fun r e h=>by rw[e];exact h
 cases ho:o.op with
 |move x=>exact quiet (conv _ (by unfold dS;rw[ho];try rfl) (A7 g o x (.inl ho)))
 |assign x=>exact quiet (conv _ (by unfold dS;rw[ho];try rfl) (A7 g o x (.inr ho)))
 |pick c x y=>exact quiet (conv _ (by unfold dS;rw[ho];try rfl) (E0 g o c x y ho))
 |binOp op t x y t'=>exact quiet (conv _ (by unfold dS;rw[ho];try rfl) (JO g hT o op t t' x y ho))
 |
  unOp op t x =>
  cases op with
  |not=>exact quiet (conv _ (by unfold dS;rw[ho];try rfl) (JJ g o t x ho))
  |neg=>exact quiet (conv _ (by unfold dS;rw[ho];try rfl) (Iq g o t x ho))
  |_=>unfold dS;rw[ho];trivial
 |nilCheck x=>exact quiet (conv _ (by unfold dS;rw[ho];try rfl) (JL g o x ho))
 |fieldAddr t x f=>exact quiet (conv _ (by unfold dS;rw[ho];try rfl) (vY g hT o t f x ho))
 |field t x f=>exact quiet (conv _ (by unfold dS;rw[ho];try rfl) (Dq g hT o t f x ho))
 |load t x=>exact quiet (conv _ (by unfold dS;rw[ho];try rfl) (Fg g hT o t x ho))
 |indexAddr t x i=>exact quiet (conv _ (by unfold dS;rw[ho];try rfl) (vN g hT o t x i ho))
 |index t x i=>exact quiet (conv _ (by unfold dS;rw[ho];try rfl) (Ck g hT o t x i ho))
 |extract x i=>exact quiet (conv _ (by unfold dS;rw[ho];try rfl) (zM g o x i ho))
 |
  slice t x lo hi mx =>
  cases mx with
  |none=>exact C5 g hT o t x lo hi ho
  |some m=>unfold dS;rw[ho];trivial
 |convert st dt x=>exact quiet (zl g hT o st dt x ho)
 |build t ps=>exact quiet (DP g hT o t ps ho)
 |alloc t=>exact CZ g hT o t ho
 |box t x=>exact L9 g hT o t x ho
 |store t x y=>exact D1 g hT o t x y ho
 |buildSlice t m ps=>exact tI g hT o t m ps ho
 |makeSlice t l c=>exact v8 g hT o t l c ho
 |
  call c =>
  obtain⟨callee,xs,ts⟩:=c
  cases callee with
  |
   builtin b =>
   cases b with
   |len=>exact quiet (J9 g hT o xs ts ho)
   |append=>exact Ca g hT o xs ts ho
   |max=>exact quiet (LZ g o xs ts ho)
   |min=>exact quiet (Le g o xs ts ho)
   |_=>unfold dS;rw[ho];trivial
  |_=>unfold dS;rw[ho];trivial
 |
  makeFunc f fs cs =>
  cases f with
  |func f=>exact quiet (xj g o f fs cs ho)
  |_=>unfold dS;rw[ho];trivial
 |_=>unfold dS;rw[ho];trivial
end
end Go.VL
namespace Go.VL
open Go
abbrev wB:String:="internal/strconv.uint64pow10"
abbrev Gt:String:="internal/bytealg.MaxLen"
structure sd(P:Program)(M:Mem)(w:World):Prop where
 is:Lib.TabIs P w wB .u64 Lib.pow10Tab
 kn:∃g v,P.globalNamed wB=some g/\M.c g 0=some v
 mx:∃g m,P.globalNamed Gt=some g/\M.c g 0=some (.int .i64 m)
def lQ(P:Program)(A:jz):Prop:=sd P A.M0 A.w0/\∀b k v,A.M0.c b k=some v->¬A.uT b
theorem lQ.at{P:Program}{A:jz}{M:Mem}{w:World}(h:lQ P A)(hk:zo A w)(hM:A.M0.le M):sd P M w:=by
 obtain⟨⟨his,⟨g,v,hg,hc⟩,g2,m2,hg2,hc2⟩,hI⟩:=h
 refine⟨?_,⟨g,v,hg,hM.c _ _ _ hc⟩,g2,m2,hg2,hM.c _ _ _ hc2⟩
 unfold Lib.TabIs World.var? at his |-
 rw[hg]at his |-
 simp only[ba]at his |-
 have hlt:g<A.w0.heap.size:=by
  rcases Nat.lt_or_ge g A.w0.heap.size with h|h
  ·exact h
  ·rw[Array.getElem?_eq_none h]at his;cases his
 rw[hk.block g hlt (hI _ _ _ hc)];exact his
theorem lQ.of{P:Program}{A:jz}(h:sd P A.M0 A.w0)(hI:∀b k v,A.M0.c b k=some v->¬A.uT b):lQ P A:=⟨h,hI⟩
end Go.VL
namespace Go.VL
open Go Go.RowKit
structure Out(w:World)(M:Mem)(β:Lo)(m:Nat)(r:AV)(obs:List Ob)(v:Value)(w':World)(M':Mem)(β':Lo):Prop where
 le:M.le M'
 agree:gP M' w'
 rep:bx M' β' r v
 own:∀j,j<obs.length->Own M' β' w' j (obs.getD j .dead)
 same:∀j b,j<m->β j=some (.cells b)->β' j=some (.cells b)
 tq:∀j l sz es,j<m->β j=some l->obs.getD j .dead=.mv sz es->β' j=some l
 apart:∀i j b,i≠j->i<obs.length->j<obs.length->(obs.getD i .dead).live=true->(obs.getD j .dead).live=true->dZ β' i=some b->dZ β' j≠some b
 place:∀j b,j<obs.length->(obs.getD j .dead).live=true->dZ β' j=some b->w.heap.size<=b\/∃i,i<m/\dZ β i=some b
 new:∀b k v,M'.c b k=some v->M.c b k=some v\/w.heap.size<=b\/∃i,i<m/\dZ β i=some b
 cC:zo ⟨w,M,fun b=>∃i,i<m/\dZ β i=some b,fun _=>none⟩ w'
def Eh(P:Program)(f:Nat):Prop:=∃fn,P.funcs[f]?=some fn/\fn.body.isNone=false/\(fn.name=="runtime.NumGoroutine")=false
structure In(w:World)(M:Mem)(β:Lo)(asq:List AV)(ins:List Ob)(vs:List Value):Prop where
 len:vs.length=asq.length
 rep:∀i,i<asq.length->bx M β (asq.getD i .any) (vs.getD i undef)
 agree:gP M w
 own:∀j,j<ins.length->Own M β w j (ins.getD j .dead)
 none:∀j,ins.length<=j->β j=none
 apart:∀i j b,i≠j->i<ins.length->j<ins.length->(ins.getD i .dead).live=true->(ins.getD j .dead).live=true->dZ β i=some b->dZ β j≠some b
def an(P:Program)(f:Nat)(asq:List AV)(ins:List Ob)(R:AV->List Ob->Prop):Prop :=
 Eh P f/\∀w M β vs,sd P M w->In w M β asq ins vs->Calls P f vs.toArray w fun e w'=>∃v r obs M' β',e=.returned v/\R r obs/\Out w M β ins.length r obs v w' M' β'
def G1(n:Nat)(A:jz)(h:Shape)(xs:List AV)(obs:List Ob)(a:Act)(w:World):Prop:=∃s M β,di n A s a w M β/\xb h s=some (xs,obs)
def nA(P:Program)(c:Code)(Q:Exit->Act->World->Prop)(a:Act)(w:World):Prop :=
 ∀X:Act->World->Prop,(∀a w,c.wp P (Exit.then X Q) a w->X a w)->X a w
theorem nA.G3{P:Program}{c:Code}{Q:Exit->Act->World->Prop}{a:Act}{w:World}(h:c.wp P (Exit.then (nA P c Q) Q) a w):nA P c Q a w:=by
 intro X hX
 refine hX a w (Code.wp_mono (fun e a w q=>?_) h)
 cases e<;>first|exact q|exact q X hX
theorem nA.wp{P:Program}{c:Code}{Q:Exit->Act->World->Prop}{a:Act}{w:World}(h:nA P c Q a w):(Code.loop c).wp P Q a w:=by
 intro b k cs
 have key:=h (fun a w=>∃e a' w',Q e a' w'/\Arrives P (lone (b.at a (.code c::.inLoop c::k)) cs w) b k cs e a' w') (by
  intro a w h
  obtain⟨e,a₁,w₁,hq,harr⟩:=h b (.inLoop c::k) cs
  cases e with
  |
   normal =>
   obtain⟨e₂,a₂,w₂,hq₂,harr₂⟩:=hq
   exact⟨e₂,a₂,w₂,hq₂,.of_steps (Steps.trans harr (.one step_inLoop)) harr₂⟩
  |exit id=>exact⟨_,a₁,w₁,hq,.pass (x:=.inLoop c) rfl (fun _ _=>.inl (by simp)) harr⟩
  |goto l=>exact⟨_,a₁,w₁,hq,.pass (x:=.inLoop c) rfl (fun _ _=>.inl (by simp)) harr⟩
  |ret=>exact⟨_,a₁,w₁,hq,.pass (x:=.inLoop c) rfl (fun _ _=>.inl (by simp)) harr⟩
  |panic ch=>exact⟨_,a₁,w₁,hq,.pass (x:=.inLoop c) rfl (fun _ _=>.inl (by simp)) harr⟩
  |outgrown=>exact⟨_,a₁,w₁,hq,.pass (x:=.inLoop c) rfl (fun _ _=>.inl (by simp)) harr⟩)
 obtain⟨e,a',w',hq,harr⟩:=key
 exact⟨e,a',w',hq,.of_steps (.one step_loop) harr⟩
def Bk(n:Nat)(A:jz)(li:LI)(R:Nat->List AV->List Ob->Prop):Exit->Act->World->Prop
 | .exit i,a,w=>i=li.ex/\∃ys o,R 1 ys o/\G1 n A li.xs ys o a w
 | .ret,a,w=>∃ys o,R 2 ys o/\G1 n A li.rt ys o a w
 |_,_,_=>False
def cH(P:Program)(n:Nat)(c:Code)(li:LI)(xs:List AV)(obs:List Ob)(R:Nat->List AV->List Ob->Prop):Prop :=
 ∀A a w,lQ P A->(∀o b,A.fix o=some b->o∈li.fx)->G1 n A li.hd xs obs a w->nA P c (Bk n A li R) a w
def eU(P:Program)(n:Nat):Tree->(Nat->List AV->List Ob->Prop)->Prop
 | .fail,_=>False
 | .done tag xs obs,Q=>Q tag xs obs
 | .test b y t,Q=>(b=true->eU P n y Q)/\(b=false->eU P n t Q)
 | .aj p t,Q=>p/\eU P n t Q
 | .call f asq ins k,Q=>∃R,an P f asq ins R/\(∃r obs,R r obs)/\∀r obs,R r obs->eU P n (k r obs) Q
 | .loop c li xs obs kx kr,Q=>∃R,cH P n c li xs obs R/\(∀ys o,R 1 ys o->eU P n (kx ys o) Q)/\∀ys o,R 2 ys o->eU P n (kr ys o) Q
def gn:List Prop->Prop
 |[]=>True
 |p::ps=>p/\gn ps
theorem gv{P:Program}{n:Nat}{Q:Nat->List AV->List Ob->Prop}:∀{ps:List Prop} {t:Tree},eU P n (nO ps t) Q↔gn ps/\eU P n t Q
 |[],t=>by simp[nO,gn]
 |p::ps,t=>by simp[nO,gn,eU,gv (ps:=ps),and_assoc]
section
variable {P:Program} {M:Mem} {β:Lo} {w w':World} {n:Nat} {A:jz} {s:St} {a:Act}
theorem od{T:eE}(t:Nat){r:AV}{v:Value}{M':Mem}{β0 β':Lo}(h:bx M' β0 r v)(hh:oI (T t) r):bx M' β' (mc (T t) r) v:=by
 unfold oI at hh
 unfold mc
 cases ha:(T t).agg with
 |
  true =>
  simp only[ha,cond_true]at hh |-
  obtain⟨h1,h2,h3⟩:=hh
  rw[h1]at h
  obtain⟨vs,rfl,hl,hr,ho⟩:=fM h
  have hk:(T t).lk.length=r.cs.length:=h2.symm
  have e:vs=(bf (T t).lk.length).map fun i=>vs.getD i undef:=by
   apply List.ext_getElem
   ·simp[hk,hl]
   ·intro i h1 h2
    simp[aa,h1]
  rw[e]
  exact px h3 (fun i hi=>ho i (by omega)) fun i hi=>kJ (by simpa using hr i (by omega)) (kt _ _ _ _ h3 hi)
 |
  false =>
  simp only[ha,cond_false]at hh |-
  exact LK.gT (kJ h hh) hh
theorem yL{T:eE}{oa:List CK}{M':Mem}{β0 β':Lo}{vs:List Value}{r:AV}:∀(ts:List Nat) (i j:Nat) (obs:List Ob) (nm:Nat),gn (eu T [] oa r ts i j obs nm).1->(∀q,q<ts.length->bx M' β0 (r.comp (i+q)) (vs.getD (i+q) undef)) ->
 (eu T [] oa r ts i j obs nm).2.2=[]/\(eu T [] oa r ts i j obs nm).2.1.length=ts.length/\∀q,q<ts.length->bx M' β' ((eu T [] oa r ts i j obs nm).2.1.getD q .any) (vs.getD (i+q) undef)
 |[],i,j,obs,nm,_,_=>⟨rfl,rfl,fun q hq=>by simp at hq⟩
 |
  t::ts,i,j,obs,nm,hp,hr=>by
  simp only[eu,List.any_nil,cond_false]at hp |-
  obtain⟨hp1,hp2⟩:=hp
  obtain⟨q1,q2,q3⟩:=yL (vs:=vs) (β':=β') ts (i+1) j obs nm hp2 fun q hq=>by
   have:=hr (q+1) (by simpa using hq)
   rw[show i+(q+1)=i+1+q by omega]at this
   exact this
  refine⟨q1,by simp[q2],fun q hq=>?_⟩
  cases q with
  |zero=>simpa using od (β':=β') t (hr 0 (by simp)) hp1
  |
   succ q =>
   have:=q3 q (by simpa using hq)
   rw[show i+(q+1)=i+1+q by omega]
   simpa using this
theorem Dr{T:eE}{ow:List LK}{oa:List CK}{M':Mem}{β0 β':Lo}{v:Value}{r:AV}(t j:Nat)(obs:List Ob)(nm:Nat)(hp:gn (dR T [] ow oa t r j obs nm).1)(hr:bx M' β0 r v) :
 (dR T [] ow oa t r j obs nm).2.2=[]/\bx M' β' (dR T [] ow oa t r j obs nm).2.1 v:=by
 have plain:(∀ts,(T t).k≠.tuple ts)->(dR T [] ow oa t r j obs nm)=([oI (T t) r],mc (T t) r,[]):=fun h=>by
  unfold dR
  cases hk:(T t).k<;>first|rfl|exact absurd hk (h _)
 by_cases htu:∃ts,(T t).k=.tuple ts
 ·obtain⟨ts,hk⟩:=htu
  cases ts with
  |
   nil =>
   have e:dR T [] ow oa t r j obs nm=([],.any,[]):=by unfold dR;rw[hk]
   rw[e];exact⟨rfl,.any _ _⟩
  |
   cons t1 tl =>
   have e:dR T [] ow oa t r j obs nm=(let q:=eu T [] oa r (t1::tl) 0 j obs nm;((r=.cy ((bf (t1::tl).length).map r.comp))::q.1,.cy q.2.1,q.2.2)):=by unfold dR;rw[hk]
   rw[e]at hp |-
   obtain⟨hp1,hp2⟩:=hp
   rw[hp1]at hr
   have:∃vs:List Value,v=.tuple vs.toArray/\((bf (t1::tl).length).map r.comp).length=vs.length/\∀i,i<((bf (t1::tl).length).map r.comp).length->bx M' β0 (((bf (t1::tl).length).map r.comp).getD i .any) (vs.getD i undef):=by
    cases hr with|cy _ _ vs hl h=>exact⟨vs,rfl,hl,h⟩
   obtain⟨vs,rfl,hl,h⟩:=this
   simp only[cg,List.length_range]at hl h
   obtain⟨q1,q2,q3⟩:=yL (T:=T) (β':=β') (vs:=vs) (t1::tl) 0 j obs nm hp2 fun q hq=>by
    have:=h q hq
    rw[aZ]
    have hq':q<tl.length+1:=by simpa using hq
    simpa[aa,List.getElem?_range hq']using this
   exact⟨q1,.cy _ _ _ (by rw[q2];exact hl) fun i hi=>by have:=q3 i (by omega);rw[aZ]at this;exact this⟩
 ·rw[plain fun ts h=>htu ⟨ts,h⟩]at hp |-
  exact⟨rfl,od t hr hp.1⟩
end
end Go.VL
namespace Go.VL
open Go Go.RowKit
section
variable {ob ob':Nat->Option Ob} {tm:Nat->AV}
theorem vk{f f':AV->Option (AV×List Nat)}(hf:∀c a os,f c=some (a,os)->(∀m,m∈os->ob' m=ob m)->f' c=some (a,os)):∀{cs asq:List AV} {os:List Nat},mz f cs=some (asq,os)->(∀m,m∈os->ob' m=ob m)->mz f' cs=some (asq,os)
 |[],asq,os,h,_=>h
 |
  c::cs,asq,os,h,hm=>by
  unfold mz at h
  split at h
  ·rename_i a1 o1 a2 o2 h1 h2
   cases h
   have q1:=hf _ _ _ h1 fun m h=>hm m (aC _ h)
   have q2:=vk hf h2 fun m h=>hm m (aB _ h)
   simp[mz,q1,q2]
  ·cases h
theorem mf:∀(k:Nat) (c a:AV) (os:List Nat),freeze ob k c=some (a,os)->(∀m,m∈os->ob' m=ob m)->freeze ob' k c=some (a,os)
 |0,c,a,os,h,_=>by simp[freeze]at h
 |
  k+1,c,a,os,h,hm=>by
  have ih:=fun c a os=>mf k c a os
  unfold freeze at h |-
  cases c<;>first|exact h|skip
  ·rename_i cs
   simp only at h |-
   cases e:mz (freeze ob k) cs with
   |none=>rw[e]at h;cases h
   |
    some r =>
    rw[e]at h
    simp only[cu,Option.some.injEq,Prod.mk.injEq]at h
    obtain⟨rfl,rfl⟩:=h
    rw[vk ih (by rw[e]) hm];rfl
  ·rename_i o j
   cases j with
   |succ j=>exact h
   |
    zero =>
    simp only at h |-
    have key:∀cs,(ob o=some (.cells cs)\/ob o=some (.gW cs))->((mz (freeze ob k) cs).map fun r=>(AV.ptr r.1,o::r.2))=some (a,os)->ob' o=ob o/\(mz (freeze ob' k) cs).map (fun r=>(AV.ptr r.1,o::r.2))=some (a,os):=by
     intro cs _ h
     cases e:mz (freeze ob k) cs with
     |none=>rw[e]at h;cases h
     |
      some r =>
      rw[e]at h
      simp only[cu,Option.some.injEq,Prod.mk.injEq]at h
      obtain⟨rfl,rfl⟩:=h
      refine⟨hm o ai,?_⟩
      rw[vk ih (by rw[e]) fun m h=>hm m (al _ h)];rfl
    split at h
    ·rename_i cs ho
     obtain⟨q1,q2⟩:=key cs (.inl ho) h
     rw[q1,ho];exact q2
    ·rename_i cs ho
     obtain⟨q1,q2⟩:=key cs (.inr ho) h
     rw[q1,ho];exact q2
    ·cases h
  ·rename_i o
   simp only at h |-
   split at h
   ·rename_i sz es ho
    cases h
    rw[hm o ai,ho]
   ·rename_i es ho
    cases h
    rw[hm o ai,ho]
   ·cases h
theorem EF{c a:AV}(h:ext ob c=some a):ext ob' c=some a:=by
 unfold ext at h |-
 split at h
 ·rename_i a' h1
  cases h
  rw[mf (ob:=ob) (ob':=ob') eB c a [] h1 fun m hm=>by cases hm]
 ·cases h
theorem lu:∀(ks:List CK) {cs asq:List AV} {obs:List Ob} {os:List Nat} {j:Nat},bY ob ks cs j=some (asq,obs,os)->(∀m,m∈os->ob' m=ob m)->bY ob' ks cs j=some (asq,obs,os)
 |
  [],cs,asq,obs,os,j,h,hm=>by
  cases cs with
  |nil=>exact h
  |cons c cs=>simp[bY]at h
 |
  .lk k::ks,cs,asq,obs,os,j,h,hm=>by
  cases cs with
  |nil=>simp[bY]at h
  |
   cons c cs =>
   simp only[bY]at h |-
   split at h
   ·rename_i h1 h2;cases h;rw[EF h1,lu ks h2 hm]
   ·cases h
 |
  .vec hsz::ks,cs,asq,obs,os,j,h,hm=>by
  cases cs with
  |nil=>simp[bY]at h
  |
   cons c cs =>
   cases c<;>first|(simp[bY]at h;done)|skip
   ·rename_i x
    cases x<;>first|(simp[bY]at h;done)|skip
    rename_i ad ln cp
    cases ad<;>first|(simp[bY]at h;done)|skip
    cases ln<;>first|(simp[bY]at h;done)|skip
    cases cp<;>first|(simp[bY]at h;done)|skip
    simp only[bY]at h |-
    split at h
    ·rename_i h2;cases h;rw[lu ks h2 fun m hh=>hm m (al _ hh)]
    ·cases h
   ·simp only[bY]at h |-
    split at h
    ·rename_i h1 h2;cases h;rw[hm _ ai,h1,lu ks h2 fun m hh=>hm m (al _ hh)]
    ·cases h
theorem yo:∀(cr:List (Nat×List CK)) {obs:List Ob} {os:List Nat},pP ob cr=some (obs,os)->(∀m,m∈os->ob' m=ob m)->pP ob' cr=some (obs,os)
 |[],obs,os,h,hm=>h
 |
  (o,ks)::r,obs,os,h,hm=>by
  simp only[pP]at h |-
  split at h
  ·rename_i cs ho
   split at h
   ·rename_i h1 h2
    cases h
    rw[hm o (by simp),ho]
    simp only
    rw[lu ks h1 fun m hh=>hm m (by simp[hh]),yo r h2 fun m hh=>hm m (by simp[hh])]
   ·cases h
  ·cases h
theorem ua:∀(vs:List (Nat×Nat)) {obs:List Ob} {os:List Nat},kG ob tm vs=some (obs,os)->(∀m,m∈os->ob' m=ob m)->kG ob' tm vs=some (obs,os)
 |[],obs,os,h,hm=>h
 |
  (t,sz)::r,obs,os,h,hm=>by
  simp only[kG]at h |-
  split at h
  ·split at h
   ·rename_i h2
    cases h
    rw[ua r h2 fun m hh=>hm m (al _ hh)]
   ·cases h
  ·split at h
   ·rename_i h1 h2
    cases h
    rw[hm _ ai,h1,ua r h2 fun m hh=>hm m (al _ hh)]
   ·cases h
  ·cases h
theorem yy:∀(ags:List (Nat×List CK)) {xs:List AV} {obs:List Ob} {os:List Nat},pW ob tm ags=some (xs,obs,os)->(∀m,m∈os->ob' m=ob m)->pW ob' tm ags=some (xs,obs,os)
 |[],xs,obs,os,h,hm=>h
 |
  (t,ks)::r,xs,obs,os,h,hm=>by
  simp only[pW]at h |-
  split at h
  ·split at h
   ·rename_i h1 h2
    cases h
    rw[lu ks h1 fun m hh=>hm m (aC _ hh),yy r h2 fun m hh=>hm m (aB _ hh)]
   ·cases h
  ·cases h
theorem yd:∀(vs:List (Nat×Nat×Nat)) {obs:List Ob} {os:List Nat},rh ob tm vs=some (obs,os)->(∀m,m∈os->ob' m=ob m)->rh ob' tm vs=some (obs,os)
 |[],obs,os,h,hm=>h
 |
  (t,o,sz)::r,obs,os,h,hm=>by
  simp only[rh]at h |-
  split at h
  ·rename_i o' _
   split at h
   ·rename_i sz' es obs1 os1 h1 h2
    cases hb:(aJ o' o&&aJ sz' sz)with
    |false=>rw[hb]at h;cases h
    |
     true =>
     rw[hb]at h
     cases h
     rw[hm _ ai,h1,yd r h2 fun m hh=>hm m (al _ hh)]
     simp only[hb,cond_true]
   ·cases h
  ·cases h
end
end Go.VL
namespace Go.VL
open Go Go.RowKit
section
variable {P:Program} {M:Mem} {β β2:Lo} {w w':World} {n:Nat} {A:jz} {s:St} {a:Act}
structure fV(s:St)(w:World)(M:Mem)(β:Lo)(U:List Nat)(f:Nat->Option Ob)(β2:Lo):Prop where
 own:∀m x,f m=some x->Own M β2 w m x
 Nv:∀m,f m=none->β2 m=none
 src:∀m x b,f m=some x->x.live=true->dZ β2 m=some b->∃o x0,o∈U/\s.ob o=some x0/\x0.live=true/\dZ β o=some b
 apart:∀m m' x x' b,m≠m'->f m=some x->x.live=true->f m'=some x'->x'.live=true->dZ β2 m=some b->dZ β2 m'≠some b
theorem fV.nil:fV s w M β [] (fun _=>none) dm:=⟨fun m x h=>(by cases h),fun _ _=>rfl,fun m x b h=>(by cases h),fun m m' x x' b _ h=>(by cases h)⟩
theorem fV.le{U:List Nat}{f:Nat->Option Ob}(h:fV s w M β U f β2){m:Nat}(hm:f m=none)(l:Loc):Lo.le β2 (cx β2 m (some l)):=fun o q hq=>by
 by_cases ho:o=m
 ·subst ho;rw[h.Nv o hm]at hq;cases hq
 ·rw[a6 _ _ _ _ ho];exact hq
theorem fV.add(g:di n A s a w M β){U:List Nat}{f:Nat->Option Ob}(h:fV s w M β U f β2){m:Nat}(hm:f m=none){l:Loc}{x:Ob}(hx:Own M (cx β2 m (some l)) w m x)(o:Nat)(ho:o∉U)
 (hs:∀b,l.block=some b->∃x0,s.ob o=some x0/\x0.live=true/\dZ β o=some b):fV s w M β (o::U) (cx f m (some x)) (cx β2 m (some l)):=by
 have hβ:=h.le hm l
 have hbd:∀q b,q≠m->dZ (cx β2 m (some l)) q=some b->dZ β2 q=some b:=fun q b hq hb=>by unfold dZ at hb |-;rw[a6 _ _ _ _ hq]at hb;exact hb
 have hdd:dZ (cx β2 m (some l)) m=l.block:=by unfold dZ;rw[aN];rfl
 have hf:∀q y,q≠m->cx f m (some x) q=some y->f q=some y:=fun q y hq hy=>by rw[a6 _ _ _ _ hq]at hy;exact hy
 refine⟨fun q y hy=>?_,fun q hq=>?_,fun q y b hy hl hb=>?_,?_⟩
 ·by_cases e:q=m
  ·subst e;rw[aN]at hy;cases hy;exact hx
  ·exact(h.own q y (hf q y e hy)).mono (Mem.le.refl _) hβ fun b hl hb=>⟨rfl,(h.own q y (hf q y e hy)).Ae hl hb⟩
 ·by_cases e:q=m
  ·subst e;rw[aN]at hq;cases hq
  ·rw[a6 _ _ _ _ e]at hq |-;exact h.Nv q hq
 ·by_cases e:q=m
  ·subst e
   rw[hdd]at hb
   obtain⟨x0,h1,h2,h3⟩:=hs b hb
   exact⟨o,x0,ai,h1,h2,h3⟩
  ·obtain⟨o',x0,h1,h2⟩:=h.src q y b (hf q y e hy) hl (hbd q b e hb)
   exact⟨o',x0,al _ h1,h2⟩
 ·have key:∀q y b,q≠m->f q=some y->y.live=true->dZ β2 q=some b->l.block≠some b:=fun q y b hq hy hl hb hb'=>by
   obtain⟨o',x0,h1,h2,h3,h4⟩:=h.src q y b hy hl hb
   obtain⟨x1,h5,h6,h7⟩:=hs b hb'
   exact g.apart o o' x1 x0 b (fun e=>ho (by rw[e];exact h1)) h5 h6 h2 h3 h7 h4
  intro q q' y y' b hne hy hl hy' hl' hb hb'
  by_cases e:q=m
  ·subst e
   rw[hdd]at hb
   exact key q' y' b (Ne.symm hne) (hf q' y' (Ne.symm hne) hy') hl' (hbd q' b (Ne.symm hne) hb') hb
  ·by_cases e':q'=m
   ·subst e'
    rw[hdd]at hb'
    exact key q y b e (hf q y e hy) hl (hbd q b e hb) hb'
   ·exact h.apart q q' y y' b hne (hf q y e hy) hl (hf q' y' e' hy') hl' (hbd q b e hb) (hbd q' b e' hb')
theorem fV.RM(g:di n A s a w M β){U:List Nat}{f:Nat->Option Ob}(h:fV s w M β U f β2)(hfix:∀o b,A.fix o=some b->(f o).isSome=true/\β2 o=some b){tm:Nat->AV}(ht:∀t,bx M β2 (tm t) (a.tmps.getD t undef)) :
 di n A {tm:=tm,ob:=f,us:=fun x=>(f x).isSome} a w M β2 :=
 {
  size:=g.size,defs:=g.defs,tm:=ht,le:=g.le,new:=g.new,agree:=g.agree,own:=h.own,
  place:=fun o x b hx hl hb=>by obtain⟨o',x0,_,h2,h3,h4⟩:=h.src o x b hx hl hb;exact g.place o' x0 b h2 h3 h4
  apart:=h.apart
  us:=fun o hu=>by
   have:f o=none:=by simpa using hu
   exact⟨h.Nv o this,this⟩
  fix:=fun o b hf=>⟨(hfix o b hf).1,fun _ _=>(hfix o b hf).2⟩
  cC:=g.cC}
theorem fV.vec(g:di n A s a w M β){U:List Nat}{f:Nat->Option Ob}(h:fV s w M β U f β2){m o sz:Nat}{es:List (List AV)}(hm:f m=none)(ho:o∉U)(hx:s.ob o=some (.vec sz es)) :
 ∃β3,fV s w M β (o::U) (cx f m (some (.vec sz es))) β3/\Lo.le β2 β3/\(∀v,bx M β (.vec o) v->bx M β3 (.vec m) v)/\β3 m=β o:=by
 obtain⟨v,h1,h2,h3⟩:=g.own o _ hx
 refine⟨cx β2 m (some (.vec v sz)),h.add g hm (l:=.vec v sz) (x:=.vec sz es) ⟨v,aN _ _ _,h2,h3⟩ o ho (fun b hb=>⟨_,hx,rfl,by simp[dZ,h1];exact hb⟩),h.le hm _,fun u hu=>?_,by rw[aN,h1]⟩
 cases hu with
 |vec _ _ _ sz' hov hb=>rw[h1]at hb;cases hb;exact .vec _ _ _ _ hov (aN _ _ _)
theorem fV.obj(g:di n A s a w M β){U:List Nat}{f:Nat->Option Ob}(h:fV s w M β U f β2){m o:Nat}{cs asq:List AV}(hm:f m=none)(ho:o∉U)(hx:s.ob o=some (.cells cs))(hl:asq.length=cs.length)
 (hr:∀i v,i<cs.length->bx M β (cs.getD i .any) v->bx M dm (asq.getD i .any) v) :
 ∃β3,fV s w M β (o::U) (cx f m (some (.cells asq))) β3/\Lo.le β2 β3/\∀v,bx M β (.ref o 0) v->bx M β3 (.ref m 0) v:=by
 obtain⟨b,vs,e,h1,h2,h3,h4,h5,h6⟩:=g.own o _ hx
 refine⟨cx β2 m (some (.cells b)),h.add g hm (l:=.cells b) (x:=.cells asq) ⟨b,vs,e,aN _ _ _,h2,by omega,fun i hi=>(hr i _ (by omega) (h4 i (by omega))).up,h5,h6⟩ o ho (fun b' hb=>⟨_,hx,rfl,by simp[dZ,h1];exact hb⟩),h.le hm _,fun u hu=>?_⟩
 cases hu with
 |ref _ _ _ b' hb=>rw[h1]at hb;cases hb;exact .ref _ _ _ _ (aN _ _ _)
theorem fV.ud(g:di n A s a w M β){U:List Nat}{f:Nat->Option Ob}(h:fV s w M β U f β2){m o sz:Nat}(hm:f m=none)(ho:o∉U) :
 ∃β3,fV s w M β (o::U) (cx f m (some (.vec sz []))) β3/\Lo.le β2 β3/\bx M β3 (.vec m) (.slice none 0 0) :=
 ⟨cx β2 m (some (.vec (.slice none 0 0) sz)),h.add g hm (l:=.vec (.slice none 0 0) sz) (x:=.vec sz []) ⟨_,aN _ _ _,fun i hi=>by simp at hi,.inl ⟨rfl,rfl⟩⟩ o ho (fun b hb=>by simp[Loc.block]at hb),h.le hm _,.vec _ _ _ _ rfl (aN _ _ _)⟩
theorem nodup_cons{x:Nat}{l:List Nat}(h:nodup (x::l)=true):x∉l/\nodup l=true:=by
 simp only[nodup,az,cc]at h
 refine⟨fun hx=>?_,h.2⟩
 have:=h.1
 rw[List.any_eq_false]at this
 exact this x hx (Nat.beq_refl x)
theorem eF{l r:List Nat}(h:nodup (l++r)=true):nodup l=true/\nodup r=true/\∀x,x∈l->x∉r:=by
 induction l with
 |nil=>exact⟨rfl,h,fun x hx=>by cases hx⟩
 |
  cons y l ih =>
  obtain⟨h1,h2⟩:=nodup_cons h
  obtain⟨q1,q2,q3⟩:=ih h2
  refine⟨?_,q2,fun x hx=>?_⟩
  ·simp only[nodup,az,cc,List.any_eq_false]
   exact⟨fun z hz e=>h1 (aC _ (by rw[aE e];exact hz)),q1⟩
  ·rcases aH.1 hx with rfl|hx
   ·exact fun hr=>h1 (aB _ hr)
   ·exact q3 x hx
theorem oB(g:di n A s a w M β):∀(ks:List CK) {cs asq:List AV} {obs:List Ob} {os:List Nat} {j:Nat},bY s.ob ks cs j=some (asq,obs,os) ->
 ∀{U:List Nat} {f:Nat->Option Ob} {β2:Lo} {full:List AV} {i nm:Nat} {rest:List Ob},fV s w M β U f β2->(∀q,q<ks.length->full.getD (i+q) .any=(fk ks asq).getD q .any)->ag ks full i (obs++rest)->(∀m,nm<=m->f m=none)->nodup os=true->(∀o,o∈os->o∉U) ->
 ∃β3 U',fV s w M β U' (cD f (bQ ks full i (obs++rest) nm).2.1) β3/\Lo.le β2 β3/\(∀o,o∈U'->o∈os\/o∈U)/\(bQ ks full i (obs++rest) nm).2.2=(rest,nm+bL ks)/\(bQ ks full i (obs++rest) nm).1.length=cs.length /\
  (∀q v,q<cs.length->bx M β (cs.getD q .any) v->bx M β3 ((bQ ks full i (obs++rest) nm).1.getD q .any) v)/\(∀m,nm+bL ks<=m->cD f (bQ ks full i (obs++rest) nm).2.1 m=none)/\(∀m,m<nm->cD f (bQ ks full i (obs++rest) nm).2.1 m=f m)/\full.length=i+ks.length/\ks.length=cs.length
 |
  [],cs,asq,obs,os,j,h,U,f,β2,full,i,nm,rest,hB,hfull,hk,hnm,hnd,hU=>by
  cases cs with
  |
   nil =>
   simp only[bY,Option.some.injEq,Prod.mk.injEq]at h
   obtain⟨rfl,rfl,rfl⟩:=h
   exact⟨β2,U,hB,Lo.le.refl _,fun o ho=>.inr ho,rfl,rfl,fun q v hq=>by simp at hq,fun m hm=>hnm m (by simpa[bL]using hm),fun m _=>rfl,hk,rfl⟩
  |cons c cs=>simp[bY]at h
 |
  .lk k::ks,cs,asq,obs,os,j,h,U,f,β2,full,i,nm,rest,hB,hfull,hk,hnm,hnd,hU=>by
  cases cs with
  |nil=>simp[bY]at h
  |
   cons c cs =>
   simp only[bY]at h
   split at h
   ·rename_i a1 as1 obs1 os1 h1 h2
    cases h
    obtain⟨hk1,hk2⟩:=hk
    have e0:full.getD i .any=a1:=by simpa[fk]using hfull 0 (by simp)
    obtain⟨β3,U',b1,b2,b3,b4,b5,b6,b7,b8,b9,b10⟩:=oB g ks h2 (i:=i+1) (nm:=nm) (full:=full) hB (fun q hq=>by
     have:=hfull (q+1) (by simpa using hq)
     rw[show i+(q+1)=i+1+q by omega]at this
     simpa[fk]using this) hk2 hnm hnd hU
    refine⟨β3,U',b1,b2,b3,b4,by simp[bQ,b5],fun q v hq hr=>?_,b7,b8,by simp;omega,by simp[b10]⟩
    cases q with
    |
     zero =>
     have hr':bx M dm a1 v:=wG h1 (by simpa using hr)
     rw[e0]at hk1
     show bx M β3 ((k.cast (full.getD i .any)::_).getD 0 .any) v
     rw[bp,e0]
     exact LK.gT (β:=β3) hr' hk1
    |succ q=>simpa[bQ]using b6 q v (by simpa using hq) (by simpa using hr)
   ·cases h
 |
  .vec hsz::ks,cs,asq,obs,os,j,h,U,f,β2,full,i,nm,rest,hB,hfull,hk,hnm,hnd,hU=>by
  cases cs with
  |nil=>simp[bY]at h
  |
   cons c cs =>
   have cont:∀(es:List (List AV)) (o:Nat) (as1:List AV) (obs1:List Ob) (os1:List Nat),bY s.ob ks cs (j+1)=some (as1,obs1,os1)->asq=.vec j::as1->obs=.vec hsz es::obs1->os=o::os1->(∃β3,fV s w M β (o::U) (cx f nm (some (.vec hsz es))) β3/\Lo.le β2 β3/\∀v,bx M β c v->bx M β3 (.vec nm) v) ->
    ∃β3 U',fV s w M β U' (cD f (bQ (.vec hsz::ks) full i (obs++rest) nm).2.1) β3/\Lo.le β2 β3/\(∀o,o∈U'->o∈os\/o∈U)/\(bQ (.vec hsz::ks) full i (obs++rest) nm).2.2=(rest,nm+bL (.vec hsz::ks))/\(bQ (.vec hsz::ks) full i (obs++rest) nm).1.length=(c::cs).length /\
   (∀q v,q<(c::cs).length->bx M β ((c::cs).getD q .any) v->bx M β3 ((bQ (.vec hsz::ks) full i (obs++rest) nm).1.getD q .any) v)/\(∀m,nm+bL (.vec hsz::ks)<=m->cD f (bQ (.vec hsz::ks) full i (obs++rest) nm).2.1 m=none)/\(∀m,m<nm->cD f (bQ (.vec hsz::ks) full i (obs++rest) nm).2.1 m=f m)/\full.length=i+(CK.vec hsz::ks).length/\(CK.vec hsz::ks).length=(c::cs).length:=by
    intro es o as1 obs1 os1 h2 ea eo eos ⟨β3,c1,c2,c3⟩
    subst ea;subst eo;subst eos
    obtain⟨n1,n2⟩:=nodup_cons hnd
    obtain⟨β4,U',b1,b2,b3,b4,b5,b6,b7,b8,b9,b10⟩:=oB g ks h2 (i:=i+1) (nm:=nm+1) (full:=full) (rest:=rest) c1 (fun q hq=>by
     have:=hfull (q+1) (by simpa using hq)
     rw[show i+(q+1)=i+1+q by omega]at this
     simpa[fk]using this) hk.2 (fun m hm=>by rw[a6 _ _ _ _ (by omega)];exact hnm m (by omega)) n2 (fun q hq=>by
      intro hh
      rcases aH.1 hh with rfl|hh
      ·exact n1 hq
      ·exact hU q (al _ hq) hh)
    have eb:bQ (.vec hsz::ks) full i ((.vec hsz es::obs1)++rest) nm=(.vec nm::(bQ ks full (i+1) (obs1++rest) (nm+1)).1,(nm,some (.vec hsz es))::(bQ ks full (i+1) (obs1++rest) (nm+1)).2.1,(bQ ks full (i+1) (obs1++rest) (nm+1)).2.2):=rfl
    rw[eb]
    refine⟨β4,U',b1,fun o l hl=>b2 o l (c2 o l hl),fun q hq=>?_,?_,by simp[b5],fun q v hq hr=>?_,fun m hm=>?_,fun m hm=>?_,by simp;omega,by simp[b10]⟩
    ·rcases b3 q hq with h|h
     ·exact .inl (al _ h)
     ·rcases aH.1 h with rfl|h
      ·exact .inl ai
      ·exact .inr h
    ·simp only[b4,bL];congr 1;omega
    ·cases q with
     |zero=>simpa using(c3 v (by simpa using hr)).mono (Mem.le.refl _) b2
     |succ q=>simpa using b6 q v (by simpa using hq) (by simpa using hr)
    ·exact b7 m (by simp only[bL]at hm;omega)
    ·have:=b8 m (by omega)
     rw[a6 _ _ _ _ (by omega)]at this
     exact this
   cases c<;>first|(simp[bY]at h;done)|skip
   ·rename_i x
    cases x<;>first|(simp[bY]at h;done)|skip
    rename_i ad ln cp
    cases ad<;>first|(simp[bY]at h;done)|skip
    cases ln<;>first|(simp[bY]at h;done)|skip
    cases cp<;>first|(simp[bY]at h;done)|skip
    simp only[bY]at h
    split at h
    ·rename_i as1 obs1 os1 h2
     cases h
     obtain⟨β3,c1,c2,c3⟩:=fV.ud g hB (m:=nm) (o:=eQ+j) (sz:=hsz) (hnm nm (aw _)) (hU _ ai)
     exact cont [] _ as1 obs1 os1 h2 rfl rfl rfl ⟨β3,c1,c2,fun v hv=>by rw[dE hv];exact c3⟩
    ·cases h
   ·rename_i o
    simp only[bY]at h
    split at h
    ·rename_i sz es as1 obs1 os1 h1 h2
     cases h
     have e1:sz=hsz:=by
      have:=hk.1
      simp only[aW,aP,Ob.vec.injEq]at this
      exact this.1
     subst e1
     obtain⟨β3,c1,c2,c3,c4⟩:=fV.vec g hB (m:=nm) (hnm nm (aw _)) (hU _ ai) h1
     exact cont es o as1 obs1 os1 h2 rfl rfl rfl ⟨β3,c1,c2,c3⟩
    ·cases h
end
end Go.VL
namespace Go.VL
open Go Go.RowKit
section
variable {P:Program} {M:Mem} {β β2:Lo} {w w':World} {n:Nat} {A:jz} {s:St} {a:Act}
theorem iK{ob:Nat->Option Ob}:∀(ks:List CK) {cs asq:List AV} {obs:List Ob} {os:List Nat} {j:Nat},bY ob ks cs j=some (asq,obs,os)->obs.length=bL ks
 |
  [],cs,asq,obs,os,j,h=>by
  cases cs with
  |nil=>simp only[bY,Option.some.injEq,Prod.mk.injEq]at h;obtain⟨rfl,rfl,rfl⟩:=h;rfl
  |cons c cs=>simp[bY]at h
 |
  .lk k::ks,cs,asq,obs,os,j,h=>by
  cases cs with
  |nil=>simp[bY]at h
  |
   cons c cs =>
   simp only[bY]at h
   split at h
   ·rename_i h1 h2;cases h;exact iK ks h2
   ·cases h
 |
  .vec hsz::ks,cs,asq,obs,os,j,h=>by
  cases cs with
  |nil=>simp[bY]at h
  |
   cons c cs =>
   cases c<;>first|(simp[bY]at h;done)|skip
   ·rename_i x
    cases x<;>first|(simp[bY]at h;done)|skip
    rename_i ad ln cp
    cases ad<;>first|(simp[bY]at h;done)|skip
    cases ln<;>first|(simp[bY]at h;done)|skip
    cases cp<;>first|(simp[bY]at h;done)|skip
    simp only[bY]at h
    split at h
    ·rename_i h2;cases h;simp[bL,iK ks h2]
    ·cases h
   ·simp only[bY]at h
    split at h
    ·rename_i h1 h2;cases h;simp[bL,iK ks h2]
    ·cases h
theorem yq(g:di n A s a w M β):∀(cr:List (Nat×List CK)) {obs:List Ob} {os:List Nat},pP s.ob cr=some (obs,os)->∀{U:List Nat} {f:Nat->Option Ob} {β2:Lo} {nm:Nat} {rest:List Ob},
 fV s w M β U f β2->gn (ux cr (obs++rest))->(∀m,nm<=m->f m=none)->(∀p,p∈cr->f p.1=none/\p.1<nm)->nodup (cr.map (·.1))=true->nodup os=true->(∀o,o∈os->o∉U) ->
 ∃β3 U',fV s w M β U' (rE cr (obs++rest) f nm).1 β3/\Lo.le β2 β3/\(∀o,o∈U'->o∈os\/o∈U)/\(rE cr (obs++rest) f nm).2=rest/\(∀p,p∈cr->∃b,β p.1=some (.cells b)/\β3 p.1=some (.cells b)/\(∃x,s.ob p.1=some x)/\((rE cr (obs++rest) f nm).1 p.1).isSome=true)/\(∀m,nm+l6 cr<=m->(rE cr (obs++rest) f nm).1 m=none)/\obs.length=Cd cr /\
  (∀m,(f m).isSome=true->((rE cr (obs++rest) f nm).1 m).isSome=true)
 |
  [],obs,os,h,U,f,β2,nm,rest,hB,hp,hnm,hf,hnd,hno,hU=>by
  simp only[pP,Option.some.injEq,Prod.mk.injEq]at h
  obtain⟨rfl,rfl⟩:=h
  exact⟨β2,U,hB,Lo.le.refl _,fun o ho=>.inr ho,rfl,fun p hp=>(by cases hp),fun m hm=>hnm m (by simpa[l6]using hm),rfl,fun m hm=>hm⟩
 |
  (o,ks)::r,obs,os,h,U,f,β2,nm,rest,hB,hp,hnm,hf,hnd,hno,hU=>by
  simp only[pP]at h
  split at h
  ·rename_i cs ho
   split at h
   ·rename_i asq obs1 os1 obs' os' h1 h2
    cases h
    have hl1:=iK ks h1
    have eo:((.cells (fk ks asq)::obs1++obs')++rest:List Ob)=.cells (fk ks asq)::(obs1++(obs'++rest)):=by simp
    rw[eo]at hp |-
    obtain⟨_,hp2,hp3⟩:=hp
    simp only[aP,bO,Ob.cs]at hp2 hp3
    have hdrop:(obs1++(obs'++rest)).drop (bL ks)=obs'++rest:=by rw[<-hl1];simp
    rw[hdrop]at hp3
    have hno':nodup (o::(os1++os'))=true:=by simpa using hno
    obtain⟨n1,n2⟩:=nodup_cons hno'
    obtain⟨n3,n4,n5⟩:=eF n2
    have hnd':nodup (o::r.map (·.1))=true:=hnd
    obtain⟨d1,d2⟩:=nodup_cons hnd'
    obtain⟨hfo,hlo⟩:=hf (o,ks) ai
    simp only at hfo hlo
    obtain⟨β3,U1,b1,b2,b3,b4,b5,b6,b7,b8,b9,b10⟩:=oB g ks h1 (U:=U) (f:=f) (β2:=β2) (full:=fk ks asq) (i:=0) (nm:=nm) (rest:=obs'++rest) hB (fun q _=>by rw[aZ]) hp2 hnm n3 (fun q hq=>hU q (by simp[hq]))
    obtain⟨b,vs,e,q1,q2,q3,q4,q5,q6⟩:=g.own o _ ho
    have hfo':cD f (bQ ks (fk ks asq) 0 (obs1++(obs'++rest)) nm).2.1 o=none:=by rw[b8 o hlo];exact hfo
    have hB2:=b1.add g hfo' (l:=.cells b) (x:=.cells (bQ ks (fk ks asq) 0 (obs1++(obs'++rest)) nm).1)
     ⟨b,vs,e,aN _ _ _,q2,by rw[q3,b5],fun i hi=>(b6 i _ (by omega) (q4 i (by omega))).mono (Mem.le.refl _) (b1.le hfo' _),q5,q6⟩ o
     (fun hh=>by
      rcases b3 o hh with h|h
      ·exact n1 (aC _ h)
      ·exact hU o (by simp) h)
     (fun b' hb'=>by
      simp only[Loc.block,Option.some.injEq]at hb'
      subst hb'
      exact⟨_,ho,rfl,by simp[dZ,q1,Loc.block]⟩)
    obtain⟨β4,U2,c1,c2,c3,c4,c5,c6,c7,c8⟩:=yq g r h2 (rest:=rest) (nm:=nm+bL ks) hB2 hp3 (fun m hm=>by
     rw[a6 _ _ _ _ (by omega)];exact b7 m hm) (fun p hp=>by
     obtain⟨r1,r2⟩:=hf p (al _ hp)
     have hne:p.1≠o:=fun e=>d1 (by rw[<-e];exact bJ.2 ⟨p,hp,rfl⟩)
     exact⟨by rw[a6 _ _ _ _ hne,b8 _ r2];exact r1,by omega⟩) d2 n4 (fun q hq hh=>by
     rcases aH.1 hh with rfl|hh
     ·exact n1 (aB _ hq)
     ·rcases b3 q hh with h|h
      ·exact n5 q h hq
      ·exact hU q (by simp[hq]) h)
    have em:rE ((o,ks)::r) (.cells (fk ks asq)::(obs1++(obs'++rest))) f nm=rE r (bQ ks (fk ks asq) 0 (obs1++(obs'++rest)) nm).2.2.1 (cx (cD f (bQ ks (fk ks asq) 0 (obs1++(obs'++rest)) nm).2.1) o (some (.cells (bQ ks (fk ks asq) 0 (obs1++(obs'++rest)) nm).1))) (bQ ks (fk ks asq) 0 (obs1++(obs'++rest)) nm).2.2.2:=rfl
    rw[em,b4]
    refine⟨β4,U2,c1,fun q l hl=>c2 q l (b1.le hfo' _ q l (b2 q l hl)),fun q hq=>?_,c4,fun p hp=>?_,fun m hm=>c6 m (by simp only[l6]at hm;omega),by simp[Cd,hl1,c7];omega,fun m hm=>c8 m ?_⟩
    ·rcases c3 q hq with h|h
     ·exact .inl (by simp[h])
     ·rcases aH.1 h with rfl|h
      ·exact .inl (by simp)
      ·rcases b3 q h with h|h
       ·exact .inl (by simp[h])
       ·exact .inr h
    ·rcases aH.1 hp with rfl|hp
     ·exact⟨b,q1,c2 _ _ (aN _ _ _),⟨_,ho⟩,c8 _ (by rw[aN];rfl)⟩
     ·exact c5 p hp
    ·by_cases e:m=o
     ·subst e;rw[aN];rfl
     ·rw[a6 _ _ _ _ e]
      have:m<nm:=by
       rcases Nat.lt_or_ge m nm with h|h
       ·exact h
       ·rw[hnm m h]at hm;cases hm
      rw[b8 m this];exact hm
   ·cases h
  ·cases h
theorem xH(g:di n A s a w M β):∀(gK:List (Nat×Nat)) {obs:List Ob} {os:List Nat},kG s.ob s.tm gK=some (obs,os)->∀{U:List Nat} {f:Nat->Option Ob} {β2:Lo} {nm:Nat} {tm:Nat->AV},
 fV s w M β U f β2->gn (nk gK obs)->(∀m,nm<=m->f m=none)->nodup os=true->(∀o,o∈os->o∉U)->(∀t,bx M β2 (tm t) (a.tmps.getD t undef)) ->
 ∀{rest:List Ob},∃β3 U',fV s w M β U' (qh gK (obs++rest) tm f nm).2 β3/\(∀t,bx M β3 ((qh gK (obs++rest) tm f nm).1 t) (a.tmps.getD t undef))/\Lo.le β2 β3/\(∀o,o∈U'->o∈os\/o∈U)/\(∀m,m<nm->(qh gK (obs++rest) tm f nm).2 m=f m)/\(∀m,nm+gK.length<=m->(qh gK (obs++rest) tm f nm).2 m=none)/\obs.length=gK.length
 |
  [],obs,os,h,U,f,β2,nm,tm,hB,hp,hnm,hno,hU,ht,rest=>by
  simp only[kG,Option.some.injEq,Prod.mk.injEq]at h
  obtain⟨rfl,rfl⟩:=h
  exact⟨β2,U,hB,ht,Lo.le.refl _,fun o ho=>.inr ho,fun m _=>rfl,fun m hm=>hnm m (by simpa using hm),rfl⟩
 |
  (t,sz)::r,obs,os,h,U,f,β2,nm,tm,hB,hp,hnm,hno,hU,ht,rest=>by
  have cont:∀(o:Nat) (es:List (List AV)) (obs1:List Ob) (os1:List Nat),kG s.ob s.tm r=some (obs1,os1)->obs=.vec sz es::obs1->os=o::os1->(∃β3,fV s w M β (o::U) (cx f nm (some (.vec sz es))) β3/\Lo.le β2 β3/\bx M β3 (.vec nm) (a.tmps.getD t undef)) ->
   ∃β3 U',fV s w M β U' (qh ((t,sz)::r) (obs++rest) tm f nm).2 β3/\(∀q,bx M β3 ((qh ((t,sz)::r) (obs++rest) tm f nm).1 q) (a.tmps.getD q undef))/\Lo.le β2 β3/\(∀o,o∈U'->o∈os\/o∈U)/\(∀m,m<nm->(qh ((t,sz)::r) (obs++rest) tm f nm).2 m=f m)/\(∀m,nm+((t,sz)::r).length<=m->(qh ((t,sz)::r) (obs++rest) tm f nm).2 m=none)/\obs.length=((t,sz)::r).length:=by
   intro o es obs1 os1 h2 eo eos ⟨β3,c1,c2,c3⟩
   subst eo;subst eos
   obtain⟨n1,n2⟩:=nodup_cons hno
   obtain⟨β4,U',d1,d2,d3,d4,d5,d6,d7⟩:=xH g r h2 (nm:=nm+1) (tm:=cx tm t (.vec nm)) c1 hp.2 (fun m hm=>by rw[a6 _ _ _ _ (by omega)];exact hnm m (by omega)) n2 (fun q hq hh=>by
    rcases aH.1 hh with rfl|hh
    ·exact n1 hq
    ·exact hU q (al _ hq) hh) (fun q=>by
    by_cases e:q=t
    ·subst e;rw[aN];exact c3
    ·rw[a6 _ _ _ _ e];exact(ht q).mono (Mem.le.refl _) c2) (rest:=rest)
   have ev:qh ((t,sz)::r) ((.vec sz es::obs1)++rest) tm f nm=qh r (obs1++rest) (cx tm t (.vec nm)) (cx f nm (some (.vec sz es))) (nm+1):=rfl
   rw[ev]
   refine⟨β4,U',d1,d2,fun q l hl=>d3 q l (c2 q l hl),fun q hq=>?_,fun m hm=>?_,fun m hm=>d6 m (by simp at hm;omega),by simp[d7]⟩
   ·rcases d4 q hq with hh|hh
    ·exact .inl (al _ hh)
    ·rcases aH.1 hh with rfl|hh
     ·exact .inl ai
     ·exact .inr hh
   ·rw[d5 m (by omega),a6 _ _ _ _ (by omega)]
  simp only[kG]at h
  split at h
  ·rename_i e
   split at h
   ·rename_i obs1 os1 h2
    cases h
    obtain⟨β3,c1,c2,c3⟩:=fV.ud g hB (m:=nm) (o:=2*eQ+t) (sz:=sz) (hnm nm (aw _)) (hU _ ai)
    have hv:=g.tm t
    rw[e]at hv
    exact cont _ [] obs1 os1 h2 rfl rfl ⟨β3,c1,c2,by rw[dE hv];exact c3⟩
   ·cases h
  ·rename_i o e
   split at h
   ·rename_i sz' es obs1 os1 h1 h2
    cases h
    have e1:sz'=sz:=by
     have:=hp.1
     simp only[aP,Ob.vec.injEq]at this
     exact this.1
    subst e1
    obtain⟨β3,c1,c2,c3,c4⟩:=fV.vec g hB (m:=nm) (hnm nm (aw _)) (hU _ ai) h1
    have hv:=g.tm t
    rw[e]at hv
    exact cont o es obs1 os1 h2 rfl rfl ⟨β3,c1,c2,c3 _ hv⟩
   ·cases h
  ·cases h
theorem SK.gT{β0:Lo}{k:SK}{a:AV}{v:Value}(h:bx M dm a v)(hk:k.has a):bx M β0 (k.cast a) v:=by
 cases k with
 |k k=>exact LK.gT h hk
 |
  agg ks =>
  obtain⟨h1,h2,h3⟩:=hk
  rw[h1]at h
  obtain⟨vs,rfl,hl,hr,ho⟩:=fM h
  have e:vs=(bf ks.length).map fun i=>vs.getD i undef:=by
   apply List.ext_getElem
   ·simp;omega
   ·intro i h1 h2
    simp[aa,h1]
  show bx M β0 (.agg (jh ks a.cs 0)) (.agg vs.toArray)
  rw[e]
  exact px h3 (fun i hi=>ho i (by omega)) fun i hi=>by simpa using hr i (by omega)
 |c u=>rw[hk]at h;rw[dE h];exact .v _ _
theorem xF{β0:Lo}(g:di n A s a w M β){ob0:Nat->Option Ob}:∀(sl:List (Nat×SK)) {xs:List AV} {fz:List Nat},sX ob0 s.tm sl=some (xs,fz)->Fz M β w ob0 fz->gn (nr sl xs)->∀{tm:Nat->AV},(∀t,bx M β0 (tm t) (a.tmps.getD t undef))->∀t,bx M β0 (w9 sl xs tm t) (a.tmps.getD t undef)
 |[],xs,fz,h,hz,hp,tm,ht=>ht
 |
  (t,k)::r,xs,fz,h,hz,hp,tm,ht=>by
  simp only[sX]at h
  split at h
  ·rename_i x f asq fs h1 h2
   cases h
   refine xF g r h2 hz.right hp.2 fun q=>?_
   by_cases e:q=t
   ·subst e;rw[aN];exact SK.gT (gF _ _ _ _ _ h1 hz.left (g.tm q)) hp.1
   ·rw[a6 _ _ _ _ e];exact ht q
  ·cases h
theorem xm{β0:Lo}(g:di n A s a w M β):∀(rf:List (Nat×Nat)),uW s.tm rf=true->(∀p,p∈rf->∀b,β p.2=some (.cells b)->β0 p.2=some (.cells b))->∀{tm:Nat->AV},(∀t,bx M β0 (tm t) (a.tmps.getD t undef))->∀t,bx M β0 (D9 rf tm t) (a.tmps.getD t undef)
 |[],h,hb,tm,ht=>ht
 |
  (t,o)::r,h,hb,tm,ht=>by
  simp only[uW,az]at h
  refine xm g r h.2 (fun p hp=>hb p (al _ hp)) fun q=>?_
  by_cases e:q=t
  ·subst e
   rw[aN]
   have h1:=h.1
   split at h1
   ·rename_i o' e'
    have:=aE h1
    subst this
    have hv:=g.tm q
    rw[e']at hv
    obtain⟨b,h2,h3⟩:=kT hv
    rw[h3]
    exact .ref _ _ _ _ (hb (q,o) ai b h2)
   ·cases h1
  ·rw[a6 _ _ _ _ e];exact ht q
theorem rk:∀{l r:List (Option Nat)},Hq l r=true->l=r
 |[],[],_=>rfl
 |none::l,none::r,h=>by rw[rk (l:=l) (r:=r) h]
 |
  some x::l,some y::r,h=>by
  simp only[Hq,az]at h
  rw[rk (l:=l) (r:=r) h.2,aE h.1]
 |[],_::_,h=>by cases h
 |none::_,[],h=>by cases h
 |some _::_,[],h=>by cases h
 |none::_,some _::_,h=>by cases h
 |some _::_,none::_,h=>by cases h
theorem CH{β0:Lo}{f:Nat}{js:List (Option Nat)}{v:Value}(h:bx M β (.fm f js) v)(hb:∀o,some o∈js->∀b,β o=some (.cells b)->β0 o=some (.cells b)):bx M β0 (.fm f js) v:=by
 cases h with
 |
  fm _ _ _ b vs hc hl hs ho =>
  refine .fm _ _ _ _ vs hc hl hs fun i o hi e=>?_
  obtain⟨b',q1,q2⟩:=ho i o hi e
  refine⟨b',hb o ?_ b' q1,q2⟩
  rw[<-e]
  simp[aa,hi]
theorem yc{β0:Lo}(g:di n A s a w M β):∀(cl:List (Nat×Nat×List (Option Nat))),vG s.tm cl=true->(∀p,p∈cl->∀o,some o∈p.2.2->∀b,β o=some (.cells b)->β0 o=some (.cells b))->∀{tm:Nat->AV},(∀t,bx M β0 (tm t) (a.tmps.getD t undef))->∀t,bx M β0 (DY cl tm t) (a.tmps.getD t undef)
 |[],h,hb,tm,ht=>ht
 |
  (t,f,js)::r,h,hb,tm,ht=>by
  simp only[vG,az]at h
  refine yc g r h.2 (fun p hp=>hb p (al _ hp)) fun q=>?_
  by_cases e:q=t
  ·subst e
   rw[aN]
   have h1:=h.1
   split at h1
   ·rename_i f' js' e'
    simp only[az]at h1
    have e1:=aE h1.1
    have e2:=rk h1.2
    subst e1;subst e2
    have hv:=g.tm q
    rw[e']at hv
    exact CH hv (hb _ ai)
   ·cases h1
  ·rw[a6 _ _ _ _ e];exact ht q
theorem tB{β0:Lo}:∀{caps:List AV} {js:List Nat} {vs:List Value},vA caps js=true->caps.length=vs.length->(∀i,i<caps.length->bx M β (caps.getD i .any) (vs.getD i undef))->(∀o,o∈js->∀b,β o=some (.cells b)->β0 o=some (.cells b)) ->
 js.length=vs.length/\∀i,i<js.length->bx M β0 ((js.map fun o=>AV.ref o 0).getD i .any) (vs.getD i undef)
 |
  caps,[],vs,h,hl,_,_=>by
  cases caps with
  |nil=>exact⟨hl,fun i hi=>by simp at hi⟩
  |
   cons c caps =>
   unfold vA at h
   split at h
   ·rename_i he _;cases he
   ·rename_i he;cases he
   ·cases h
 |
  caps,p::js,vs,h,hl,hr,hb=>by
  unfold vA at h
  split at h
  ·rename_i _ he;cases he
  ·rename_i o r p l he
   cases he
   simp only[az]at h
   have:=aE h.1
   subst this
   cases vs with
   |nil=>simp at hl
   |
    cons u vs =>
    obtain⟨q1,q2⟩:=tB (vs:=vs) h.2 (by simpa using hl) (fun i hi=>by simpa using hr (i+1) (by simpa using hi)) (fun o ho=>hb o (al _ ho))
    refine⟨by simp[q1],fun i hi=>?_⟩
    cases i with
    |
     zero =>
     have:=hr 0 (by simp)
     simp only[bp]at this
     obtain⟨b,h2,h3⟩:=kT this
     simp only[bz,bp,h3]
     exact .ref _ _ _ _ (hb o ai b h2)
    |succ i=>simpa using q2 i (by simpa using hi)
  ·cases h
theorem xE{β0:Lo}(g:di n A s a w M β):∀(fl:List (Nat×Nat×List Nat)),vJ s.tm fl=true->(∀p,p∈fl->∀o,o∈p.2.2->∀b,β o=some (.cells b)->β0 o=some (.cells b))->∀{tm:Nat->AV},(∀t,bx M β0 (tm t) (a.tmps.getD t undef))->∀t,bx M β0 (DQ fl tm t) (a.tmps.getD t undef)
 |[],h,hb,tm,ht=>ht
 |
  (t,f,js)::r,h,hb,tm,ht=>by
  simp only[vJ,az]at h
  refine xE g r h.2 (fun p hp=>hb p (al _ hp)) fun q=>?_
  by_cases e:q=t
  ·subst e
   rw[aN]
   have h1:=h.1
   split at h1
   ·rename_i f' caps e'
    simp only[az]at h1
    have e1:=aE h1.1
    subst e1
    have hv:=g.tm q
    rw[e']at hv
    generalize a.tmps.getD q undef=v at hv |-
    cases hv with
    |
     fn _ _ _ vs hl hr =>
     obtain⟨q1,q2⟩:=tB h1.2 hl hr (hb _ ai)
     exact .fn _ _ _ vs (by simpa using q1) fun i hi=>q2 i (by simpa using hi)
   ·cases h1
  ·rw[a6 _ _ _ _ e];exact ht q
theorem yJ(g:di n A s a w M β):∀(ags:List (Nat×List CK)) {xs:List AV} {obs:List Ob} {os:List Nat},pW s.ob s.tm ags=some (xs,obs,os)->∀{U:List Nat} {f:Nat->Option Ob} {β2:Lo} {nm:Nat} {tm:Nat->AV},
 fV s w M β U f β2->∀{rest:List Ob},gn (tP ags xs (obs++rest))->(∀m,nm<=m->f m=none)->nodup os=true->(∀o,o∈os->o∉U)->(∀t,bx M β2 (tm t) (a.tmps.getD t undef)) ->
 ∃β3 U',fV s w M β U' (wW ags xs (obs++rest) tm f nm).2 β3/\(∀t,bx M β3 ((wW ags xs (obs++rest) tm f nm).1 t) (a.tmps.getD t undef))/\Lo.le β2 β3/\(∀m,m<nm->(wW ags xs (obs++rest) tm f nm).2 m=f m)/\(∀o,o∈U'->o∈os\/o∈U)/\obs.length=l6 ags
 |
  [],xs,obs,os,h,U,f,β2,nm,tm,hB,rest,hp,hnm,hno,hU,ht=>by
  simp only[pW,Option.some.injEq,Prod.mk.injEq]at h
  obtain⟨rfl,rfl,rfl⟩:=h
  exact⟨β2,U,hB,ht,Lo.le.refl _,fun m _=>rfl,fun o ho=>.inr ho,rfl⟩
 |
  (t,ks)::r,xs,obs,os,h,U,f,β2,nm,tm,hB,rest,hp,hnm,hno,hU,ht=>by
  simp only[pW]at h
  split at h
  ·rename_i cs ecs
   split at h
   ·rename_i asq obs1 os1 xs' obs' os' h1 h2
    cases h
    have hl1:=iK ks h1
    rw[bK]at hp |-
    obtain⟨_,hp2,hp3⟩:=hp
    simp only[aP,bO,AV.cs]at hp2 hp3
    have hdrop:(obs1++(obs'++rest)).drop (bL ks)=obs'++rest:=by rw[<-hl1];simp
    rw[hdrop]at hp3
    obtain⟨n3,n4,n5⟩:=eF hno
    obtain⟨β3,U1,b1,b2,b3,b4,b5,b6,b7,b8,b9,b10⟩:=oB g ks h1 (U:=U) (f:=f) (β2:=β2) (full:=fk ks asq) (i:=0) (nm:=nm) (rest:=obs'++rest) hB (fun q _=>by rw[aZ]) hp2 hnm n3 (fun q hq=>hU q (aC _ hq))
    have hrep:=g.tm t
    rw[ecs]at hrep
    obtain⟨vs,ev,hl,hr,ho⟩:=fM hrep
    obtain⟨β4,U2,c1,c2,c3,c4,c5,c6⟩:=yJ g r h2 (nm:=nm+bL ks) (tm:=cx tm t (.agg (bQ ks (fk ks asq) 0 (obs1++(obs'++rest)) nm).1)) b1 (rest:=rest) hp3 b7 n4 (fun q hq hh=>by
     rcases b3 q hh with h|h
     ·exact n5 q h hq
     ·exact hU q (aB _ hq) h) (fun q=>by
     by_cases e:q=t
     ·subst e
      rw[aN,ev]
      refine .agg _ _ _ (by omega) (fun i hi=>ho i (by omega)) fun i hi=>b6 i _ (by omega) ?_
      simpa using hr i (by omega)
     ·rw[a6 _ _ _ _ e];exact(ht q).mono (Mem.le.refl _) b2)
    have em:wW ((t,ks)::r) (.agg (fk ks asq)::xs') (obs1++(obs'++rest)) tm f nm=wW r xs' (bQ ks (fk ks asq) 0 (obs1++(obs'++rest)) nm).2.2.1 (cx tm t (.agg (bQ ks (fk ks asq) 0 (obs1++(obs'++rest)) nm).1)) (cD f (bQ ks (fk ks asq) 0 (obs1++(obs'++rest)) nm).2.1) (bQ ks (fk ks asq) 0 (obs1++(obs'++rest)) nm).2.2.2:=rfl
    rw[em,b4]
    exact⟨β4,U2,c1,c2,fun q l hl=>c3 q l (b2 q l hl),fun m hm=>by rw[c4 m (by omega),b8 m hm],fun q hq=>(by
     rcases c5 q hq with h|h
     ·exact .inl (aB _ h)
     ·rcases b3 q h with h|h
      ·exact .inl (aC _ h)
      ·exact .inr h),by simp[l6,hl1,c6]⟩
   ·cases h
  ·cases h
theorem rG:∀(ks:List CK) (cs:List AV) (i:Nat) (obs:List Ob) (nm:Nat),(∀p,p∈(bQ ks cs i obs nm).2.1->nm<=p.1)/\nm<=(bQ ks cs i obs nm).2.2.2
 |[],cs,i,obs,nm=>⟨fun p hp=>(by cases hp),aw _⟩
 | .lk k::ks,cs,i,obs,nm=>rG ks cs (i+1) obs nm
 |
  .vec h::ks,cs,i,obs,nm=>by
  obtain⟨h1,h2⟩:=rG ks cs (i+1) obs.tail (nm+1)
  refine⟨fun p hp=>?_,Nat.le_of_succ_le h2⟩
  rcases aH.1 hp with rfl|hp
  ·exact aw _
  ·exact Nat.le_of_succ_le (h1 p hp)
theorem yE:∀(l:List (Nat×Option Ob)) (f:Nat->Option Ob) (m:Nat),(∀p,p∈l->p.1≠m)->cD f l m=f m
 |[],f,m,h=>rfl
 |
  (q,c)::l,f,m,h=>by
  show cD (cx f q c) l m=f m
  rw[yE l _ m fun p hp=>h p (al _ hp),a6 _ _ _ _ (Ne.symm (h (q,c) ai))]
theorem ye:∀(cr:List (Nat×List CK)) (obs:List Ob) (f:Nat->Option Ob) (nm m:Nat),m<nm->(∀p,p∈cr->p.1≠m)->(rE cr obs f nm).1 m=f m
 |[],obs,f,nm,m,hm,h=>rfl
 |
  (o,ks)::r,obs,f,nm,m,hm,h=>by
  obtain⟨h1,h2⟩:=rG ks (obs.headD .dead).cs 0 obs.tail nm
  show (rE r _ (cx (cD f (bQ ks (obs.headD .dead).cs 0 obs.tail nm).2.1) o _) (bQ ks (obs.headD .dead).cs 0 obs.tail nm).2.2.2).1 m=f m
  rw[ye r _ _ _ m (by omega) fun p hp=>h p (al _ hp),a6 _ _ _ _ (Ne.symm (h (o,ks) ai)),yE _ _ _ fun p hp=>(by have:=h1 p hp;omega)]
theorem xB(g:di n A s a w M β):∀(kv:List (Nat×Nat×Nat)) {obs:List Ob} {os:List Nat},rh s.ob s.tm kv=some (obs,os)->∀{U:List Nat} {f:Nat->Option Ob} {β2:Lo} {tm:Nat->AV},
 fV s w M β U f β2->(∀p,p∈kv->f p.2.1=none)->nodup (kv.map (·.2.1))=true->nodup os=true->(∀o,o∈os->o∉U)->(∀t,bx M β2 (tm t) (a.tmps.getD t undef)) ->
 ∃β3 U',fV s w M β U' (vQ kv obs tm f).2 β3/\(∀t,bx M β3 ((vQ kv obs tm f).1 t) (a.tmps.getD t undef))/\Lo.le β2 β3/\(∀m,(∀p,p∈kv->p.2.1≠m)->(vQ kv obs tm f).2 m=f m)/\∀p,p∈kv->β3 p.2.1=β p.2.1/\((vQ kv obs tm f).2 p.2.1).isSome=true/\∃x,s.ob p.2.1=some x
 |[],obs,os,h,U,f,β2,tm,hB,hf,hnd,hno,hU,ht=>⟨β2,U,hB,ht,Lo.le.refl _,fun m _=>rfl,fun p hp=>(by cases hp)⟩
 |
  (t,o,sz)::r,obs,os,h,U,f,β2,tm,hB,hf,hnd,hno,hU,ht=>by
  simp only[rh]at h
  split at h
  ·rename_i o' e
   split at h
   ·rename_i sz' es obs1 os1 h1 h2
    cases hb:(aJ o' o&&aJ sz' sz)with
    |false=>rw[hb]at h;cases h
    |
     true =>
     rw[hb]at h
     simp only[az]at hb
     obtain⟨hb1,hb2⟩:=hb
     have e1:=aE hb1
     have e2:=aE hb2
     subst e1;subst e2
     cases h
     obtain⟨n1,n2⟩:=nodup_cons hno
     have hnd':nodup (o'::r.map (·.2.1))=true:=hnd
     obtain⟨d1,d2⟩:=nodup_cons hnd'
     have hne:∀p,p∈r->p.2.1≠o':=fun p hp e=>d1 (by rw[<-e];exact bJ.2 ⟨p,hp,rfl⟩)
     obtain⟨β3,c1,c2,c3,c4⟩:=fV.vec g hB (m:=o') (hf _ ai) (hU _ ai) h1
     have hv:=g.tm t
     rw[e]at hv
     obtain⟨β4,U',b1,b2,b3,b4,b5⟩:=xB g r h2 (tm:=cx tm t (.vec o')) c1 (fun p hp=>by rw[a6 _ _ _ _ (hne p hp)];exact hf p (al _ hp)) d2 n2 (fun q hq hh=>by
      rcases aH.1 hh with rfl|hh
      ·exact n1 hq
      ·exact hU q (al _ hq) hh) (fun q=>by
      by_cases e:q=t
      ·subst e;rw[aN];exact c3 _ hv
      ·rw[a6 _ _ _ _ e];exact(ht q).mono (Mem.le.refl _) c2)
     refine⟨β4,U',b1,b2,fun q l hl=>b3 q l (c2 q l hl),fun m hm=>?_,fun p hp=>?_⟩
     ·show (vQ r obs1 (cx tm t (.vec o')) (cx f o' (some (.vec sz' es)))).2 m=f m
      rw[b4 m fun p hp=>hm p (al _ hp),a6 _ _ _ _ (Ne.symm (hm _ ai))]
     ·rcases aH.1 hp with rfl|hp
      ·obtain⟨l,hl⟩:=(g.own _ _ h1).GV (by intro e;cases e)
       refine⟨?_,?_,_,h1⟩
       ·show β4 o'=β o'
        rw[hl];rw[hl]at c4;exact b3 _ _ c4
       ·show ((vQ r obs1 (cx tm t (.vec o')) (cx f o' (some (.vec sz' es)))).2 o').isSome=true
        rw[b4 o' hne,aN];rfl
      ·exact b5 p hp
   ·cases h
  ·cases h
theorem th{ob:Nat->Option Ob}{tm:Nat->AV}:∀(sl:List (Nat×SK)) {xs:List AV} {fz:List Nat},sX ob tm sl=some (xs,fz)->xs.length=sl.length
 |[],xs,fz,h=>by cases h;rfl
 |
  (t,k)::r,xs,fz,h=>by
  simp only[sX]at h
  split at h
  ·rename_i h1 h2;cases h;simp[th r h2]
  ·cases h
theorem vU:∀(sl:List (Nat×SK)) (xs ys:List AV) (f:Nat->AV),xs.length=sl.length->w9 sl (xs++ys) f=w9 sl xs f
 |[],[],ys,f,h=>rfl
 |
  (t,k)::r,x::xs,ys,f,h=>by
  simp only[aW,w9,bO,aP]
  exact vU r xs ys _ (by simpa using h)
 |[],_::_,_,_,h=>by cases h
 |_::_,[],_,_,h=>by cases h
theorem ru:∀(sl:List (Nat×SK)) (xs ys:List AV),xs.length=sl.length->nr sl (xs++ys)=nr sl xs
 |[],[],ys,h=>rfl
 |
  (t,k)::r,x::xs,ys,h=>by
  simp only[aW,nr,bO,aP]
  rw[ru r xs ys (by simpa using h)]
 |[],_::_,_,h=>by cases h
 |_::_,[],_,h=>by cases h
theorem qR:∀(vs:List (Nat×Nat)) (o r:List Ob),o.length=vs.length->nk vs (o++r)=nk vs o
 |[],[],r,h=>rfl
 |
  (t,k)::vs,x::o,r,h=>by
  simp only[aW,nk,bO,aP]
  rw[qR vs o r (by simpa using h)]
 |[],_::_,_,h=>by cases h
 |_::_,[],_,h=>by cases h
theorem py{ob:Nat->Option Ob}{tm:Nat->AV}:∀(vs:List (Nat×Nat)) {o:List Ob} {os:List Nat},kG ob tm vs=some (o,os)->o.length=vs.length
 |
  [],o,os,h=>by
  simp only[kG,Option.some.injEq,Prod.mk.injEq]at h
  rw[<-h.1];rfl
 |
  (t,sz)::r,o,os,h=>by
  simp only[kG]at h
  split at h
  ·split at h
   ·rename_i h2;cases h;simp[py r h2]
   ·cases h
  ·split at h
   ·rename_i h1 h2;cases h;simp[py r h2]
   ·cases h
  ·cases h
theorem i6:∀{l r:List Prop},gn (l++r)->gn l/\gn r
 |[],r,h=>⟨trivial,h⟩
 |p::l,r,h=>by obtain⟨h1,h2⟩:=h;obtain⟨h3,h4⟩:=i6 h2;exact⟨⟨h1,h3⟩,h4⟩
theorem Ak{fx:List Nat}{h:Shape}(hf:ug fx h=true){o:Nat}(ho:o∈fx):(∃q,q∈h.cr/\q.1=o)\/∃q,q∈h.kv/\q.2.1=o:=by
 unfold ug at hf
 rw[bM]at hf
 have:=hf o ho
 rw[bD]at this
 rcases this with this|this
 ·rw[cf]at this
  obtain⟨q,hq,e⟩:=this
  exact .inl ⟨q,hq,aE e⟩
 ·rw[cf]at this
  obtain⟨q,hq,e⟩:=this
  exact .inr ⟨q,hq,aE e⟩
theorem pT(ob0:Nat->Option Ob):∀(os:List Nat) (f:Nat->Option Ob) (o:Nat),o∉os->cD f (fE ob0 os) o=f o
 |[],f,o,h=>rfl
 |
  q::os,f,o,h=>by
  show cD (cx f q (cG (ob0 q))) (fE ob0 os) o=_
  rw[pT ob0 os _ o (fun hh=>h (al _ hh)),a6 _ _ _ _ (fun e=>h (by rw[e];exact ai))]
theorem wy(g:di n A s a w M β){h:Shape}{xs:List AV}{obs:List Ob}{fx:List Nat}(hfx:ug fx h=true)(hA:∀o b,A.fix o=some b->o∈fx)(hc:xb h s=some (xs,obs))(hp:gn (yM h xs obs)):fT n A (LW h xs obs) a w:=by
 unfold xb at hc
 split at hc
 ·rename_i xs' fz o1 n1 o2 n2 ys o3 n3 o4 n4 h1 h2 h3 h4 h5
  cases hq:(((uW s.tm h.refs&&(vG s.tm h.vI&&vJ s.tm h.fns))&&!((n1++(n2++(n3++n4))).any (fS fz)))&&(nodup (n1++(n2++(n3++n4)))&&uk h))with
  |false=>rw[hq]at hc;cases hc
  |
   true =>
   rw[hq]at hc
   simp only[cond_true,Option.some.injEq,Prod.mk.injEq]at hc
   obtain⟨rfl,rfl⟩:=hc
   simp only[az,uk]at hq
   obtain⟨⟨⟨q1,q1c,q1f⟩,q0⟩,q2,⟨q3,q3k⟩,q4k,q5,q7,q6,q6c,q6f⟩:=hq
   obtain⟨q4,q4v,q4x⟩:=eF q4k
   have hdj:∀m,m∈n1++(n2++(n3++n4))->m∉fz:=fun m hm hf=>by
    rw[cc,List.any_eq_false]at q0
    exact q0 m hm (by unfold fS;exact cf.2 ⟨m,hf,Nat.beq_refl m⟩)
   obtain⟨M1,hM,g1⟩:=g.freeze fz
   have hsame:∀m,m∈n1++(n2++(n3++n4))->cD s.ob (fE s.ob fz) m=s.ob m:=fun m hm=>pT s.ob fz s.ob m (hdj m hm)
   replace h2:=yo (ob':=cD s.ob (fE s.ob fz)) h.cr h2 fun m hm=>hsame m (aC _ hm)
   replace h3:=ua (ob':=cD s.ob (fE s.ob fz)) h.gK h3 fun m hm=>hsame m (aB _ (aC _ hm))
   replace h4:=yy (ob':=cD s.ob (fE s.ob fz)) h.so h4 fun m hm=>hsame m (aB _ (aB _ (aC _ hm)))
   replace h5:=yd (ob':=cD s.ob (fE s.ob fz)) h.kv h5 fun m hm=>hsame m (aB _ (aB _ (aB _ hm)))
   have gfz:=g1.fz
   obtain⟨m1,m23,m3⟩:=eF q2
   obtain⟨m2,m45,m5⟩:=eF m23
   obtain⟨m4,m6,m7⟩:=eF m45
   have lx:=th h.bZ h1
   have lv:=py h.gK h3
   have hp':gn (nr h.bZ (xs'++ys)++(ux h.cr (o1++(o2++(o3++o4)))++(nk h.gK ((o1++(o2++(o3++o4))).drop (Cd h.cr))++(tP h.so ((xs'++ys).drop h.bZ.length) (((o1++(o2++(o3++o4))).drop (Cd h.cr)).drop h.gK.length)++wD h.kv ((((o1++(o2++(o3++o4))).drop (Cd h.cr)).drop h.gK.length).drop (l6 h.so)))))):=hp
   obtain⟨p1,p23⟩:=i6 hp'
   obtain⟨p2,p34⟩:=i6 p23
   obtain⟨p3,p45⟩:=i6 p34
   obtain⟨p4,_⟩:=i6 p45
   rw[ru _ _ _ lx]at p1
   rw[bM]at q3 q3k q6 q6c q6f
   obtain⟨β3,U,b1,b2,b3,b4,b5,b6,b7,b8⟩:=yq g1 h.cr h2 (nm:=iV) (rest:=o2++(o3++o4)) fV.nil p2 (fun _ _=>rfl) (fun p hp=>⟨rfl,aQ (q3 p hp)⟩) q4 m1 (fun _ _ hh=>by cases hh)
   have hdrop:(o1++(o2++(o3++o4))).drop (Cd h.cr)=o2++(o3++o4):=by rw[<-b7];simp
   have hdrop2:(o2++(o3++o4)).drop h.gK.length=o3++o4:=by rw[<-lv];simp
   have hdrop3:(xs'++ys).drop h.bZ.length=ys:=by rw[<-lx];simp
   rw[hdrop,qR _ _ _ lv]at p3
   rw[hdrop,hdrop2,hdrop3]at p4
   have htm:∀t,bx M1 β3 (DQ h.fns (DY h.vI (D9 h.refs (w9 h.bZ xs' (fun _=>.any)))) t) (a.tmps.getD t undef) :=
    xE g1 h.fns q1f (fun p hp o ho b hb=>by
     have:=q6f p hp
     rw[bM]at this
     have:=this _ ho
     simp only[Nu]at this
     rw[cf]at this
     obtain⟨q,hq,he⟩:=this
     have he:=aE he
     obtain⟨b',c1,c2,_⟩:=b5 q hq
     rw[he]at c1 c2
     rw[hb]at c1;cases c1;exact c2) <|
    yc g1 h.vI q1c (fun p hp o ho b hb=>by
     have:=q6c p hp
     rw[bM]at this
     have:=this _ ho
     simp only[Nu]at this
     rw[cf]at this
     obtain⟨q,hq,he⟩:=this
     have he:=aE he
     obtain⟨b',c1,c2,_⟩:=b5 q hq
     rw[he]at c1 c2
     rw[hb]at c1;cases c1;exact c2) <|
    xm g1 h.refs q1 (fun p hp b hb=>by
     have:=q6 p hp
     rw[cf]at this
     obtain⟨q,hq,he⟩:=this
     have he:=aE he
     obtain⟨b',c1,c2,_⟩:=b5 q hq
     rw[he]at c1 c2
     rw[hb]at c1;cases c1;exact c2) (xF g1 h.bZ h1 gfz p1 fun t=>.any _ _)
   have hle:=aQ q5
   have hle2:=aQ q7
   obtain⟨β4,U',c1,c2,c3,c4,c5,c6,c7⟩:=xH g1 h.gK h3 (nm:=mM) b1 p3 (fun m hm=>b6 m (by omega)) m2 (fun o ho hh=>by
    rcases b3 o hh with hh|hh
    ·exact m3 o hh (aC _ ho)
    ·cases hh) htm (rest:=o3++o4)
   obtain⟨β5,U3,d1,d2,d3,d4,d5,d6⟩:=yJ g1 h.so h4 (nm:=oE) c1 (rest:=o4) p4 (fun m hm=>c6 m (by omega)) m4 (fun o ho hh=>by
    rcases c4 o hh with hh|hh
    ·exact m5 o hh (aC _ ho)
    ·rcases b3 o hh with hh|hh
     ·exact m3 o hh (aB _ (aC _ ho))
     ·cases hh) c2
   have e1:iV<mM:=by decide
   have e2:mM<oE:=by decide
   have hkn:∀p,p∈h.kv->p.2.1<iV:=fun p hp=>aQ (q3k p hp)
   obtain⟨β6,U4,k1,k2,k3,k4,k5⟩:=xB g1 h.kv h5 d1 (fun p hp=>by
    have hn:=hkn p hp
    rw[d4 _ (by omega),c5 _ (by omega),ye _ _ _ _ _ hn]
    intro q hq e
    exact q4x q.1 (bJ.2 ⟨q,hq,rfl⟩) (bJ.2 ⟨p,hp,e.symm⟩)) q4v m6 (fun o ho hh=>by
    rcases d5 o hh with hh|hh
    ·exact m7 o hh ho
    ·rcases c4 o hh with hh|hh
     ·exact m5 o hh (aB _ ho)
     ·rcases b3 o hh with hh|hh
      ·exact m3 o hh (aB _ (aB _ ho))
      ·cases hh) d2
   have hdrop4:(o3++o4).drop (l6 h.so)=o4:=by rw[<-d6];simp
   refine⟨M1,β6,?_⟩
   have:=k1.RM g1 (fun o b hf=>by
    rcases Ak hfx (hA o b hf)with⟨q,hq,e⟩|⟨q,hq,e⟩
    rotate_left
    ·obtain⟨r1,r2,x,r3⟩:=k5 q hq
     rw[e]at r1 r2 r3
     exact⟨r2,by rw[r1];exact(g1.fix o b hf).2 x r3⟩
    obtain⟨b',r1,r2,⟨x,r3⟩,r4⟩:=b5 q hq
    rw[e]at r1 r2 r3 r4
    have hb:=(g1.fix o b hf).2 x r3
    rw[r1]at hb;cases hb
    have ho:o<iV:=by have:=aQ (q3 q hq);rw[e]at this;exact this
    refine⟨?_,k3 _ _ (d3 _ _ (c3 _ _ r2))⟩
    rw[k4 o (fun p hp e'=>q4x q.1 (bJ.2 ⟨q,hq,rfl⟩) (bJ.2 ⟨p,hp,e'.trans e.symm⟩)),d4 o (by omega),c5 o (by omega)];exact r4) k2
   unfold LW
   simp only
   rw[b4,vU _ _ _ _ lx,hdrop2,hdrop3,hdrop4]
   exact this
 ·cases hc
end
end Go.VL
