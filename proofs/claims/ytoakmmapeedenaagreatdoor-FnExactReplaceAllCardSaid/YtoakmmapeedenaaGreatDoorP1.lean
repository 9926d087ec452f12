/-
  Part of a proof: Go functions read by values, trees of functions, their contracts.
-/
import Derived.Orders
import Derived.Below
import Derived.KernelRfl
import Derived.Laws.Cells
import Derived.Laws.Rows
import Derived.Laws.OwnMore
import Derived.Laws.StructEq
import Derived.LaidEql
import Derived.Laws.Strings
import Derived.Laws.BytesArg
import Derived.Great.BuildSlice
import Derived.Lib.LaidTab
import Derived.Lib.ItoaNum
set_option linter.unusedVariables false
set_option linter.unusedSimpArgs false
open Bool renaming and_eq_true→ai,eq_iff_iff→cA,not_eq_true'→bx,or_eq_true→br
open List renaming all_cons→cn,all_eq_true→bg,any_eq_true→bB,append_assoc→bH,cons_append→bA,getD_cons_succ→cF,getD_cons_zero→aQ,getD_eq_getElem?_getD→aa,getElem?_append→aL,getElem?_drop→bV,getElem?_eq_getElem→aO,getElem_mem→cc,headD_cons→ba,length→dR,length_append→aq,length_cons→aw,length_drop→bh,length_map→bQ,length_nil→aM,map_cons→aS,mem_append→aC,mem_append_left→ao,mem_append_right→ak,mem_cons→aB,mem_cons_of_mem→af,mem_cons_self→ae,mem_map→bp,range→aP,tail_cons→bD
open Nat renaming add_assoc→dz,add_zero→bo,beq→az,beq_refl→dx,ble→eE,blt→bS,eq_of_beq_eq_true→au,le_of_ble_eq_true→aF,le_refl→an,lt_of_lt_of_le→cx,mul_le_mul_right→aI,succ_mul→ct,zero_add→aK
open Option renaming map_some→cK
open UInt8 renaming ofNat→aU
namespace Go.VL
open Go Go.RowKit
inductive AV where
 |any
 |v (x:Value)
 |agg (cs:List AV)
 |cQ (cs:List AV)
 |ptr (cs:List AV)
 |pid (b:Nat) (cs:List AV)
 |sl (es:List (List AV))
 |x (a:AV)
 |b (t:Bool)
 |ref (o k:Nat)
 |lO (o k:Nat)
 |vec (o:Nat)
 |kM (o i k:Nat)
 |fn (f:Nat) (cap:List AV)
 |dS (f:Nat) (js:List (Option Nat))
 deriving Inhabited
inductive Ob where
 |cells (cs:List AV)
 |vec (sz:Nat) (es:List (List AV))
 |fS (cs:List AV)
 |kV (es:List (List AV))
 |dead
 |kB (sz:Nat) (es:List (List AV))
 deriving Inhabited
def AV.toInt:AV->Int| .v (.int _ n)=>n|_=>0
def AV.toStr:AV->ByteArray| .v (.string s)=>s|_=>⟨#[]⟩
def AV.toBool:AV->Bool| .v (.bool q)=>q| .b q=>q|_=>false
def AV.cs:AV->List AV| .agg cs=>cs|_=>[]
def AV.comp(a:AV)(i:Nat):AV:=match a with| .cQ cs=>cs.getD i .any|_=>.any
def AV.deref:AV->List AV| .ptr cs=>cs| .pid _ cs=>cs|_=>[]
def AV.elems:AV->List (List AV)| .sl es=>es|_=>[]
def AV.isNil:AV->Bool| .v (.pointer none)=>true|_=>false
def AV.oR:AV->Prop| .v (.pointer none)=>True| .pid _ _=>True|_=>False
def AV.xq:AV->AV->Bool
 | .v (.pointer none),.v (.pointer none)=>true
 | .pid m _,.pid m' _=>az m m'
 |_,_=>false
def AV.cap:AV->List AV| .fn _ c=>c|_=>[]
def Ob.cs:Ob->List AV| .cells cs=>cs| .fS cs=>cs|_=>[]
def Ob.es:Ob->List (List AV)| .vec _ es=>es| .kV es=>es| .kB _ es=>es|_=>[]
def wO:AV->Bool
 | .any| .cQ _| .agg _=>false
 | .v x=>x.oneCell'
 |_=>true
def ye:AV->Bool
 | .v x=>x.oneCell'
 | .x _=>true
 |_=>false
inductive LK where
 |int (k:IntKind)|bool|str|ptr|sl|oth
 deriving DecidableEq,Inhabited
def LK.has:LK->AV->Prop
 | .int k,a=>∃n,a=.v (.int k n)
 | .bool,a=>∃b,a=.v (.bool b)
 | .str,a=>∃s,a=.v (.string s)
 | .ptr,a=>a=.v (.pointer none)\/(∃cs,a=.ptr cs)\/∃b cs,a=.pid b cs
 | .sl,a=>a=.v (.slice none 0 0)\/∃es,a=.sl es
 | .oth,a=>ye a=true
def LK.cast:LK->AV->AV
 | .int k,a=>.v (.int k a.toInt)
 | .bool,a=>.b a.toBool
 | .str,a=>.v (.string a.toStr)
 | .ptr,a=>.x a
 | .sl,a=>.x a
 | .oth,a=>.x a
def LK.zero:LK->AV
 | .int k=>.v (.int k 0)
 | .bool=>.v (.bool false)
 | .str=>.v (.string ⟨#[]⟩)
 | .ptr=>.v (.pointer none)
 | .sl=>.v (.slice none 0 0)
 | .oth=>.x .any
def LK.kn:LK->Bool| .oth=>false|_=>true
def LK.plain:LK->Bool| .int _| .bool| .str=>true|_=>false
def bT:List LK->List AV->Nat->Prop
 |[],_,_=>True
 |k::ks,cs,i=>k.has (cs.getD i .any)/\bT ks cs (i+1)
def gX:List LK->List AV->Nat->List AV
 |[],_,_=>[]
 |k::ks,cs,i=>k.cast (cs.getD i .any)::gX ks cs (i+1)
inductive TK where
 |str|slice (e:Nat)|array (n e:Nat)|struct (fs:List (Nat×Nat))|tuple (ts:List Nat)|pt|bl|num (k:IntKind)|other
 deriving Inhabited
structure TI where
 kn:Bool
 lk:List LK
 agg:Bool
 bytes:Nat
 k:TK
 nz:Bool
 deriving Inhabited
def TI.sz(t:TI):Nat:=t.lk.length
abbrev dL:=Nat->TI
structure St where
 tm:Nat->AV
 ob:Nat->Option Ob
 us:Nat->Bool
def bP{α:Type}(f:Nat->α)(i:Nat)(a:α):Nat->α:=fun j=>bif az j i then a else f j
def St.set(s:St)(t:Nat)(a:AV):St:={s with tm:=bP s.tm t a}
def bX:(Nat->Option Ob)->List (Nat×Option Ob)->Nat->Option Ob
 |f,[]=>f
 |f,(o,c)::r=>bX (bP f o c) r
def dX:(Nat->Bool)->List Nat->Nat->Bool
 |f,[]=>f
 |f,o::r=>dX (bP f o true) r
def ev(s:St):Operand->AV
 | .tmp t=>s.tm t
 | .const v=>.v v
 | .global g=>.v (.pointer (some ⟨g,0,none⟩))
 | .func f=>.v (.func (.func f) #[] #[])
structure De where
 val:AV
 bP:List (Nat×Option Ob):=[]
 rd:List Nat:=[]
 new:List Nat:=[]
inductive DR where
 |no
 |yes (d:De)
 |ok (p:Prop) (d:De)
def cO(q:Bool)(r:DR):DR:=bif q then r else .no
def ty(T:dL)(t:Nat):TI:=T t
def xr(t:TI):LK:=t.lk.headD .oth
def p5(t:TI)(cs:List AV):AV:=bif t.agg then .agg (gX t.lk cs 0)else(xr t).cast (cs.headD .any)
def vO(t:TI)(cs:List AV):Prop:=bif t.agg then bT t.lk cs 0 else(xr t).has (cs.headD .any)
def flat:AV->List AV| .agg cs=>cs|a=>[a]
def lf:AV->Bool
 | .agg _=>true
 |a=>wO a
def fX{α:Type}:List α->Nat->List α->List α
 |l,_,[]=>l
 |l,n,c::cs=>fX (l.set n c) (n+1) cs
def hD(t:TI):List AV:=t.lk.map LK.zero
def bytesOf:List (List AV)->List UInt8
 |[]=>[]
 |e::es=>aU (e.headD .any).toInt.toNat::bytesOf es
def mC:List (List AV)->Prop
 |[]=>True
 |e::es=>e.length=1/\(LK.int .u8).has (e.headD .any)/\mC es
def cN(z:Nat)(es:List (List AV)):Prop:=∀c,c∈es->c.length=z
def FO(k:IntKind)(a b:Int):Int:=k.wrap ((BitVec.ofInt k.bits a ^^^ BitVec.ofInt k.bits b).toNat:Int)
def CC(op:BinOp)(k:IntKind)(a b:Int):DR :=
 match op with
 | .add=>.yes {val:=.v (.int k (k.wrap (a+b)))}
 | .sub=>.yes {val:=.v (.int k (k.wrap (a-b)))}
 | .mul=>.yes {val:=.v (.int k (k.wrap (a*b)))}
 | .quo=>.ok (¬b=0) {val:=.v (.int k (k.wrap (a.tdiv b)))}
 | .rem=>.ok (¬b=0) {val:=.v (.int k (a.tmod b))}
 | .xor=>.yes {val:=.v (.int k (FO k a b))}
 | .eql=>.yes {val:=.b (a==b)}
 | .neq=>.yes {val:=.b (a != b)}
 | .lss=>.yes {val:=.b (decide (a<b))}
 | .leq=>.yes {val:=.b (decide (a<=b))}
 | .gtr=>.yes {val:=.b (decide (a>b))}
 | .geq=>.yes {val:=.b (decide (a≥b))}
 |_=>.no
def BH(op:BinOp)(a b:ByteArray):DR :=
 match op with
 | .add=>.ok (a.size+b.size<=9223372036854775807) {val:=.v (.string (a++b))}
 | .eql=>.yes {val:=.b (a.toList==b.toList)}
 | .neq=>.yes {val:=.b (!(a.toList==b.toList))}
 | .lss=>.yes {val:=.b (Op.bytesLess a.toList b.toList)}
 |_=>.no
def kO(op:BinOp)(b:Bool):Option Bool:=match op with| .eql=>some b| .neq=>some (!b)|_=>none
def yn(t:TI)(op:BinOp)(p:Option Prop)(q:Bool):DR :=
 cO t.kn<|match t.k,kO op q with
 | .pt,some c=>match p with|some p=>.ok p {val:=.b c}|none=>.yes {val:=.b c}
 |_,_=>.no
def cmpL(t:TI)(op:BinOp)(q:Bool):DR :=
 cO t.kn<|match t.k,kO op q with
 | .pt,some c=>.yes {val:=.v (.bool c)}
 |_,_=>.no
def sa(t:TI)(op:BinOp)(q:Bool):DR :=
 cO t.kn<|match t.k,kO op q with
 | .bl,some c=>.yes {val:=.b c}
 |_,_=>.no
def G0:LK->AV->AV->Option Bool
 | .str,.v (.string a),.v (.string b)=>some (a.toList==b.toList)
 | .int k,.v (.int k1 a),.v (.int k2 b)=>if k=k1 then(if k=k2 then some (a==b)else none)else none
 |_,_,_=>none
def yR:List LK->List AV->List AV->Option Bool
 |[],[],[]=>some true
 |
  l::ls,c::cs,d::ds=>match G0 l c d,yR ls cs ds with
  |some p,some q=>some (p&&q)
  |_,_=>none
 |_,_,_=>none
def A9(t:TI)(op:BinOp)(cs ds:List AV):DR :=
 cO (t.kn&&t.nz)<|match t.k with
 |
  .struct _=>(match yR t.lk cs ds with
  |some q=>(match kO op q with|some c=>.yes {val:=.b c}|none=>.no)
  |none=>.no)
 |_=>.no
def bin(t:TI)(op:BinOp)(x y:AV):DR :=
 match x,y with
 | .v (.int k a),.v (.int k' b)=>if k=k' then CC op k a b else .no
 | .v (.string a),.v (.string b)=>BH op a b
 | .x a,.v (.pointer none)=>yn t op (some (LK.ptr.has a)) a.isNil
 | .x a,.x c=>bif t.nz then yn t op (some (a.oR/\c.oR)) (a.xq c)else .no
 | .v (.pointer none),.v (.pointer none)=>cmpL t op true
 | .ptr _,.v (.pointer none)=>cmpL t op false
 | .pid _ _,.v (.pointer none)=>cmpL t op false
 | .ref _ _,.v (.pointer none)=>cmpL t op false
 | .v (.bool a),.v (.bool b)=>sa t op (a==b)
 | .v (.bool a),.b b=>sa t op (a==b)
 | .b a,.v (.bool b)=>sa t op (a==b)
 | .b a,.b b=>sa t op (a==b)
 | .agg cs,.agg ds=>A9 t op cs ds
 |_,_=>.no
def og(x:AV)(off:Nat):DR :=
 match x with
 | .ref o k=>.yes {val:=.ref o (k+off)}
 | .lO o k=>.yes {val:=.lO o (k+off)}
 | .kM o i k=>.yes {val:=.kM o i (k+off)}
 | .ptr cs=>.yes {val:=.ptr (cs.drop off)}
 | .pid _ cs=>.yes {val:=.ptr (cs.drop off)}
 | .x a=>.ok (LK.ptr.has a/\a.isNil=false) {val:=.ptr (a.deref.drop off)}
 |_=>.no
def lF(t:TI)(cs:List AV)(k:Nat):DR :=
 cO t.kn<|bif t.agg then(bif eE (k+t.sz) cs.length then .yes {val:=.agg ((cs.drop k).take t.sz)}else .no)
 else(bif bS k cs.length then .yes {val:=cs.getD k .any}else .no)
def hF(t:TI)(cs:List AV)(k:Nat):DR :=
 cO (t.kn&&t.lk.all LK.kn)<|bif t.agg then .ok (k+t.sz<=cs.length/\bT t.lk cs k) {val:=.agg (gX t.lk cs k)}
 else .ok (k<cs.length/\(xr t).has (cs.getD k .any)) {val:=(xr t).cast (cs.getD k .any)}
def DR.reads(r:DR)(o:Nat):DR:=match r with| .ok p d=>.ok p {d with rd:=o::d.rd}| .yes d=>.yes {d with rd:=o::d.rd}| .no=>.no
def DR.xO(r:DR)(q:Prop):DR:=match r with| .ok p d=>.ok (q/\p) d| .yes d=>.ok q d| .no=>.no
def DR.when(q:Option Prop)(r:DR):DR:=match q with|none=>r|some p=>r.xO p
def HV(f:Nat)(js:List (Option Nat)):Option Nat->AV
 |none=>.dS f js
 |some o=>.ref o 0
def loadAt(ob:Nat->Option Ob)(t:TI)(x:AV):DR :=
 match x with
 |
  .ref o k=>match ob o with
  |some (.cells cs)|some (.fS cs)=>(lF t cs k).reads o
  |_=>.no
 |
  .lO o k=>match ob o with
  |some (.cells cs)|some (.fS cs)=>(hF t cs k).reads o
  |_=>.no
 |
  .kM o i k=>match ob o with
  |some (.vec _ es)|some (.kV es)=>((hF t (es.getD i []) k).xO (i<es.length)).reads o
  |_=>.no
 | .ptr cs=>cO t.kn<|.ok (vO t cs/\t.sz<=cs.length) {val:=p5 t cs}
 | .pid _ cs=>cO t.kn<|.ok (vO t cs/\t.sz<=cs.length) {val:=p5 t cs}
 | .x a=>cO t.kn<|.ok (LK.ptr.has a/\a.isNil=false/\vO t a.deref/\t.sz<=a.deref.length) {val:=p5 t a.deref}
 | .dS f js=>cO (t.kn&&!t.agg)<|.yes {val:=.fn f (js.map (HV f js))}
 |_=>.no
def ef(ob:Nat->Option Ob)(x:AV):Option (Option Prop×List (List AV)×List Nat) :=
 match x with
 | .sl es=>some (none,es,[])
 | .x a=>some (some (LK.sl.has a),a.elems,[])
 | .v (.slice none 0 0)=>some (none,[],[])
 |
  .vec o=>match ob o with
  |some (.vec _ es)|some (.kV es)=>some (none,es,[o])
  |_=>none
 |_=>none
def indexAt(T:dL)(ob:Nat->Option Ob)(t:TI)(x:AV)(i:Int):DR :=
 match t.k,x with
 | .array n e,.ref o k=>cO (T e).kn<|.ok (0<=i/\i<n) {val:=.lO o (k+i.toNat*(T e).sz)}
 |
  .slice e,.vec o=>cO (T e).kn<|match ob o with
  |some (.vec sz es)=>cO (az sz (T e).sz)<|.ok (0<=i/\i<es.length) {val:=.kM o i.toNat 0,rd:=[o]}
  |some (.kV es)=>.ok (0<=i/\i<es.length/\(es.getD i.toNat []).length=(T e).sz) {val:=.kM o i.toNat 0,rd:=[o]}
  |_=>.no
 | .slice e,.sl es=>cO (T e).kn<|.ok (0<=i/\i<es.length/\(es.getD i.toNat []).length=(T e).sz) {val:=.ptr (es.getD i.toNat [])}
 | .slice e,.x a=>cO (T e).kn<|.ok (LK.sl.has a/\0<=i/\i<a.elems.length/\(a.elems.getD i.toNat []).length=(T e).sz) {val:=.ptr (a.elems.getD i.toNat [])}
 |_,_=>.no
def bt(s:ByteArray)(i:Int):Int:=if h:i.toNat<s.size then((s[i.toNat]'h).toNat:Int)else 0
def gb(e:Operand->AV):Option Operand->Option Int
 |none=>some 0
 |some x=>match e x with| .v (.int _ n)=>some n|_=>none
def fm(e:Operand->AV)(n:Nat):Option Operand->Option Int
 |none=>some n
 |some x=>match e x with| .v (.int _ n)=>some n|_=>none
def kD(g:AV->Option (AV×List Nat)):List AV->Option (List AV×List Nat)
 |[]=>some ([],[])
 |
  c::cs=>match g c,kD g cs with
  |some (a,os),some (asq,os')=>some (a::asq,os++os')
  |_,_=>none
def qV(g:AV->Option (AV×List Nat)):List AV->Option (List (List AV)×List Nat)
 |[]=>some ([],[])
 |
  c::cs=>match kD g (flat c),qV g cs with
  |some (a,os),some (asq,os')=>some (a::asq,os++os')
  |_,_=>none
def freeze(ob:Nat->Option Ob):Nat->AV->Option (AV×List Nat)
 |0,_=>none
 |
  n+1,a=>match a with
  |
   .ref o 0=>match ob o with
   |some (.cells cs)|some (.fS cs)=>(kD (freeze ob n) cs).map fun r=>(.ptr r.1,o::r.2)
   |_=>none
  |
   .vec o=>match ob o with
   |some (.vec _ es)|some (.kV es)=>some (.sl es,[o])
   |_=>none
  | .x a=>some (a,[])
  | .agg cs=>(kD (freeze ob n) cs).map fun r=>(.agg r.1,r.2)
  | .any=>some (.any,[])
  | .b t=>some (.v (.bool t),[])
  | .v x=>some (.v x,[])
  | .ptr cs=>some (.ptr cs,[])
  | .pid b cs=>some (.pid b cs,[])
  | .sl es=>some (.sl es,[])
  |_=>none
def dG:Nat:=12
def ca:Option Ob->Option Ob
 |some (.cells cs)=>some (.fS cs)
 |some (.vec _ es)=>some (.kV es)
 |some (.kB _ es)=>some (.kV es)
 |o=>o
def eF(ob:Nat->Option Ob)(os:List Nat):List (Nat×Option Ob):=os.map fun o=>(o,ca (ob o))
def oJ(T:dL)(fs:List (Nat×Nat))(m:Nat)(e:Operand->AV):List (Nat×Operand)->Bool
 |[]=>true
 |p::r=>((match fs[p.1]? with|some (off,ft)=>az (flat (e p.2)).length (T ft).sz&&eE (off+(flat (e p.2)).length) m|none=>false)&&lf (e p.2))&&oJ T fs m e r
def oB(z m:Nat)(e:Operand->AV):List (Nat×Operand)->Bool
 |[]=>true
 |p::r=>(az (flat (e p.2)).length z&&eE (p.1*z+(flat (e p.2)).length) m&&lf (e p.2))&&oB z m e r
def tA(l c:Operand):Bool:=match l,c with| .tmp i,.tmp j=>az i j| .const (.int _ p),.const (.int _ q)=>decide (p=q)|_,_=>false
def db(T:dL)(e:Operand->AV)(ob:Nat->Option Ob)(o:Oper):DR :=
 match o.op with
 | .move x| .assign x=>.yes {val:=e x}
 | .pick c a b=>match e c with| .v (.bool true)=>.yes {val:=e a}| .v (.bool false)=>.yes {val:=e b}|_=>.no
 | .binOp op t x y _=>bin (T t) op (e x) (e y)
 | .unOp .not _ x=>match e x with| .v (.bool b)=>.yes {val:=.v (.bool !b)}| .b b=>.yes {val:=.b (!b)}|_=>.no
 | .unOp .neg _ x=>match e x with| .v (.int k n)=>.yes {val:=.v (.int k (k.wrap (0-n)))}|_=>.no
 |
  .nilCheck x=>match e x with
  | .x a=>.ok (LK.ptr.has a/\a.isNil=false) {val:=.x a}
  | .ptr cs=>.yes {val:=.ptr cs}
  | .pid b cs=>.yes {val:=.pid b cs}
  | .ref o k=>.yes {val:=.ref o k}
  |_=>.no
 |
  .fieldAddr t x f=>cO (T t).kn<|match (T t).k with
  |
   .struct fs=>match fs[f]? with
   |some (off,ft)=>cO ((T ft).kn&&bS 0 (T ft).sz)<|og (e x) off
   |none=>.no
  |_=>.no
 |
  .field t x f=>cO (T t).kn<|match (T t).k,e x with
  |
   .struct fs,.agg cs=>match fs[f]? with
   |some (off,ft)=>lF (T ft) cs off
   |none=>.no
  |_,_=>.no
 | .load t x=>loadAt ob (T t) (e x)
 | .indexAddr t x i=>cO (T t).kn<|match e i with| .v (.int _ n)=>indexAt T ob (T t) (e x) n|_=>.no
 |
  .index t x i=>cO (T t).kn<|match (T t).k,e x,e i with
  | .str,.v (.string s),.v (.int _ n)=>.ok (0<=n/\n<s.size) {val:=.v (.int .u8 (bt s n))}
  | .array m el,.agg cs,.v (.int _ n)=>((hF (T el) cs (n.toNat*(T el).sz))).xO (0<=n/\n<m)
  |_,_,_=>.no
 |
  .slice t x lo hi none=>cO (T t).kn<|match (T t).k,e x with
  |
   .str,.v (.string s)=>match gb e lo,fm e s.size hi with
   |some l,some h=>.ok (0<=l/\l<=h/\h<=s.size) {val:=.v (.string (s.extract l.toNat h.toNat))}
   |_,_=>.no
  |
   .slice el,.vec o=>cO (T el).kn<|match ob o with
   |
    some (.vec sz es)=>cO (az sz (T el).sz)<|match gb e lo,fm e es.length hi with
    |some l,some h=>.ok (0<=l/\l<=h/\h<=es.length) {val:=.sl ((es.take h.toNat).drop l.toNat),bP:=[(o,some (.kV es))]}
    |_,_=>.no
   |
    some (.kV es)=>match gb e lo,fm e es.length hi with
    |some l,some h=>DR.when (lo.map fun _=>cN (T el).sz es)<|.ok (0<=l/\l<=h/\h<=es.length) {val:=.sl ((es.take h.toNat).drop l.toNat),rd:=[o]}
    |_,_=>.no
   |_=>.no
  |
   .slice el,x=>cO (T el).kn<|match ef ob x with
   |
    some (p,es,os)=>match gb e lo,fm e es.length hi with
    |some l,some h=>.when p<|DR.when (lo.map fun _=>cN (T el).sz es)<|.ok (0<=l/\l<=h/\h<=es.length) {val:=.sl ((es.take h.toNat).drop l.toNat),rd:=os}
    |_,_=>.no
   |none=>.no
  |_,_=>.no
 | .extract t i=>match e t with| .cQ cs=>cO (bS i cs.length)<|.yes {val:=cs.getD i .any}|_=>.no
 |
  .convert s d x=>cO ((T s).kn&&(T d).kn)<|match (T s).k,(T d).k,e x with
  |
   .slice el,.str,y=>cO ((T el).kn&&(match (T el).k with| .num .u8=>true|_=>false))<|match ef ob y with
   |some (p,es,os)=>.when p<|.ok (mC es) {val:=.v (.string ⟨(bytesOf es).toArray⟩),rd:=os}
   |none=>.no
  | .num _,.num k,.v (.int _ n)=>.yes {val:=.v (.int k (k.wrap n))}
  |_,_,_=>.no
 |
  .build t ps=>cO (T t).kn<|match (T t).k with
  | .struct fs=>cO (fs.all (fun p=>(T p.2).kn)&&oJ T fs (T t).sz e ps.toList)<|.yes {val:=.agg (ps.toList.foldl (fun cs p=>fX cs (fs.getD p.1 (0,0)).1 (flat (e p.2))) (hD (T t)))}
  | .array n el=>cO ((T el).kn&&oB (T el).sz (T t).sz e ps.toList)<|.yes {val:=.agg (ps.toList.foldl (fun cs p=>fX cs (p.1*(T el).sz) (flat (e p.2))) (hD (T t)))}
  |_=>.no
 |
  .alloc t=>cO (T t).kn<|match o.dst with
  |some d=>.yes {val:=.ref d 0,bP:=[(d,some (.cells (hD (T t))))],new:=[d]}
  |none=>.no
 |
  .box t x=>cO (T t).kn<|match o.dst with
  |some d=>cO (az (flat (e x)).length (T t).sz&&lf (e x))<|.yes {val:=.ref d 0,bP:=[(d,some (.cells (flat (e x))))],new:=[d]}
  |none=>.no
 |
  .store t a x=>cO (T t).kn<|cO (az (flat (e x)).length (T t).sz&&lf (e x))<|match e a with
  |
   .ref n k=>match ob n with
   |some (.cells cs)=>cO (eE (k+(flat (e x)).length) cs.length)<|.yes {val:=.any,bP:=[(n,some (.cells (fX cs k (flat (e x)))))]}
   |_=>.no
  |
   .lO n k=>match ob n with
   |some (.cells cs)=>.ok (k+(flat (e x)).length<=cs.length) {val:=.any,bP:=[(n,some (.cells (fX cs k (flat (e x)))))]}
   |_=>.no
  |
   .kM n i k=>match ob n with
   |
    some (.vec sz es)=>match kD (freeze ob dG) (flat (e x))with
    |some (xs,[])=>.ok (i<es.length/\k+xs.length<=sz) {val:=.any,bP:=[(n,some (.vec sz (es.set i (fX (es.getD i []) k xs))))]}
    |_=>.no
   |_=>.no
  |_=>.no
 |
  .buildSlice t n ps=>cO (T t).kn<|match (T t).k,o.dst with
  |
   .slice el,some d=>cO (T el).kn<|match qV (freeze ob dG) (ps.toList.map fun p=>e p.2)with
   |some (asq,os)=>cO (ps.toList.map (·.1)==aP n&&eE (n*(T el).sz) 16777216&&asq.all (fun a=>az a.length (T el).sz)&&ps.toList.all fun p=>lf (e p.2))<|.yes {val:=.vec d,bP:=eF ob os++[(d,some (.vec (T el).sz asq))],new:=[d]}
   |none=>.no
  |_,_=>.no
 |
  .makeSlice t l c=>cO (T t).kn<|match (T t).k,o.dst,e l with
  | .slice el,some d,.v (.int _ n)=>cO ((T el).kn&&bS 0 (T el).bytes)<|bif tA l c then
   .ok (0<=n/\n*(T el).bytes<=140737488355328) {val:=.vec d,bP:=[(d,some (.vec (T el).sz (List.replicate n.toNat (hD (T el)))))],new:=[d]}else .no
  |_,_,_=>.no
 |
  .call ⟨.builtin .len,xs,ts⟩=>match xs.toList,ts.toList with
  |
   [x],[t]=>cO (T t).kn<|match (T t).k,e x with
   | .str,.v (.string s)=>.yes {val:=.v (.int .i64 s.size)}
   | .array n _,_=>.yes {val:=.v (.int .i64 n)}
   |
    .slice _,y=>match ef ob y with
    |some (p,es,os)=>.when p<|.yes {val:=.v (.int .i64 es.length),rd:=os}
    |none=>.no
   |_,_=>.no
  |_,_=>.no
 |
  .call ⟨.builtin .append,xs,ts⟩=>match xs.toList,ts.toList,o.dst with
  |
   [x,y],[t,t'],some d=>cO ((T t).kn&&az t t')<|match (T t).k,ef ob (e y)with
   |
    .slice el,some (p,fs,os)=>cO ((T el).kn&&bS 0 (T el).bytes)<|match e x with
    |
     .vec n=>match ob n with
     |some (.vec sz es)=>cO (az sz (T el).sz)<|.when p<|.ok (cN (T el).sz fs/\(es.length+fs.length)*(T el).bytes<=140737488355328) {val:=.vec d,bP:=[(n,none),(d,some (.vec (T el).sz (es++fs)))],rd:=os,new:=[d]}
     |_=>.no
    | .v (.slice none 0 0)=>.when p<|.ok (cN (T el).sz fs/\fs.length*(T el).bytes<=140737488355328) {val:=.vec d,bP:=[(d,some (.vec (T el).sz fs))],rd:=os,new:=[d]}
    |_=>.no
   |_,_=>.no
  |_,_,_=>.no
 |
  .call ⟨.builtin .max,xs,_⟩=>match xs.toList with
  |
   [x,y]=>match e x,e y with
   | .v (.int k a),.v (.int k' b)=>if k=k' then .yes {val:=.v (.int k (if b>a then b else a))}else .no
   |_,_=>.no
  |_=>.no
 |
  .call ⟨.builtin .min,xs,_⟩=>match xs.toList with
  |
   [x,y]=>match e x,e y with
   | .v (.int k a),.v (.int k' b)=>if k=k' then .yes {val:=.v (.int k (if b<a then b else a))}else .no
   |_,_=>.no
  |_=>.no
 | .makeFunc (.func f) fs cs=>bif az fs.size 0 then .yes {val:=.fn f (cs.toList.map e)}else .no
 |_=>.no
inductive CK where
 |lk (k:LK)|vec (h:Nat)
 deriving Inhabited
inductive MK where
 |obj (cs:List CK)|vec
 |cb (g:Bool) (ks:List CK)
 |si (ks:List CK)
 deriving Inhabited
inductive PK where
 |one (m:MK)|fn (ms:List (Option MK))|AT (f:Nat) (js:List (Option Nat))
 |A3 (ms:List (Option MK)) (f:Nat) (js:List (Option Nat))
 deriving Inhabited
structure FC where
 mu:List (Nat×PK):=[]
 own:List Nat:=[]
 ow:List LK:=[]
 oa:List CK:=[]
 deriving Inhabited
inductive SK where
 |k (l:LK)|agg (ks:List LK)|c (v:Value)
 deriving Inhabited
def SK.has:SK->AV->Prop
 | .k l,a=>l.has a
 | .agg ks,a=>a=.agg a.cs/\a.cs.length=ks.length/\bT ks a.cs 0
 | .c v,a=>a=.v v
def SK.cast:SK->AV->AV
 | .k l,a=>l.cast a
 | .agg ks,a=>.agg (gX ks a.cs 0)
 | .c v,_=>.v v
structure Shape where
 bY:List (Nat×SK):=[]
 refs:List (Nat×Nat):=[]
 cD:List (Nat×List CK):=[]
 ez:List (Nat×Nat):=[]
 pP:List (Nat×List CK):=[]
 vQ:List (Nat×Nat×List (Option Nat)):=[]
 fns:List (Nat×Nat×List Nat):=[]
 kv:List (Nat×Nat×Nat):=[]
 deriving Inhabited
structure LI where
 hd:Shape
 xs:Shape
 rt:Shape
 ex:Nat
 fx:List Nat:=[]
 deriving Inhabited
inductive Tree where
 |fail
 |done (tag:Nat) (xs:List AV) (obs:List Ob)
 |test (b:Bool) (y n:Tree)
 |ax (p:Prop) (t:Tree)
 |call (f:Nat) (args:List AV) (ins:List Ob) (k:AV->List Ob->Tree)
 |loop (c:Code) (li:LI) (xs:List AV) (obs:List Ob) (kx kr:List AV->List Ob->Tree)
def mR:List Prop->Tree->Tree
 |[],t=>t
 |p::ps,t=>.ax p (mR ps t)
def nodup:List Nat->Bool
 |[]=>true
 |a::l=>!(l.any (az a))&&nodup l
def ext(ob:Nat->Option Ob)(a:AV):Option AV:=match freeze ob dG a with|some (a,[])=>some a|_=>none
def dQ:Nat:=3000000
def bq(ob:Nat->Option Ob):List CK->List AV->Nat->Option (List AV×List Ob×List Nat)
 |[],[],_=>some ([],[],[])
 |
  .lk _::ks,c::cs,j=>match ext ob c,bq ob ks cs j with
  |some a,some (asq,obs,os)=>some (a::asq,obs,os)
  |_,_=>none
 |
  .vec _::ks,.vec o::cs,j=>match ob o,bq ob ks cs (j+1)with
  |some (.vec sz es),some (asq,obs,os)=>some (.vec j::asq,.vec sz es::obs,o::os)
  |_,_=>none
 |
  .vec h::ks,.v (.slice none 0 0)::cs,j=>match bq ob ks cs (j+1)with
  |some (asq,obs,os)=>some (.vec j::asq,.vec h []::obs,(dQ+j)::os)
  |none=>none
 |_,_,_=>none
def ek:List CK->List AV->List AV
 | .vec _::ks,_::cs=>.any::ek ks cs
 | .lk _::ks,c::cs=>c::ek ks cs
 |_,_=>[]
def j3:List CK->Nat
 | .vec h::_=>h
 |_::ks=>j3 ks
 |[]=>0
def mN(ob:Nat->Option Ob)(ks:List CK)(cs:List AV)(j:Nat):Option (List AV×List Ob×List Nat):=match bq ob ks cs j with
 |
  some (asq,[.vec sz es],[o])=>match ob o with
  |some (.vec _ _)=>bif az sz (j3 ks)then some (asq,[.vec sz es],[o])else none
  |_=>none
 |_=>none
def mD(ob:Nat->Option Ob):MK->AV->Nat->Option (AV×List Ob×List Nat)
 |
  .vec,.vec o,j=>match ob o with
  |some (.vec sz es)=>some (.vec j,[.vec sz es],[o])
  |_=>none
 |
  .cb false ks,.vec o,j=>match ob o with
  |some (.vec sz es)=>bif az sz (j3 ks)then some (.vec j,[.vec sz es],[o])else none
  |_=>none
 |
  .cb true ks,.agg cs,j=>match mN ob ks cs j with
  |some (asq,obs,os)=>some (.agg asq,obs,os)
  |none=>none
 |
  .obj ks,.ref o 0,j=>match ob o with
  |
   some (.cells cs)=>match bq ob ks cs (j+1)with
   |some (asq,obs,os)=>some (.ref j 0,.cells asq::obs,o::os)
   |none=>none
  |_=>none
 |
  .si ks,.agg cs,j=>match mN ob ks cs j with
  |some (asq,obs,os)=>some (.agg asq,obs,os)
  |none=>none
 |_,_,_=>none
def ej(ob:Nat->Option Ob):List (Option MK)->List AV->Nat->Option (List AV×List Ob×List Nat)
 |[],[],_=>some ([],[],[])
 |
  none::ms,c::cs,j=>match ext ob c,ej ob ms cs j with
  |some a,some (asq,obs,os)=>some (a::asq,obs,os)
  |_,_=>none
 |
  some m::ms,c::cs,j=>match mD ob m c j with
  |
   some (a,obs,os)=>match ej ob ms cs (j+obs.length)with
   |some (asq,obs',os')=>some (a::asq,obs++obs',os++os')
   |none=>none
  |none=>none
 |_,_,_=>none
def ly(ob:Nat->Option Ob):PK->AV->Nat->Option (AV×List Ob×List Nat)
 | .one m,a,j=>mD ob m a j
 |
  .fn ms,.fn f cap,j=>match ej ob ms cap j with
  |some (asq,obs,os)=>some (.fn f asq,obs,os)
  |none=>none
 |
  .A3 ms f' _,.fn f cap,j=>match ej ob ms cap.dropLast j,cap.getLast? with
  |some (asq,obs,os),some (.dS g _)=>bif az g f' then some (.fn f (asq++[.any]),obs,os)else none
  |_,_=>none
 |_,_,_=>none
def lV(o:Nat):List AV->Option (List (Option Nat))
 |[]=>some []
 | .ref p 0::r=>(lV o r).map fun l=>(bif az p o then none else some p)::l
 |_=>none
def pS(ob:Nat->Option Ob)(f:Nat):AV->Option (List (Option Nat)×List Nat)
 | .dS f' js=>bif az f' f then some (js,[])else none
 |
  .ref o 0=>match ob o with
  |some (.cells [.fn f' caps])|some (.fS [.fn f' caps])=>bif az f' f then(lV o caps).map fun l=>(l,[o])else none
  |_=>none
 |_=>none
def CQ:List (Option Nat)->List (Option Nat)->Bool
 |[],[]=>true
 |none::a,none::b=>CQ a b
 |some x::a,some y::b=>az x y&&CQ a b
 |_,_=>false
def Ob.mP:Ob->Bool| .cells _=>true|_=>false
def uq:List (Nat×PK)->Nat->Option PK
 |[],_=>none
 |(j,m)::r,i=>bif az j i then some m else uq r i
def Ek(os:List Nat):Option Nat->Option Nat
 |none=>none
 |some j=>some (os.getD j 0)
def G6(ins:List Ob):Option Nat->Bool
 |none=>true
 |some j=>bS j ins.length&&(ins.getD j .dead).mP
def xR(os:List Nat)(ins:List Ob)(f:Nat)(js:List (Option Nat)):AV->Bool
 |
  .fn _ cap=>match cap.getLast? with
  |some (.dS _ l)=>CQ l (js.map (Ek os))&&js.all (G6 ins)
  |_=>false
 |_=>false
def om(f:Nat)(js:List (Option Nat)):AV->AV
 | .fn g cap=>.fn g (cap.dropLast++[.dS f js])
 |a=>a
def kb(ob:Nat->Option Ob)(mu:List (Nat×PK))(os:List Nat)(ins:List Ob):List AV->Nat->Bool
 |[],_=>true
 |
  a::asq,i=>(match uq mu i with
  |
   some (.AT f js)=>(match pS ob f a with
   |some (l,_)=>CQ l (js.map (Ek os))&&js.all (G6 ins)
   |none=>false)
  |some (.A3 _ f js)=>xR os ins f js a
  |_=>true)&&kb ob mu os ins asq (i+1)
def gY(mu:List (Nat×PK)):List AV->Nat->List AV
 |[],_=>[]
 |a::asq,i=>(match uq mu i with|some (.AT f js)=>.dS f js|some (.A3 _ f js)=>om f js a|_=>a)::gY mu asq (i+1)
def cS:List (Nat×PK)->List MK
 |[]=>[]
 |(_,.AT _ _)::r=>cS r
 |(_,.one m)::r=>m::cS r
 |(_,.fn ms)::r=>ms.filterMap id++cS r
 |(_,.A3 ms _ _)::r=>ms.filterMap id++cS r
def ga(ob:Nat->Option Ob)(mu:List (Nat×PK)):List AV->Nat->Nat->Option (List AV×List Ob×List Nat×List Nat)
 |[],_,_=>some ([],[],[],[])
 |
  a::asq,i,j=>match uq mu i with
  |
   some (.AT f _)=>match pS ob f a,ga ob mu asq (i+1) j with
   |some (_,f),some (as',obs',os',fz)=>some (.any::as',obs',os',f++fz)
   |_,_=>none
  |
   some m=>match ly ob m a j with
   |
    some (a',obs,os)=>match ga ob mu asq (i+1) (j+obs.length)with
    |some (as',obs',os',fz)=>some (a'::as',obs++obs',os++os',fz)
    |none=>none
   |none=>none
  |
   none=>match freeze ob dG a,ga ob mu asq (i+1) j with
   |some (a',f),some (as',obs',os',fz)=>some (a'::as',obs',os',f++fz)
   |_,_=>none
def bf:List CK->List AV->Nat->List Ob->Nat->List AV×List (Nat×Option Ob)×List Ob×Nat
 |[],_,_,obs,nm=>([],[],obs,nm)
 | .lk k::ks,cs,i,obs,nm=>let r:=bf ks cs (i+1) obs nm;(k.cast (cs.getD i .any)::r.1,r.2)
 | .vec h::ks,cs,i,obs,nm=>let r:=bf ks cs (i+1) obs.tail (nm+1);(.vec nm::r.1,(nm,some (.vec h (obs.headD .dead).es))::r.2.1,r.2.2)
def cm:List CK->List AV->Nat->Nat->List Ob->Prop
 |[],cs,i,_,_=>cs.length=i
 | .lk k::ks,cs,i,j,obs=>k.has (cs.getD i .any)/\cm ks cs (i+1) j obs
 | .vec h::ks,cs,i,j,obs=>cs.getD i .any=.vec j/\obs.headD .dead=.vec h (obs.headD .dead).es/\cm ks cs (i+1) (j+1) obs.tail
def bb:List CK->Nat
 |[]=>0
 | .lk _::ks=>bb ks
 | .vec _::ks=>bb ks+1
def Ob.Fx:Ob->Bool| .vec _ _=>true|_=>false
def di:List MK->List Ob->Bool
 |[],[]=>true
 | .vec::ms,.vec _ _::obs=>di ms obs
 | .cb _ ks::ms,.vec sz _::obs=>az sz (j3 ks)&&di ms obs
 | .si _::ms,.vec _ _::obs=>di ms obs
 | .obj ks::ms,.cells _::obs=>(eE (bb ks) obs.length&&(obs.take (bb ks)).all Ob.Fx)&&di ms (obs.drop (bb ks))
 |_,_=>false
def nh:List MK->Nat->List Nat
 |[],_=>[]
 | .vec::ms,j=>nh ms (j+1)
 | .cb _ _::ms,j=>j::nh ms (j+1)
 | .si _::ms,j=>nh ms (j+1)
 | .obj ks::ms,j=>j::nh ms (j+1+bb ks)
def pq(ms:List MK)(os:List Nat)(ins:List Ob):Bool:=(nh ms 0).all fun q=>(ins.getD q .dead).mP||bS (os.getD q 0) dQ
def runN:Nat->Nat->List Nat
 |_,0=>[]
 |nm,k+1=>nm::runN (nm+1) k
def pZ:List MK->Nat->List Nat
 |[],_=>[]
 | .vec::ms,nm=>pZ ms nm
 | .cb _ _::ms,nm=>pZ ms nm
 | .si _::ms,nm=>pZ ms nm
 | .obj ks::ms,nm=>runN nm (bb ks)++pZ ms (nm+bb ks)
def cM:List MK->List Nat->List Ob->Nat->Nat->List Prop×List (Nat×Option Ob)×List Ob×Nat
 |[],_,obs,_,nm=>([],[],obs,nm)
 | .vec::ms,os,obs,j,nm=>cM ms os.tail obs.tail (j+1) nm
 | .si _::ms,os,obs,j,nm=>cM ms os.tail obs.tail (j+1) nm
 |
  .cb _ ks::ms,os,obs,j,nm =>
  let r:=cM ms os.tail obs.tail (j+1) nm
  ((obs.headD .dead=.kB (j3 ks) (obs.headD .dead).es)::r.1,(os.headD 0,some (.vec (j3 ks) (obs.headD .dead).es))::r.2.1,r.2.2)
 |
  .obj ks::ms,os,obs,j,nm =>
  let c:=bf ks (obs.headD .dead).cs 0 obs.tail nm
  let r:=cM ms (os.drop (bb ks+1)) c.2.2.1 (j+1+bb ks) c.2.2.2
  ((obs.headD .dead=.cells (obs.headD .dead).cs)::cm ks (obs.headD .dead).cs 0 (j+1) obs.tail::r.1,c.2.1++(os.headD 0,some (.cells c.1))::r.2.1,r.2.2)
def mT(t:TI)(a:AV):Prop:=bif t.agg then(a=.agg a.cs/\a.cs.length=t.sz/\bT t.lk a.cs 0)else(xr t).has a
def kA(t:TI)(a:AV):AV:=bif t.agg then .agg (gX t.lk a.cs 0)else(xr t).cast a
def nZ(T:dL)(t:Nat):Nat:=match (T t).k with| .slice el=>(T el).sz|_=>0
def dA(T:dL)(own:List Nat)(oa:List CK)(r:AV):List Nat->Nat->Nat->List Ob->Nat->List Prop×List AV×List (Nat×Option Ob)
 |[],_,_,_,_=>([],[],[])
 |
  t::ts,i,j,obs,nm =>
  bif own.any (az i)then(bif (T t).agg then let c:=bf oa (r.comp i).cs 0 obs nm;let q:=dA T own oa r ts (i+1) (j+bb oa) c.2.2.1 c.2.2.2;((r.comp i=.agg (r.comp i).cs/\cm oa (r.comp i).cs 0 j obs)::q.1,.agg c.1::q.2.1,c.2.1++q.2.2)
  else let q:=dA T own oa r ts (i+1) (j+1) obs.tail (nm+1);((r.comp i=.vec j/\obs.headD .dead=.vec (nZ T t) (obs.headD .dead).es)::q.1,.vec nm::q.2.1,(nm,some (.vec (nZ T t) (obs.headD .dead).es))::q.2.2))
  else let q:=dA T own oa r ts (i+1) j obs nm;(mT (T t) (r.comp i)::q.1,kA (T t) (r.comp i)::q.2.1,q.2.2)
def da(T:dL)(own:List Nat)(ow:List LK)(oa:List CK)(t:Nat)(r:AV)(j:Nat)(obs:List Ob)(nm:Nat):List Prop×AV×List (Nat×Option Ob) :=
 match (T t).k with
 | .tuple []=>([],.any,[])
 | .tuple ts=>let q:=dA T own oa r ts 0 j obs nm;((r=.cQ ((aP ts.length).map r.comp))::q.1,.cQ q.2.1,q.2.2)
 |
  .pt=>bif own.any (az 0)then([r=.ref j 0/\obs.headD .dead=.cells (obs.headD .dead).cs/\(obs.headD .dead).cs.length=ow.length/\bT ow (obs.headD .dead).cs 0],.ref nm 0,[(nm,some (.cells (gX ow (obs.headD .dead).cs 0)))])
  else([mT (T t) r],kA (T t) r,[])
 |
  _=>bif own.any (az 0)then(bif (T t).agg then let c:=bf oa r.cs 0 obs nm;([r=.agg r.cs/\cm oa r.cs 0 j obs],.agg c.1,c.2.1)else([r=.vec j/\obs.headD .dead=.vec (nZ T t) (obs.headD .dead).es],.vec nm,[(nm,some (.vec (nZ T t) (obs.headD .dead).es))]))
  else([mT (T t) r],kA (T t) r,[])
def newName(d:Option Nat):Nat:=match d with|some d=>(d+1)*1000|none=>999000
def ku(d:De):List Nat:=d.bP.map (·.1)
def iG(o:Oper):List Nat:=o.op.operands.toList.filterMap fun| .tmp t=>some t|_=>none
def cw(o:Oper)(ops:List Oper):List Nat:=match o.guard with|some (g,_)=>(match (ops[g]?).map (·.dst)with|some (some t)=>[t]|_=>[])|none=>[]
def e9(l:List Nat)(a:Nat):Bool:=l.any (az a)
def fP(o:Oper):List Nat:=match o.dst with|some d=>[d]|none=>[]
def n6(a b:List Nat):Bool:=!(a.any (e9 b))
def yr(ops:List Oper)(x y:Oper):Bool :=
 n6 (fP x) (iG y)&&(n6 (fP x) (cw y ops)&&(n6 (fP x) (fP y)&&(n6 (fP y) (iG x)&&(n6 (fP y) (cw x ops)&&(n6 (cw x ops) (iG y)&&n6 (cw y ops) (iG x))))))
def fQ(o:Oper):Bool:=match o.op with| .call ⟨.value _,_,_⟩=>true|_=>false
structure HE where
 i:Nat
 o:Oper
 rd:List Nat
 wr:List Nat
 rJ:List Nat
def cJ(o:Oper):List Nat:=o.after.toList.filterMap fun e=>match e.ground with| .textOnly _| .gcOnly _=>none|_=>some e.on
def fU(o:Oper)(hist:List HE):List Nat:=cJ o++(hist.filter fun h=>e9 (cJ o) h.i).flatMap (·.rJ)
def tP(ops:List Oper)(p o:Oper)(rq wq rd wr:List Nat):Bool :=
 !(fQ p&&fQ o)&&(yr ops p o&&(n6 wr wq&&(n6 wr rq&&n6 rd wq)))
def iq(ops:List Oper)(o:Oper)(rd wr:List Nat)(hist:List HE)(rJ:List Nat):Bool :=
 hist.all fun h=>e9 rJ h.i||tP ops h.o o h.rd h.wr rd wr
def St.app(s:St)(dst:Option Nat)(d:De):St :=
 {tm:=match dst with|some t=>bP s.tm t d.val|none=>s.tm,ob:=bX s.ob d.bP,us:=dX s.us d.new}
def cU(s:St)(n:Nat)(dst:Option Nat)(d:De):Bool :=
 (d.new.all fun o=>!(s.us o))&&nodup d.new&&(match dst with|some t=>bS t n|none=>true)
section
variable (T:dL) (cfg:Nat->FC) (n:Nat)
inductive wJ where
 |no
 |d (p:Option Prop) (d:De)
 |c (f:Nat) (asq:List AV) (ins:List Ob) (wr:List Nat) (k:AV->List Ob->List Prop×De)
def keyOf(f:Nat):List AV->Nat
 |[]=>f
 | .fn g _::_=>f+100000*(g+1)
 |_::r=>keyOf f r
def yk(t:TI):Bool:=!t.agg&&(xr t).plain
def Dt(T:dL)(t:Nat):Bool:=match (T t).k with| .tuple ts=>ts.all fun u=>yk (T u)|_=>yk (T t)
def BB:List CK->Bool
 |[]=>true
 | .lk k::r=>k.plain&&BB r
 | .vec _::r=>BB r
def Gv(T:dL)(own:List Nat)(oa:List CK)(i t:Nat):Bool:=bif own.any (az i)then(bif (T t).agg then BB oa else true)else yk (T t)
def Ga(T:dL)(own:List Nat)(oa:List CK):List Nat->Nat->Bool
 |[],_=>true
 |t::ts,i=>Gv T own oa i t&&Ga T own oa ts (i+1)
def Bt(T:dL)(own:List Nat)(oa:List CK)(t:Nat):Bool:=match (T t).k with
 | .tuple []=>false
 | .tuple ts=>Ga T own oa ts 0
 | .pt=>!(own.any (az 0))&&yk (T t)
 |_=>Gv T own oa 0 t
def sE(T:dL)(own:List Nat)(oa:List CK)(ins:List Ob)(t:Nat):Bool:=(match ins with|[]=>true|_=>false)&&(match own with|[]=>Dt T t|_=>Bt T own oa t)
def mq:Ob->Prop
 | .vec _ es=>∀e,e∈es->∀c,c∈e->∃x,c=.v x
 |_=>False
def sA(T:dL)(own:List Nat)(oa:List CK)(ins:List Ob)(t:Nat)(obs:List Ob):List Prop:=match own with
 |[]=>[]
 |_=>bif sE T own oa ins t then [∀x,x∈obs->mq x]else []
def nS(os:List Nat):List (Nat×Option Ob):=os.map fun o=>(o,none)
def eY(e:Operand->AV)(ob:Nat->Option Ob)(o:Oper)(f:Nat)(asq:List AV):wJ :=
 let c:=cfg (keyOf f asq)
 match ga ob c.mu asq 0 0 with
 |
  some (as',ins,os,fz)=>bif nodup os&&(!(os.any (e9 fz))&&(di (cS c.mu) ins&&(kb ob c.mu os ins asq 0&&pq (cS c.mu) os ins)))then
   .c f (gY c.mu as' 0) ins (let b:=cM (cS c.mu) os [] 0 (newName o.dst);fz++(os++(b.2.1++(da T c.own c.ow c.oa o.type .any ins.length b.2.2.1 b.2.2.2).2.2).map (·.1))) fun r obs =>
    let b:=cM (cS c.mu) os obs 0 (newName o.dst)
    let v:=da T c.own c.ow c.oa o.type r ins.length b.2.2.1 b.2.2.2
    (b.1++(v.1++sA T c.own c.oa ins o.type obs),{val:=v.2.1,bP:=(bif sE T c.own c.oa ins o.type then []else eF ob fz)++(nS os++(b.2.1++v.2.2)),new:=pZ (cS c.mu) (newName o.dst)++v.2.2.map (·.1)})
  else .no
 |none=>.no
def iI(e:Operand->AV)(ob:Nat->Option Ob)(o:Oper):wJ :=
 match o.op with
 |
  .call ⟨.value g,xs,_⟩ =>
  match e g with
  | .v (.func (.func f) fi cap)=>bif az fi.size 0&&az cap.size 0 then eY T cfg e ob o f (xs.toList.map e)else .no
  | .fn f cap=>eY T cfg e ob o f (xs.toList.map e++cap)
  |_=>.no
 |
  _=>match db T e ob o with
  | .ok p d=>.d (some p) d
  | .yes d=>.d none d
  | .no=>.no
def tx(o:Oper)(s:St)(K:List Nat->List Nat->St->Tree):Tree :=
 match iI T cfg (ev s) s.ob o with
 | .no=>.fail
 | .d p d=>bif cU s n o.dst d then(match p with|none=>K d.rd (ku d) (s.app o.dst d)|some p=>.ax p (K d.rd (ku d) (s.app o.dst d)))else .fail
 | .c f asq ins wr k=>.call f asq ins fun r obs=>mR (k r obs).1 (bif cU s n o.dst (k r obs).2 then K [] wr (s.app o.dst (k r obs).2)else .fail)
def jg(draw:Bool)(all:List Oper):List Oper->List HE->St->(St->Tree)->Tree
 |[],_,s,K=>K s
 |
  o::rest,hist,s,K =>
  let run (s:St):Tree:=tx T cfg n o s fun rd wr s'=>bif !draw||((cJ o).all (fun j=>bS j hist.length)&&iq all o rd wr hist (fU o hist))then jg draw all rest (hist++[⟨hist.length,o,rd,wr,fU o hist⟩]) s' K else .fail
  let skip (s:St):Tree:=bif (match o.dst with|some t=>bS t n|none=>true)&&(!draw||((cJ o).all (fun j=>bS j hist.length)&&iq all o [] [] hist (fU o hist)))then jg draw all rest (hist++[⟨hist.length,o,[],[],fU o hist⟩]) (match o.dst with|some t=>s.set t (.v (.tuple #[]))|none=>s) K else .fail
  match o.guard with
  |none=>run s
  |
   some (g,want)=>match (all[g]?).map (·.dst)with
   |
    some (some t)=>match s.tm t with
    | .v (.bool true)=>bif want then run s else skip s
    | .v (.bool false)=>bif want then skip s else run s
    | .v (.tuple _)=>skip s
    | .b b=>.test b (bif want then run (s.set t (.v (.bool true)))else skip (s.set t (.v (.bool true)))) (bif want then skip (s.set t (.v (.bool false)))else run (s.set t (.v (.bool false))))
    |_=>.fail
   |_=>.fail
inductive Ex where
 |normal|exit (id:Nat)|ret
def qe(ob:Nat->Option Ob)(tm:Nat->AV):List (Nat×SK)->Option (List AV×List Nat)
 |[]=>some ([],[])
 |
  (t,_)::r=>match freeze ob dG (tm t),qe ob tm r with
  |some (a,f),some (asq,fs)=>some (a::asq,f++fs)
  |_,_=>none
def sV(tm:Nat->AV):List (Nat×Nat)->Bool
 |[]=>true
 |(t,o)::r=>(match tm t with| .ref o' 0=>az o o'|_=>false)&&sV tm r
def sY(tm:Nat->AV):List (Nat×Nat×List (Option Nat))->Bool
 |[]=>true
 |(t,f,js)::r=>(match tm t with| .dS f' js'=>az f' f&&CQ js' js|_=>false)&&sY tm r
def rQ:List AV->List Nat->Bool
 |[],[]=>true
 | .ref o 0::r,p::l=>az o p&&rQ r l
 |_,_=>false
def sC(tm:Nat->AV):List (Nat×Nat×List Nat)->Bool
 |[]=>true
 |(t,f,js)::r=>(match tm t with| .fn f' caps=>az f' f&&rQ caps js|_=>false)&&sC tm r
def nV(ob:Nat->Option Ob):List (Nat×List CK)->Option (List Ob×List Nat)
 |[]=>some ([],[])
 |
  (o,ks)::r=>match ob o with
  |
   some (.cells cs)=>match bq ob ks cs (100*o),nV ob r with
   |some (asq,obs,os),some (obs',os')=>some (.cells (ek ks asq)::obs++obs',o::os++os')
   |_,_=>none
  |_=>none
def jz(ob:Nat->Option Ob)(tm:Nat->AV):List (Nat×Nat)->Option (List Ob×List Nat)
 |[]=>some ([],[])
 |
  (t,sz)::r=>match tm t with
  |
   .v (.slice none 0 0)=>match jz ob tm r with
   |some (obs,os)=>some (.vec sz []::obs,(2*dQ+t)::os)
   |none=>none
  |
   .vec o=>match ob o,jz ob tm r with
   |some (.vec sz es),some (obs,os)=>some (.vec sz es::obs,o::os)
   |_,_=>none
  |_=>none
def gL:Nat:=1000000
def k9:Nat:=2000000
def mA:Nat:=4000000
def kX:List (Nat×List CK)->Nat
 |[]=>0
 |(_,ks)::r=>bb ks+kX r
def nN(ob:Nat->Option Ob)(tm:Nat->AV):List (Nat×List CK)->Option (List AV×List Ob×List Nat)
 |[]=>some ([],[],[])
 |
  (t,ks)::r=>match tm t with
  |
   .agg cs=>match bq ob ks cs (mA+100*t),nN ob tm r with
   |some (asq,obs,os),some (xs,obs',os')=>some (.agg (ek ks asq)::xs,obs++obs',os++os')
   |_,_=>none
  |_=>none
def oZ(ob:Nat->Option Ob)(tm:Nat->AV):List (Nat×Nat×Nat)->Option (List Ob×List Nat)
 |[]=>some ([],[])
 |
  (t,o,sz)::r=>match tm t with
  |
   .vec o'=>match ob o,oZ ob tm r with
   |some (.vec sz' es),some (obs,os)=>bif az o' o&&az sz' sz then some (.vec sz es::obs,o::os)else none
   |_,_=>none
  |_=>none
def G5(cD:List (Nat×List CK)):Option Nat->Bool
 |none=>true
 |some o=>cD.any fun q=>az q.1 o
def rA(h:Shape):Bool:=(h.cD.all (fun p=>bS p.1 gL)&&h.kv.all (fun p=>bS p.2.1 gL))&&(nodup (h.cD.map (·.1)++h.kv.map (·.2.1))&&(eE (gL+kX h.cD) k9&&(eE (k9+h.ez.length) mA&&(h.refs.all (fun p=>h.cD.any fun q=>az q.1 p.2)&&(h.vQ.all (fun p=>p.2.2.all (G5 h.cD))&&h.fns.all (fun p=>p.2.2.all fun o=>G5 h.cD (some o)))))))
def tL(h:Shape)(s:St):Option (List AV×List Ob) :=
 match qe s.ob s.tm h.bY,nV s.ob h.cD,jz s.ob s.tm h.ez,nN s.ob s.tm h.pP,oZ s.ob s.tm h.kv with
 |some (xs,fz),some (o1,n1),some (o2,n2),some (ys,o3,n3),some (o4,n4)=>bif ((sV s.tm h.refs&&(sY s.tm h.vQ&&sC s.tm h.fns))&&!((n1++(n2++(n3++n4))).any (e9 fz)))&&(nodup (n1++(n2++(n3++n4)))&&rA h)then some (xs++ys,o1++(o2++(o3++o4)))else none
 |_,_,_,_,_=>none
def td:List (Nat×SK)->List AV->(Nat->AV)->Nat->AV
 |[],_,f=>f
 |(t,k)::r,xs,f=>td r xs.tail (bP f t (k.cast (xs.headD .any)))
def Ak:List (Nat×Nat)->(Nat->AV)->Nat->AV
 |[],f=>f
 |(t,o)::r,f=>Ak r (bP f t (.ref o 0))
def zH:List (Nat×Nat×List (Option Nat))->(Nat->AV)->Nat->AV
 |[],f=>f
 |(t,k,js)::r,f=>zH r (bP f t (.dS k js))
def Ac:List (Nat×Nat×List Nat)->(Nat->AV)->Nat->AV
 |[],f=>f
 |(t,k,js)::r,f=>Ac r (bP f t (.fn k (js.map fun o=>.ref o 0)))
def oD:List (Nat×List CK)->List Ob->(Nat->Option Ob)->Nat->(Nat->Option Ob)×List Ob
 |[],obs,f,_=>(f,obs)
 |
  (o,ks)::r,obs,f,nm =>
  let c:=bf ks (obs.headD .dead).cs 0 obs.tail nm
  oD r c.2.2.1 (bP (bX f c.2.1) o (some (.cells c.1))) c.2.2.2
def nY:List (Nat×Nat)->List Ob->(Nat->AV)->(Nat->Option Ob)->Nat->(Nat->AV)×(Nat->Option Ob)
 |[],_,f,g,_=>(f,g)
 |(t,sz)::r,obs,f,g,nm=>nY r obs.tail (bP f t (.vec nm)) (bP g nm (some (.vec sz (obs.headD .dead).es))) (nm+1)
def tG:List (Nat×List CK)->List AV->List Ob->(Nat->AV)->(Nat->Option Ob)->Nat->(Nat->AV)×(Nat->Option Ob)
 |[],_,_,f,g,_=>(f,g)
 |
  (t,ks)::r,xs,obs,f,g,nm =>
  let c:=bf ks (xs.headD .any).cs 0 obs nm
  tG r xs.tail c.2.2.1 (bP f t (.agg c.1)) (bX g c.2.1) c.2.2.2
def sU:List (Nat×Nat×Nat)->List Ob->(Nat->AV)->(Nat->Option Ob)->(Nat->AV)×(Nat->Option Ob)
 |[],_,f,g=>(f,g)
 |(t,o,sz)::r,obs,f,g=>sU r obs.tail (bP f t (.vec o)) (bP g o (some (.vec sz (obs.headD .dead).es)))
def EB(h:Shape)(xs:List AV)(obs:List Ob):St :=
 let o:=oD h.cD obs (fun _=>none) gL
 let v:=nY h.ez o.2 (Ac h.fns (zH h.vQ (Ak h.refs (td h.bY xs (fun _=>.any))))) o.1 k9
 let u:=tG h.pP (xs.drop h.bY.length) (o.2.drop h.ez.length) v.1 v.2 mA
 let k:=sU h.kv ((o.2.drop h.ez.length).drop (kX h.pP)) u.1 u.2
 {tm:=k.1,ob:=k.2,us:=fun x=>(k.2 x).isSome}
def lE:List (Nat×SK)->List AV->List Prop
 |[],_=>[]
 |(_,k)::r,xs=>k.has (xs.headD .any)::lE r xs.tail
def ah:List CK->List AV->Nat->List Ob->Prop
 |[],cs,i,_=>cs.length=i
 | .lk k::ks,cs,i,obs=>k.has (cs.getD i .any)/\ah ks cs (i+1) obs
 | .vec h::ks,cs,i,obs=>obs.headD .dead=.vec h (obs.headD .dead).es/\ah ks cs (i+1) obs.tail
def rp:List (Nat×List CK)->List Ob->List Prop
 |[],_=>[]
 |(_,ks)::r,obs=>(obs.headD .dead=.cells (obs.headD .dead).cs)::ah ks (obs.headD .dead).cs 0 obs.tail::rp r (obs.tail.drop (bb ks))
def lS:List (Nat×Nat)->List Ob->List Prop
 |[],_=>[]
 |(_,sz)::r,obs=>(obs.headD .dead=.vec sz (obs.headD .dead).es)::lS r obs.tail
def yN:List (Nat×List CK)->Nat
 |[]=>0
 |(_,ks)::r=>1+bb ks+yN r
def qZ:List (Nat×List CK)->List AV->List Ob->List Prop
 |[],_,_=>[]
 |(_,ks)::r,xs,obs=>(xs.headD .any=.agg (xs.headD .any).cs)::ah ks (xs.headD .any).cs 0 obs::qZ r xs.tail (obs.drop (bb ks))
def s6:List (Nat×Nat×Nat)->List Ob->List Prop
 |[],_=>[]
 |(_,_,sz)::r,obs=>(obs.headD .dead=.vec sz (obs.headD .dead).es)::s6 r obs.tail
def uk(h:Shape)(xs:List AV)(obs:List Ob):List Prop:=lE h.bY xs++(rp h.cD obs++(lS h.ez (obs.drop (yN h.cD))++(qZ h.pP (xs.drop h.bY.length) ((obs.drop (yN h.cD)).drop h.ez.length)++s6 h.kv (((obs.drop (yN h.cD)).drop h.ez.length).drop (kX h.pP)))))
def iB:Code->Option Nat
 | .region i _ _=>some i
 | .seq a b=>match iB a with|some i=>some i|none=>iB b
 | .cond _ a b=>match iB a with|some i=>some i|none=>iB b
 | .block _ c| .loop c| .scope c=>iB c
 |_=>none
def yG:List (Nat×LI)->Nat->Option LI
 |[],_=>none
 |(j,m)::r,i=>bif az j i then some m else yG r i
def EA:List Nat->List Nat->Bool
 |[],[]=>true
 |a::l,b::r=>az a b&&EA l r
 |_,_=>false
def qM(fx:List Nat)(h:Shape):Bool:=fx.all fun o=>(h.cD.any fun q=>az q.1 o)||h.kv.any fun q=>az q.2.1 o
def go(lis:List (Nat×LI))(fx:List Nat):Code->St->(Ex->St->Tree)->Tree
 | .skip,s,K=>K .normal s
 | .region _ ops draw,s,K=>jg T cfg n draw ops.toList ops.toList [] s (K .normal)
 | .seq a b,s,K=>go lis fx a s fun e s'=>match e with| .normal=>go lis fx b s' K| .exit i=>K (.exit i) s'| .ret=>K .ret s'
 |
  .cond c a b,s,K=>match c with
  |
   .tmp t=>match s.tm t with
   | .v (.bool true)=>go lis fx a s K
   | .v (.bool false)=>go lis fx b s K
   | .b x=>.test x (go lis fx a (s.set t (.v (.bool true))) K) (go lis fx b (s.set t (.v (.bool false))) K)
   |_=>.fail
  | .const (.bool true)=>go lis fx a s K
  | .const (.bool false)=>go lis fx b s K
  |_=>.fail
 | .block id c,s,K=>go lis fx c s fun e s'=>match e with| .exit i=>bif az i id then K .normal s' else K (.exit i) s'| .normal=>K .normal s'| .ret=>K .ret s'
 |
  .loop c,s,K=>match (iB c).bind (yG lis)with
  |
   some li=>bif EA fx li.fx&&(qM fx li.xs&&qM fx li.rt)then(match tL li.hd s with
   |some (xs,obs)=>.loop c li xs obs (fun ys obs'=>mR (uk li.xs ys obs') (K (.exit li.ex) (EB li.xs ys obs'))) (fun ys obs'=>mR (uk li.rt ys obs') (K .ret (EB li.rt ys obs')))
   |none=>.fail)else .fail
  |none=>.fail
 | .exit i,s,K=>K (.exit i) s
 | .label _,s,K=>K .normal s
 | .ret,s,K=>K .ret s
 |_,_,_=>.fail
def round(lis:List (Nat×LI))(c:Code)(li:LI)(xs:List AV)(obs:List Ob):Tree :=
 bif !(qM li.fx li.hd)then .fail else mR (uk li.hd xs obs)<|go T cfg n lis li.fx c (EB li.hd xs obs) fun e s=>match e with
  | .normal=>match tL li.hd s with|some (ys,o)=>.done 0 ys o|none=>.fail
  | .exit i=>bif az i li.ex then(match tL li.xs s with|some (ys,o)=>.done 1 ys o|none=>.fail)else .fail
  | .ret=>match tL li.rt s with|some (ys,o)=>.done 2 ys o|none=>.fail
end
def kI(T:dL)(s:St):List ResultVar->Option (List Prop×List AV)
 |[]=>some ([],[])
 | .tmp t::r=>(kI T s r).map fun q=>(q.1,s.tm t::q.2)
 |
  .cell t ty::r=>match loadAt s.ob (T ty) (s.tm t),kI T s r with
  | .ok p d,some q=>some (p::q.1,d.val::q.2)
  | .yes d,some q=>some (q.1,d.val::q.2)
  |_,_=>none
def pK(T:dL)(s:St)(own:List Nat)(oa:List CK):List Nat->List AV->Nat->Nat->Option (List AV×List Ob×List Nat×List Nat)
 |_,[],_,_=>some ([],[],[],[])
 |
  ts,a::asq,i,k=>bif own.any (az i)then
   match a with
   |
    .vec o=>match s.ob o,pK T s own oa ts.tail asq (i+1) (k+1)with
    |some (.vec sz es),some (xs,obs,os,fz)=>some (.vec k::xs,.vec sz es::obs,o::os,fz)
    |_,_=>none
   |
    .ref o 0=>match s.ob o with
    |
     some (.cells cs)=>match kD (freeze s.ob dG) cs,pK T s own oa ts.tail asq (i+1) (k+1)with
     |some (as',[]),some (xs,obs,os,fz)=>some (.ref k 0::xs,.cells as'::obs,o::os,fz)
     |_,_=>none
    |_=>none
   |
    .v (.slice none 0 0)=>match pK T s own oa ts.tail asq (i+1) (k+1)with
    |some (xs,obs,os,fz)=>some (.vec k::xs,.vec (nZ T (ts.headD 0)) []::obs,(4*dQ+k)::os,fz)
    |none=>none
   |
    .agg cs=>match bq s.ob oa cs k,pK T s own oa ts.tail asq (i+1) (k+bb oa)with
    |some (as',ob',os'),some (xs,obs,os,fz)=>some (.agg as'::xs,ob'++obs,os'++os,fz)
    |_,_=>none
   |_=>none
  else match freeze s.ob dG a,pK T s own oa ts.tail asq (i+1) k with
   |some (x,f),some (xs,obs,os,fz)=>some (x::xs,obs,os,f++fz)
   |_,_=>none
def kW(ob:Nat->Option Ob):List MK->Nat->Option (List Ob×List Nat)
 |[],_=>some ([],[])
 |
  .vec::ms,j=>match kW ob ms (j+1)with
  |some (obs,os)=>some (.dead::obs,(5*dQ+j)::os)
  |none=>none
 |
  .si _::ms,j=>match kW ob ms (j+1)with
  |some (obs,os)=>some (.dead::obs,(5*dQ+j)::os)
  |none=>none
 |
  .cb _ ks::ms,j=>match ob j with
  |
   some (.vec sz es)=>bif az sz (j3 ks)then(match kW ob ms (j+1)with
   |some (obs,os)=>some (.kB sz es::obs,j::os)
   |none=>none)else none
  |_=>none
 |
  .obj ks::ms,j=>match ob j with
  |
   some (.cells cs)=>match bq ob ks cs (j+1)with
   |
    some (asq,obs,os)=>match kW ob ms (j+1+bb ks)with
    |some (obs',os')=>some (.cells asq::obs++obs',j::os++os')
    |none=>none
   |none=>none
  |_=>none
def finish(T:dL)(fc:FC)(rv:List ResultVar)(ts:List Nat)(s:St):Tree :=
 match kI T s rv with
 |
  some (p,asq)=>match kW s.ob (cS fc.mu) 0 with
  |some (obs',os')=>match pK T s fc.own fc.oa ts asq 0 obs'.length with
   |some (xs,obs,os,fz)=>bif nodup (os'++os)&&!((os'++os).any (e9 fz))then mR p (.done 0 [match xs with|[]=>.any|[x]=>x|xs=>.cQ xs] (obs'++obs))else .fail
   |none=>.fail
  |none=>.fail
 |none=>.fail
def setArgs:List AV->Nat->(Nat->AV)->Nat->AV
 |[],_,f=>f
 |a::asq,i,f=>setArgs asq (i+1) (bP f i a)
def pC:List Ob->Nat->(Nat->Option Ob)->Nat->Option Ob
 |[],_,f=>f
 |a::asq,i,f=>pC asq (i+1) (bP f i (some a))
def enter(args:List AV)(ins:List Ob):St :=
 {tm:=setArgs args 0 fun _=>.any,ob:=pC ins 0 fun _=>none,us:=fun j=>bS j ins.length}
def main(T:dL)(cfg:Nat->FC)(lis:List (Nat×LI))(fc:FC)(f:Func)(args:List AV)(ins:List Ob):Tree :=
 match f.body with
 |
  some c=>bif eE args.length f.ntmps&&di (cS fc.mu) ins then go T cfg f.ntmps lis (nh (cS fc.mu) 0) c (enter args ins) fun e s=>match e with
  | .normal| .ret=>finish T fc f.results.toList f.resultTypes.toList s
  | .exit _=>.fail else .fail
 |none=>.fail
def dr(f:Func):Code:=match f.body with|some c=>c|none=>.skip
def fN:Code->Nat->Option Code
 |
  .loop c,i=>match iB c with
  |some j=>bif az j i then some c else fN c i
  |none=>fN c i
 | .seq a b,i=>match fN a i with|some c=>some c|none=>fN b i
 | .cond _ a b,i=>match fN a i with|some c=>some c|none=>fN b i
 | .block _ c,i=>fN c i
 | .scope c,i=>fN c i
 |_,_=>none
def dE(c:Code)(i:Nat):Code:=match fN c i with|some d=>d|none=>.skip
def uX:List (Nat×TI)->Nat->TI
 |[],_=>⟨false,[],false,0,.other,false⟩
 |(j,m)::r,i=>bif az j i then m else uX r i
def yd:List (Nat×FC)->Nat->FC
 |[],_=>{}
 |(j,m)::r,i=>bif az j i then m else yd r i
end Go.VL
namespace Go.VL
open Go Go.RowKit
structure Mem where
 c:Nat->Nat->Option Value
 one:∀b k v,c b k=some v->v.oneCell'=true
 p:Nat->Prop
 pc:∀b,p b->∃k v,c b k=some v
structure Mem.le(M M':Mem):Prop where
 c:∀b k v,M.c b k=some v->M'.c b k=some v
 p:∀b,M.p b->M'.p b
theorem Mem.le.refl(M:Mem):M.le M:=⟨fun _ _ _ h=>h,fun _ h=>h⟩
theorem Mem.le.trans{M M' M'':Mem}(h:M.le M')(k:M'.le M''):M.le M'':=⟨fun b i v e=>k.c _ _ _ (h.c _ _ _ e),fun b e=>k.p _ (h.p _ e)⟩
inductive Loc where
 |cells (b:Nat)
 |vec (v:Value) (sz:Nat)
abbrev Lo:=Nat->Option Loc
def cR:Lo:=fun _=>none
def Lo.le(β β':Lo):Prop:=∀o l,β o=some l->β' o=some l
theorem Lo.le.refl(β:Lo):Lo.le β β:=fun _ _ h=>h
theorem zu(β:Lo):Lo.le cR β:=fun _ _ h=>by cases h
def Loc.block:Loc->Option Nat
 | .cells b=>some b
 | .vec (.slice (some a) _ _) _=>some a.block
 |_=>none
inductive aW(M:Mem):Lo->AV->Value->Prop
 |any (β x):aW M β .any x
 |v (β x):aW M β (.v x) x
 |b (β t):aW M β (.b t) (.bool t)
 |agg (β cs) (vs:List Value) (hl:cs.length=vs.length) (ho:∀i,i<cs.length->(vs.getD i undef).oneCell'=true) (h:∀i,i<cs.length->aW M β (cs.getD i .any) (vs.getD i undef)):aW M β (.agg cs) (.agg vs.toArray)
 |cQ (β cs) (vs:List Value) (hl:cs.length=vs.length) (h:∀i,i<cs.length->aW M β (cs.getD i .any) (vs.getD i undef)):aW M β (.cQ cs) (.tuple vs.toArray)
 |ptr (β) (cs:List AV) (b off:Nat) (us:Nat->Value) (h:∀i,i<cs.length->M.c b (off+i)=some (us i)) (h':∀i,i<cs.length->aW M cR (cs.getD i .any) (us i)) :
  aW M β (.ptr cs) (.pointer (some ⟨b,off,none⟩))
 |pid (β) (cs:List AV) (b:Nat) (us:Nat->Value) (hp:M.p b) (h:∀i,i<cs.length->M.c b i=some (us i)) (h':∀i,i<cs.length->aW M cR (cs.getD i .any) (us i)) :
  aW M β (.pid b cs) (.pointer (some ⟨b,0,none⟩))
 |slnil (β):aW M β (.sl []) (.slice none 0 0)
 |sl (β) (es:List (List AV)) (b off c sz:Nat) (us:Nat->Value) (hc:es.length<=c) (hs:∀i,i<es.length->(es.getD i []).length=sz)
  (h:∀i,i<es.length*sz->M.c b (off+i)=some (us i)) (h':∀i j,i<es.length->j<sz->aW M cR ((es.getD i []).getD j .any) (us (i*sz+j))) :
  aW M β (.sl es) (.slice (some ⟨b,off,none⟩) es.length c)
 |x (β a v) (ho:v.oneCell'=true) (h:aW M cR a v):aW M β (.x a) v
 |ref (β:Lo) (o k b) (h:β o=some (.cells b)):aW M β (.ref o k) (.pointer (some ⟨b,k,none⟩))
 |lO (β:Lo) (o k b) (h:β o=some (.cells b)):aW M β (.lO o k) (.pointer (some ⟨b,k,none⟩))
 |vec (β:Lo) (o v sz) (ho:v.oneCell'=true) (h:β o=some (.vec v sz)):aW M β (.vec o) v
 |kM (β:Lo) (o i k sz b off n c) (h:β o=some (.vec (.slice (some ⟨b,off,none⟩) n c) sz)):aW M β (.kM o i k) (.pointer (some ⟨b,off+i*sz+k,none⟩))
 |dS (β:Lo) (f js b) (vs:List Value) (h:M.c b 0=some (.func (.func f) #[] vs.toArray)) (hl:js.length=vs.length) (hs:∀i,i<js.length->js.getD i none=none->vs.getD i undef=.pointer (some ⟨b,0,none⟩)) (ho:∀i o,i<js.length->js.getD i none=some o->∃b',β o=some (.cells b')/\vs.getD i undef=.pointer (some ⟨b',0,none⟩)) :
  aW M β (.dS f js) (.pointer (some ⟨b,0,none⟩))
 |fn (β f cs) (vs:List Value) (hl:cs.length=vs.length) (h:∀i,i<cs.length->aW M β (cs.getD i .any) (vs.getD i undef)):aW M β (.fn f cs) (.func (.func f) #[] vs.toArray)
theorem aW.mono{M M':Mem}(hM:M.le M'){β:Lo}{a:AV}{v:Value}(h:aW M β a v):∀{β':Lo},Lo.le β β'->aW M' β' a v:=by
 induction h with
 |any β x=>intro β' hβ;exact .any _ _
 |v β x=>intro β' hβ;exact .v _ _
 |b β t=>intro β' hβ;exact .b _ _
 |agg β cs vs hl ho h ih=>intro β' hβ;exact .agg _ _ _ hl ho fun i hi=>ih i hi hβ
 |cQ β cs vs hl h ih=>intro β' hβ;exact .cQ _ _ _ hl fun i hi=>ih i hi hβ
 |ptr β cs b off us h h' ih=>intro β' hβ;exact .ptr _ _ _ _ us (fun i hi=>hM.c _ _ _ (h i hi)) fun i hi=>ih i hi (Lo.le.refl _)
 |pid β cs b us hp h h' ih=>intro β' hβ;exact .pid _ _ _ us (hM.p _ hp) (fun i hi=>hM.c _ _ _ (h i hi)) fun i hi=>ih i hi (Lo.le.refl _)
 |slnil β=>intro β' hβ;exact .slnil _
 |sl β es b off c sz us hc hs h h' ih=>intro β' hβ;exact .sl _ _ _ _ _ sz us hc hs (fun i hi=>hM.c _ _ _ (h i hi)) fun i j hi hj=>ih i j hi hj (Lo.le.refl _)
 |x β a v ho h ih=>intro β' hβ;exact .x _ _ _ ho (ih (Lo.le.refl _))
 |ref β o k b h=>intro β' hβ;exact .ref _ _ _ _ (hβ _ _ h)
 |lO β o k b h=>intro β' hβ;exact .lO _ _ _ _ (hβ _ _ h)
 |vec β o v sz ho h=>intro β' hβ;exact .vec _ _ _ sz ho (hβ _ _ h)
 |kM β o i k sz b off n c h=>intro β' hβ;exact .kM _ _ _ _ sz _ _ n c (hβ _ _ h)
 |dS β f js b vs h hl hs ho=>intro β' hβ;exact .dS _ _ _ _ vs (hM.c _ _ _ h) hl hs fun i o hi e=>let ⟨b',h1,h2⟩:=ho i o hi e;⟨b',hβ _ _ h1,h2⟩
 |fn β f cs vs hl h ih=>intro β' hβ;exact .fn _ _ _ _ hl fun i hi=>ih i hi hβ
theorem aW.up{M:Mem}{β:Lo}{a:AV}{v:Value}(h:aW M cR a v):aW M β a v:=h.mono (Mem.le.refl M) (zu β)
theorem vz{M:Mem}{β:Lo}{a:AV}{v:Value}(h:aW M β a v)(hk:LK.ptr.has a):v.oneCell'=true:=by
 rcases hk with rfl|⟨cs,rfl⟩|⟨b,cs,rfl⟩<;>cases h<;>rfl
theorem xK{M:Mem}{β:Lo}{a:AV}{v:Value}(h:aW M β a v)(hk:wO a=true):v.oneCell'=true:=by
 cases h<;>first|rfl|(simp[wO]at hk;done)|skip
 ·exact hk
 all_goals assumption
theorem Ae{M:Mem}{β:Lo}{a:AV}{v:Value}(h:aW M β a v)(hk:LK.oth.has a):v.oneCell'=true:=by
 have hk:ye a=true:=hk
 cases h<;>first|(simp[ye]at hk;done)|skip
 ·exact hk
 ·assumption
theorem jB{M:Mem}{β:Lo}{k:LK}{a:AV}{v:Value}(h:aW M β a v)(hk:k.has a):aW M cR a v:=by
 cases k with
 |int k=>obtain⟨n,rfl⟩:=hk;cases h;exact .v _ _
 |bool=>obtain⟨n,rfl⟩:=hk;cases h;exact .v _ _
 |str=>obtain⟨n,rfl⟩:=hk;cases h;exact .v _ _
 |
  ptr =>
  rcases hk with rfl|⟨cs,rfl⟩|⟨b,cs,rfl⟩
  ·cases h;exact .v _ _
  ·cases h with|ptr _ _ _ _ us h h'=>exact .ptr _ _ _ _ us h h'
  ·cases h with|pid _ _ _ us hp h h'=>exact .pid _ _ _ us hp h h'
 |
  sl =>
  rcases hk with rfl|⟨es,rfl⟩
  ·cases h;exact .v _ _
  ·cases h with
   |slnil=>exact .slnil _
   |sl _ _ _ _ _ sz us hc hs h h'=>exact .sl _ _ _ _ _ sz us hc hs h h'
 |
  oth =>
  have hk:ye a=true:=hk
  cases h<;>first|(simp[ye]at hk;done)|skip
  ·exact .v _ _
  ·rename_i ho h;exact .x _ _ _ ho h
theorem xQ{M:Mem}{β:Lo}{a:AV}{v:Value}(h:aW M β a v)(hk:LK.sl.has a):v.oneCell'=true:=by
 rcases hk with rfl|⟨cs,rfl⟩<;>cases h<;>rfl
theorem LK.fM{M:Mem}{β:Lo}{k:LK}{a:AV}{v:Value}(h:aW M cR a v)(hk:k.has a):aW M β (k.cast a) v:=by
 cases k with
 |int k=>obtain⟨n,rfl⟩:=hk;exact h.up
 |bool=>obtain⟨n,rfl⟩:=hk;cases h;exact .b _ _
 |str=>obtain⟨n,rfl⟩:=hk;exact h.up
 |ptr=>exact .x _ _ _ (vz h hk) h
 |sl=>exact .x _ _ _ (xQ h hk) h
 |oth=>exact .x _ _ _ (Ae h hk) h
theorem jk:∀(ks:List LK) (cs:List AV) (s i:Nat) (h:bT ks cs s) (hi:i<ks.length),(ks.getD i .oth).has (cs.getD (s+i) .any)
 |k::ks,cs,s,0,h,hi=>by simpa using h.1
 |
  k::ks,cs,s,i+1,h,hi=>by
  have:=jk ks cs (s+1) i h.2 (by simpa using hi)
  simpa[Nat.add_comm,Nat.add_left_comm]using this
theorem cH:∀(ks:List LK) (cs:List AV) (s:Nat),(gX ks cs s).length=ks.length
 |[],_,_=>rfl
 |_::ks,cs,s=>by simp[gX,cH ks cs (s+1)]
theorem jD:∀(ks:List LK) (cs:List AV) (s i:Nat),i<ks.length->(gX ks cs s).getD i .any=(ks.getD i .oth).cast (cs.getD (s+i) .any)
 |k::ks,cs,s,0,h=>by simp[gX]
 |
  k::ks,cs,s,i+1,h=>by
  have:=jD ks cs (s+1) i (by simpa using h)
  simp only[gX,cF]
  rw[this]
  congr 2
  omega
theorem np{M:Mem}{β:Lo}{ks:List LK}{cs:List AV}{s:Nat}{us:Nat->Value}(h:bT ks cs s)(ho:∀i,i<ks.length->(us i).oneCell'=true)(hr:∀i,i<ks.length->aW M cR (cs.getD (s+i) .any) (us i)) :
 aW M β (.agg (gX ks cs s)) (.agg ((aP ks.length).map us).toArray):=by
 refine .agg _ _ _ (by simp[cH]) (fun i hi=>by rw[cH]at hi;simpa[aa,hi]using ho i hi) fun i hi=>?_
 rw[cH]at hi
 rw[jD ks cs s i hi]
 have e:((aP ks.length).map us).getD i undef=us i:=by simp[aa,hi]
 rw[e]
 exact LK.fM (hr i hi) (jk ks cs s i h hi)
structure fL(M:Mem)(w:World):Prop where
 c:∀b k v,M.c b k=some v->w.cell? ⟨b,k,none⟩=some v
 p:∀b,M.p b->∃vs e,w.heap[b]?=some (.cells vs e (0,0))/\vs.size≠0
instance (M:Mem) (w:World):CoeFun (fL M w) (fun _=>∀b k v,M.c b k=some v->w.cell? ⟨b,k,none⟩=some v):=⟨fL.c⟩
def Ob.live:Ob->Bool
 | .cells _| .vec _ _| .kB _ _=>true
 |_=>false
def Own(M:Mem)(β:Lo)(w:World)(o:Nat):Ob->Prop
 | .cells cs=>∃b vs e,β o=some (.cells b)/\w.heap[b]?=some (.cells vs e (0,0))/\vs.size=cs.length/\(∀i,i<cs.length->aW M β (cs.getD i .any) (vs.getD i undef))/\(∀k,M.c b k=none)/\∀v,v∈vs->v.oneCell'=true
 | .vec sz es=>∃v,β o=some (.vec v sz)/\(∀i,i<es.length->(es.getD i []).length=sz) /\
  ((
   v=.slice none 0 0/\es=[])\/∃b off c vs e,v=.slice (some ⟨b,off,none⟩) es.length c/\es.length<=c/\w.heap[b]?=some (.cells vs e (0,0))/\off+c*sz<=vs.size /\
   (∀i j,i<es.length->j<sz->aW M cR ((es.getD i []).getD j .any) (vs.getD (off+(i*sz+j)) undef))/\(∀k,M.c b k=none)/\off=0/\∀v,v∈vs->v.oneCell'=true)
 | .fS cs=>∃(b:Nat) (us:Nat->Value),β o=some (.cells b)/\(∀i,i<cs.length->M.c b i=some (us i)/\aW M β (cs.getD i .any) (us i))
 | .kV es=>∃v sz,β o=some (.vec v sz)/\(∀i,i<es.length->(es.getD i []).length=sz) /\
  ((
   v=.slice none 0 0/\es=[])\/∃(b off c:Nat) (us:Nat->Value),v=.slice (some ⟨b,off,none⟩) es.length c/\es.length<=c/\(∀i,i<es.length*sz->M.c b (off+i)=some (us i)) /\
   (∀i j,i<es.length->j<sz->aW M cR ((es.getD i []).getD j .any) (us (i*sz+j))))
 | .kB sz es=>∃v,β o=some (.vec v sz)/\(∀i,i<es.length->(es.getD i []).length=sz) /\
  ((
   v=.slice none 0 0/\es=[])\/∃b off c vs e,v=.slice (some ⟨b,off,none⟩) es.length c/\es.length<=c/\w.heap[b]?=some (.cells vs e (0,0))/\off+c*sz<=vs.size /\
   (∀i j,i<es.length->j<sz->aW M cR ((es.getD i []).getD j .any) (vs.getD (off+(i*sz+j)) undef))/\(∀k,M.c b k=none)/\off=0/\∀v,v∈vs->v.oneCell'=true)
 | .dead=>True
def dk(β:Lo)(o:Nat):Option Nat:=(β o).bind Loc.block
structure iA where
 w0:World
 M0:Mem
 rI:Nat->Prop
 fix:Nat->Option Loc
structure wx(A:iA)(w:World):Prop where
 os:w.os=A.w0.os
 tape:w.tape=A.w0.tape
 output:w.output=A.w0.output
 size:A.w0.heap.size<=w.heap.size
 block:∀b,b<A.w0.heap.size->¬A.rI b->w.heap[b]?=A.w0.heap[b]?
structure cz(n:Nat)(A:iA)(s:St)(a:Act)(w:World)(M:Mem)(β:Lo):Prop where
 size:a.tmps.size=n
 defs:a.defers=[]
 tm:∀t,aW M β (s.tm t) (a.tmps.getD t undef)
 le:A.M0.le M
 new:∀b k v,M.c b k=some v->A.M0.c b k=some v\/A.w0.heap.size<=b\/A.rI b
 agree:fL M w
 own:∀o x,s.ob o=some x->Own M β w o x
 place:∀o x b,s.ob o=some x->x.live=true->dk β o=some b->A.w0.heap.size<=b\/A.rI b
 apart:∀o o' x x' b,o≠o'->s.ob o=some x->x.live=true->s.ob o'=some x'->x'.live=true->dk β o=some b->dk β o'≠some b
 us:∀o,s.us o=false->β o=none/\s.ob o=none
 fix:∀o b,A.fix o=some b->s.us o=true/\∀x,s.ob o=some x->β o=some b
 cb:wx A w
def fa(n:Nat)(A:iA)(s:St)(a:Act)(w:World):Prop:=∃M β,cz n A s a w M β
theorem aD{α:Type}(f:Nat->α)(i:Nat)(a:α):bP f i a i=a:=by simp[bP,dx]
theorem aJ{α:Type}(f:Nat->α)(i j:Nat)(a:α)(h:j≠i):bP f i a j=f j:=by
 have:az j i=false:=by
  cases e:az j i with
  |false=>rfl
  |true=>exact absurd (au e) h
 simp[bP,this]
theorem cz.Iv{n:Nat}{A:iA}{s:St}{a:Act}{w:World}{M:Mem}{β:Lo}(g:cz n A s a w M β){d:Nat}(hd:s.us d=false){ob':Nat->Option Ob}(ho:∀o y,o≠d->ob' o=some y->∃z,s.ob o=some z){l:Loc} :
 ∀o b,A.fix o=some b->bP s.us d true o=true/\∀y,ob' o=some y->bP β d (some l) o=some b:=fun o b hf=>by
 obtain⟨h1,h2⟩:=g.fix o b hf
 have hne:o≠d:=fun e=>by subst e;rw[hd]at h1;cases h1
 refine⟨by rw[aJ _ _ _ _ hne];exact h1,fun y hy=>?_⟩
 obtain⟨z,hz⟩:=ho o y hne hy
 rw[aJ _ _ _ _ hne];exact h2 z hz
theorem cz.B5{n:Nat}{A:iA}{s:St}{a:Act}{w:World}{M:Mem}{β:Lo}(g:cz n A s a w M β){ob':Nat->Option Ob}(ho:∀o y,ob' o=some y->∃z,s.ob o=some z) :
 ∀o b,A.fix o=some b->s.us o=true/\∀y,ob' o=some y->β o=some b:=fun o b hf=>by
 obtain⟨h1,h2⟩:=g.fix o b hf
 exact⟨h1,fun y hy=>by obtain⟨z,hz⟩:=ho o y hy;exact h2 z hz⟩
theorem cz.ev{n:Nat}{A:iA}{s:St}{a:Act}{w:World}{M:Mem}{β:Lo}(g:cz n A s a w M β)(x:Operand):aW M β (VL.ev s x) (a.eval x):=by
 cases x with
 |tmp t=>exact g.tm t
 |const v=>exact .v _ _
 |global g=>exact .v _ _
 |func f=>exact .v _ _
end Go.VL
namespace Go.VL
open Go Go.RowKit
def wE:TypeDesc->Bool
 | .struct _| .array _ _=>true
 |_=>false
def pL:TK->TypeDesc->Bool
 | .str,.string=>true
 | .slice e,.slice e'=>az e e'
 | .array n e,.array n' e'=>az n n'&&az e e'
 | .struct fs,.struct fl=>fl.toList.map (fun f=>(f.offset,f.type))==fs
 | .pt,.pointer _=>true
 | .bl,.bool=>true
 | .num k,.int k'=>k==k'
 | .other,_=>true
 |_,_=>false
def ni:LK->Value->Bool
 | .int k,.int k' n=>k==k'&&n==0
 | .bool,.bool q=>!q
 | .str,.string s=>s.data.toList==[]
 | .ptr,.pointer none=>true
 | .sl,.slice none 0 0=>true
 | .oth,v=>v.oneCell'
 |_,_=>false
def gZ:List LK->List Value->Bool
 |[],[]=>true
 |k::ks,v::vs=>ni k v&&gZ ks vs
 |_,_=>false
def G1:LK->Option TypeDesc->Bool
 | .str,some .string=>true
 | .int k,some (.int k')=>k==k'
 |_,_=>false
def lG(P:Program):List Field->List LK->Nat->Bool
 |[],[],_=>true
 |f::fs,l::ls,i=>f.name != "_"&&az f.offset i&&G1 l (P.underlying f.type)&&lG P fs ls (i+1)
 |_,_,_=>false
def TI.AO(P:Program)(t:Nat)(ti:TI):Bool :=
 match P.info? t,P.underlying t with
 |some i,some d=>az i.size ti.lk.length&&az i.bytes ti.bytes&&(wE d==ti.agg)&&pL ti.k d&&(match i.zero with|some z=>gZ ti.lk z.cells.toList&&(match z with| .agg _=>ti.agg|_=>!ti.agg)|none=>false)&&(ti.agg||az ti.lk.length 1)&&(!ti.nz||(match d with| .pointer e=>(match P.info? e with|some i=>!(az i.size 0)|none=>false)| .struct ds=>!(P.stoodInHeld t)&&!(P.eqGuardType P.depth t)&&lG P ds.toList ti.lk 0|_=>false))
 |_,_=>false
structure fZ(P:Program)(t:Nat)(ti:TI):Prop where
 info:∃i z,P.info? t=some i/\i.size=ti.lk.length/\i.bytes=ti.bytes/\i.zero=some z/\gZ ti.lk z.cells.toList=true/\(ti.agg=true↔∃cs,z=.agg cs)
 AF:∃d,P.underlying t=some d/\wE d=ti.agg/\pL ti.k d=true
 one:ti.agg=false->ti.lk.length=1
 nz:ti.nz=true->ti.k=.pt->∃e i,P.underlying t=some (.pointer e)/\P.info? e=some i/\i.size≠0
 sq:ti.nz=true->∀fs,ti.k=.struct fs->∃ds,P.underlying t=some (.struct ds)/\P.stoodInHeld t=false/\P.eqGuardType P.depth t=false/\lG P ds.toList ti.lk 0=true
def cv(P:Program)(T:dL):Prop:=∀t,(T t).kn=true->fZ P t (T t)
theorem Cm{P:Program}{t:Nat}{ti:TI}(h:ti.AO P t=true):fZ P t ti:=by
 unfold TI.AO at h
 split at h
 ·rename_i i d hi hd
  simp only[ai,br]at h
  obtain⟨⟨⟨⟨⟨⟨h1,h2⟩,h3⟩,h4⟩,h5⟩,h6⟩,h9⟩:=h
  have e1:=au h1
  have e2:=au h2
  have e3:wE d=ti.agg:=by simpa using h3
  split at h5
  ·rename_i z hz
   simp only[ai]at h5
   refine⟨⟨i,z,hi,e1,e2,hz,h5.1,?_⟩,⟨d,hd,e3,h4⟩,fun ha=>?_,fun hnz hpt=>?_,fun hnz fs hst=>?_⟩
   ·have h7:=h5.2
    split at h7
    ·simp[h7]
    ·rename_i hne
     constructor
     ·intro hh;simp[hh]at h7
     ·rintro⟨cs,rfl⟩;exact absurd rfl (hne cs)
   ·rcases h6 with h6|h6
    ·rw[ha]at h6;cases h6
    ·exact au h6
   ·rcases h9 with h9|h9
    ·rw[hnz]at h9;cases h9
    ·split at h9
     ·rename_i e _ _
      split at h9
      ·rename_i i' hi'
       exact⟨_,i',hd,hi',fun e0=>by rw[e0]at h9;cases h9⟩
      ·cases h9
     ·rw[hpt]at h4;cases h4
     ·cases h9
   ·rcases h9 with h9|h9
    ·rw[hnz]at h9;cases h9
    ·rw[hst]at h4
     cases d<;>first
      |(simp[pL]at h4;done)
      |(
       simp only[ai,bx]at h9
       exact⟨_,hd,h9.1.1,h9.1.2,h9.2⟩)
  ·cases h5
 ·cases h
section
variable {P:Program} {t:Nat} {ti:TI}
theorem fZ.qp(h:fZ P t ti)(w:World):(isAgg t).run P w=.ok ti.agg w:=by
 obtain⟨d,hd,ha,_⟩:=h.AF
 unfold isAgg
 rw[Sem.run_bind,run_underlying hd w]
 rw[<-ha]
 cases d<;>rfl
theorem fZ.gO(h:fZ P t ti)(w:World):(sizeOf t).run P w=.ok ti.sz w:=by
 obtain⟨i,z,hi,hs,_⟩:=h.info
 simp[sizeOf,typeInfo,hi,hs,TI.sz]
end
theorem xP{M:Mem}{β:Lo}:∀{k:LK} {v:Value},ni k v=true->aW M β k.zero v
 |
  .int k,v,h=>by
  cases v<;>simp[ni]at h
  obtain⟨rfl,rfl⟩:=h
  exact .v _ _
 |
  .bool,v,h=>by
  cases v<;>simp[ni]at h
  subst h;exact .v _ _
 |
  .str,v,h=>by
  cases v<;>simp[ni]at h
  rename_i s
  obtain⟨d⟩:=s
  simp at h
  subst h;exact .v _ _
 |
  .ptr,v,h=>by
  cases v<;>simp[ni]at h
  rename_i a
  cases a<;>simp at h
  exact .v _ _
 |
  .sl,v,h=>by
  unfold ni at h
  split at h<;>first|cases h|skip
  all_goals first|exact .v _ _|(exfalso;simp_all)
 | .oth,v,h=>.x _ _ _ h (.any _ _)
theorem w4:∀{k:LK} {v:Value},ni k v=true->v.oneCell'=true
 | .oth,v,h=>h
 | .int k,v,h=>by cases v<;>first|rfl|simp[ni]at h
 | .bool,v,h=>by cases v<;>first|rfl|simp[ni]at h
 | .str,v,h=>by cases v<;>first|rfl|simp[ni]at h
 | .ptr,v,h=>by cases v<;>first|rfl|simp[ni]at h
 | .sl,v,h=>by cases v<;>first|rfl|simp[ni]at h
theorem qC:∀{ks:List LK} {vs:List Value},gZ ks vs=true->∀v,v∈vs->v.oneCell'=true
 |[],[],_,v,hv=>by cases hv
 |[],_::_,h,_,_=>by simp[gZ]at h
 |_::_,[],h,_,_=>by simp[gZ]at h
 |
  k::ks,v::vs,h,u,hu=>by
  simp only[gZ,ai]at h
  rcases aB.1 hu with rfl|hu
  ·exact w4 h.1
  ·exact qC h.2 u hu
theorem qx:∀{ks:List LK} {vs:List Value},gZ ks vs=true->ks.length=vs.length
 |[],[],_=>rfl
 |[],_::_,h=>by simp[gZ]at h
 |_::_,[],h=>by simp[gZ]at h
 |k::ks,v::vs,h=>by simp[gZ]at h;simp[qx h.2]
theorem pX{M:Mem}{β:Lo}:∀{ks:List LK} {vs:List Value},gZ ks vs=true->∀i,i<ks.length->aW M β ((ks.map LK.zero).getD i .any) (vs.getD i undef)
 |[],[],_,i,hi=>by simp at hi
 |[],_::_,h,_,_=>by simp[gZ]at h
 |_::_,[],h,_,_=>by simp[gZ]at h
 |k::ks,v::vs,h,0,_=>by simp[gZ]at h;simpa using xP h.1
 |
  k::ks,v::vs,h,i+1,hi=>by
  simp[gZ]at h
  simpa using pX h.2 i (by simpa using hi)
def DR.holds(r:DR)(X:De->Prop):Prop :=
 match r with
 | .no=>True
 | .yes d=>X d
 | .ok p d=>p->X d
theorem DR.aH{q:Bool}{r:DR}{X:De->Prop}(h:q=true->r.holds X):(cO q r).holds X:=by
 cases q
 ·trivial
 ·exact h rfl
theorem DR.j8{r:DR}{q:Prop}{X:De->Prop}(h:q->r.holds X):(r.xO q).holds X:=by
 cases r with
 |no=>trivial
 |yes d=>exact h
 |ok p d=>exact fun hh=>h hh.1 hh.2
theorem DR.fq{r:DR}{q:Option Prop}{X:De->Prop}(h:(∀p,q=some p->p)->r.holds X):(r.when q).holds X:=by
 cases q with
 |none=>exact h (fun _ hh=>by cases hh)
 |some p=>exact DR.j8 fun hp=>h (fun p' hh=>by cases hh;exact hp)
theorem DR.fp{r:DR}{X Y:De->Prop}(h:r.holds X)(hxy:∀d,X d->Y d):r.holds Y:=by
 cases r with
 |no=>trivial
 |yes d=>exact hxy _ h
 |ok p d=>exact fun hp=>hxy _ (h hp)
theorem DR.rY{r:DR}{o:Nat}{X:De->Prop}(h:r.holds fun d=>X {d with rd:=o::d.rd}):(r.reads o).holds X:=by
 cases r with
 |no=>trivial
 |yes d=>exact h
 |ok p d=>exact h
def iQ(P:Program)(M:Mem)(β:Lo)(s:Sem Value)(w:World)(x:AV):Prop:=∃v,s.run P w=.ok v w/\aW M β x v
def Quiet(X:AV->Prop)(d:De):Prop:=d.bP=[]/\d.new=[]/\X d.val
end Go.VL
namespace Go.VL
open Go Go.RowKit
section
variable {P:Program} {M:Mem} {β:Lo} {w:World}
theorem iu(b o i:Nat):(⟨b,o,none⟩:Addr).add i=⟨b,o+i,none⟩:=by
 unfold Addr.add
 split
 ·subst_vars;rfl
 ·rfl
theorem n9(op:BinOp)(t:Nat)(x y:Operand)(k k':IntKind)(a b:Int):(eqGuard op t x y (.int k a) (.int k' b)).run P w=.ok () w:=by
 unfold eqGuard;split<;>rfl
theorem oc(op:BinOp)(t:Nat)(x y:Operand)(a b:ByteArray):(eqGuard op t x y (.string a) (.string b)).run P w=.ok () w:=by
 unfold eqGuard;split<;>rfl
theorem nC(op:BinOp)(t:Nat)(x y:Operand)(a b:Bool):(eqGuard op t x y (.bool a) (.bool b)).run P w=.ok () w:=by
 unfold eqGuard;split<;>rfl
theorem j9(op:BinOp)(t:Nat)(x y:Operand)(a b:Option Addr):(eqGuard op t x y (.pointer a) (.pointer b)).run P w=.ok () w:=by
 unfold eqGuard;split<;>rfl
theorem zi(op:BinOp)(t:Nat)(x y:Operand)(k:IntKind)(a b:Int) :
 (CC op k a b).holds (Quiet fun r=>iQ P M β (do eqGuard op t x y (.int k a) (.int k b);binOp op t (.int k a) (.int k b)) w r):=by
 have e:=n9 (P:=P) (w:=w) op t x y k k a b
 cases op<;>simp only[CC,DR.holds]<;>first
  |trivial
  |(
   intro hb
   refine⟨rfl,rfl,?_⟩
   refine⟨_,?_,.v _ _⟩
   simp only[Sem.run_bind,e,Result.andThen_ok,binOp,Op.intDiv,ne_eq,not_true_eq_false,if_false]
   rw[if_neg hb]
   rfl)
  |(
   refine⟨rfl,rfl,?_⟩
   refine⟨_,?_,by first|exact .v _ _|exact .b _ _⟩
   simp[Sem.run_bind,e,binOp,Op.intArith,Op.intCmp,Op.intBits,FO])
theorem y8(op:BinOp)(t:Nat)(x y:Operand)(a b:ByteArray) :
 (BH op a b).holds (Quiet fun r=>iQ P M β (do eqGuard op t x y (.string a) (.string b);binOp op t (.string a) (.string b)) w r):=by
 have e:=oc (P:=P) (w:=w) op t x y a b
 cases op<;>simp only[BH,DR.holds]<;>(try trivial)<;>(try intro hb)<;>refine⟨rfl,rfl,?_⟩
 ·refine⟨.string (a++b),?_,.v _ _⟩
  have:¬(((a.size+b.size:Nat):Int)>IntKind.i64.max):=by
   have:IntKind.i64.max=9223372036854775807:=by decide
   omega
  simp only[Sem.run_bind,e,Result.andThen_ok,binOp,Op.stringOp]
  rw[if_neg this];rfl
 all_goals (refine⟨_,?_,.b _ _⟩;simp[Sem.run_bind,e,binOp,Op.stringOp])
theorem mV{t:Nat}{ti:TI}(h:fZ P t ti)(hk:ti.k=.pt)(a:Option Addr):(Op.equal t (.pointer a) (.pointer none)).run P w=.ok a.isNone w:=by
 obtain⟨d,hd,_,hc⟩:=h.AF
 rw[hk]at hc
 cases d<;>simp[pL]at hc
 show (Op.equalIn (9999+1) t (.pointer a) (.pointer none)).run P w=_
 unfold Op.equalIn
 rw[Sem.run_bind,run_underlying hd w]
 cases a<;>rfl
theorem run_equal_bool{t:Nat}{ti:TI}(h:fZ P t ti)(hk:ti.k=.bl)(a b:Bool):(Op.equal t (.bool a) (.bool b)).run P w=.ok (a==b) w:=by
 obtain⟨d,hd,_,hc⟩:=h.AF
 rw[hk]at hc
 cases d<;>simp[pL]at hc
 show (Op.equalIn (9999+1) t (.bool a) (.bool b)).run P w=_
 unfold Op.equalIn
 rw[Sem.run_bind,run_underlying hd w]
 rfl
theorem l9{t:Nat}{ti:TI}(h:fZ P t ti)(hk:ti.k=.pt)(op:BinOp)(x y:Operand)(a:Option Addr)(c:Bool)(hc:kO op a.isNone=some c) :
 (do eqGuard op t x y (.pointer a) (.pointer none);binOp op t (.pointer a) (.pointer none):Sem Value).run P w=.ok (.bool c) w:=by
 have e:=j9 (P:=P) (w:=w) op t x y a none
 have q:=mV (P:=P) (w:=w) h hk a
 cases op<;>simp only[kO]at hc<;>cases hc<;>simp[Sem.run_bind,e,binOp,q]
theorem wR{t:Nat}(op:BinOp)(x y:Operand)(a b:Option Addr)(c:Bool)(hc:kO op (decide (a=b))=some c)(q:(Op.equal t (.pointer a) (.pointer b)).run P w=.ok (decide (a=b)) w) :
 (do eqGuard op t x y (.pointer a) (.pointer b);binOp op t (.pointer a) (.pointer b):Sem Value).run P w=.ok (.bool c) w:=by
 have e:=j9 (P:=P) (w:=w) op t x y a b
 cases op<;>simp only[kO]at hc<;>cases hc<;>simp[Sem.run_bind,e,binOp,q]
theorem oH{t:Nat}{ti:TI}(h:fZ P t ti)(hk:ti.nz=true)(hpt:ti.k=.pt)(a b:Option Addr)(ha:∀x,a=some x->∃vs e,w.heap[x.block]?=some (.cells vs e (0,0)))(hb:∀x,b=some x->∃vs e,w.heap[x.block]?=some (.cells vs e (0,0))) :
 (Op.equal t (.pointer a) (.pointer b)).run P w=.ok (decide (a=b)) w:=by
 obtain⟨e,i,hd,hi,hs⟩:=h.nz hk hpt
 show (Op.equalIn (9999+1) t (.pointer a) (.pointer b)).run P w=_
 unfold Op.equalIn
 rw[Sem.run_bind,run_underlying hd w]
 cases a with
 |none=>cases b<;>rfl
 |
  some a =>
  cases b with
  |none=>rfl
  |
   some b =>
   have hsz:(sizeOf e).run P w=.ok i.size w:=by simp[sizeOf,typeInfo,hi]
   by_cases hab:a=b
   ·subst hab
    simp[Result.andThen,Sem.run_bind,hsz,hs,run_sameAddr_same]
   ·obtain⟨va,ea,ha'⟩:=ha a rfl
    obtain⟨vb,eb,hb'⟩:=hb b rfl
    simp[Result.andThen,Sem.run_bind,hsz,hs,hab]
    exact run_sameAddr_other w hab ha' hb'
theorem xy{t:Nat}{ti:TI}(h:fZ P t ti)(hk:ti.k=.bl)(op:BinOp)(x y:Operand)(a b c:Bool)(hc:kO op (a==b)=some c) :
 (do eqGuard op t x y (.bool a) (.bool b);binOp op t (.bool a) (.bool b):Sem Value).run P w=.ok (.bool c) w:=by
 have e:=nC (P:=P) (w:=w) op t x y a b
 have q:=run_equal_bool (P:=P) (w:=w) h hk a b
 cases op<;>simp only[kO]at hc<;>cases hc<;>simp[Sem.run_bind,e,binOp,q]
theorem vi{a:AV}{v:Value}(h:aW M cR a v)(hk:LK.ptr.has a):∃q,v=.pointer q/\a.isNil=q.isNone:=by
 rcases hk with rfl|⟨cs,rfl⟩|⟨b,cs,rfl⟩
 ·cases h;exact⟨none,rfl,rfl⟩
 ·cases h;exact⟨_,rfl,rfl⟩
 ·cases h;exact⟨_,rfl,rfl⟩
theorem Bj(hA:fL M w){a b:AV}{v u:Value}(h:aW M cR a v)(h':aW M cR b u)(hk:a.oR)(hk':b.oR):∃p q,v=.pointer p/\u=.pointer q/\a.xq b=decide (p=q) /\
 (∀x,p=some x->∃vs e,w.heap[x.block]?=some (.cells vs e (0,0)))/\(∀x,q=some x->∃vs e,w.heap[x.block]?=some (.cells vs e (0,0))):=by
 have key:∀{a:AV} {v:Value},aW M cR a v->a.oR->(a=.v (.pointer none)/\v=.pointer none)\/∃b cs,a=.pid b cs/\v=.pointer (some ⟨b,0,none⟩)/\∃vs e,w.heap[b]?=some (.cells vs e (0,0)):=by
  intro a v h hk
  unfold AV.oR at hk
  split at hk
  ·cases h;exact .inl ⟨rfl,rfl⟩
  ·cases h with
   |
    pid _ _ _ us hp _ _ =>
    obtain⟨vs,e,h1,_⟩:=hA.p _ hp
    exact .inr ⟨_,_,rfl,rfl,vs,e,h1⟩
  ·exact absurd hk id
 have none1:∀x:Addr,(none:Option Addr)=some x->∃vs e,w.heap[x.block]?=some (.cells vs e (0,0)):=fun x h=>by cases h
 rcases key h hk with⟨rfl,rfl⟩|⟨b1,c1,rfl,rfl,p1⟩<;>rcases key h' hk' with⟨rfl,rfl⟩|⟨b2,c2,rfl,rfl,p2⟩
 ·exact⟨_,_,rfl,rfl,rfl,none1,none1⟩
 ·exact⟨_,_,rfl,rfl,rfl,none1,fun x h=>by cases h;exact p2⟩
 ·exact⟨_,_,rfl,rfl,rfl,fun x h=>by cases h;exact p1,none1⟩
 ·refine⟨_,_,rfl,rfl,?_,fun x h=>by cases h;exact p1,fun x h=>by cases h;exact p2⟩
  show az b1 b2=_
  rw[cA]
  simp[Nat.beq_eq]
theorem rz{y v:Value}(h:aW M β (.v y) v):v=y:=by cases h;rfl
theorem qb{t off:Nat}{vs:List Value}{d:TypeDesc}(hu:P.underlying t=some d)(hd:wE d=false)(hl:off<vs.length):(part t vs.toArray off).run P w=.ok (vs.getD off undef) w:=by
 have e:vs.toArray[off]?=some (vs.getD off undef):=by simp[aa,hl]
 cases d<;>first|(simp[wE]at hd;done)|simp[part,isAgg,run_underlying hu,e]
theorem zL{l:LK}{c d:AV}{q:Bool}(h:G0 l c d=some q):(∃a b,l=.str/\c=.v (.string a)/\d=.v (.string b)/\q=(a.toList==b.toList))\/∃k a b,l=.int k/\c=.v (.int k a)/\d=.v (.int k b)/\q=(a==b):=by
 unfold G0 at h
 split at h
 ·cases h;exact .inl ⟨_,_,rfl,rfl,rfl,rfl⟩
 ·split at h
  ·split at h
   ·subst_vars;cases h;exact .inr ⟨_,_,_,rfl,rfl,rfl,rfl⟩
   ·cases h
  ·cases h
 ·cases h
theorem zQ{t:Nat}{l:LK}{c d:AV}{x y:Value}{q:Bool}(h:G0 l c d=some q)(hk:G1 l (P.underlying t)=true)(hx:aW M β c x)(hy:aW M β d y) :
 (∃e,P.underlying t=some e/\wE e=false)/\(Op.equalIn 9999 t x y).run P w=.ok q w:=by
 rcases zL h with⟨a,b,rfl,rfl,rfl,rfl⟩|⟨k,a,b,rfl,rfl,rfl,rfl⟩
 ·cases hu:P.underlying t with
  |none=>rw[hu]at hk;cases hk
  |
   some e =>
   rw[hu]at hk
   cases e<;>first
    |(simp[G1]at hk;done)
    |(
     rw[rz hx,rz hy]
     exact⟨⟨_,rfl,rfl⟩,run_equalIn_string w 9998 t _ _ hu⟩)
 ·cases hu:P.underlying t with
  |none=>rw[hu]at hk;cases hk
  |
   some e =>
   rw[hu]at hk
   cases e<;>first
    |(simp[G1]at hk;done)
    |(
     rw[rz hx,rz hy]
     exact⟨⟨_,rfl,rfl⟩,run_equalIn_int w 9998 t _ _ _ _ hu⟩)
theorem mH:∀(fs:List Field) (ls:List LK) (i:Nat) (cs ds:List AV) (xs ys:List Value) (q:Bool),lG P fs ls i=true->yR ls cs ds=some q->i+cs.length<=xs.length->i+ds.length<=ys.length ->
 (∀j,j<cs.length->aW M β (cs.getD j .any) (xs.getD (i+j) undef))->(∀j,j<ds.length->aW M β (ds.getD j .any) (ys.getD (i+j) undef))->(Op.eqFields 9999 xs.toArray ys.toArray fs).run P w=.ok q w
 |[],[],i,[],[],xs,ys,q,hf,hq,hx,hy,rx,ry=>by simp only[yR]at hq;cases hq;simp[Op.eqFields]
 |[],[],i,_::_,ds,xs,ys,q,hf,hq,hx,hy,rx,ry=>by simp[yR]at hq
 |[],[],i,[],_::_,xs,ys,q,hf,hq,hx,hy,rx,ry=>by simp[yR]at hq
 |[],l::ls,i,cs,ds,xs,ys,q,hf,hq,hx,hy,rx,ry=>by simp[lG]at hf
 |f::fs,[],i,cs,ds,xs,ys,q,hf,hq,hx,hy,rx,ry=>by simp[lG]at hf
 |f::fs,l::ls,i,[],ds,xs,ys,q,hf,hq,hx,hy,rx,ry=>by simp[yR]at hq
 |f::fs,l::ls,i,_::_,[],xs,ys,q,hf,hq,hx,hy,rx,ry=>by simp[yR]at hq
 |
  f::fs,l::ls,i,c::cs,d::ds,xs,ys,q,hf,hq,hx,hy,rx,ry=>by
  simp only[lG,ai,bne_iff_ne]at hf
  obtain⟨⟨⟨hn,ho⟩,hk⟩,hr⟩:=hf
  have ho:=au ho
  simp only[yR]at hq
  split at hq
  ·rename_i q1 q2 e1 e2
   cases hq
   simp only[aw]at hx hy
   obtain⟨⟨e,hu,hd⟩,hrun⟩:=zQ (P:=P) (t:=f.type) (w:=w) e1 hk (x:=xs.getD i undef) (y:=ys.getD i undef) (by simpa using rx 0 (by simp)) (by simpa using ry 0 (by simp))
   have hrest:=mH fs ls (i+1) cs ds xs ys q2 hr e2 (by omega) (by omega) (fun j hj=>by
    have:=rx (j+1) (by simpa using hj)
    rw[show i+(j+1)=i+1+j by omega]at this
    simpa using this) (fun j hj=>by
    have:=ry (j+1) (by simpa using hj)
    rw[show i+(j+1)=i+1+j by omega]at this
    simpa using this)
   unfold Op.eqFields
   rw[if_pos hn,ho]
   simp only[Sem.run_bind,qb hu hd (show i<xs.length by omega),qb hu hd (show i<ys.length by omega),Result.andThen_ok,hrun]
   cases q1
   ·simp
   ·simp[hrest]
  ·cases hq
theorem za{T:dL}(hT:cv P T)(op:BinOp)(t:Nat)(x y:Operand){cs ds:List AV}{xv yv:Value}(hx:aW M β (.agg cs) xv)(hy:aW M β (.agg ds) yv) :
 (A9 (T t) op cs ds).holds (Quiet fun r=>iQ P M β (do eqGuard op t x y xv yv;binOp op t xv yv) w r):=by
 unfold A9
 refine DR.aH fun hb=>?_
 simp only[ai]at hb
 have ok:=hT t hb.1
 split
 ·rename_i fs hk
  split
  ·rename_i q hq
   split
   ·rename_i c hc
    obtain⟨dd,hu,hs,hg,hf⟩:=ok.sq hb.2 fs hk
    obtain⟨xs,rfl,hl1,hr1⟩:∃vs:List Value,xv=.agg vs.toArray/\cs.length=vs.length/\∀i,i<cs.length->aW M β (cs.getD i .any) (vs.getD i undef):=by cases hx with|agg _ _ vs hl ho h=>exact⟨vs,rfl,hl,h⟩
    obtain⟨ys,rfl,hl2,hr2⟩:∃vs:List Value,yv=.agg vs.toArray/\ds.length=vs.length/\∀i,i<ds.length->aW M β (ds.getD i .any) (vs.getD i undef):=by cases hy with|agg _ _ vs hl ho h=>exact⟨vs,rfl,hl,h⟩
    have hfo:P.fieldsOf t=dd:=by unfold Program.fieldsOf;rw[hu]
    have hrun:(Op.equalIn 10000 t (.agg xs.toArray) (.agg ys.toArray)).run P w=.ok q w:=by
     rw[run_equalIn_struct w 9999 t xs.toArray ys.toArray (by rw[hfo];exact hu) hs,hfo]
     exact mH dd.toList _ 0 cs ds xs ys q hf hq (by omega) (by omega) (fun j hj=>by rw[aK];exact hr1 j hj) (fun j hj=>by rw[aK];exact hr2 j hj)
    have hgd:=run_eqGuard_agg (P:=P) w op t x y xs.toArray ys.toArray hg
    refine⟨rfl,rfl,.bool c,?_,.b _ _⟩
    cases op<;>simp only[kO]at hc<;>cases hc
    ·rw[Sem.run_bind,hgd,Result.andThen_ok,run_eql_struct,hrun,Result.andThen_ok]
    ·rw[Sem.run_bind,hgd,Result.andThen_ok,run_neq_struct,hrun,Result.andThen_ok]
   ·trivial
  ·trivial
 ·trivial
theorem CN{T:dL}(hT:cv P T)(hA:fL M w)(op:BinOp)(t:Nat)(x y:Operand){xa ya:AV}{xv yv:Value}(hx:aW M β xa xv)(hy:aW M β ya yv) :
 (bin (T t) op xa ya).holds (Quiet fun r=>iQ P M β (do eqGuard op t x y xv yv;binOp op t xv yv) w r):=by
 unfold bin
 split
 ·cases hx;cases hy
  split
  ·subst_vars;exact zi op t x y _ _ _
  ·trivial
 ·cases hx;cases hy
  exact y8 op t x y _ _
 ·rename_i a
  cases hy
  obtain⟨_,_,_,hx'⟩:∃_:True,∃_:True,∃_:True,aW M cR a xv:=by cases hx;exact⟨trivial,trivial,trivial,‹_›⟩
  unfold yn
  refine DR.aH fun hkn=>?_
  split
  ·rename_i c hk hc
   simp only[DR.holds]
   intro hp
   obtain⟨q,rfl,hq⟩:=vi hx' hp
   rw[hq]at hc
   exact⟨rfl,rfl,_,l9 (hT t hkn) hk op x y q c hc,.b _ _⟩
  ·trivial
 ·rename_i a b
  obtain⟨_,hx'⟩:∃_:True,aW M cR a xv:=by cases hx;exact⟨trivial,‹_›⟩
  obtain⟨_,hy'⟩:∃_:True,aW M cR b yv:=by cases hy;exact⟨trivial,‹_›⟩
  cases hnz:(T t).nz with
  |false=>trivial
  |
   true =>
   show (yn (T t) op (some (a.oR/\b.oR)) (a.xq b)).holds _
   unfold yn
   refine DR.aH fun hkn=>?_
   split
   ·rename_i c hk hc
    simp only[DR.holds]
    rintro⟨h1,h2⟩
    obtain⟨p,q,rfl,rfl,he,g1,g2⟩:=Bj hA hx' hy' h1 h2
    rw[he]at hc
    exact⟨rfl,rfl,_,wR op x y p q c hc (oH (hT t hkn) hnz hk p q g1 g2),.b _ _⟩
   ·trivial
 ·cases hx;cases hy
  unfold cmpL
  refine DR.aH fun hkn=>?_
  split
  ·rename_i c hk hc
   exact⟨rfl,rfl,_,l9 (hT t hkn) hk op x y none c hc,.v _ _⟩
  ·trivial
 ·cases hx;cases hy
  unfold cmpL
  refine DR.aH fun hkn=>?_
  split
  ·rename_i c hk hc
   exact⟨rfl,rfl,_,l9 (hT t hkn) hk op x y (some _) c hc,.v _ _⟩
  ·trivial
 ·cases hx;cases hy
  unfold cmpL
  refine DR.aH fun hkn=>?_
  split
  ·rename_i c hk hc
   exact⟨rfl,rfl,_,l9 (hT t hkn) hk op x y (some _) c hc,.v _ _⟩
  ·trivial
 ·cases hx;cases hy
  unfold cmpL
  refine DR.aH fun hkn=>?_
  split
  ·rename_i c hk hc
   exact⟨rfl,rfl,_,l9 (hT t hkn) hk op x y (some _) c hc,.v _ _⟩
  ·trivial
 all_goals first
  |trivial
  |exact za hT op t x y hx hy
  |(
   cases hx;cases hy
   unfold sa
   refine DR.aH fun hkn=>?_
   split
   ·rename_i c hk hc
    exact⟨rfl,rfl,_,xy (hT t hkn) hk op x y _ _ c hc,.b _ _⟩
   ·trivial)
theorem vH(cs:List AV)(n i:Nat):(cs.drop n).getD i .any=cs.getD (n+i) .any:=by
 simp[aa,bV]
theorem qA{a:AV}{v:Value}(h:aW M cR a v)(hk:LK.ptr.has a)(hn:a.isNil=false):aW M β (.ptr a.deref) v:=by
 rcases hk with rfl|⟨cs,rfl⟩|⟨b,cs,rfl⟩
 ·cases hn
 ·exact h.up
 ·cases h with
  |pid _ _ _ us hp h h'=>exact .ptr _ _ _ _ us (fun i hi=>by simpa using h i hi) h'
theorem po{cs:List AV}{b o:Nat}(h:aW M β (.ptr cs) (.pointer (some ⟨b,o,none⟩)))(n:Nat):aW M β (.ptr (cs.drop n)) (.pointer (some ⟨b,o+n,none⟩)):=by
 cases h with
 |
  ptr _ _ _ _ us h h' =>
  refine .ptr _ _ _ _ (fun i=>us (n+i)) (fun i hi=>?_) (fun i hi=>?_)
  ·have:=h (n+i) (by simp at hi;omega)
   rwa[<-dz]at this
  ·rw[vH];exact h' (n+i) (by simp at hi;omega)
theorem jv{cs:List AV}{v:Value}(h:aW M β (.ptr cs) v):∃b o,v=.pointer (some ⟨b,o,none⟩):=by
 cases h;exact⟨_,_,rfl⟩
theorem tU{x:AV}{v:Value}(h:aW M β x v)(off:Nat) :
 (og x off).holds (Quiet fun r=>∃b o,v=.pointer (some ⟨b,o,none⟩)/\aW M β r (.pointer (some ⟨b,o+off,none⟩))):=by
 unfold og
 split
 ·cases h with|ref _ _ _ b hb=>exact⟨rfl,rfl,_,_,rfl,.ref _ _ _ _ hb⟩
 ·cases h with|lO _ _ _ b hb=>exact⟨rfl,rfl,_,_,rfl,.lO _ _ _ _ hb⟩
 ·cases h with|kM _ _ _ _ sz b o n c hb=>exact⟨rfl,rfl,_,_,rfl,by rw[dz];exact .kM _ _ _ _ _ _ _ _ _ hb⟩
 ·obtain⟨b,o,rfl⟩:=jv h
  exact⟨rfl,rfl,b,o,rfl,po h off⟩
 ·cases h with
  |
   pid _ _ _ us hp h h' =>
   exact⟨rfl,rfl,_,_,rfl,po (.ptr β _ _ _ us (fun i hi=>by simpa using h i hi) h') off⟩
 ·simp only[DR.holds]
  intro⟨hk,hn⟩
  cases h with
  |
   x _ _ _ ho h =>
   have q:=qA (β:=β) h hk hn
   obtain⟨b,o,rfl⟩:=jv q
   exact⟨rfl,rfl,b,o,rfl,po q off⟩
 ·trivial
end
end Go.VL
namespace Go.VL
open Go Go.RowKit
section
variable {P:Program} {M:Mem} {β:Lo} {w:World}
theorem LK.jI{k:LK}{a:AV}{v:Value}(h:aW M β a v)(hk:k.has a)(hq:k.kn=true):aW M β (k.cast a) v:=by
 cases k with
 |int k=>obtain⟨n,rfl⟩:=hk;exact h
 |bool=>obtain⟨n,rfl⟩:=hk;cases h;exact .b _ _
 |str=>obtain⟨n,rfl⟩:=hk;exact h
 |
  ptr =>
  rcases hk with rfl|⟨cs,rfl⟩|⟨b,cs,rfl⟩
  ·cases h;exact .x _ _ _ rfl (.v _ _)
  ·cases h with|ptr _ _ _ _ us h h'=>exact .x _ _ _ rfl (.ptr _ _ _ _ us h h')
  ·cases h with|pid _ _ _ us hp h h'=>exact .x _ _ _ rfl (.pid _ _ _ us hp h h')
 |
  sl =>
  rcases hk with rfl|⟨es,rfl⟩
  ·cases h;exact .x _ _ _ rfl (.v _ _)
  ·cases h with
   |slnil=>exact .x _ _ _ rfl (.slnil _)
   |sl _ _ _ _ _ sz us hc hs h h'=>exact .x _ _ _ rfl (.sl _ _ _ _ _ sz us hc hs h h')
 |oth=>cases hq
theorem dZ{t:Nat}{ti:TI}(h:fZ P t ti)(b o:Nat)(us:Nat->Value)(hc:∀i,i<ti.sz->w.cell? ⟨b,o+i,none⟩=some (us i)) :
 (loadVar t ⟨b,o,none⟩).run P w=.ok (if ti.agg then .agg ((aP ti.sz).map us).toArray else us 0) w:=by
 unfold loadVar
 rw[Sem.run_bind,h.qp w]
 simp only[Result.andThen_ok]
 cases ha:ti.agg with
 |
  true =>
  simp only[if_true]
  rw[Sem.run_bind,h.gO w]
  simp only[Result.andThen_ok]
  rw[Sem.run_bind,run_loadCells w ⟨b,o,none⟩ ti.sz us (fun j hj=>by rw[iu];exact hc j hj)]
  rfl
 |
  false =>
  have h1:ti.sz=1:=h.one ha
  have:=hc 0 (by omega)
  simp only[bo]at this
  simp[run_load,this]
theorem jn{vs:Array Value}(h:∀v,v∈vs->v.oneCell'=true)(i:Nat)(hi:i<vs.size):(vs.getD i undef).oneCell'=true:=by
 have:vs.getD i undef=vs[i]:=by simp[hi]
 rw[this];exact h _ (Array.getElem_mem hi)
theorem rD{ks:List LK}(h:ks.all LK.kn=true)(i:Nat)(hi:i<ks.length):(ks.getD i .oth).kn=true:=by
 rw[bg]at h
 have:ks.getD i .oth=ks[i]:=by simp[aa,hi]
 rw[this];exact h _ (cc hi)
theorem dq(n:Nat)(us:Nat->Value)(i:Nat)(h:i<n):((aP n).map us).getD i undef=us i:=by
 simp[aa,h]
theorem lM(l:List AV):l.headD .any=l.getD 0 .any:=by cases l<;>rfl
theorem sj(t:TI):xr t=t.lk.getD 0 .oth:=by unfold xr;cases t.lk<;>rfl
theorem we{t:Nat}{ti:TI}(h:fZ P t ti){cs:List AV}{us:Nat->Value}(hh:vO ti cs)(ho:∀i,i<ti.sz->(us i).oneCell'=true)(hr:∀i,i<ti.sz->aW M cR (cs.getD i .any) (us i)) :
 aW M β (p5 ti cs) (if ti.agg then .agg ((aP ti.sz).map us).toArray else us 0):=by
 unfold p5
 unfold vO at hh
 cases ha:ti.agg with
 |
  true =>
  simp only[ha,cond_true]at hh |-
  exact np hh ho (fun i hi=>by simpa using hr i hi)
 |
  false =>
  simp only[ha,cond_false]at hh |-
  have h1:ti.sz=1:=h.one ha
  rw[lM]at hh |-
  exact LK.fM (hr 0 (by omega)) hh
theorem qn{t:Nat}{T:dL}(hT:cv P T){cs:List AV}{b o k:Nat}{us:Nat->Value}(hk:o=k)(hc:∀i,i<cs.length->w.cell? ⟨b,i,none⟩=some (us i))(ho:∀i,i<cs.length->(us i).oneCell'=true)(hr:∀i,i<cs.length->aW M β (cs.getD i .any) (us i)) :
 (lF (T t) cs k).holds (Quiet fun r=>iQ P M β (loadVar t ⟨b,o,none⟩) w r):=by
 subst hk
 unfold lF
 refine DR.aH fun hkn=>?_
 have h:=hT t hkn
 cases ha:(T t).agg with
 |
  true =>
  simp only[cond_true]
  cases hb:eE (o+(T t).sz) cs.length with
  |false=>simp only[cond_false];trivial
  |
   true =>
   have hle:=aF hb
   simp only[cond_true]
   refine⟨rfl,rfl,_,dZ h b o (fun i=>us (o+i)) (fun i hi=>hc (o+i) (by omega)),?_⟩
   rw[if_pos ha]
   refine .agg _ _ _ (by simp;omega) (fun i hi=>by simp only[List.length_take,bh]at hi;rw[dq _ _ _ (by omega)];exact ho _ (by omega)) fun i hi=>?_
   simp only[List.length_take,bh]at hi
   rw[dq _ _ _ (by omega)]
   have e:((cs.drop o).take (T t).sz).getD i .any=cs.getD (o+i) .any:=by
    simp[aa,List.getElem?_take,bV,show i<(T t).sz by omega]
   rw[e]
   exact hr (o+i) (by omega)
 |
  false =>
  simp only[cond_false]
  cases hb:bS o cs.length with
  |false=>simp only[cond_false];trivial
  |
   true =>
   have hlt:o<cs.length:=by have:=aF hb;omega
   have h1:(T t).sz=1:=h.one ha
   simp only[cond_true]
   refine⟨rfl,rfl,_,dZ h b o (fun i=>us (o+i)) (fun i hi=>hc (o+i) (by omega)),?_⟩
   simp only[ha,Bool.false_eq_true,if_false,bo]
   exact hr o hlt
theorem jT{t:Nat}{T:dL}(hT:cv P T){cs:List AV}{b o k:Nat}{us:Nat->Value}(hc:∀i,k+i<cs.length->w.cell? ⟨b,o+i,none⟩=some (us (k+i)))(ho:∀i,i<cs.length->(us i).oneCell'=true)(hr:∀i,i<cs.length->aW M β (cs.getD i .any) (us i)) :
 (hF (T t) cs k).holds (Quiet fun r=>iQ P M β (loadVar t ⟨b,o,none⟩) w r):=by
 unfold hF
 refine DR.aH fun hkq=>?_
 rw[ai]at hkq
 obtain⟨hkn,hq⟩:=hkq
 have h:=hT t hkn
 cases ha:(T t).agg with
 |
  true =>
  simp only[cond_true,DR.holds]
  intro⟨hle,hh⟩
  refine⟨rfl,rfl,_,dZ h b o (fun i=>us (k+i)) (fun i hi=>hc i (by omega)),?_⟩
  rw[if_pos ha]
  refine .agg _ _ _ (by simp[cH,TI.sz]) (fun i hi=>by rw[cH]at hi;rw[dq _ _ _ (show i<(T t).sz from hi)];exact ho _ (by unfold TI.sz at hle;omega)) fun i hi=>?_
  rw[cH]at hi
  rw[dq _ _ _ (show i<(T t).sz from hi),jD _ _ _ _ hi]
  exact LK.jI (hr (k+i) (by unfold TI.sz at hle;omega)) (jk _ _ _ _ hh hi) (rD hq i hi)
 |
  false =>
  simp only[cond_false,DR.holds]
  intro⟨hlt,hh⟩
  have h1:(T t).sz=1:=h.one ha
  refine⟨rfl,rfl,_,dZ h b o (fun i=>us (k+i)) (fun i hi=>hc i (by omega)),?_⟩
  simp only[ha,Bool.false_eq_true,if_false,bo]
  exact LK.jI (hr k hlt) hh (by rw[sj];exact rD hq 0 (by unfold TI.sz at h1;omega))
theorem Quiet.reads{X:AV->Prop}{r:DR}{o:Nat}(h:r.holds (Quiet X)):(r.reads o).holds (Quiet X):=DR.rY (DR.fp h fun d hd=>hd)
theorem cell_of{b:Nat}{vs:Array Value}{e:TypeId}{fr:Nat×Nat}(h:w.heap[b]?=some (.cells vs e fr))(i:Nat)(hi:i<vs.size):w.cell? ⟨b,i,none⟩=some (vs.getD i undef):=by
 rw[cell_of_row w b i vs e fr h]
 simp[hi]
theorem p7{T:dL}(hT:cv P T){ob:Nat->Option Ob}(hob:∀o x,ob o=some x->Own M β w o x)(hA:fL M w){t:Nat}{x:AV}{v:Value}(h:aW M β x v) :
 (loadAt ob (T t) x).holds (Quiet fun r=>iQ P M β (Instr.loadAt t v) w r):=by
 have sure:∀b o,(Instr.loadAt t (.pointer (some ⟨b,o,none⟩))).run P w=(loadVar t ⟨b,o,none⟩).run P w:=fun b o=>by
  simp[Instr.loadAt,Instr.sureAddr,Sem.run_bind]
 have tr:∀(r:DR) b o,r.holds (Quiet fun q=>iQ P M β (loadVar t ⟨b,o,none⟩) w q)->r.holds (Quiet fun q=>iQ P M β (Instr.loadAt t (.pointer (some ⟨b,o,none⟩))) w q):=fun r b o hr =>
  DR.fp hr fun d hd=>⟨hd.1,hd.2.1,by obtain⟨q,h1,h2⟩:=hd.2.2;exact⟨q,by rw[sure];exact h1,h2⟩⟩
 have ptrL:∀(cs:List AV) b o,aW M β (.ptr cs) (.pointer (some ⟨b,o,none⟩))->(T t).kn=true->vO (T t) cs->(T t).sz<=cs.length ->
  iQ P M β (Instr.loadAt t (.pointer (some ⟨b,o,none⟩))) w (p5 (T t) cs):=fun cs b o hr hkn hh hl=>by
  cases hr with
  |
   ptr _ _ _ _ us h h' =>
   refine⟨_,(sure b o).trans (dZ (hT t hkn) b o us fun i hi=>hA _ _ _ (h i (by omega))),we (hT t hkn) hh (fun i hi=>M.one _ _ _ (h i (by omega))) fun i hi=>h' i (by omega)⟩
 unfold loadAt
 split
 ·rename_i o k
  cases h with
  |
   ref _ _ _ b hb =>
   split
   ·rename_i cs hcs
    obtain⟨b',vs,e,h1,h2,h3,h4,_,h5⟩:=hob _ _ hcs
    rw[hb]at h1;cases h1
    exact tr _ _ _ (Quiet.reads (qn hT rfl (us:=fun i=>vs.getD i undef) (fun i hi=>cell_of h2 i (by omega)) (fun i hi=>jn h5 i (by omega)) h4))
   ·rename_i cs hcs
    obtain⟨b',us,h1,h2⟩:=hob _ _ hcs
    rw[hb]at h1;cases h1
    exact tr _ _ _ (Quiet.reads (qn hT rfl (fun i hi=>hA _ _ _ (h2 i hi).1) (fun i hi=>M.one _ _ _ (h2 i hi).1) fun i hi=>(h2 i hi).2))
   ·trivial
 ·rename_i o k
  cases h with
  |
   lO _ _ _ b hb =>
   split
   ·rename_i cs hcs
    obtain⟨b',vs,e,h1,h2,h3,h4,_,h5⟩:=hob _ _ hcs
    rw[hb]at h1;cases h1
    exact tr _ _ _ (Quiet.reads (jT hT (us:=fun i=>vs.getD i undef) (fun i hi=>cell_of h2 (k+i) (by omega)) (fun i hi=>jn h5 i (by omega)) h4))
   ·rename_i cs hcs
    obtain⟨b',us,h1,h2⟩:=hob _ _ hcs
    rw[hb]at h1;cases h1
    exact tr _ _ _ (Quiet.reads (jT hT (fun i hi=>hA _ _ _ (h2 (k+i) hi).1) (fun i hi=>M.one _ _ _ (h2 i hi).1) fun i hi=>(h2 i hi).2))
   ·trivial
 ·rename_i o i k
  cases h with
  |
   kM _ _ _ _ sz b off n c hb =>
   split
   ·rename_i sz' es hes
    obtain⟨v',h1,h2,h3⟩:=hob _ _ hes
    rw[hb]at h1;cases h1
    refine Quiet.reads (DR.j8 fun hi=>?_)
    rcases h3 with⟨h3,_⟩|⟨b',off',c',vs,e,h3,h4,h5,h6,h7,_,_,h9'⟩
    ·cases h3
    ·injection h3 with h3 h3' h3''
     injection h3 with h3
     injection h3 with h3 h8 h9
     subst h3;subst h8
     refine tr _ _ _ (jT hT (us:=fun j=>vs.getD (off+(i*sz+j)) undef) (fun j hj=>?_) (fun j hj=>jn h9' _ (by
      rw[h2 i hi]at hj
      have hlt:i*sz+sz<=es.length*sz:=by rw[<-ct];exact aI _ hi
      have hcc:es.length*sz<=c'*sz:=aI _ h4
      omega)) fun j hj=>(h7 i j hi (by rw[h2 i hi]at hj;exact hj)).up)
     rw[h2 i hi]at hj
     have hlt:i*sz+sz<=es.length*sz:=by rw[<-ct];exact aI _ hi
     have hcc:es.length*sz<=c'*sz:=aI _ h4
     have:=cell_of h5 (off+(i*sz+(k+j))) (by omega)
     rw[show off+i*sz+k+j=off+(i*sz+(k+j)) by omega]
     exact this
   ·rename_i es hes
    obtain⟨v',sz',h1,h2,h3⟩:=hob _ _ hes
    rw[hb]at h1;cases h1
    refine Quiet.reads (DR.j8 fun hi=>?_)
    rcases h3 with⟨h3,_⟩|⟨b',off',c',us,h3,h4,h5,h7⟩
    ·cases h3
    ·injection h3 with h3 h3' h3''
     injection h3 with h3
     injection h3 with h3 h8 h9
     subst h3;subst h8
     refine tr _ _ _ (jT hT (us:=fun j=>us (i*sz+j)) (fun j hj=>?_) (fun j hj=>M.one _ _ _ (h5 (i*sz+j) (by
      rw[h2 i hi]at hj
      have hlt:i*sz+sz<=es.length*sz:=by rw[<-ct];exact aI _ hi
      omega))) fun j hj=>(h7 i j hi (by rw[h2 i hi]at hj;exact hj)).up)
     rw[h2 i hi]at hj
     have hlt:i*sz+sz<=es.length*sz:=by rw[<-ct];exact aI _ hi
     have:=hA _ _ _ (h5 (i*sz+(k+j)) (by omega))
     rw[show off+i*sz+k+j=off+(i*sz+(k+j)) by omega]
     exact this
   ·trivial
 ·obtain⟨b,o,rfl⟩:=jv h
  refine DR.aH fun hkn=>?_
  simp only[DR.holds]
  intro⟨hh,hl⟩
  exact⟨rfl,rfl,ptrL _ b o h hkn hh hl⟩
 ·cases h with
  |
   pid _ _ _ us hp h h' =>
   refine DR.aH fun hkn=>?_
   simp only[DR.holds]
   intro⟨hh,hl⟩
   exact⟨rfl,rfl,ptrL _ _ 0 (.ptr β _ _ _ us (fun i hi=>by simpa using h i hi) h') hkn hh hl⟩
 ·cases h with
  |
   x _ _ _ ho h =>
   refine DR.aH fun hkn=>?_
   simp only[DR.holds]
   intro⟨hk,hn,hh,hl⟩
   have q:=qA (β:=β) h hk hn
   obtain⟨b,o,rfl⟩:=jv q
   exact⟨rfl,rfl,ptrL _ b o q hkn hh hl⟩
 ·rename_i f js
  have hq:=h
  cases h with
  |
   dS _ _ _ b vs hc hl hs ho =>
   refine DR.aH fun hkq=>?_
   rw[ai,bx]at hkq
   obtain⟨hkn,ha⟩:=hkq
   have h1:(T t).sz=1:=(hT t hkn).one ha
   refine⟨rfl,rfl,_,(sure b 0).trans (dZ (hT t hkn) b 0 (fun _=>.func (.func f) #[] vs.toArray) fun i hi=>by
    have:i=0:=by omega
    subst this;exact hA _ _ _ hc),?_⟩
   simp only[ha,Bool.false_eq_true,if_false]
   refine .fn _ _ _ vs (by simp[hl]) fun i hi=>?_
   have hi':i<js.length:=by simpa using hi
   have e:(js.map (HV f js)).getD i .any=HV f js (js.getD i none):=by
    simp[aa,hi']
   rw[e]
   cases e2:js.getD i none with
   |none=>rw[hs i hi' e2];exact hq
   |
    some o =>
    obtain⟨b',q1,q2⟩:=ho i o hi' e2
    rw[q2];exact .ref _ _ _ _ q1
 ·trivial
end
end Go.VL
namespace Go.VL
open Go Go.RowKit
section
variable {P:Program} {M:Mem} {β:Lo} {w:World}
theorem cT{y v:Value}(h:aW M β (.v y) v):v=y:=by cases h;rfl
def AG(w:World)(M:Mem)(es:List (List AV))(v:Value):Prop :=
 (v=.slice none 0 0/\es=[])\/∃(b off c sz:Nat) (us:Nat->Value),v=.slice (some ⟨b,off,none⟩) es.length c/\es.length<=c/\(∀i,i<es.length->(es.getD i []).length=sz) /\
  (∀i,i<es.length*sz->w.cell? ⟨b,off+i,none⟩=some (us i))/\(∀i j,i<es.length->j<sz->aW M cR ((es.getD i []).getD j .any) (us (i*sz+j)))/\∀i,i<es.length*sz->(us i).oneCell'=true
theorem uO(hA:fL M w){es:List (List AV)}{v:Value}(h:aW M β (.sl es) v):AG w M es v:=by
 cases h with
 |slnil=>exact .inl ⟨rfl,rfl⟩
 |sl _ _ b off c sz us hc hs h h'=>exact .inr ⟨b,off,c,sz,us,rfl,hc,hs,fun i hi=>hA _ _ _ (h i hi),h',fun i hi=>M.one _ _ _ (h i hi)⟩
theorem Gm(hA:fL M w){a:AV}{v:Value}(h:aW M cR a v)(hk:LK.sl.has a):AG w M a.elems v:=by
 rcases hk with rfl|⟨es,rfl⟩
 ·cases h;exact .inl ⟨rfl,rfl⟩
 ·exact uO hA h
theorem As{o sz:Nat}{es:List (List AV)}{v:Value}(h:aW M β (.vec o) v)(hw:Own M β w o (.vec sz es)):AG w M es v:=by
 cases h with
 |
  vec _ _ _ sz' hov hb =>
  obtain⟨v',h1,h2,h3⟩:=hw
  rw[hb]at h1;cases h1
  rcases h3 with⟨rfl,rfl⟩|⟨b,off,c,vs,e,rfl,h4,h5,h6,h7,_,_,h8⟩
  ·exact .inl ⟨rfl,rfl⟩
  ·have lt:∀i,i<es.length*sz->off+i<vs.size:=fun i hi=>cx (Nat.add_lt_add_left (cx hi (aI _ h4)) _) h6
   exact .inr ⟨b,off,c,_,fun i=>vs.getD (off+i) undef,rfl,h4,h2,fun i hi=>cell_of h5 _ (lt i hi),h7,fun i hi=>jn h8 _ (lt i hi)⟩
theorem xG(hA:fL M w){o:Nat}{es:List (List AV)}{v:Value}(h:aW M β (.vec o) v)(hw:Own M β w o (.kV es)):AG w M es v:=by
 cases h with
 |
  vec _ _ _ sz' hov hb =>
  obtain⟨v',sz,h1,h2,h3⟩:=hw
  rw[hb]at h1;cases h1
  rcases h3 with⟨rfl,rfl⟩|⟨b,off,c,us,rfl,h4,h5,h7⟩
  ·exact .inl ⟨rfl,rfl⟩
  ·exact .inr ⟨b,off,c,_,us,rfl,h4,h2,fun i hi=>hA _ _ _ (h5 i hi),h7,fun i hi=>M.one _ _ _ (h5 i hi)⟩
theorem jU{ob:Nat->Option Ob}(hob:∀o x,ob o=some x->Own M β w o x)(hA:fL M w){x:AV}{v:Value}(h:aW M β x v){p:Option Prop}{es:List (List AV)}{os:List Nat}
 (he:ef ob x=some (p,es,os)) (hp:∀q,p=some q->q):AG w M es v:=by
 unfold ef at he
 split at he
 ·cases he;exact uO hA h
 ·cases he
  cases h with|x _ _ _ ho h=>exact Gm hA h (hp _ rfl)
 ·cases he;cases h;exact .inl ⟨rfl,rfl⟩
 ·split at he
  ·rename_i hes;cases he;exact As h (hob _ _ hes)
  ·rename_i hes;cases he;exact xG hA h (hob _ _ hes)
  ·cases he
 ·cases he
theorem fZ.slice{t e:Nat}{ti:TI}(h:fZ P t ti)(hk:ti.k=.slice e):P.underlying t=some (.slice e):=by
 obtain⟨d,hd,_,hc⟩:=h.AF
 rw[hk]at hc
 cases d<;>simp[pL]at hc
 subst hc;exact hd
theorem fZ.array{t n e:Nat}{ti:TI}(h:fZ P t ti)(hk:ti.k=.array n e):P.underlying t=some (.array n e):=by
 obtain⟨d,hd,_,hc⟩:=h.AF
 rw[hk]at hc
 cases d<;>simp[pL]at hc
 obtain⟨rfl,rfl⟩:=hc;exact hd
theorem fZ.str{t:Nat}{ti:TI}(h:fZ P t ti)(hk:ti.k=.str):P.underlying t=some .string:=by
 obtain⟨d,hd,_,hc⟩:=h.AF
 rw[hk]at hc
 cases d<;>simp[pL]at hc
 exact hd
theorem fZ.num{t:Nat}{k:IntKind}{ti:TI}(h:fZ P t ti)(hk:ti.k=.num k):P.underlying t=some (.int k):=by
 obtain⟨d,hd,_,hc⟩:=h.AF
 rw[hk]at hc
 cases d<;>simp[pL]at hc
 subst hc;exact hd
theorem fZ.struct{t:Nat}{fs:List (Nat×Nat)}{ti:TI}(h:fZ P t ti)(hk:ti.k=.struct fs):∃fl,P.underlying t=some (.struct fl)/\fl.toList.map (fun f=>(f.offset,f.type))=fs:=by
 obtain⟨d,hd,_,hc⟩:=h.AF
 rw[hk]at hc
 cases d<;>simp[pL]at hc
 exact⟨_,hd,hc⟩
theorem run_indexAt_slice{t e:Nat}(hu:P.underlying t=some (.slice e)){te:TI}(he:fZ P e te)(b off n c:Nat)(k:IntKind)(i:Int)(h0:0<=i)(h1:i<n) :
 (Instr.indexAt t (.slice (some ⟨b,off,none⟩) n c) (.int k i)).run P w=.ok (.pointer (some ⟨b,off+i.toNat*te.sz,none⟩)) w:=by
 unfold Instr.indexAt
 simp only[asIntOf,Sem.run_bind,Sem.run_pure,Result.andThen_ok,run_underlying hu w]
 rw[if_pos ⟨h0,h1⟩]
 simp only[Sem.run_bind,he.gO w,Result.andThen_ok,Sem.run_pure,iu]
theorem run_indexAt_array{t m e:Nat}(hu:P.underlying t=some (.array m e)){te:TI}(he:fZ P e te)(b off:Nat)(k:IntKind)(i:Int)(h0:0<=i)(h1:i<m) :
 (Instr.indexAt t (.pointer (some ⟨b,off,none⟩)) (.int k i)).run P w=.ok (.pointer (some ⟨b,off+i.toNat*te.sz,none⟩)) w:=by
 unfold Instr.indexAt
 simp only[asIntOf,Sem.run_bind,Sem.run_pure,Result.andThen_ok,run_underlying hu w,Instr.sureAddr]
 rw[if_pos ⟨h0,h1⟩]
 simp only[Sem.run_bind,he.gO w,Result.andThen_ok,Sem.run_pure,iu]
theorem BA{es:List (List AV)}{b off c i z:Nat}(h:aW M β (.sl es) (.slice (some ⟨b,off,none⟩) es.length c))(hi:i<es.length)(hz:(es.getD i []).length=z) :
 aW M β (.ptr (es.getD i [])) (.pointer (some ⟨b,off+i*z,none⟩)):=by
 cases h with
 |
  sl _ _ _ _ _ sz us hc hs h h' =>
  have e:sz=z:=(hs i hi).symm.trans hz
  subst e
  have hle:i*sz+sz<=es.length*sz:=by rw[<-ct];exact aI _ hi
  refine .ptr _ _ _ _ (fun j=>us (i*sz+j)) (fun j hj=>?_) (fun j hj=>h' i j hi (by omega))
  rw[hz]at hj
  rw[dz]
  exact h _ (by omega)
theorem zI{es:List (List AV)}{v:Value}(h:aW M β (.sl es) v)(hi:0<es.length):∃b off c,v=.slice (some ⟨b,off,none⟩) es.length c:=by
 cases h with
 |slnil=>simp at hi
 |sl=>exact⟨_,_,_,rfl⟩
theorem He{a:AV}{v:Value}(h:aW M cR a v)(hk:LK.sl.has a):aW M β (.sl a.elems) v:=by
 rcases hk with rfl|⟨es,rfl⟩
 ·cases h;exact .slnil _
 ·exact h.up
theorem tV{T:dL}(hT:cv P T){ob:Nat->Option Ob}(hob:∀o x,ob o=some x->Own M β w o x){t:Nat}(ht:(T t).kn=true){x:AV}{v:Value}(h:aW M β x v)(k:IntKind)(i:Int) :
 (indexAt T ob (T t) x i).holds (Quiet fun r=>iQ P M β (Instr.indexAt t v (.int k i)) w r):=by
 have slC:∀(es:List (List AV)) e,(T t).k=.slice e->(T e).kn=true->aW M β (.sl es) v->0<=i->i<es.length->(es.getD i.toNat []).length=(T e).sz ->
  iQ P M β (Instr.indexAt t v (.int k i)) w (.ptr (es.getD i.toNat [])):=fun es e hk hkn hr h0 h1 hz=>by
  obtain⟨b,off,c,rfl⟩:=zI hr (by omega)
  exact⟨_,run_indexAt_slice ((hT t ht).slice hk) (hT e hkn) b off _ c k i h0 h1,BA hr (by omega) hz⟩
 unfold indexAt
 split
 ·rename_i m e o q hk
  cases h with
  |
   ref _ _ _ b hb =>
   refine DR.aH fun hkn=>?_
   intro⟨h0,h1⟩
   exact⟨rfl,rfl,_,run_indexAt_array ((hT t ht).array hk) (hT e hkn) b q k i h0 h1,.lO _ _ _ _ hb⟩
 ·rename_i e o hk
  refine DR.aH fun hkn=>?_
  cases h with
  |
   vec _ _ _ sz hov hb =>
   split
   ·rename_i sz' es hes
    refine DR.aH fun hz=>?_
    intro⟨h0,h1⟩
    obtain⟨v',h3,h4,h5⟩:=hob _ _ hes
    rw[hb]at h3;cases h3
    have hz:=au hz
    rcases h5 with⟨_,rfl⟩|⟨b,off,c,vs,e',rfl,h6,_⟩
    ·simp at h1;omega
    ·refine⟨rfl,rfl,_,run_indexAt_slice ((hT t ht).slice hk) (hT e hkn) b off _ c k i h0 h1,?_⟩
     rw[<-hz]
     exact .kM β o i.toNat 0 _ b off es.length c hb
   ·rename_i es hes
    intro⟨h0,h1,h2⟩
    obtain⟨v',sz',h3,h4,h5⟩:=hob _ _ hes
    rw[hb]at h3;cases h3
    rcases h5 with⟨_,rfl⟩|⟨b,off,c,us,rfl,h6,_⟩
    ·simp at h1;omega
    ·refine⟨rfl,rfl,_,run_indexAt_slice ((hT t ht).slice hk) (hT e hkn) b off _ c k i h0 h1,?_⟩
     have hz:sz=(T e).sz:=(h4 i.toNat (by omega)).symm.trans h2
     rw[<-hz]
     exact .kM β o i.toNat 0 _ b off es.length c hb
   ·trivial
 ·rename_i e es hk
  refine DR.aH fun hkn=>?_
  intro⟨h0,h1,h2⟩
  exact⟨rfl,rfl,slC es e hk hkn h h0 h1 h2⟩
 ·rename_i e a hk
  refine DR.aH fun hkn=>?_
  intro⟨hs,h0,h1,h2⟩
  cases h with
  |x _ _ _ ho h=>exact⟨rfl,rfl,slC a.elems e hk hkn (He h hs) h0 h1 h2⟩
 ·trivial
theorem pO{t:Nat}(hu:P.underlying t=some .string)(s:ByteArray)(k:IntKind)(n:Int)(h0:0<=n)(h1:n<s.size):(Instr.index t (.string s) (.int k n)).run P w=.ok (.int .u8 (bt s n)) w:=by
 have hlt:n.toNat<s.size:=by omega
 unfold Instr.index
 simp only[asIntOf,Sem.run_bind,Sem.run_pure,Result.andThen_ok,run_underlying hu w]
 have e:(if 0<=n then s[n.toNat]? else none)=some (s[n.toNat]'hlt):=by rw[if_pos h0];simp[hlt]
 rw[e]
 simp[bt,hlt]
theorem pw{e:Operand->AV}{ρ:Operand->Value}(he:∀x,aW M β (e x) (ρ x))(isS:Bool)(len cap:Nat)(lo hi:Option Operand)(l h:Int)(hl:gb e lo=some l)(hh:fm e len hi=some h)
 (h0:0<=l) (h1:l<=h) (h2:h<=len) (hc:len<=cap) :
 (Instr.sliceBounds isS len cap (lo.map ρ) (hi.map ρ) none).run P w=.ok (l.toNat,h.toNat,cap) w:=by
 have b1:∀(x:Operand) (n:Int) (y:Nat) (code:BoundsCode),(∃k,e x=.v (.int k n))->0<=n->n<=y->(Instr.sliceBound (ρ x) y code).run P w=.ok n.toNat w:=by
  intro x n y code ⟨k,hx⟩ hn0 hn1
  have q:=he x
  rw[hx]at q
  rw[cT q]
  simp[Instr.sliceBound,asIntOf,hn0,hn1]
 have low:∀(x:Operand),gb e (some x)=some l->∃k,e x=.v (.int k l):=fun x hx=>by
  simp only[gb]at hx
  split at hx
  ·rename_i k n hq;cases hx;exact⟨k,hq⟩
  ·cases hx
 have high:∀(x:Operand),fm e len (some x)=some h->∃k,e x=.v (.int k h):=fun x hx=>by
  simp only[fm]at hx
  split at hx
  ·rename_i k n hq;cases hx;exact⟨k,hq⟩
  ·cases hx
 unfold Instr.sliceBounds
 cases hi with
 |
  none =>
  simp only[fm,Option.some.injEq]at hh
  subst hh
  cases lo with
  |
   none =>
   simp only[gb,Option.some.injEq]at hl
   subst hl
   simp[Sem.run_bind]
  |some x=>simp[Sem.run_bind,b1 x l len _ (low x hl) h0 (by omega)]
 |
  some y =>
  have c1:=b1 y h cap (if isS=true then .sliceAcap else .sliceAlen) (high y hh) (by omega) (by omega)
  cases lo with
  |
   none =>
   simp only[gb,Option.some.injEq]at hl
   subst hl
   simp[Sem.run_bind,c1]
  |some x=>simp[Sem.run_bind,c1,b1 x l h.toNat _ (low x hl) h0 (by omega)]
end
end Go.VL
namespace Go.VL
open Go Go.RowKit
section
variable {P:Program} {M:Mem} {β:Lo} {w:World}
def lg(tm:Nat->AV)(dst:Option Nat)(x:AV):Nat->AV:=match dst with|some t=>bP tm t x|none=>tm
theorem rU(a:Act)(dst:Option Nat)(v:Value):(a.put dst v).tmps.size=a.tmps.size/\(a.put dst v).defers=a.defers:=by
 cases dst<;>simp[Act.put]
theorem zg{a:Act}{tm:Nat->AV}{n:Nat}(hs:a.tmps.size=n)(h:∀t,aW M β (tm t) (a.tmps.getD t undef)){dst:Option Nat}{x:AV}{v:Value}(hr:aW M β x v)(hd:∀t,dst=some t->t<n) :
 ∀t,aW M β (lg tm dst x t) ((a.put dst v).tmps.getD t undef):=by
 intro t
 cases dst with
 |none=>exact h t
 |
  some d =>
  have hlt:=hd d rfl
  simp only[lg,Act.put]
  by_cases e:t=d
  ·subst e
   rw[aD]
   have:(a.tmps.setIfInBounds t v).getD t undef=v:=by simp[hs,hlt]
   rw[this];exact hr
  ·rw[aJ _ _ _ _ e]
   have:(a.tmps.setIfInBounds d v).getD t undef=a.tmps.getD t undef:=by
    simp[Array.getElem?_setIfInBounds_ne (Ne.symm e)]
   rw[this];exact h t
theorem cz.put{n:Nat}{A:iA}{s:St}{a:Act}(g:cz n A s a w M β){dst:Option Nat}{x:AV}{v:Value}(hr:aW M β x v)(hd:∀t,dst=some t->t<n) :
 cz n A {s with tm:=lg s.tm dst x} (a.put dst v) w M β :=
 {size:=(rU a dst v).1.trans g.size,defs:=(rU a dst v).2.trans g.defs,tm:=zg g.size g.tm hr hd,le:=g.le,new:=g.new,agree:=g.agree,own:=g.own,place:=g.place,apart:=g.apart,us:=g.us,fix:=g.fix,cb:=g.cb}
theorem wh(s:St)(dst:Option Nat)(d:De)(hu:d.bP=[])(hn:d.new=[]):s.app dst d = {s with tm:=lg s.tm dst d.val}:=by
 unfold St.app
 rw[hu,hn]
 cases dst<;>rfl
theorem eT{s:St}{n:Nat}{dst:Option Nat}{d:De}(h:cU s n dst d=true):∀t,dst=some t->t<n:=by
 intro t ht
 unfold cU at h
 simp only[ht,ai]at h
 have:=aF h.2
 omega
def oL(P:Program)(M:Mem)(β:Lo)(o:Oper)(a:Act)(w:World)(r:AV):Prop:=∃v,(execOp a.eval o).run P w=Result.ok (.value v) w/\aW M β r v
def Ir(P:Program)(o:Oper)(a:Act)(w:World)(v:Value)(w':World):Prop:=(execOp a.eval o).run P w=.ok (.value v) w'\/((execOp a.eval o).run P w=.ok .skip w'/\v=undef)
def Step(P:Program)(n:Nat)(A:iA)(o:Oper)(a:Act)(w:World)(s':St):Prop:=∃v w' M' β',Ir P o a w v w'/\cz n A s' (a.put o.dst v) w' M' β'
theorem Step.wp{n:Nat}{A:iA}{o:Oper}{a:Act}{s':St}(h:Step P n A o a w s'){K:Act->World->Prop}{Q:Exit->Act->World->Prop}(hk:∀a' w',fa n A s' a' w'->K a' w'):o.wp P a w K Q:=by
 obtain⟨v,w',M',β',hr,g⟩:=h
 unfold Oper.wp
 rcases hr with hr|⟨hr,rfl⟩
 ·rw[hr];exact hk _ _ ⟨M',β',g⟩
 ·rw[hr];exact hk _ _ ⟨M',β',g⟩
theorem jY{n:Nat}{A:iA}{s:St}{a:Act}(g:cz n A s a w M β){o:Oper}{r:DR}(h:r.holds (Quiet (oL P M β o a w))) :
 r.holds fun d=>cU s n o.dst d=true->Step P n A o a w (s.app o.dst d) :=
 DR.fp h fun d hd hn=>by
  obtain⟨v,hv,hr⟩:=hd.2.2
  exact⟨v,w,M,β,.inl hv,by rw[wh s o.dst d hd.1 hd.2.1];exact g.put hr (eT hn)⟩
theorem nD{o:Oper}{a:Act}{r:DR}{sv:Sem Value}(he:execOp a.eval o=(do pure (.value (<-sv))))(h:r.holds (Quiet fun x=>iQ P M β sv w x)) :
 r.holds (Quiet (oL P M β o a w)) :=
 DR.fp h fun d hd=>⟨hd.1,hd.2.1,by
  obtain⟨v,h1,h2⟩:=hd.2.2
  exact⟨v,by rw[he];simp[Sem.run_bind,h1],h2⟩⟩
variable {n:Nat} {A:iA} {s:St} {a:Act}
theorem yz(g:cz n A s a w M β)(o:Oper)(x:Operand)(ho:o.op=.move x\/o.op=.assign x) :
 (DR.yes {val:=ev s x}).holds (Quiet (oL P M β o a w)):=by
 refine⟨rfl,rfl,a.eval x,?_,g.ev x⟩
 rcases ho with ho|ho<;>simp[execOp,ho]
theorem CB(g:cz n A s a w M β)(o:Oper)(c x y:Operand)(ho:o.op=.pick c x y) :
 (match ev s c with| .v (.bool true)=>DR.yes {val:=ev s x}| .v (.bool false)=>DR.yes {val:=ev s y}|_=>DR.no).holds (Quiet (oL P M β o a w)):=by
 have hc:=g.ev c
 split
 ·rename_i e
  rw[e]at hc
  exact⟨rfl,rfl,a.eval x,by simp[execOp,ho,cT hc,asBool],g.ev x⟩
 ·rename_i e
  rw[e]at hc
  exact⟨rfl,rfl,a.eval y,by simp[execOp,ho,cT hc,asBool],g.ev y⟩
 ·trivial
theorem Fe(g:cz n A s a w M β){T:dL}(hT:cv P T)(o:Oper)(op:BinOp)(t t':Nat)(x y:Operand)(ho:o.op=.binOp op t x y t') :
 (bin (T t) op (ev s x) (ev s y)).holds (Quiet (oL P M β o a w)) :=
 nD (sv:=do eqGuard op t x y (a.eval x) (a.eval y);binOp op t (a.eval x) (a.eval y)) (by simp[execOp,ho]) (CN hT g.agree op t x y (g.ev x) (g.ev y))
theorem AM{t:Bool}{v:Value}(h:aW M β (.b t) v):v=.bool t:=by cases h;rfl
theorem GZ(g:cz n A s a w M β)(o:Oper)(t:Nat)(x:Operand)(ho:o.op=.unOp .not t x) :
 (match ev s x with| .v (.bool b)=>DR.yes {val:=.v (.bool !b)}| .b b=>DR.yes {val:=.b (!b)}|_=>DR.no).holds (Quiet (oL P M β o a w)):=by
 have hc:=g.ev x
 split
 ·rename_i e
  rw[e]at hc
  exact⟨rfl,rfl,_,by simp[execOp,ho,cT hc,Op.unary],.v _ _⟩
 ·rename_i e
  rw[e]at hc
  exact⟨rfl,rfl,_,by simp[execOp,ho,AM hc,Op.unary],.b _ _⟩
 ·trivial
theorem DI(g:cz n A s a w M β)(o:Oper)(t:Nat)(x:Operand)(ho:o.op=.unOp .neg t x) :
 (match ev s x with| .v (.int k m)=>DR.yes {val:=.v (.int k (k.wrap (0-m)))}|_=>DR.no).holds (Quiet (oL P M β o a w)):=by
 have hc:=g.ev x
 split
 ·rename_i e
  rw[e]at hc
  exact⟨rfl,rfl,_,by simp[execOp,ho,cT hc,Op.unary,Op.intArith],.v _ _⟩
 ·trivial
theorem DX(g:cz n A s a w M β)(o:Oper)(x:Operand)(ho:o.op=.nilCheck x) :
 (match ev s x with
 | .x a=>DR.ok (LK.ptr.has a/\a.isNil=false) {val:=.x a}
 | .ptr cs=>.yes {val:=.ptr cs}
 | .pid b cs=>.yes {val:=.pid b cs}
 | .ref o k=>.yes {val:=.ref o k}
 |_=>.no).holds (Quiet (oL P M β o a w)):=by
 have hc:=g.ev x
 have run:∀ad,a.eval x=.pointer (some ad)->(execOp a.eval o).run P w=.ok (.value (a.eval x)) w:=fun ad e=>by
  simp[execOp,ho,e]
 split
 ·rename_i y e
  rw[e]at hc
  intro⟨hk,hn⟩
  cases hc with
  |
   x _ _ _ ho h =>
   obtain⟨q,hq,hq'⟩:=vi h hk
   rw[hn]at hq'
   cases q with
   |none=>cases hq'
   |some ad=>exact⟨rfl,rfl,_,run ad hq,.x _ _ _ ho h⟩
 ·rename_i cs e
  rw[e]at hc
  obtain⟨b,o',hq⟩:=jv hc
  exact⟨rfl,rfl,_,run _ hq,hc⟩
 ·rename_i b cs e
  rw[e]at hc
  have:∃ad,a.eval x=.pointer (some ad):=by generalize a.eval x=v at hc;cases hc;exact⟨_,rfl⟩
  obtain⟨ad,hq⟩:=this
  exact⟨rfl,rfl,_,run _ hq,hc⟩
 ·rename_i o' k e
  rw[e]at hc
  have:∃ad,a.eval x=.pointer (some ad):=by generalize a.eval x=v at hc;cases hc;exact⟨_,rfl⟩
  obtain⟨ad,hq⟩:=this
  exact⟨rfl,rfl,_,run _ hq,hc⟩
 ·trivial
theorem sM(g:cz n A s a w M β){T:dL}(hT:cv P T)(o:Oper)(t f:Nat)(x:Operand)(ho:o.op=.fieldAddr t x f) :
 (cO (T t).kn<|match (T t).k with
 |
  .struct fs=>match fs[f]? with
  |some (off,ft)=>cO ((T ft).kn&&bS 0 (T ft).sz)<|og (ev s x) off
  |none=>.no
 |_=>.no).holds (Quiet (oL P M β o a w)):=by
 refine DR.aH fun hkn=>?_
 split
 ·rename_i fs hk
  obtain⟨fl,hu,hfl⟩:=(hT t hkn).struct hk
  split
  ·rename_i off ft hf
   refine DR.aH fun hq=>?_
   simp only[ai]at hq
   have hsz:0<(T ft).sz:=by have:=aF hq.2;omega
   have hf':∃fi,fl[f]?=some fi/\fi.offset=off/\fi.type=ft:=by
    rw[<-hfl,List.getElem?_map]at hf
    cases hq':fl.toList[f]? with
    |none=>rw[hq']at hf;cases hf
    |
     some fi =>
     rw[hq']at hf
     simp only[cK,Option.some.injEq,Prod.mk.injEq]at hf
     exact⟨fi,by simpa using hq',hf.1,hf.2⟩
   obtain⟨fi,h1,rfl,rfl⟩:=hf'
   refine DR.fp (tU (g.ev x) fi.offset) fun d hd=>⟨hd.1,hd.2.1,?_⟩
   obtain⟨b,q,hv,hr⟩:=hd.2.2
   refine⟨_,?_,hr⟩
   have hz:=(hT fi.type hq.1).gO w
   simp only[execOp,ho,Instr.fieldAt,Sem.run_bind,run_underlying hu w,Result.andThen_ok,h1,hv,Instr.sureAddr,Sem.run_pure,fieldPlace,hz]
   rw[if_neg (by omega)]
   simp[iu]
  ·trivial
 ·trivial
theorem Dd(g:cz n A s a w M β){T:dL}(hT:cv P T)(o:Oper)(t:Nat)(x:Operand)(ho:o.op=.load t x) :
 (loadAt s.ob (T t) (ev s x)).holds (Quiet (oL P M β o a w)) :=
 nD (sv:=Instr.loadAt t (a.eval x)) (by simp[execOp,ho]) (p7 hT g.own g.agree (g.ev x))
theorem rS(g:cz n A s a w M β){T:dL}(hT:cv P T)(o:Oper)(t:Nat)(x i:Operand)(ho:o.op=.indexAddr t x i) :
 (cO (T t).kn<|match ev s i with| .v (.int _ m)=>indexAt T s.ob (T t) (ev s x) m|_=>.no).holds (Quiet (oL P M β o a w)):=by
 refine DR.aH fun hkn=>?_
 have hi:=g.ev i
 split
 ·rename_i k m e
  rw[e]at hi
  exact nD (sv:=Instr.indexAt t (a.eval x) (a.eval i)) (by simp[execOp,ho]) (by rw[cT hi];exact tV hT g.own hkn (g.ev x) k m)
 ·trivial
theorem eW{cs:List AV}{v:Value}(h:aW M β (.agg cs) v):∃vs:List Value,v=.agg vs.toArray/\cs.length=vs.length/\(∀i,i<cs.length->aW M β (cs.getD i .any) (vs.getD i undef))/\∀i,i<cs.length->(vs.getD i undef).oneCell'=true:=by
 cases h with|agg _ _ vs hl ho h=>exact⟨vs,rfl,hl,h,ho⟩
theorem mz{t:Nat}{ti:TI}(h:fZ P t ti)(vs:List Value)(off:Nat)(hl:off+ti.sz<=vs.length) :
 (part t vs.toArray off).run P w=.ok (if ti.agg then .agg ((aP ti.sz).map fun i=>vs.getD (off+i) undef).toArray else vs.getD off undef) w:=by
 unfold part
 rw[Sem.run_bind,h.qp w]
 simp only[Result.andThen_ok]
 cases ha:ti.agg with
 |
  true =>
  simp only[if_true,Sem.run_bind,h.gO w,Result.andThen_ok,Sem.run_pure]
  congr 2
  apply Array.ext'
  simp only[Array.toList_extract,List.extract_eq_take_drop]
  apply List.ext_getElem
  ·simp;omega
  ·intro i h1 h2
   simp at h1 h2
   simp[aa,show off+i<vs.length by omega]
 |
  false =>
  have h1:ti.sz=1:=h.one ha
  have hlt:off<vs.length:=by omega
  simp[hlt,aa]
theorem zB{T:dL}(hT:cv P T){t:Nat}{cs:List AV}{vs:List Value}(hl:cs.length=vs.length)(hr:∀i,i<cs.length->aW M β (cs.getD i .any) (vs.getD i undef))(ho:∀i,i<cs.length->(vs.getD i undef).oneCell'=true)(off:Nat) :
 (lF (T t) cs off).holds (Quiet fun r=>iQ P M β (part t vs.toArray off) w r):=by
 unfold lF
 refine DR.aH fun hkn=>?_
 have h:=hT t hkn
 cases ha:(T t).agg with
 |
  true =>
  simp only[cond_true]
  cases hb:eE (off+(T t).sz) cs.length with
  |false=>simp only[cond_false];trivial
  |
   true =>
   have hle:=aF hb
   simp only[cond_true]
   refine⟨rfl,rfl,_,mz h vs off (by omega),?_⟩
   rw[if_pos ha]
   refine .agg _ _ _ (by simp;omega) (fun i hi=>by simp only[List.length_take,bh]at hi;rw[dq _ _ _ (by omega)];exact ho _ (by omega)) fun i hi=>?_
   simp only[List.length_take,bh]at hi
   rw[dq _ _ _ (by omega)]
   have e:((cs.drop off).take (T t).sz).getD i .any=cs.getD (off+i) .any:=by
    simp[aa,List.getElem?_take,bV,show i<(T t).sz by omega]
   rw[e]
   exact hr (off+i) (by omega)
 |
  false =>
  simp only[cond_false]
  cases hb:bS off cs.length with
  |false=>simp only[cond_false];trivial
  |
   true =>
   have hlt:off<cs.length:=by have:=aF hb;omega
   have h1:(T t).sz=1:=h.one ha
   simp only[cond_true]
   refine⟨rfl,rfl,_,mz h vs off (by omega),?_⟩
   simp only[ha,Bool.false_eq_true,if_false]
   exact hr off hlt
theorem xC{T:dL}(hT:cv P T){t:Nat}{cs:List AV}{vs:List Value}(hl:cs.length=vs.length)(hr:∀i,i<cs.length->aW M β (cs.getD i .any) (vs.getD i undef))(ho:∀i,i<cs.length->(vs.getD i undef).oneCell'=true)(off:Nat) :
 (hF (T t) cs off).holds (Quiet fun r=>iQ P M β (part t vs.toArray off) w r):=by
 unfold hF
 refine DR.aH fun hkq=>?_
 rw[ai]at hkq
 obtain⟨hkn,hq⟩:=hkq
 have h:=hT t hkn
 cases ha:(T t).agg with
 |
  true =>
  simp only[cond_true,DR.holds]
  intro⟨hle,hh⟩
  refine⟨rfl,rfl,_,mz h vs off (by omega),?_⟩
  rw[if_pos ha]
  refine .agg _ _ _ (by simp[cH,TI.sz]) (fun i hi=>by rw[cH]at hi;rw[dq _ _ _ (show i<(T t).sz from hi)];exact ho _ (by unfold TI.sz at hle;omega)) fun i hi=>?_
  rw[cH]at hi
  rw[dq _ _ _ (show i<(T t).sz from hi),jD _ _ _ _ hi]
  exact LK.jI (hr (off+i) (by unfold TI.sz at hle;omega)) (jk _ _ _ _ hh hi) (rD hq i hi)
 |
  false =>
  simp only[cond_false,DR.holds]
  intro⟨hlt,hh⟩
  have h1:(T t).sz=1:=h.one ha
  refine⟨rfl,rfl,_,mz h vs off (by omega),?_⟩
  simp only[ha,Bool.false_eq_true,if_false]
  exact LK.jI (hr off hlt) hh (by rw[sj];exact rD hq 0 (by unfold TI.sz at h1;omega))
theorem zN(g:cz n A s a w M β){T:dL}(hT:cv P T)(o:Oper)(t f:Nat)(x:Operand)(ho:o.op=.field t x f) :
 (cO (T t).kn<|match (T t).k,ev s x with
 |
  .struct fs,.agg cs=>match fs[f]? with
  |some (off,ft)=>lF (T ft) cs off
  |none=>.no
 |_,_=>.no).holds (Quiet (oL P M β o a w)):=by
 refine DR.aH fun hkn=>?_
 have hx:=g.ev x
 split
 ·rename_i fs cs hk e
  rw[e]at hx
  obtain⟨vs,hv,hl,hr,hone⟩:=eW hx
  obtain⟨fl,hu,hfl⟩:=(hT t hkn).struct hk
  split
  ·rename_i off ft hf
   have hf':∃fi,fl[f]?=some fi/\fi.offset=off/\fi.type=ft:=by
    rw[<-hfl,List.getElem?_map]at hf
    cases hq':fl.toList[f]? with
    |none=>rw[hq']at hf;cases hf
    |
     some fi =>
     rw[hq']at hf
     simp only[cK,Option.some.injEq,Prod.mk.injEq]at hf
     exact⟨fi,by simpa using hq',hf.1,hf.2⟩
   obtain⟨fi,h1,rfl,rfl⟩:=hf'
   refine DR.fp (zB (P:=P) (w:=w) hT hl hr hone fi.offset) fun d hd=>⟨hd.1,hd.2.1,?_⟩
   obtain⟨v,q1,q2⟩:=hd.2.2
   exact⟨v,by simp[execOp,ho,Instr.field,Sem.run_bind,run_underlying hu w,h1,hv,asAgg,q1],q2⟩
  ·trivial
 ·trivial
theorem zh(g:cz n A s a w M β){T:dL}(hT:cv P T)(o:Oper)(t:Nat)(x i:Operand)(ho:o.op=.index t x i) :
 (cO (T t).kn<|match (T t).k,ev s x,ev s i with
 | .str,.v (.string q),.v (.int _ m)=>.ok (0<=m/\m<q.size) {val:=.v (.int .u8 (bt q m))}
 | .array l el,.agg cs,.v (.int _ m)=>((hF (T el) cs (m.toNat*(T el).sz))).xO (0<=m/\m<l)
 |_,_,_=>.no).holds (Quiet (oL P M β o a w)):=by
 refine DR.aH fun hkn=>?_
 have hx:=g.ev x
 have hi:=g.ev i
 split
 ·rename_i q k m hk e e'
  rw[e]at hx;rw[e']at hi
  intro⟨h0,h1⟩
  refine⟨rfl,rfl,_,?_,.v _ _⟩
  simp[execOp,ho,cT hx,cT hi,Sem.run_bind,pO ((hT t hkn).str hk) q k m h0 h1]
 ·rename_i l el cs k m hk e e'
  rw[e]at hx;rw[e']at hi
  obtain⟨vs,hv,hl,hr,hone⟩:=eW hx
  refine DR.j8 fun⟨h0,h1⟩=>?_
  by_cases hel:(T el).kn=true
  ·refine DR.fp (xC (P:=P) (w:=w) hT hl hr hone _) fun d hd=>⟨hd.1,hd.2.1,?_⟩
   obtain⟨v,q1,q2⟩:=hd.2.2
   refine⟨v,?_,q2⟩
   simp only[execOp,ho,Instr.index,cT hi,hv,asIntOf,Sem.run_bind,Sem.run_pure,Result.andThen_ok,run_underlying ((hT t hkn).array hk) w]
   rw[if_pos ⟨h0,h1⟩]
   simp[Sem.run_bind,(hT el hel).gO w,q1]
  ·unfold hF
   exact DR.aH fun h=>absurd (ai _ _ |>.mp h).1 hel
 ·trivial
theorem wo(g:cz n A s a w M β)(o:Oper)(x:Operand)(i:Nat)(ho:o.op=.extract x i) :
 (match ev s x with| .cQ cs=>cO (bS i cs.length)<|DR.yes {val:=cs.getD i .any}|_=>.no).holds (Quiet (oL P M β o a w)):=by
 have hx:=g.ev x
 split
 ·rename_i cs e
  rw[e]at hx
  have:∃vs:List Value,a.eval x=.tuple vs.toArray/\cs.length=vs.length/\∀i,i<cs.length->aW M β (cs.getD i .any) (vs.getD i undef):=by
   generalize a.eval x=v at hx
   cases hx with|cQ _ _ vs hl h=>exact⟨vs,rfl,hl,h⟩
  obtain⟨vs,hv,hl,hr⟩:=this
  refine DR.aH fun hq=>?_
  have hi:i<cs.length:=by have:=aF hq;omega
  refine⟨rfl,rfl,_,?_,hr i hi⟩
  have:i<vs.length:=by omega
  simp[execOp,ho,hv,Instr.extract,this,aa]
 ·trivial
end
end Go.VL
namespace Go.VL
open Go Go.RowKit
section
variable {P:Program} {M M':Mem} {β β':Lo} {w w':World}
theorem Own.B8{o:Nat}{x:Ob}(h:Own M β w o x)(hx:x≠.dead):∃l,β o=some l:=by
 cases x with
 |cells cs=>obtain⟨b,_,_,h1,_⟩:=h;exact⟨_,h1⟩
 |vec sz es=>obtain⟨v,h1,_⟩:=h;exact⟨_,h1⟩
 |kB sz es=>obtain⟨v,h1,_⟩:=h;exact⟨_,h1⟩
 |fS cs=>obtain⟨b,_,h1,_⟩:=h;exact⟨_,h1⟩
 |kV es=>obtain⟨v,_,h1,_⟩:=h;exact⟨_,h1⟩
 |dead=>exact absurd rfl hx
theorem Own.mono{o:Nat}{x:Ob}(h:Own M β w o x)(hM:M.le M')(hβ:Lo.le β β')(hw:∀b,x.live=true->dk β o=some b->w'.heap[b]?=w.heap[b]?/\∀k,M'.c b k=none):Own M' β' w' o x:=by
 cases x with
 |
  cells cs =>
  obtain⟨b,vs,e,h1,h2,h3,h4,h5,h6⟩:=h
  obtain⟨q1,q2⟩:=hw b rfl (by simp[dk,h1,Loc.block])
  exact⟨b,vs,e,hβ _ _ h1,q1.trans h2,h3,fun i hi=>(h4 i hi).mono hM hβ,q2,h6⟩
 |
  vec sz es =>
  obtain⟨v,h1,h2,h3⟩:=h
  refine⟨v,hβ _ _ h1,h2,?_⟩
  rcases h3 with h3|⟨b,off,c,vs,e,rfl,h4,h5,h6,h7,h8,h9⟩
  ·exact .inl h3
  ·obtain⟨q1,q2⟩:=hw b rfl (by simp[dk,h1,Loc.block])
   exact .inr ⟨b,off,c,vs,e,rfl,h4,q1.trans h5,h6,fun i j hi hj=>(h7 i j hi hj).mono hM (Lo.le.refl _),q2,h9⟩
 |
  kB sz es =>
  obtain⟨v,h1,h2,h3⟩:=h
  refine⟨v,hβ _ _ h1,h2,?_⟩
  rcases h3 with h3|⟨b,off,c,vs,e,rfl,h4,h5,h6,h7,h8,h9⟩
  ·exact .inl h3
  ·obtain⟨q1,q2⟩:=hw b rfl (by simp[dk,h1,Loc.block])
   exact .inr ⟨b,off,c,vs,e,rfl,h4,q1.trans h5,h6,fun i j hi hj=>(h7 i j hi hj).mono hM (Lo.le.refl _),q2,h9⟩
 |
  fS cs =>
  obtain⟨b,us,h1,h2⟩:=h
  exact⟨b,us,hβ _ _ h1,fun i hi=>⟨hM.c _ _ _ (h2 i hi).1,(h2 i hi).2.mono hM hβ⟩⟩
 |
  kV es =>
  obtain⟨v,sz,h1,h2,h3⟩:=h
  refine⟨v,sz,hβ _ _ h1,h2,?_⟩
  rcases h3 with h3|⟨b,off,c,us,rfl,h4,h5,h7⟩
  ·exact .inl h3
  ·exact .inr ⟨b,off,c,us,rfl,h4,fun i hi=>hM.c _ _ _ (h5 i hi),fun i j hi hj=>(h7 i j hi hj).mono hM (Lo.le.refl _)⟩
 |dead=>trivial
theorem Own.lt{o:Nat}{x:Ob}(h:Own M β w o x)(hx:x.live=true){b:Nat}(hb:dk β o=some b):b<w.heap.size:=by
 have key:∀(b':Nat) (ob:Go.Obj),w.heap[b']?=some ob->b'<w.heap.size:=fun b' ob hh=>(Array.getElem?_eq_some_iff.1 hh).1
 cases x with
 |
  cells cs =>
  obtain⟨b',vs,e,h1,h2,_⟩:=h
  simp[dk,h1,Loc.block]at hb
  subst hb;exact key _ _ h2
 |
  vec sz es =>
  obtain⟨v,h1,h2,h3⟩:=h
  rcases h3 with⟨rfl,_⟩|⟨b',off,c,vs,e,rfl,h4,h5,_⟩
  ·simp[dk,h1,Loc.block]at hb
  ·simp[dk,h1,Loc.block]at hb
   subst hb;exact key _ _ h5
 |
  kB sz es =>
  obtain⟨v,h1,h2,h3⟩:=h
  rcases h3 with⟨rfl,_⟩|⟨b',off,c,vs,e,rfl,h4,h5,_⟩
  ·simp[dk,h1,Loc.block]at hb
  ·simp[dk,h1,Loc.block]at hb
   subst hb;exact key _ _ h5
 |_=>cases hx
theorem Own.xY{o:Nat}{x:Ob}(h:Own M β w o x)(hx:x.live=true){b:Nat}(hb:dk β o=some b):∀k,M.c b k=none:=by
 cases x with
 |
  cells cs =>
  obtain⟨b',vs,e,h1,_,_,_,h5,_⟩:=h
  simp[dk,h1,Loc.block]at hb
  subst hb;exact h5
 |
  vec sz es =>
  obtain⟨v,h1,h2,h3⟩:=h
  rcases h3 with⟨rfl,_⟩|⟨b',off,c,vs,e,rfl,h4,h5,_,_,h6,_⟩
  ·simp[dk,h1,Loc.block]at hb
  ·simp[dk,h1,Loc.block]at hb
   subst hb;exact h6
 |
  kB sz es =>
  obtain⟨v,h1,h2,h3⟩:=h
  rcases h3 with⟨rfl,_⟩|⟨b',off,c,vs,e,rfl,h4,h5,_,_,h6,_⟩
  ·simp[dk,h1,Loc.block]at hb
  ·simp[dk,h1,Loc.block]at hb
   subst hb;exact h6
 |_=>cases hx
theorem fL.lt(h:fL M w){b k:Nat}{v:Value}(hc:M.c b k=some v):b<w.heap.size:=World.block_lt_of_cell? w _ (h b k v hc)
theorem fL.world(h:fL M w)(hw:∀b k v,M.c b k=some v->w'.heap[b]?=w.heap[b]?):fL M w':=⟨fun b k v hc =>
 (World.cell?_of_block (w:=w) (a:=⟨b,k,none⟩) (hw b k v hc)).trans (h b k v hc),fun b hb=>by
  obtain⟨k,v,hc⟩:=M.pc b hb
  rw[hw b k v hc];exact h.p b hb⟩
theorem wx.ir{A:iA}(h:wx A w)(ho:w'.os=w.os)(ht:w'.tape=w.tape)(hp:w'.output=w.output)(hs:w.heap.size<=w'.heap.size)(hb:∀b,b<A.w0.heap.size->¬A.rI b->w'.heap[b]?=w.heap[b]?):wx A w' :=
 ⟨ho.trans h.os,ht.trans h.tape,hp.trans h.output,Nat.le_trans h.size hs,fun b hlt hn=>(hb b hlt hn).trans (h.block b hlt hn)⟩
variable {n:Nat} {A:iA} {s:St} {a:Act}
theorem cz.write(g:cz n A s a w M β){o b:Nat}{x:Ob}(hx:s.ob o=some x)(hlv:x.live=true)(hb:dk β o=some b)(vs:Array Value)(x':Ob)(hx':Own M β (w.setRow b vs) o x')(hlv':x'.live=true) :
 cz n A {s with ob:=bP s.ob o (some x')} a (w.setRow b vs) M β:=by
 have other:∀b',b'≠b->(w.setRow b vs).heap[b']?=w.heap[b']?:=fun b' hne=>setRow_other w b b' vs hne
 refine {size:=g.size,defs:=g.defs,tm:=g.tm,le:=g.le,new:=g.new,agree:=?_,own:=?_,place:=?_,apart:=?_,us:=?_,fix:=g.B5 fun o' y hy=>(by
  by_cases e:o'=o
  ·subst e;exact⟨x,hx⟩
  ·exact⟨y,by rw[<-hy];exact(aJ _ _ _ _ e).symm⟩),cb:=?_}
 ·have hM:=(g.own o x hx).xY hlv hb
  refine g.agree.world fun b' k v hc=>other b' fun e=>?_
  subst e;rw[hM k]at hc;cases hc
 ·intro o' y hy
  by_cases ho:o'=o
  ·subst ho
   rw[show ({s with ob:=bP s.ob o' (some x')}:St).ob o'=some x' from aD _ _ _]at hy
   cases hy;exact hx'
  ·have hy':s.ob o'=some y:=by simpa[aJ _ _ _ _ ho]using hy
   refine(g.own o' y hy').mono (Mem.le.refl _) (Lo.le.refl _) fun b' hl hb'=>⟨other b' fun e=>?_,(g.own o' y hy').xY hl hb'⟩
   subst e
   exact g.apart o o' x y b' (Ne.symm ho) hx hlv hy' hl hb hb'
 ·intro o' y b' hy hl hb'
  by_cases ho:o'=o
  ·subst ho;exact g.place o' x b' hx hlv hb'
  ·have hy':s.ob o'=some y:=by simpa[aJ _ _ _ _ ho]using hy
   exact g.place o' y b' hy' hl hb'
 ·intro o1 o2 y1 y2 b' hne h1 l1 h2 l2 hb1 hb2
  have back:∀o' y,({s with ob:=bP s.ob o (some x')}:St).ob o'=some y->y.live=true->∃z,s.ob o'=some z/\z.live=true:=fun o' y hy hl=>by
   by_cases ho:o'=o
   ·subst ho;exact⟨x,hx,hlv⟩
   ·exact⟨y,by simpa[aJ _ _ _ _ ho]using hy,hl⟩
  obtain⟨z1,q1,r1⟩:=back o1 y1 h1 l1
  obtain⟨z2,q2,r2⟩:=back o2 y2 h2 l2
  exact g.apart o1 o2 z1 z2 b' hne q1 r1 q2 r2 hb1 hb2
 ·intro o' hu
  obtain⟨q1,q2⟩:=g.us o' hu
  refine⟨q1,?_⟩
  have ho:o'≠o:=fun e=>by subst e;rw[q2]at hx;cases hx
  show bP s.ob o (some x') o'=none
  rw[aJ _ _ _ _ ho];exact q2
 ·refine g.cb.ir rfl rfl rfl (by simp) fun b' hlt hni=>other b' fun e=>?_
  subst e
  rcases g.place o x b' hx hlv hb with h|h
  ·omega
  ·exact hni h
end
end Go.VL
namespace Go.VL
open Go Go.RowKit
section
variable {P:Program} {M M':Mem} {β β':Lo} {w w':World} {n:Nat} {A:iA} {s:St} {a:Act}
def Mem.add(M:Mem)(b:Nat)(vs:Array Value)(h1:∀v,v∈vs->v.oneCell'=true)(hb:∀k,M.c b k=none):Mem where
 c b' k:=if b'=b then vs[k]? else M.c b' k
 one b' k v h:=by
  by_cases e:b'=b
  ·rw[if_pos e]at h;exact h1 v (Array.mem_of_getElem? h)
  ·rw[if_neg e]at h;exact M.one _ _ _ h
 p b':=M.p b'\/(b'=b/\vs.size≠0)
 pc b' h:=by
  rcases h with h|⟨rfl,h⟩
  ·obtain⟨k,v,hc⟩:=M.pc b' h
   have:b'≠b:=fun e=>by subst e;rw[hb k]at hc;cases hc
   exact⟨k,v,by rw[if_neg this];exact hc⟩
  ·exact⟨0,vs[0]'(by omega),by rw[if_pos rfl];simp⟩
theorem Mem.tJ{M:Mem}{b:Nat}{vs:Array Value}{h1:∀v,v∈vs->v.oneCell'=true}(h:∀k,M.c b k=none):M.le (M.add b vs h1 h):=by
 refine⟨fun b' k v hc=>?_,fun b' hb=>.inl hb⟩
 have:b'≠b:=fun e=>by subst e;rw[h k]at hc;cases hc
 simp[Mem.add,this,hc]
theorem yC{w:World}{b k:Nat}{vs:Array Value}{e:TypeId}(h:w.heap[b]?=some (.cells vs e (0,0))):w.cell? ⟨b,k,none⟩=vs[k]?:=by
 simp[World.cell?,h]
theorem cz.qi(g:cz n A s a w M β){o:Nat}{x:Ob}(hx:s.ob o=some x)(hlv:x.live=true) :
 ∃M',M.le M'/\cz n A {s with ob:=bP s.ob o (ca (some x))} a w M' β/\∀cs b,x=.cells cs->cs≠[]->β o=some (.cells b)->M'.p b:=by
 have hown:=g.own o x hx
 have key:(∀b,dk β o≠some b)/\(∀M',M.le M'->∀y,ca (some x)=some y->Own M' β w o y) ∨
  ∃b vs e,dk β o=some b/\w.heap[b]?=some (.cells vs e (0,0))/\(∀k,M.c b k=none)/\(∀v,v∈vs->v.oneCell'=true)/\(∀M',M.le M'->(∀k,M'.c b k=vs[k]?)->∀y,ca (some x)=some y->Own M' β w o y)/\∀cs,x=.cells cs->vs.size=cs.length:=by
  cases x with
  |
   cells cs =>
   obtain⟨b,vs,e,h1,h2,h3,h4,h5,h6⟩:=hown
   refine .inr ⟨b,vs,e,by simp[dk,h1,Loc.block],h2,h5,h6,fun M' hM hk y hy=>?_,fun cs' e'=>by cases e';exact h3⟩
   cases hy
   refine⟨b,fun i=>vs.getD i undef,h1,fun i hi=>⟨?_,(h4 i hi).mono hM (Lo.le.refl _)⟩⟩
   rw[hk i]
   have:i<vs.size:=by omega
   simp[this]
  |
   vec sz es =>
   obtain⟨v,h1,h2,h3⟩:=hown
   rcases h3 with⟨rfl,rfl⟩|⟨b,off,c,vs,e,rfl,h4,h5,h6,h7,h8,h9,h10⟩
   ·refine .inl ⟨fun b hb=>by simp[dk,h1,Loc.block]at hb,fun M' hM y hy=>?_⟩
    cases hy
    exact⟨_,sz,h1,h2,.inl ⟨rfl,rfl⟩⟩
   ·refine .inr ⟨b,vs,e,by simp[dk,h1,Loc.block],h5,h8,h10,fun M' hM hk y hy=>?_,fun cs' e'=>by cases e'⟩
    cases hy
    refine⟨_,sz,h1,h2,.inr ⟨b,off,c,fun i=>vs.getD (off+i) undef,rfl,h4,fun i hi=>?_,fun i j hi hj=>(h7 i j hi hj).mono hM (Lo.le.refl _)⟩⟩
    rw[hk]
    have:es.length*sz<=c*sz:=aI _ h4
    have:off+i<vs.size:=by omega
    simp[this]
  |
   kB sz es =>
   obtain⟨v,h1,h2,h3⟩:=hown
   rcases h3 with⟨rfl,rfl⟩|⟨b,off,c,vs,e,rfl,h4,h5,h6,h7,h8,h9,h10⟩
   ·refine .inl ⟨fun b hb=>by simp[dk,h1,Loc.block]at hb,fun M' hM y hy=>?_⟩
    cases hy
    exact⟨_,sz,h1,h2,.inl ⟨rfl,rfl⟩⟩
   ·refine .inr ⟨b,vs,e,by simp[dk,h1,Loc.block],h5,h8,h10,fun M' hM hk y hy=>?_,fun cs' e'=>by cases e'⟩
    cases hy
    refine⟨_,sz,h1,h2,.inr ⟨b,off,c,fun i=>vs.getD (off+i) undef,rfl,h4,fun i hi=>?_,fun i j hi hj=>(h7 i j hi hj).mono hM (Lo.le.refl _)⟩⟩
    rw[hk]
    have:es.length*sz<=c*sz:=aI _ h4
    have:off+i<vs.size:=by omega
    simp[this]
  |_=>cases hlv
 have fr:∀y,ca (some x)=some y->y.live=false:=by
  intro y hy
  cases x<;>simp[ca,Ob.live]at hy hlv
  all_goals subst hy;rfl
 have build:∀M',M.le M'->(∀b k v,M'.c b k=some v->M.c b k=some v\/dk β o=some b)->fL M' w->(∀b,dk β o≠some b->∀k,M'.c b k=M.c b k)->(∀y,ca (some x)=some y->Own M' β w o y) ->
  cz n A {s with ob:=bP s.ob o (ca (some x))} a w M' β:=by
  intro M' hM hnew hag hoth hfz
  refine {size:=g.size,defs:=g.defs,tm:=fun t=>(g.tm t).mono hM (Lo.le.refl _),le:=g.le.trans hM,new:=?_,agree:=hag,own:=?_,place:=?_,apart:=?_,us:=?_,fix:=g.B5 fun o' y hy=>(by
   by_cases e:o'=o
   ·subst e;exact⟨x,hx⟩
   ·exact⟨y,by rw[<-hy];exact(aJ _ _ _ _ e).symm⟩),cb:=g.cb}
  ·intro b k v hc
   rcases hnew b k v hc with h|h
   ·exact g.new b k v h
   ·exact .inr (g.place o x b hx hlv h)
  ·intro o' y hy
   by_cases ho:o'=o
   ·subst ho
    have hy':ca (some x)=some y:=by simpa[aD]using hy
    exact hfz y hy'
   ·have hy':s.ob o'=some y:=by simpa[aJ _ _ _ _ ho]using hy
    refine(g.own o' y hy').mono hM (Lo.le.refl _) fun b hl hb=>⟨rfl,fun k=>?_⟩
    rw[hoth b fun hb'=>g.apart o o' x y b (Ne.symm ho) hx hlv hy' hl hb' hb]
    exact(g.own o' y hy').xY hl hb k
  ·intro o' y b hy hl hb
   by_cases ho:o'=o
   ·subst ho
    have hy':ca (some x)=some y:=by simpa[aD]using hy
    rw[fr y hy']at hl;cases hl
   ·have hy':s.ob o'=some y:=by simpa[aJ _ _ _ _ ho]using hy
    exact g.place o' y b hy' hl hb
  ·intro o1 o2 y1 y2 b hne h1 l1 h2 l2
   have back:∀o' y,({s with ob:=bP s.ob o (ca (some x))}:St).ob o'=some y->y.live=true->s.ob o'=some y:=fun o' y hy hl=>by
    by_cases ho:o'=o
    ·subst ho
     have hy':ca (some x)=some y:=by simpa[aD]using hy
     rw[fr y hy']at hl;cases hl
    ·simpa[aJ _ _ _ _ ho]using hy
   exact g.apart o1 o2 y1 y2 b hne (back o1 y1 h1 l1) l1 (back o2 y2 h2 l2) l2
  ·intro o' hu
   obtain⟨q1,q2⟩:=g.us o' hu
   refine⟨q1,?_⟩
   have ho:o'≠o:=fun e=>by subst e;rw[q2]at hx;cases hx
   show bP s.ob o (ca (some x)) o'=none
   rw[aJ _ _ _ _ ho];exact q2
 rcases key with⟨h1,h2⟩|⟨b,vs,e,h1,h2,h3,hone,h4,h5⟩
 ·exact⟨M,Mem.le.refl M,build M (Mem.le.refl M) (fun b k v h=>.inl h) g.agree (fun _ _ _=>rfl) (h2 M (Mem.le.refl M)),fun cs b _ _ hb=>absurd (by simp[dk,hb,Loc.block]) (h1 b)⟩
 ·refine⟨M.add b vs hone h3,Mem.tJ h3,build _ (Mem.tJ h3) (fun b' k v hc=>?_) ⟨fun b' k v hc=>?_,fun b' hb=>?_⟩ (fun b' hne k=>?_) (h4 _ (Mem.tJ h3) fun k=>by simp[Mem.add]),fun cs b' hc hne hb=>?_⟩
  rotate_right
  ·have e1:dk β o=some b':=by simp[dk,hb,Loc.block]
   rw[h1]at e1;cases e1
   exact .inr ⟨rfl,by rw[h5 cs hc];cases cs<;>simp at hne |-⟩
  ·by_cases hb:b'=b
   ·subst hb;exact .inr h1
   ·left;simpa[Mem.add,hb]using hc
  ·by_cases hb:b'=b
   ·subst hb
    rw[yC h2]
    simpa[Mem.add]using hc
   ·exact g.agree b' k v (by simpa[Mem.add,hb]using hc)
  ·rcases hb with hb|⟨rfl,hb⟩
   ·exact g.agree.p b' hb
   ·exact⟨vs,e,h2,hb⟩
  ·have hb:b'≠b:=fun e=>by subst e;exact hne h1
   simp[Mem.add,hb]
theorem tI{α:Type}(f:Nat->α)(o:Nat):bP f o (f o)=f:=by
 funext j
 by_cases h:j=o
 ·subst h;rw[aD]
 ·rw[aJ _ _ _ _ h]
theorem n8{x:Ob}(h:x.live=false):ca (some x)=some x:=by cases x<;>simp[Ob.live]at h<;>rfl
theorem cz.uz(ob0:Nat->Option Ob):∀(os:List Nat) {s:St} {M:Mem},cz n A s a w M β->(∀o,s.ob o=ob0 o\/s.ob o=ca (ob0 o)) ->
 ∃M',M.le M'/\cz n A {s with ob:=bX s.ob (eF ob0 os)} a w M' β/\∀o,o∈os->∀cs b,s.ob o=some (.cells cs)->s.ob o=ob0 o->cs≠[]->β o=some (.cells b)->M'.p b
 |[],s,M,g,_=>⟨M,Mem.le.refl M,g,fun o ho=>by cases ho⟩
 |
  o::os,s,M,g,h=>by
  have step:∃M',M.le M'/\cz n A {s with ob:=bP s.ob o (ca (ob0 o))} a w M' β/\∀cs b,s.ob o=some (.cells cs)->s.ob o=ob0 o->cs≠[]->β o=some (.cells b)->M'.p b:=by
   rcases h o with ho|ho
   ·cases e:ob0 o with
    |none=>exact⟨M,Mem.le.refl M,by rw[show ca none=s.ob o by rw[ho,e];rfl,tI];exact g,fun cs b hc _=>by rw[ho,e]at hc;cases hc⟩
    |
     some x =>
     cases hl:x.live with
     |
      true =>
      obtain⟨M',q1,q2,q3⟩:=g.qi (x:=x) (by rw[ho,e]) hl
      exact⟨M',q1,q2,fun cs b hc _=>q3 cs b (by rw[ho,e]at hc;cases hc;rfl)⟩
     |false=>exact⟨M,Mem.le.refl M,by rw[n8 hl,show some x=s.ob o by rw[ho,e],tI];exact g,fun cs b hc _=>by rw[ho,e]at hc;cases hc;cases hl⟩
   ·refine⟨M,Mem.le.refl M,by rw[<-ho,tI];exact g,fun cs b hc he=>?_⟩
    rw[he]at hc
    rw[he,hc]at ho
    cases ho
  obtain⟨M1,hM1,g1,p1⟩:=step
  obtain⟨M2,hM2,g2,p2⟩:=cz.uz ob0 os g1 (fun o'=>by
   by_cases ho:o'=o
   ·subst ho;right;exact aD _ _ _
   ·rcases h o' with h|h
    ·left;exact(aJ _ _ _ _ ho).trans h
    ·right;exact(aJ _ _ _ _ ho).trans h)
  refine⟨M2,hM1.trans hM2,g2,fun o' ho' cs b hc he hne hb=>?_⟩
  by_cases e:o'=o
  ·subst e;exact hM2.p _ (p1 cs b hc he hne hb)
  ·rcases aB.1 ho' with h'|h'
   ·exact absurd h' e
   ·exact p2 o' h' cs b ((aJ _ _ _ _ e).trans hc) ((aJ _ _ _ _ e).trans he) hne hb
theorem cz.uJ(g:cz n A s a w M β)(os:List Nat):∃M',M.le M'/\cz n A {s with ob:=bX s.ob (eF s.ob os)} a w M' β/\∀o,o∈os->∀cs b,s.ob o=some (.cells cs)->cs≠[]->β o=some (.cells b)->M'.p b:=by
 obtain⟨M',h1,h2,h3⟩:=g.uz s.ob os fun _=>.inl rfl
 exact⟨M',h1,h2,fun o ho cs b hc=>h3 o ho cs b hc rfl⟩
theorem cz.freeze(g:cz n A s a w M β)(os:List Nat):∃M',M.le M'/\cz n A {s with ob:=bX s.ob (eF s.ob os)} a w M' β:=by
 obtain⟨M',h1,h2,_⟩:=g.uJ os
 exact⟨M',h1,h2⟩
theorem mU(ob0:Nat->Option Ob):∀(os:List Nat) (f:Nat->Option Ob) (o:Nat),(o∈os\/f o=ca (ob0 o))->bX f (eF ob0 os) o=ca (ob0 o)
 |[],f,o,h=>by rcases h with h|h;cases h;exact h
 |
  q::os,f,o,h=>by
  show bX (bP f q (ca (ob0 q))) (eF ob0 os) o=_
  refine mU ob0 os _ o ?_
  by_cases e:o=q
  ·subst e;right;exact aD _ _ _
  ·rcases h with h|h
   ·left;rcases aB.1 h with h|h
    ·exact absurd h e
    ·exact h
   ·right;rw[aJ _ _ _ _ e];exact h
def Fz(M:Mem)(β:Lo)(w:World)(ob:Nat->Option Ob)(os:List Nat):Prop:=∀o,o∈os->∀x,ca (ob o)=some x->Own M β w o x
theorem cz.fz{ob:Nat->Option Ob}{os:List Nat}(g:cz n A {s with ob:=bX ob (eF ob os)} a w M β):Fz M β w ob os:=fun o ho x hx=>g.own o x ((mU ob os ob o (.inl ho)).trans hx)
theorem Fz.left{ob:Nat->Option Ob}{p q:List Nat}(h:Fz M β w ob (p++q)):Fz M β w ob p:=fun o ho=>h o (ao _ ho)
theorem Fz.right{ob:Nat->Option Ob}{p q:List Nat}(h:Fz M β w ob (p++q)):Fz M β w ob q:=fun o ho=>h o (ak _ ho)
theorem nB{ob:Nat->Option Ob}{f:AV->Option (AV×List Nat)}(hf:∀c a' os v,f c=some (a',os)->Fz M β w ob os->aW M β c v->aW M cR a' v) :
 ∀(cs:List AV) (asq:List AV) (os:List Nat),kD f cs=some (asq,os)->Fz M β w ob os->asq.length=cs.length/\∀i v,i<cs.length->aW M β (cs.getD i .any) v->aW M cR (asq.getD i .any) v
 |
  [],asq,os,h,_=>by
  simp[kD]at h
  obtain⟨rfl,rfl⟩:=h
  exact⟨rfl,fun i v hi=>by simp at hi⟩
 |
  c::cs,asq,os,h,hz=>by
  unfold kD at h
  split at h
  ·rename_i a1 os1 as2 os2 h1 h2
   cases h
   obtain⟨q1,q2⟩:=nB hf cs _ _ h2 hz.right
   refine⟨by simp[q1],fun i v hi hr=>?_⟩
   cases i with
   |zero=>simpa using hf _ _ _ _ h1 hz.left (by simpa using hr)
   |succ i=>simpa using q2 i v (by simpa using hi) (by simpa using hr)
  ·cases h
theorem my{o:Nat}{es:List (List AV)}{v:Value}(h:Own M β w o (.kV es))(hr:aW M β (.vec o) v):aW M cR (.sl es) v:=by
 obtain⟨v',sz,h1,h2,h3⟩:=h
 have hv:v=v':=by
  cases hr with
  |vec _ _ _ sz' ho h=>rw[h1]at h;cases h;rfl
 subst hv
 rcases h3 with⟨rfl,rfl⟩|⟨b,off,c,us,rfl,h4,h5,h6⟩
 ·exact .slnil _
 ·exact .sl _ _ _ _ _ sz us h4 h2 h5 h6
theorem fu{ob:Nat->Option Ob}:∀(k:Nat) (c a':AV) (os:List Nat) (v:Value),VL.freeze ob k c=some (a',os)->Fz M β w ob os->aW M β c v->aW M cR a' v
 |0,c,a',os,v,h,_,_=>by simp[VL.freeze]at h
 |
  k+1,c,a',os,v,h,hz,hr=>by
  have ih:∀c a' os v,VL.freeze ob k c=some (a',os)->Fz M β w ob os->aW M β c v->aW M cR a' v:=fun c a' os v=>fu k c a' os v
  have ptrCase:∀o cs r,(ob o=some (.cells cs)\/ob o=some (.fS cs))->kD (VL.freeze ob k) cs=some r->a'=.ptr r.1->os=o::r.2->aW M β (.ref o 0) v->aW M cR a' v:=by
   intro o cs r ho hfz ea eo hr
   subst ea;subst eo
   obtain⟨asq,os'⟩:=r
   have hfr:ca (ob o)=some (.fS cs):=by rcases ho with ho|ho<;>rw[ho]<;>rfl
   obtain⟨b,us,h1,h2⟩:=hz o ae _ hfr
   obtain⟨q1,q2⟩:=nB ih cs _ _ hfz (fun o' ho'=>hz o' (af _ ho'))
   cases hr with
   |
    ref _ _ _ b' hb =>
    rw[h1]at hb;cases hb
    simp only at q1 q2 |-
    exact .ptr _ _ _ _ us (fun i hi=>by simpa using(h2 i (by omega)).1) fun i hi=>q2 i _ (by omega) (h2 i (by omega)).2
  unfold VL.freeze at h
  split at h
  ·rename_i o
   split at h
   ·rename_i cs ho
    cases e:kD (VL.freeze ob k) cs with
    |none=>rw[e]at h;cases h
    |some r=>rw[e]at h;cases h;exact ptrCase o cs r (.inl ho) e rfl rfl hr
   ·rename_i cs ho
    cases e:kD (VL.freeze ob k) cs with
    |none=>rw[e]at h;cases h
    |some r=>rw[e]at h;cases h;exact ptrCase o cs r (.inr ho) e rfl rfl hr
   ·cases h
  ·rename_i o
   split at h
   ·rename_i sz es ho
    cases h
    exact my (hz o ae _ (by rw[ho];rfl)) hr
   ·rename_i es ho
    cases h
    exact my (hz o ae _ (by rw[ho];rfl)) hr
   ·cases h
  ·cases h;cases hr with|x _ _ _ ho h=>exact h
  ·rename_i cs
   cases e:kD (VL.freeze ob k) cs with
   |none=>rw[e]at h;cases h
   |
    some r =>
    rw[e]at h;cases h
    obtain⟨q1,q2⟩:=nB ih cs _ _ (by rw[e]) hz
    cases hr with
    |
     agg _ _ vs hl ho h =>
     exact .agg _ _ _ (q1.trans hl) (fun i hi=>ho i (by omega)) fun i hi=>q2 i _ (by omega) (h i (by omega))
  ·cases h;exact .any _ _
  ·cases h;cases hr;exact .v _ _
  ·cases h;cases hr;exact .v _ _
  ·cases h;cases hr with|ptr _ _ b off us h h'=>exact .ptr _ _ _ _ us h h'
  ·cases h;cases hr with|pid _ _ b us hp h h'=>exact .pid _ _ _ us hp h h'
  ·cases h;cases hr with
   |slnil=>exact .slnil _
   |sl _ _ b off c sz us hc hs h h'=>exact .sl _ _ _ _ _ sz us hc hs h h'
  ·cases h
theorem tn{ob:Nat->Option Ob}{c a':AV}{v:Value}(h:ext ob c=some a')(hr:aW M β c v):aW M cR a' v:=by
 unfold ext at h
 split at h
 ·rename_i a1 e
  cases h
  exact fu (w:=default) _ _ _ _ _ e (fun o ho=>by cases ho) hr
 ·cases h
end
end Go.VL
namespace Go.VL
open Go Go.RowKit
section
variable {P:Program} {M:Mem} {β:Lo} {w:World} {n:Nat} {A:iA} {s:St} {a:Act}
theorem sX(es:List (List AV))(l h i:Nat)(hi:i<h-l):((es.take h).drop l).getD i []=es.getD (l+i) []:=by
 simp[aa,bV,List.getElem?_take,show l+i<h by omega]
theorem qK{es:List (List AV)}{v:Value}(hv:aW M cR (.sl es) v){l h size:Nat}(h1:l<=h)(h2:h<=es.length)(hz:l=0\/∀c,c∈es->c.length=size) :
 ∃ad len cap,v=.slice ad len cap/\len=es.length/\es.length<=cap /\
 aW M β (.sl ((es.take h).drop l)) (.slice (if cap=l then ad else ad.map (·.add (l*size))) (h-l) (cap-l)):=by
 cases hv with
 |
  slnil =>
  refine⟨none,0,0,rfl,rfl,an _,?_⟩
  simp at h2
  subst h2
  have:l=0:=by omega
  subst this
  exact .slnil _
 |
  sl _ _ b off c sz us hc hs hh h' =>
  refine⟨_,_,c,rfl,rfl,hc,?_⟩
  have hlen:((es.take h).drop l).length=h-l:=by simp;omega
  by_cases hcl:c=l
  ·rw[if_pos hcl]
   have e0:(es.take h).drop l=[]:=List.length_eq_zero_iff.1 (by rw[hlen];omega)
   rw[e0,show h-l=([]:List (List AV)).length by simp;omega]
   exact .sl _ _ _ _ _ sz us (by simp) (fun i hi=>by simp at hi) (fun i hi=>by simp at hi) (fun i j hi=>by simp at hi)
  ·rw[if_neg hcl]
   have e1:Option.map (·.add (l*size)) (some (⟨b,off,none⟩:Addr))=some ⟨b,off+l*size,none⟩:=by simp[iu]
   rw[e1]
   by_cases hne:h-l=0
   ·have e0:(es.take h).drop l=[]:=List.length_eq_zero_iff.1 (by rw[hlen];omega)
    rw[e0,show h-l=([]:List (List AV)).length by simp;omega]
    exact .sl _ _ _ _ _ sz us (by simp) (fun i hi=>by simp at hi) (fun i hi=>by simp at hi) (fun i j hi=>by simp at hi)
   ·have e2:l*size=l*sz:=by
     rcases hz with hz|hz
     ·subst hz;simp
     ·have hl:l<es.length:=by omega
      have m1:=hs l hl
      have m2:es.getD l []∈es:=by
       have:es.getD l []=es[l]:=by simp[aa,hl]
       rw[this];exact cc hl
      rw[<-m1,hz _ m2]
    rw[e2,<-hlen]
    refine .sl _ _ _ _ _ sz (fun k=>us (l*sz+k)) (by rw[hlen];omega) (fun i hi=>?_) (fun i hi=>?_) fun i j hi hj=>?_
    ·rw[hlen]at hi
     rw[sX _ _ _ _ hi];exact hs _ (by omega)
    ·rw[hlen]at hi
     have:(h-l)*sz+l*sz<=es.length*sz:=by rw[<-Nat.add_mul];exact aI _ (by omega)
     have q:=hh (l*sz+i) (by omega)
     rw[show off+l*sz+i=off+(l*sz+i) by omega]
     exact q
    ·rw[hlen]at hi
     rw[sX _ _ _ _ hi]
     have q:=h' (l+i) j (by omega) hj
     rw[Nat.add_mul]at q
     rw[show l*sz+(i*sz+j)=l*sz+i*sz+j by omega]
     exact q
theorem jL{t el:Nat}{T:dL}(hT:cv P T)(hkn:(T t).kn=true)(hel:(T el).kn=true)(hk:(T t).k=.slice el){ρ:Operand->Value}{e:Operand->AV}(he:∀x,aW M β (e x) (ρ x)){ad:Option Addr}{len cap:Nat}(lo hi:Option Operand)(l h:Int)
 (hl:gb e lo=some l) (hh:fm e len hi=some h) (h0:0<=l) (h1:l<=h) (h2:h<=len) (hc:len<=cap) :
 (Instr.sliceAt t (.slice ad len cap) (lo.map ρ) (hi.map ρ) none).run P w=.ok (.slice (if cap=l.toNat then ad else ad.map (·.add (l.toNat*(T el).sz))) (h.toNat-l.toNat) (cap-l.toNat)) w:=by
 have hb:=pw (P:=P) (w:=w) he true len cap lo hi l h hl hh h0 h1 h2 hc
 have hu:=run_underlying ((hT t hkn).slice hk) w
 simp[Instr.sliceAt,Instr.slice,Sem.run_bind,hu,hb,(hT el hel).gO w]
theorem pR{t:Nat}{T:dL}(hT:cv P T)(hkn:(T t).kn=true)(hk:(T t).k=.str){ρ:Operand->Value}{e:Operand->AV}(he:∀x,aW M β (e x) (ρ x))(q:ByteArray)(lo hi:Option Operand)(l h:Int)
 (hl:gb e lo=some l) (hh:fm e q.size hi=some h) (h0:0<=l) (h1:l<=h) (h2:h<=q.size) :
 (Instr.sliceAt t (.string q) (lo.map ρ) (hi.map ρ) none).run P w=.ok (.string (q.extract l.toNat h.toNat)) w:=by
 have hb:=pw (P:=P) (w:=w) he false q.size q.size lo hi l h hl hh h0 h1 h2 (an _)
 have hu:=run_underlying ((hT t hkn).str hk) w
 simp[Instr.sliceAt,Instr.slice,Sem.run_bind,hu,hb]
theorem xg{x:AV}{v:Value}(h:aW M β (.x x) v)(hk:LK.sl.has x):aW M cR (.sl x.elems) v:=by
 cases h with
 |
  x _ _ _ ho h =>
  rcases hk with rfl|⟨es,rfl⟩
  ·cases h;exact .slnil _
  ·exact h
theorem wg{es:List (List AV)}{v:Value}(h:aW M β (.sl es) v):aW M cR (.sl es) v:=by
 cases h with
 |slnil=>exact .slnil _
 |sl _ _ b off c sz us hc hs h h'=>exact .sl _ _ _ _ _ sz us hc hs h h'
theorem qF{ob:Nat->Option Ob}(hob:∀o x,ob o=some x->Own M β w o x){x:AV}{v:Value}(h:aW M β x v)(hx:∀o,x≠.vec o){p:Option Prop}{es:List (List AV)}{os:List Nat}
 (he:ef ob x=some (p,es,os)) (hp:∀q,p=some q->q):aW M cR (.sl es) v:=by
 unfold ef at he
 split at he
 ·cases he;exact wg h
 ·cases he;exact xg h (hp _ rfl)
 ·cases he;cases h;exact .slnil _
 ·exact absurd rfl (hx _)
 ·cases he
theorem la{o:Oper}{t:Nat}{x:Operand}{lo hi:Option Operand}(ho:o.op=.slice t x lo hi none){v:Value}(h:(Instr.sliceAt t (a.eval x) (lo.map a.eval) (hi.map a.eval) none).run P w=.ok v w) :
 (execOp a.eval o).run P w=.ok (.value v) w:=by
 simp[execOp,ho,h]
theorem xJ{ob:Nat->Option Ob}{T:dL}{t el:Nat}{lo:Option Operand}{es:List (List AV)}{l:Int}{e:Operand->AV}(hl:gb e lo=some l)(hw:∀q,lo.map (fun _=>cN (T el).sz es)=some q->q):l.toNat=0\/∀c,c∈es->c.length=(T el).sz:=by
 cases lo with
 |none=>simp[gb]at hl;subst hl;exact .inl rfl
 |some x=>exact .inr (hw _ rfl)
theorem Ap(g:cz n A s a w M β){T:dL}(hT:cv P T)(o:Oper)(t:Nat)(x:Operand)(lo hi:Option Operand)(ho:o.op=.slice t x lo hi none) :
 (db T (ev s) s.ob o).holds fun d=>cU s n o.dst d=true->Step P n A o a w (s.app o.dst d):=by
 unfold db
 rw[ho]
 refine DR.aH fun hkn=>?_
 have hx:=g.ev x
 split
 ·rename_i q hk e
  rw[e]at hx
  refine jY g ?_
  split
  ·rename_i l h hl hh
   intro⟨h0,h1,h2⟩
   have:=cT hx
   exact⟨rfl,rfl,_,la ho (by rw[this];exact pR hT hkn hk g.ev q lo hi l h hl hh h0 h1 h2),.v _ _⟩
  ·trivial
 ·rename_i el o' hk e
  rw[e]at hx
  refine DR.aH fun hel=>?_
  split
  ·rename_i sz es hes
   refine DR.aH fun hz=>?_
   have hz:=au hz
   split
   ·rename_i l h hl hh
    intro⟨h0,h1,h2⟩ hn
    obtain⟨M',hM,g',_⟩:=g.qi hes rfl
    have hfz:=g'.own o' (.kV es) (by rw[show ca (some (Ob.vec sz es))=some (.kV es) from rfl];exact aD _ _ _)
    have hsl:=my hfz (hx.mono hM (Lo.le.refl _))
    have hlen:∀c,c∈es->c.length=(T el).sz:=by
     obtain⟨v,_,q,_⟩:=g.own _ _ hes
     intro c hc
     obtain⟨i,hi,rfl⟩:=List.getElem_of_mem hc
     have:=q i hi
     rw[<-hz];simpa[aa,hi]using this
    obtain⟨ad,len,cap,hv,hlen',hcap,hr⟩:=qK (β:=β) hsl (l:=l.toNat) (h:=h.toNat) (size:=(T el).sz) (by omega) (by omega) (.inr hlen)
    subst hlen'
    refine⟨_,w,M',β,.inl (la ho (by rw[hv];exact jL hT hkn hel hk g.ev lo hi l h hl hh h0 h1 h2 hcap)),?_⟩
    have:=cz.put g' hr (eT hn)
    exact this
   ·trivial
  ·rename_i es hes
   refine jY g ?_
   split
   ·rename_i l h hl hh
    refine DR.fq fun hw=>?_
    intro⟨h0,h1,h2⟩
    have hsl:=my (g.own _ _ hes) hx
    obtain⟨ad,len,cap,hv,hlen',hcap,hr⟩:=qK (β:=β) hsl (l:=l.toNat) (h:=h.toNat) (size:=(T el).sz) (by omega) (by omega) (xJ (ob:=s.ob) (t:=t) hl hw)
    subst hlen'
    exact⟨rfl,rfl,_,la ho (by rw[hv];exact jL hT hkn hel hk g.ev lo hi l h hl hh h0 h1 h2 hcap),hr⟩
   ·trivial
  ·trivial
 ·rename_i el hk hnv
  refine DR.aH fun hel=>jY g ?_
  split
  ·rename_i p es os hes
   split
   ·rename_i l h hl hh
    refine DR.fq fun hp=>DR.fq fun hw=>?_
    intro⟨h0,h1,h2⟩
    have hsl:=qF g.own hx (fun o he=>hnv o he) hes hp
    obtain⟨ad,len,cap,hv,hlen',hcap,hr⟩:=qK (β:=β) hsl (l:=l.toNat) (h:=h.toNat) (size:=(T el).sz) (by omega) (by omega) (xJ (ob:=s.ob) (t:=t) hl hw)
    subst hlen'
    exact⟨rfl,rfl,_,la ho (by rw[hv];exact jL hT hkn hel hk g.ev lo hi l h hl hh h0 h1 h2 hcap),hr⟩
   ·trivial
  ·trivial
 ·trivial
end
end Go.VL
namespace Go.VL
open Go Go.RowKit
section
variable {P:Program} {M:Mem} {β:Lo} {w:World} {n:Nat} {A:iA} {s:St} {a:Act}
def ng(es:List (List AV)):List Int:=es.map fun e=>(e.headD .any).toInt
theorem mO:∀(es:List (List AV)),bytesOf es=(ng es).map fun n=>aU n.toNat
 |[]=>rfl
 |e::es=>by rw[bytesOf,mO es];rfl
theorem qE:∀{es:List (List AV)},mC es->∀i,i<es.length->(es.getD i []).length=1/\(es.getD i []).getD 0 .any=.v (.int .u8 ((ng es).getD i 0))
 |[],_,i,hi=>by simp at hi
 |
  e::es,h,0,_=>by
  obtain⟨h1,⟨m,h2⟩,_⟩:=h
  refine⟨by simpa using h1,?_⟩
  rw[lM]at h2
  simp only[aQ,ng,aS,lM]
  rw[h2];rfl
 |
  e::es,h,i+1,hi=>by
  have:=qE h.2.2 i (by simpa using hi)
  simpa[ng]using this
theorem pa{src dst el:Nat}(hs:P.underlying src=some (.slice el))(he:P.underlying el=some (.int .u8))(hd:P.underlying dst=some .string){es:List (List AV)}{v:Value}(h:AG w M es v)(hb:mC es) :
 (convert src dst v).run P w=.ok (.string ⟨(bytesOf es).toArray⟩) w:=by
 rcases h with⟨rfl,rfl⟩|⟨b,off,c,sz,us,rfl,h1,h2,h3,h4,_⟩
 ·rw[run_convert_bytes_nil w src el hs he 0 0 dst hd];rfl
 ·rw[mO]
  refine run_convert_bytes_arg w src el hs he b off es.length c (ng es) (by simp[ng]) (fun i hi=>?_) dst hd
  obtain⟨q1,q2⟩:=qE hb i hi
  have hz:sz=1:=by rw[<-h2 i hi,q1]
  subst hz
  have r:=h4 i 0 hi (by omega)
  rw[q2]at r
  have:=cT r
  rw[h3 i (by omega),<-this];simp
theorem vM(g:cz n A s a w M β){T:dL}(hT:cv P T)(o:Oper)(st dt:Nat)(x:Operand)(ho:o.op=.convert st dt x) :
 (db T (ev s) s.ob o).holds (Quiet (oL P M β o a w)):=by
 unfold db
 rw[ho]
 refine DR.aH fun hkn=>?_
 simp only[ai]at hkn
 obtain⟨hs,hd⟩:=hkn
 have hx:=g.ev x
 split
 ·rename_i el hk1 hk2
  refine DR.aH fun hel=>?_
  simp only[ai]at hel
  obtain⟨hel,hu⟩:=hel
  have hu8:(T el).k=.num .u8:=by split at hu<;>first|assumption|cases hu
  split
  ·rename_i p es os hes
   refine DR.fq fun hp=>?_
   intro hb
   have hsl:=jU g.own g.agree hx hes hp
   exact⟨rfl,rfl,_,by simp[execOp,ho,pa ((hT st hs).slice hk1) ((hT el hel).num hu8) ((hT dt hd).str hk2) hsl hb],.v _ _⟩
  ·trivial
 ·rename_i k1 k2 k3 m hk1 hk2 e
  rw[e]at hx
  have hv:=cT hx
  refine⟨rfl,rfl,_,?_,.v _ _⟩
  have u1:=run_underlying ((hT st hs).num hk1) w
  have u2:=run_underlying ((hT dt hd).num hk2) w
  simp[execOp,ho,hv,convert,Sem.run_bind,u1,u2,Conv.intToInt]
 ·trivial
theorem ib{o:Oper}{b:Builtin}{xs:Array Operand}{ts:Array TypeId}(ho:o.op=.call ⟨.builtin b,xs,ts⟩) :
 ∃cs,(execOp a.eval o).run P w=(builtin b ts o.type cs (xs.map a.eval)).run P w:=by
 have key:∀c:Array Bool,(invoke (.builtin b ts o.type c) (xs.map a.eval)).run P w=(builtin b ts o.type c (xs.map a.eval)).run P w:=fun c=>rfl
 simp only[execOp,ho,resolve,Sem.run_bind,Sem.run_pure,Result.andThen_ok,key]
 exact⟨_,rfl⟩
theorem D0(g:cz n A s a w M β){T:dL}(hT:cv P T)(o:Oper)(xs:Array Operand)(ts:Array TypeId)(ho:o.op=.call ⟨.builtin .len,xs,ts⟩) :
 (db T (ev s) s.ob o).holds (Quiet (oL P M β o a w)):=by
 unfold db
 rw[ho]
 simp only
 split
 ·rename_i x t hxs hts
  have ex:xs = #[x]:=by rw[<-Array.toArray_toList (xs:=xs),hxs]
  have et:ts = #[t]:=by rw[<-Array.toArray_toList (xs:=ts),hts]
  subst ex;subst et
  refine DR.aH fun hkn=>?_
  have hx:=g.ev x
  have run:∀v,(Builtin.len_ #[t] o.type #[a.eval x]).run P w=.ok v w->(execOp a.eval o).run P w=.ok (.value v) w:=fun v h=>by
   obtain⟨_,e⟩:=ib (P:=P) (a:=a) (w:=w) ho
   rw[e];simp[builtin,h]
  split
  ·rename_i q hk e
   rw[e]at hx
   have hv:=cT hx
   exact⟨rfl,rfl,_,run _ (by simp[Builtin.len_,Sem.run_bind,run_underlying ((hT t hkn).str hk) w,hv,goInt]),.v _ _⟩
  ·rename_i m el hk
   exact⟨rfl,rfl,_,run _ (by simp[Builtin.len_,Sem.run_bind,run_underlying ((hT t hkn).array hk) w,goInt]),.v _ _⟩
  ·rename_i el hk
   split
   ·rename_i p es os hes
    refine DR.fq fun hp=>?_
    have hsl:=jU g.own g.agree hx hes hp
    refine⟨rfl,rfl,_,run _ ?_,.v _ _⟩
    have u:=run_underlying ((hT t hkn).slice hk) w
    rcases hsl with⟨hv,rfl⟩|⟨b,off,c,sz,us,hv,_⟩
    ·simp[Builtin.len_,Sem.run_bind,u,hv,goInt]
    ·simp[Builtin.len_,Sem.run_bind,u,hv,goInt]
   ·trivial
  ·trivial
 ·trivial
theorem GP(g:cz n A s a w M β){T:dL}(o:Oper)(xs:Array Operand)(ts:Array TypeId)(ho:o.op=.call ⟨.builtin .max,xs,ts⟩) :
 (db T (ev s) s.ob o).holds (Quiet (oL P M β o a w)):=by
 unfold db
 rw[ho]
 simp only
 split
 ·rename_i x y hxs
  have ex:xs = #[x,y]:=by rw[<-Array.toArray_toList (xs:=xs),hxs]
  subst ex
  have hx:=g.ev x
  have hy:=g.ev y
  split
  ·rename_i k p k' q e e'
   rw[e]at hx;rw[e']at hy
   have h1:=cT hx
   have h2:=cT hy
   split
   ·refine⟨rfl,rfl,_,?_,.v _ _⟩
    obtain⟨_,e⟩:=ib (P:=P) (a:=a) (w:=w) ho
    rw[e]
    simp[builtin,Builtin.max_,h1,h2,Builtin.max2]
   ·trivial
  ·trivial
 ·trivial
theorem F8(g:cz n A s a w M β){T:dL}(o:Oper)(xs:Array Operand)(ts:Array TypeId)(ho:o.op=.call ⟨.builtin .min,xs,ts⟩) :
 (db T (ev s) s.ob o).holds (Quiet (oL P M β o a w)):=by
 unfold db
 rw[ho]
 simp only
 split
 ·rename_i x y hxs
  have ex:xs = #[x,y]:=by rw[<-Array.toArray_toList (xs:=xs),hxs]
  subst ex
  have hx:=g.ev x
  have hy:=g.ev y
  split
  ·rename_i k p k' q e e'
   rw[e]at hx;rw[e']at hy
   have h1:=cT hx
   have h2:=cT hy
   split
   ·refine⟨rfl,rfl,_,?_,.v _ _⟩
    obtain⟨_,e⟩:=ib (P:=P) (a:=a) (w:=w) ho
    rw[e]
    simp[builtin,Builtin.min_,h1,h2,Builtin.min2]
   ·trivial
  ·trivial
 ·trivial
theorem tX(g:cz n A s a w M β){T:dL}(o:Oper)(f:Nat)(fs cs:Array Operand)(ho:o.op=.makeFunc (.func f) fs cs) :
 (db T (ev s) s.ob o).holds (Quiet (oL P M β o a w)):=by
 unfold db
 rw[ho]
 simp only
 cases h:az fs.size 0 with
 |false=>simp only[cond_false];trivial
 |
  true =>
  simp only[cond_true]
  have h0:=au h
  have e:fs = #[]:=Array.size_eq_zero_iff.1 h0
  subst e
  refine⟨rfl,rfl,.func (.func f) #[] (cs.toList.map a.eval).toArray,?_,?_⟩
  ·have:Array.map a.eval cs=(List.map a.eval cs.toList).toArray:=by apply Array.ext';simp
   simp[execOp,ho,Instr.makeFunc,this]
  ·refine .fn _ _ _ _ (by simp) fun i hi=>?_
   have hi':i<cs.size:=by simpa using hi
   simp[aa,hi']
   exact g.ev _
theorem kP{x:AV}{v:Value}(h:aW M β x v)(ho:lf x=true):v.cells.size=(flat x).length/\(∀i,i<(flat x).length->aW M β ((flat x).getD i .any) (v.cells.getD i undef))/\∀u,u∈v.cells->u.oneCell'=true:=by
 by_cases ha:∃cs,x=.agg cs
 ·obtain⟨cs,rfl⟩:=ha
  obtain⟨vs,rfl,hl,hr,hone⟩:=eW h
  refine⟨by simp[Value.cells,flat,hl],fun i hi=>by simpa[Value.cells,flat]using hr i hi,fun u hu=>?_⟩
  simp only[Value.cells,List.mem_toArray]at hu
  obtain⟨i,hi,rfl⟩:=List.getElem_of_mem hu
  have:=hone i (by omega)
  simpa[aa,hi]using this
 ·have e1:flat x=[x]:=by cases x<;>first|rfl|exact absurd ⟨_,rfl⟩ ha
  have e2:wO x=true:=by
   have:lf x=wO x:=by cases x<;>first|rfl|exact absurd ⟨_,rfl⟩ ha
   rw[<-this];exact ho
  have e3:=xK h e2
  have e4:v.cells = #[v]:=by cases v<;>first|rfl|(cases e3)
  rw[e1,e4]
  refine⟨rfl,fun i hi=>?_,fun u hu=>?_⟩
  ·have:i=0:=by simp at hi;exact hi
   subst this;simpa using h
  ·simp at hu;subst hu;exact e3
theorem gU{α:Type}:∀(ys l:List α) (k:Nat),(fX l k ys).length=l.length
 |[],l,k=>rfl
 |y::ys,l,k=>by simp[fX,gU ys]
def CR(M:Mem)(β:Lo)(cs:List AV)(vs:Array Value):Prop:=vs.size=cs.length/\(∀i,i<cs.length->aW M β (cs.getD i .any) (vs.getD i undef))/\∀u,u∈vs->u.oneCell'=true
theorem CR.set{cs:List AV}{vs:Array Value}(h:CR M β cs vs){c:AV}{v:Value}(hr:aW M β c v)(ho:v.oneCell'=true)(k:Nat):CR M β (cs.set k c) (vs.setIfInBounds k v):=by
 obtain⟨h1,h2,h3⟩:=h
 refine⟨by simp[h1],fun i hi=>?_,fun u hu=>?_⟩
 ·have hi':i<cs.length:=by simpa using hi
  by_cases e:k=i
  ·subst e
   have h4:k<vs.size:=by omega
   simp[aa,hi',h4]
   exact hr
  ·have:=h2 i hi'
   simpa[aa,List.getElem?_set,e,Array.getElem?_setIfInBounds]using this
 ·rcases Array.mem_or_eq_of_mem_setIfInBounds hu with h|h
  ·exact h3 u h
  ·subst h;exact ho
theorem CR.fX{cs:List AV}{vs:Array Value}:∀(ys:List AV) (us:List Value) (k j:Nat) {cs:List AV} {vs:Array Value},CR M β cs vs->us.length=ys.length->(∀i,i<ys.length->aW M β (ys.getD i .any) (us.getD i undef))->(∀u,u∈us->u.oneCell'=true) ->
 CR M β (VL.fX cs (k+j) ys) ((us.zipIdx j).foldl (fun cs (c,j)=>cs.setIfInBounds (k+j) c) vs)
 |[],[],k,j,cs,vs,h,_,_,_=>h
 |[],_::_,_,_,_,_,_,h,_,_=>by simp at h
 |_::_,[],_,_,_,_,_,h,_,_=>by simp at h
 |
  y::ys,u::us,k,j,cs,vs,h,hl,hr,ho=>by
  have h1:=h.set (hr 0 (by simp)) (ho u ae) (k+j)
  have:=CR.fX (cs:=cs) (vs:=vs) ys us k (j+1) h1 (by simpa using hl) (fun i hi=>by simpa using hr (i+1) (by simpa using hi)) fun q hq=>ho q (af _ hq)
  simpa[VL.fX,List.zipIdx_cons,dz]using this
theorem qY{e:Operand->AV}{ρ:Operand->Value}(he:∀x,aW M β (e x) (ρ x))(place:Nat->Option (Nat×Nat))(offOf:Nat->Nat):∀(ps:List (Nat×Operand)) {cs:List AV} {vs:Array Value},CR M β cs vs ->
 (∀p,p∈ps->lf (e p.2)=true/\place p.1=some (offOf p.1,(flat (e p.2)).length)/\offOf p.1+(flat (e p.2)).length<=cs.length) ->
 ∃vs',Instr.fill place vs (ps.map fun p=>(p.1,ρ p.2))=some vs'/\CR M β (ps.foldl (fun cs p=>VL.fX cs (offOf p.1) (flat (e p.2))) cs) vs'
 |[],cs,vs,h,_=>⟨vs,rfl,h⟩
 |
  p::ps,cs,vs,h,hp=>by
  obtain⟨h1,h2,h3⟩:=hp p ae
  obtain⟨f1,f2,f3⟩:=kP (he p.2) h1
  have step:=CR.fX (cs:=cs) (vs:=vs) (flat (e p.2)) (ρ p.2).cells.toList (offOf p.1) 0 h (by simpa using f1) (fun i hi=>by
   have:=f2 i hi
   have hi':i<(ρ p.2).cells.size:=by omega
   simpa[aa,hi']using this) fun u hu=>f3 u (by simpa using hu)
  obtain⟨vs',q1,q2⟩:=qY he place offOf ps step fun q hq=>by
   obtain⟨r1,r2,r3⟩:=hp q (af _ hq)
   exact⟨r1,r2,by simpa[gU]using r3⟩
  refine⟨vs',?_,by simpa using q2⟩
  rw[aS]
  unfold Instr.fill
  rw[h2]
  simp only
  rw[if_neg (by simp[f1,h.1];omega)]
  rw[<-q1]
  congr 1
  rw[<-Array.foldl_toList]
  simp[Array.toList_zipIdx]
end
end Go.VL
namespace Go.VL
open Go Go.RowKit
section
variable {P:Program} {M:Mem} {β:Lo} {w w':World} {n:Nat} {A:iA} {s:St} {a:Act}
def kill(k:Option Nat)(f:Nat->Option Ob):Nat->Option Ob:=match k with|some o=>bP f o none|none=>f
theorem cz.fresh(g:cz n A s a w M β){d:Nat}(hd:s.us d=false)(k:Option Nat)(hk:∀o,k=some o->∃x,s.ob o=some x/\x.live=true)
 (ho:w'.os=w.os) (ht:w'.tape=w.tape) (hp:w'.output=w.output) (hs:w.heap.size<=w'.heap.size) (hw:∀b,b<w.heap.size->(∀o,k=some o->dk β o≠some b)->w'.heap[b]?=w.heap[b]?)
 (l:Loc) (x:Ob) (hx:Own M (bP β d (some l)) w' d x) (hl:∀b,l.block=some b->w.heap.size<=b\/∃o,k=some o/\dk β o=some b) :
 cz n A {s with ob:=bP (kill k s.ob) d (some x),us:=bP s.us d true} a w' M (bP β d (some l)):=by
 have hβ:Lo.le β (bP β d (some l)):=fun o q hq=>by
  by_cases ho:o=d
  ·subst ho;rw[(g.us o hd).1]at hq;cases hq
  ·rw[aJ _ _ _ _ ho];exact hq
 have hbd:∀o b,o≠d->dk (bP β d (some l)) o=some b->dk β o=some b:=fun o b ho hb=>by
  unfold dk at hb |-;rw[aJ _ _ _ _ ho]at hb;exact hb
 have hdd:dk (bP β d (some l)) d=l.block:=by unfold dk;rw[aD];rfl
 have hobs:∀o y,o≠d->bP (kill k s.ob) d (some x) o=some y->s.ob o=some y/\k≠some o:=fun o y hne hy=>by
  rw[aJ _ _ _ _ hne]at hy
  cases k with
  |none=>exact⟨hy,by simp⟩
  |
   some o' =>
   by_cases e:o=o'
   ·subst e;simp only[kill]at hy;rw[aD]at hy;cases hy
   ·simp only[kill]at hy;rw[aJ _ _ _ _ e]at hy;exact⟨hy,by simp;exact fun h=>e h.symm⟩
 have old:∀o y b,s.ob o=some y->y.live=true->dk β o=some b->k≠some o->w'.heap[b]?=w.heap[b]?:=fun o y b hy hl hb hne=>by
  refine hw b ((g.own o y hy).lt hl hb) fun o' ho' hb'=>?_
  obtain⟨x',hx',hl'⟩:=hk o' ho'
  exact g.apart o' o x' y b (fun e=>hne (by rw[<-e];exact ho')) hx' hl' hy hl hb' hb
 refine {size:=g.size,defs:=g.defs,tm:=fun t=>(g.tm t).mono (Mem.le.refl _) hβ,le:=g.le,new:=g.new,agree:=?_,own:=?_,place:=?_,apart:=?_,us:=?_,fix:=g.Iv hd fun o y hne hy=>⟨y,(hobs o y hne hy).1⟩,cb:=?_}
 ·refine g.agree.world fun b k' v hc=>hw b (g.agree.lt hc) fun o ho' hb'=>?_
  obtain⟨x',hx',hl'⟩:=hk o ho'
  rw[(g.own o x' hx').xY hl' hb']at hc;cases hc
 ·intro o y hy
  by_cases ho:o=d
  ·subst ho
   have:x=y:=by simpa[aD]using hy
   subst this;exact hx
  ·obtain⟨hy',hne⟩:=hobs o y ho hy
   exact(g.own o y hy').mono (Mem.le.refl _) hβ fun b hlv hb=>⟨old o y b hy' hlv hb hne,(g.own o y hy').xY hlv hb⟩
 ·intro o y b hy hlv hb
  by_cases ho:o=d
  ·subst ho
   rw[hdd]at hb
   rcases hl b hb with h|⟨o',ho',hb'⟩
   ·exact .inl (Nat.le_trans g.cb.size h)
   ·obtain⟨x',hx',hl'⟩:=hk o' ho'
    exact g.place o' x' b hx' hl' hb'
  ·exact g.place o y b (hobs o y ho hy).1 hlv (hbd o b ho hb)
 ·have dcase:∀o y b,o≠d->s.ob o=some y->y.live=true->k≠some o->dk β o=some b->l.block≠some b:=fun o y b ho hy hlv hne hb hb'=>by
   rcases hl b hb' with h|⟨o',ho',hb''⟩
   ·have:=(g.own o y hy).lt hlv hb;omega
   ·obtain⟨x',hx',hl'⟩:=hk o' ho'
    exact g.apart o' o x' y b (fun e=>hne (by rw[<-e];exact ho')) hx' hl' hy hlv hb'' hb
  intro o o' y y' b hne hy hlv hy' hlv' hb hb'
  by_cases ho:o=d
  ·subst ho
   have ho':o'≠o:=Ne.symm hne
   obtain⟨q1,q2⟩:=hobs o' y' ho' hy'
   rw[hdd]at hb
   exact dcase o' y' b ho' q1 hlv' q2 (hbd o' b ho' hb') hb
  ·obtain⟨p1,p2⟩:=hobs o y ho hy
   by_cases ho':o'=d
   ·subst ho'
    rw[hdd]at hb'
    exact dcase o y b ho p1 hlv p2 (hbd o b ho hb) hb'
   ·obtain⟨q1,q2⟩:=hobs o' y' ho' hy'
    exact g.apart o o' y y' b hne p1 hlv q1 hlv' (hbd o b ho hb) (hbd o' b ho' hb')
 ·intro o hu
  by_cases ho:o=d
  ·subst ho
   have:({s with ob:=bP (kill k s.ob) o (some x),us:=bP s.us o true}:St).us o=true:=aD _ _ _
   rw[this]at hu;cases hu
  ·have hu':s.us o=false:=by simpa[aJ _ _ _ _ ho]using hu
   obtain⟨q1,q2⟩:=g.us o hu'
   refine⟨by rw[aJ _ _ _ _ ho];exact q1,?_⟩
   show bP (kill k s.ob) d (some x) o=none
   rw[aJ _ _ _ _ ho]
   cases k with
   |none=>exact q2
   |
    some o' =>
    by_cases e:o=o'
    ·subst e;exact aD _ _ _
    ·simp only[kill];rw[aJ _ _ _ _ e];exact q2
 ·refine g.cb.ir ho ht hp hs fun b hlt hni=>hw b (cx hlt g.cb.size) fun o ho' hb'=>?_
  obtain⟨x',hx',hl'⟩:=hk o ho'
  rcases g.place o x' b hx' hl' hb' with h|h
  ·omega
  ·exact hni h
theorem oi{d:Nat}{dst:Option Nat}{de:De}(h:cU s n dst de=true)(hn:de.new=[d]):s.us d=false:=by
 unfold cU at h
 rw[hn]at h
 simp at h
 exact h.1.1
theorem fZ.qo{t:Nat}{ti:TI}(h:fZ P t ti):∃i z,P.info? t=some i/\i.size=ti.sz/\i.bytes=ti.bytes/\i.zero=some z/\CR M β (hD ti) z.cells/\z.cells.size=ti.sz:=by
 obtain⟨i,z,hi,hs,hb,hz,hc,_⟩:=h.info
 have hlen:z.cells.size=ti.lk.length:=by have:=qx hc;simpa using this.symm
 refine⟨i,z,hi,hs,hb,hz,⟨by simp[hD,hlen],fun j hj=>?_,fun u hu=>qC hc u (by simpa using hu)⟩,hlen⟩
 have hj':j<ti.lk.length:=by simpa[hD]using hj
 have:=pX (M:=M) (β:=β) hc j hj'
 have e:j<z.cells.size:=by omega
 simpa[hD,aa,e]using this
theorem CR.cells{cs:List AV}{vs:Array Value}(h:CR M β cs vs){d b:Nat}{e:TypeId}(hw:w.heap[b]?=some (.cells vs e (0,0)))(hM:∀k,M.c b k=none)(hb:β d=some (.cells b)):Own M β w d (.cells cs) :=
 ⟨b,vs,e,hb,hw,h.1,h.2.1,hM,h.2.2⟩
theorem CR.mono{M':Mem}{β':Lo}{cs:List AV}{vs:Array Value}(h:CR M β cs vs)(hM:M.le M')(hβ:Lo.le β β'):CR M' β' cs vs:=⟨h.1,fun i hi=>(h.2.1 i hi).mono hM hβ,h.2.2⟩
theorem tZ(g:cz n A s a w M β)(k:Nat):M.c w.heap.size k=none:=by
 cases e:M.c w.heap.size k with
 |none=>rfl
 |some v=>have:=g.agree.lt e;omega
theorem sy(g:cz n A s a w M β){d:Nat}(hd:s.us d=false)(l:Loc):Lo.le β (bP β d (some l)):=fun o q hq=>by
 by_cases ho:o=d
 ·subst ho;rw[(g.us o hd).1]at hq;cases hq
 ·rw[aJ _ _ _ _ ho];exact hq
theorem lj(g:cz n A s a w M β){o:Oper}{d:Nat}{cs:List AV}{vs:Array Value}{e:TypeId}(hcr:CR M β cs vs)
 (hr:(execOp a.eval o).run P w=.ok (.value (.pointer (some ⟨w.heap.size,0,none⟩))) (w.alloc (.cells vs e))) (hn:cU s n o.dst {val:=.ref d 0,bP:=[(d,some (.cells cs))],new:=[d]}=true) :
 Step P n A o a w (s.app o.dst {val:=.ref d 0,bP:=[(d,some (.cells cs))],new:=[d]}):=by
 have hd:=oi hn rfl
 have hle:=sy g hd (.cells w.heap.size)
 have g':=g.fresh hd none (fun o h=>by cases h) (w':=w.alloc (.cells vs e)) rfl rfl rfl (by simp) (fun b hb _=>heap_alloc_old w _ b hb) (.cells w.heap.size) (.cells cs)
  ((hcr.mono (Mem.le.refl _) hle).cells (heap_alloc_new w _) (tZ g) (aD _ _ _)) (fun b hb=>.inl (by simp[Loc.block]at hb;omega))
 have g2:=cz.put g' (x:=.ref d 0) (v:=.pointer (some ⟨w.heap.size,0,none⟩)) (.ref _ _ _ _ (aD _ _ _)) (eT hn)
 exact⟨_,_,M,bP β d (some (.cells w.heap.size)),.inl hr,g2⟩
theorem zJ(g:cz n A s a w M β){T:dL}(hT:cv P T)(o:Oper)(t:Nat)(ho:o.op=.alloc t) :
 (db T (ev s) s.ob o).holds fun d=>cU s n o.dst d=true->Step P n A o a w (s.app o.dst d):=by
 unfold db
 rw[ho]
 refine DR.aH fun hkn=>?_
 split
 ·rename_i d hd
  intro hn
  obtain⟨i,z,hi,hs,hb,hz,hcr,hsz⟩:=(hT t hkn).qo (M:=M) (β:=β)
  exact lj (P:=P) g hcr (by simp[execOp,ho,Instr.alloc,zeroValue,typeInfo,hi,hz,newVar,newRow];rfl) hn
 ·trivial
theorem GR(g:cz n A s a w M β){T:dL}(hT:cv P T)(o:Oper)(t:Nat)(x:Operand)(ho:o.op=.box t x) :
 (db T (ev s) s.ob o).holds fun d=>cU s n o.dst d=true->Step P n A o a w (s.app o.dst d):=by
 unfold db
 rw[ho]
 refine DR.aH fun hkn=>?_
 split
 ·rename_i d hd
  refine DR.aH fun hq=>?_
  rw[ai]at hq
  intro hn
  obtain⟨f1,f2,f3⟩:=kP (g.ev x) hq.2
  exact lj (P:=P) g (cs:=flat (ev s x)) (vs:=(a.eval x).cells) (e:=t) ⟨f1,f2,f3⟩ (by simp[execOp,ho,Instr.box,newVar,newRow]) hn
 ·trivial
end
end Go.VL
namespace Go.VL
open Go Go.RowKit
section
variable {P:Program} {M:Mem} {β:Lo} {w w':World} {n:Nat} {A:iA} {s:St} {a:Act}
theorem gS{α:Type}(l1 l2:List α)(i:Nat)(d:α):(l1++l2).getD i d=if i<l1.length then l1.getD i d else l2.getD (i-l1.length) d:=by
 simp only[aa,aL]
 split<;>rfl
def gf{α:Type}(l:List α)(k:Nat)(ys:List α):List α:=l.take k++ys++l.drop (k+ys.length)
theorem jd{α:Type}(l:List α)(k:Nat)(ys:List α)(h:k+ys.length<=l.length):(gf l k ys).length=l.length:=by
 simp[gf];omega
theorem i5{α:Type}(l:List α)(k:Nat)(ys:List α)(h:k+ys.length<=l.length)(i:Nat)(d:α):(gf l k ys).getD i d=if k<=i/\i<k+ys.length then ys.getD (i-k) d else l.getD i d:=by
 have ht:(l.take k).length=k:=by simp;omega
 unfold gf
 rw[gS,gS]
 simp only[aq,ht]
 by_cases h1:i<k
 ·rw[if_pos (by omega),if_pos h1,if_neg (by omega)]
  simp[aa,List.getElem?_take,h1]
 ·by_cases h2:i<k+ys.length
  ·rw[if_pos h2,if_neg h1,if_pos ⟨by omega,h2⟩]
  ·rw[if_neg h2,if_neg (by omega)]
   simp only[aa,bV]
   congr 2
   omega
theorem ns{α:Type}:∀(ys l:List α) (k i:Nat) (d:α),k+ys.length<=l.length->(fX l k ys).getD i d=if k<=i/\i<k+ys.length then ys.getD (i-k) d else l.getD i d
 |
  [],l,k,i,d,h=>by
  rw[if_neg (by simp only[aM];omega)];rfl
 |
  y::ys,l,k,i,d,h=>by
  simp only[aw]at h |-
  rw[fX,ns ys (l.set k y) (k+1) i d (by simp;omega)]
  by_cases h1:k+1<=i/\i<k+1+ys.length
  ·rw[if_pos h1,if_pos (by omega)]
   rw[show i-k=(i-(k+1))+1 by omega]
   rfl
  ·rw[if_neg h1]
   by_cases h2:i=k
   ·subst h2
    rw[if_pos (by omega)]
    have:i<l.length:=by omega
    simp[aa,this]
   ·rw[if_neg (by omega)]
    simp[aa,List.getElem?_set,Ne.symm h2]
theorem dO(vs:Array Value)(i:Nat):vs.toList.getD i undef=vs.getD i undef:=by simp[aa]
theorem jH(l:List Value)(i:Nat):l.toArray.getD i undef=l.getD i undef:=by simp[aa]
theorem lI{α:Type}{l:List α}{k:Nat}{ys:List α}{x:α}(h:x∈gf l k ys):x∈l\/x∈ys:=by
 unfold gf at h
 rcases aC.1 h with h|h
 ·rcases aC.1 h with h|h
  ·exact .inl (List.mem_of_mem_take h)
  ·exact .inr h
 ·exact .inl (List.mem_of_mem_drop h)
theorem CR.gf{cs ys:List AV}{vs us:Array Value}(h:CR M β cs vs)(h':CR M β ys us){k:Nat}(hk:k+ys.length<=cs.length):CR M β (VL.fX cs k ys) (VL.gf vs.toList k us.toList).toArray:=by
 have e1:us.toList.length=ys.length:=by simp[h'.1]
 have e2:vs.toList.length=cs.length:=by simp[h.1]
 refine⟨by rw[List.size_toArray,jd _ _ _ (by omega),gU,e2],fun i hi=>?_,fun u hu=>?_⟩
 ·rw[gU]at hi
  rw[ns _ _ _ _ _ hk,jH,i5 _ _ _ (by omega),e1]
  by_cases hc:k<=i/\i<k+ys.length
  ·rw[if_pos hc,if_pos hc,dO];exact h'.2.1 _ (by omega)
  ·rw[if_neg hc,if_neg hc,dO];exact h.2.1 i hi
 ·rcases lI (by simpa using hu)with hu|hu
  ·exact h.2.2 u (by simpa using hu)
  ·exact h'.2.2 u (by simpa using hu)
theorem mF{t b k:Nat}{T:dL}(hT:cv P T)(hkn:(T t).kn=true){v:Value}{vs:Array Value}{e:TypeId}(hw:w.heap[b]?=some (.cells vs e (0,0)))(hs:v.cells.size=(T t).sz)(hk:k+v.cells.size<=vs.size)
 (h1:∀u,u∈v.cells->u.oneCell'=true) :
 (Instr.storeAt t (.pointer (some ⟨b,k,none⟩)) v).run P w=.ok () (w.setRow b (gf vs.toList k v.cells.toList).toArray):=by
 have:=run_storeCells_at P b k e v.cells.toList 0 vs w hw (by simpa using hk) (fun u hu=>h1 u (by simpa using hu))
 simp only[bo]at this
 unfold Instr.storeAt
 simp only[Instr.sureAddr,Sem.run_bind,Sem.run_pure,Result.andThen_ok]
 unfold storeVar
 rw[Sem.run_bind,(hT t hkn).gO w]
 simp only[Result.andThen_ok]
 rw[if_neg (by simp[hs])]
 exact this
theorem Step.skip{o:Oper}{d:De}{M':Mem}{β':Lo}(hr:(execOp a.eval o).run P w=.ok .skip w')(hv:d.val=.any)(hn:cU s n o.dst d=true)(g:cz n A {s with ob:=bX s.ob d.bP,us:=dX s.us d.new} a w' M' β'):Step P n A o a w (s.app o.dst d):=by
 refine⟨undef,w',M',β',.inr ⟨hr,rfl⟩,?_⟩
 have:=cz.put g (x:=.any) (v:=undef) (.any _ _) (eT hn)
 rw[<-hv]at this
 exact this
theorem Step.val{o:Oper}{d:De}{M':Mem}{β':Lo}{v:Value}(hr:(execOp a.eval o).run P w=.ok (.value v) w')(hv:aW M' β' d.val v)(hn:cU s n o.dst d=true)(g:cz n A {s with ob:=bX s.ob d.bP,us:=dX s.us d.new} a w' M' β'):Step P n A o a w (s.app o.dst d) :=
 ⟨v,w',M',β',.inl hr,cz.put g hv (eT hn)⟩
theorem jV{o k:Nat}{v:Value}(h:aW M β (.ref o k) v):∃b,β o=some (.cells b)/\v=.pointer (some ⟨b,k,none⟩):=by
 cases h with|ref _ _ _ b hb=>exact⟨b,hb,rfl⟩
theorem xE{o k:Nat}{v:Value}(h:aW M β (.lO o k) v):∃b,β o=some (.cells b)/\v=.pointer (some ⟨b,k,none⟩):=by
 cases h with|lO _ _ _ b hb=>exact⟨b,hb,rfl⟩
theorem nW(g:cz n A s a w M β){T:dL}(hT:cv P T)(o:Oper)(t:Nat)(x y:Operand)(ho:o.op=.store t x y)(hkn:(T t).kn=true)(hl:(flat (ev s y)).length=(T t).sz)(h1:lf (ev s y)=true)
 {m k b:Nat} {cs:List AV} (hb:β m=some (.cells b)) (hv:a.eval x=.pointer (some ⟨b,k,none⟩)) (hm:s.ob m=some (.cells cs)) (hk:k+(flat (ev s y)).length<=cs.length)
 (hn:cU s n o.dst {val:=.any,bP:=[(m,some (.cells (fX cs k (flat (ev s y)))))]}=true):Step P n A o a w (s.app o.dst {val:=.any,bP:=[(m,some (.cells (fX cs k (flat (ev s y)))))]}):=by
 obtain⟨b',vs,e,q1,q2,q3,q4,q5,q6⟩:=g.own m _ hm
 rw[hb]at q1;cases q1
 have f:=kP (g.ev y) h1
 have hcr:CR M β cs vs:=⟨q3,q4,q6⟩
 have hcr':=hcr.gf (β:=β) (us:=(a.eval y).cells) f hk
 have hx':Own M β (w.setRow b (gf vs.toList k (a.eval y).cells.toList).toArray) m (.cells (fX cs k (flat (ev s y)))) :=
  CR.cells hcr' (setRow_heap w b vs _ e (0,0) q2) q5 hb
 refine Step.skip ?_ rfl hn (g.write hm rfl (by simp[dk,hb,Loc.block]) _ _ hx' rfl)
 have hr:=mF (P:=P) hT hkn (v:=a.eval y) (b:=b) (k:=k) q2 (by rw[f.1,hl]) (by rw[f.1,q3];exact hk) f.2.2
 simp[execOp,ho,hv,hr]
theorem vS(g:cz n A s a w M β){T:dL}(hT:cv P T)(o:Oper)(t:Nat)(x y:Operand)(ho:o.op=.store t x y)(hkn:(T t).kn=true)(hl:(flat (ev s y)).length=(T t).sz)(h1:lf (ev s y)=true)
 {m i k sz:Nat} {es:List (List AV)} {xs:List AV} (hx:ev s x=.kM m i k) (hm:s.ob m=some (.vec sz es)) (hf:kD (VL.freeze s.ob dG) (flat (ev s y))=some (xs,[])) (hi:i<es.length) (hk:k+xs.length<=sz)
 (hn:cU s n o.dst {val:=.any,bP:=[(m,some (.vec sz (es.set i (fX (es.getD i []) k xs))))]}=true):Step P n A o a w (s.app o.dst {val:=.any,bP:=[(m,some (.vec sz (es.set i (fX (es.getD i []) k xs))))]}):=by
 have hrx:=g.ev x
 rw[hx]at hrx
 have:∃sz' b off n' c,β m=some (.vec (.slice (some ⟨b,off,none⟩) n' c) sz')/\a.eval x=.pointer (some ⟨b,off+i*sz'+k,none⟩):=by
  generalize a.eval x=v at hrx
  cases hrx with|kM _ _ _ _ sz' b off n' c hb=>exact⟨sz',b,off,n',c,hb,rfl⟩
 obtain⟨sz',b,off,n',c,hb,hv⟩:=this
 obtain⟨v',q1,q2,q3⟩:=g.own m _ hm
 rw[hb]at q1;cases q1
 rcases q3 with⟨q3,_⟩|⟨b',off',c',vs,e,q3,q4,q5,q6,q7,q8,q9,q10⟩
 ·cases q3
 ·injection q3 with e1 e2 e3
  injection e1 with e1
  injection e1 with e1 e4
  subst e1;subst e4;subst e2;subst e3
  have f:=kP (g.ev y) h1
  obtain⟨z1,z2⟩:=nB (M:=M) (β:=β) (w:=w) (ob:=s.ob) (fun c a' os v=>fu dG c a' os v) _ _ _ hf (fun o ho=>by cases ho)
  have hlt:i*sz+sz<=es.length*sz:=by rw[<-ct];exact aI _ hi
  have hcc:es.length*sz<=c*sz:=aI _ q4
  have hfit:off+i*sz+k+(a.eval y).cells.size<=vs.size:=by rw[f.1];omega
  have ul:(a.eval y).cells.toList.length=xs.length:=by simp[f.1,z1]
  have vl:off+i*sz+k+(a.eval y).cells.toList.length<=vs.toList.length:=by rw[ul];simp;rw[f.1]at hfit;omega
  have hx':Own M β (w.setRow b (gf vs.toList (off+i*sz+k) (a.eval y).cells.toList).toArray) m (.vec sz (es.set i (fX (es.getD i []) k xs))):=by
   refine⟨_,hb,fun j hj=>?_,.inr ⟨b,off,c,_,e,by simp,by simpa using q4,setRow_heap w b vs _ e (0,0) q5,?_,fun i' j hi' hj=>?_,q8,q9,fun u hu=>?_⟩⟩
   ·have hj':j<es.length:=by simpa using hj
    by_cases e:i=j
    ·subst e
     simp only[aa,List.getElem?_set,hi,if_true,Option.getD_some,gU]
     have:=q2 i hi
     simpa[aa]using this
    ·have:=q2 j hj'
     simpa[aa,List.getElem?_set,e]using this
   ·rw[List.size_toArray,jd _ _ _ vl];simpa using q6
   ·have hi'':i'<es.length:=by simpa using hi'
    rw[jH,i5 _ _ _ vl,ul]
    have old:=q7 i' j hi'' hj
    by_cases e:i=i'
    ·subst e
     have e2:(es.set i (fX (es.getD i []) k xs)).getD i []=fX (es.getD i []) k xs:=by simp[aa,hi]
     rw[e2,ns _ _ _ _ _ (by rw[q2 i hi];exact hk)]
     by_cases hc:k<=j/\j<k+xs.length
     ·rw[if_pos hc,if_pos (by omega)]
      have hq:=f.2.1 (j-k) (by omega)
      have:=z2 (j-k) _ (by omega) hq
      rw[dO]
      rw[show off+(i*sz+j)-(off+i*sz+k)=j-k by omega]
      exact this
     ·rw[if_neg hc,if_neg (by omega),dO];exact old
    ·have e2:(es.set i (fX (es.getD i []) k xs)).getD i' []=es.getD i' []:=by simp[aa,List.getElem?_set,e]
     rw[e2]
     have:¬(off+i*sz+k<=off+(i'*sz+j)/\off+(i'*sz+j)<off+i*sz+k+xs.length):=by
      intro⟨p1,p2⟩
      rcases Nat.lt_or_gt_of_ne e with h|h
      ·have:i*sz+sz<=i'*sz:=by rw[<-ct];exact aI _ h
       omega
      ·have:i'*sz+sz<=i*sz:=by rw[<-ct];exact aI _ h
       omega
     rw[if_neg this,dO];exact old
   ·rcases lI (by simpa using hu)with hu|hu
    ·exact q10 u (by simpa using hu)
    ·exact f.2.2 u (by simpa using hu)
  refine Step.skip ?_ rfl hn (g.write hm rfl (by simp[dk,hb,Loc.block]) _ _ hx' rfl)
  have hr:=mF (P:=P) hT hkn (v:=a.eval y) (b:=b) (k:=off+i*sz+k) q5 (by rw[f.1,hl]) hfit f.2.2
  simp[execOp,ho,hv,hr]
theorem Aw(g:cz n A s a w M β){T:dL}(hT:cv P T)(o:Oper)(t:Nat)(x y:Operand)(ho:o.op=.store t x y) :
 (db T (ev s) s.ob o).holds fun d=>cU s n o.dst d=true->Step P n A o a w (s.app o.dst d):=by
 unfold db
 rw[ho]
 refine DR.aH fun hkn=>DR.aH fun hq=>?_
 rw[ai]at hq
 have hl:=au hq.1
 have hx:=g.ev x
 split
 ·rename_i m k e
  rw[e]at hx
  split
  ·rename_i cs hm
   refine DR.aH fun hk=>?_
   intro hn
   obtain⟨b,hb,hv⟩:=jV hx
   exact nW g hT o t x y ho hkn hl hq.2 hb hv hm (aF hk) hn
  ·trivial
 ·rename_i m k e
  rw[e]at hx
  split
  ·rename_i cs hm
   intro hk hn
   obtain⟨b,hb,hv⟩:=xE hx
   exact nW g hT o t x y ho hkn hl hq.2 hb hv hm hk hn
  ·trivial
 ·rename_i m i k e
  split
  ·rename_i sz es hm
   split
   ·rename_i xs hf
    intro⟨hi,hk⟩ hn
    exact vS g hT o t x y ho hkn hl hq.2 e hm hf hi hk hn
   ·trivial
  ·trivial
 ·trivial
end
end Go.VL
namespace Go.VL
open Go Go.RowKit
section
variable {P:Program} {M:Mem} {β:Lo} {w w':World} {n:Nat} {A:iA} {s:St} {a:Act}
theorem pU{T:dL}(hT:cv P T):∀(fl:List Field),(fl.map fun f=>(f.offset,f.type)).all (fun p=>(T p.2).kn)=true ->
 fl.mapM (fun f=>(P.info? f.type).map fun i=>(f.offset,i.size))=some (fl.map fun f=>(f.offset,(T f.type).sz))
 |[],_=>rfl
 |
  f::fl,h=>by
  simp only[aS,cn,ai]at h
  obtain⟨i,z,hi,hs,_⟩:=(hT f.type h.1).info
  rw[List.mapM_cons,pU hT fl h.2,hi]
  simp[hs,TI.sz]
theorem qw{T:dL}{fs:List (Nat×Nat)}{m:Nat}{e:Operand->AV}:∀{ps:List (Nat×Operand)},oJ T fs m e ps=true->∀p,p∈ps->∃off ft,fs[p.1]?=some (off,ft)/\(flat (e p.2)).length=(T ft).sz/\off+(flat (e p.2)).length<=m/\lf (e p.2)=true
 |[],_,p,hp=>by cases hp
 |
  q::ps,h,p,hp=>by
  simp only[oJ,ai]at h
  rcases aB.1 hp with rfl|hp
  ·obtain⟨⟨h1,h2⟩,_⟩:=h
   split at h1
   ·rename_i off ft hf
    simp only[ai]at h1
    exact⟨off,ft,hf,au h1.1,aF h1.2,h2⟩
   ·cases h1
  ·exact qw h.2 p hp
theorem pY{z m:Nat}{e:Operand->AV}:∀{ps:List (Nat×Operand)},oB z m e ps=true->∀p,p∈ps->(flat (e p.2)).length=z/\p.1*z+(flat (e p.2)).length<=m/\lf (e p.2)=true
 |[],_,p,hp=>by cases hp
 |
  q::ps,h,p,hp=>by
  simp only[oB,ai]at h
  rcases aB.1 hp with rfl|hp
  ·exact⟨au h.1.1.1,aF h.1.1.2,h.1.2⟩
  ·exact pY h.2 p hp
theorem CR.agg{cs:List AV}{vs:Array Value}(h:CR M β cs vs):aW M β (.agg cs) (.agg vs):=by
 have e:vs=vs.toList.toArray:=by simp
 rw[e]
 refine .agg _ _ _ (by simp[h.1]) (fun i hi=>?_) fun i hi=>?_
 ·rw[dO];exact jn h.2.2 i (by have:=h.1;omega)
 ·rw[dO];exact h.2.1 i hi
theorem yQ(g:cz n A s a w M β){T:dL}(hT:cv P T)(o:Oper)(t:Nat)(ps:Array (Nat×Operand))(ho:o.op=.build t ps) :
 (db T (ev s) s.ob o).holds (Quiet (oL P M β o a w)):=by
 unfold db
 rw[ho]
 refine DR.aH fun hkn=>?_
 have el:(ps.map fun(i,x)=>(i,a.eval x)).toList=ps.toList.map fun p=>(p.1,a.eval p.2):=by simp
 obtain⟨i,z,hi,hs,hb,hz,hcr,hsz⟩:=(hT t hkn).qo (M:=M) (β:=β)
 have hzl:(hD (T t)).length=(T t).sz:=by simp[hD,TI.sz]
 split
 ·rename_i fs hk
  refine DR.aH fun hq=>?_
  rw[ai]at hq
  obtain⟨fl,hu,hfl⟩:=(hT t hkn).struct hk
  have hp:=pU hT fl.toList (by rw[hfl];exact hq.1)
  obtain⟨vs',h1,h2⟩:=qY g.ev ((fl.toList.map fun f=>(f.offset,(T f.type).sz)).toArray[·]?) (fun i=>(fs.getD i (0,0)).1) ps.toList hcr (fun p hp=>by
   obtain⟨off,ft,f1,f2,f3,f4⟩:=qw hq.2 p hp
   have e1:fs.getD p.1 (0,0)=(off,ft):=by simp[aa,f1]
   refine⟨f4,?_,by rw[e1,hzl];exact f3⟩
   rw[e1,f2]
   rw[<-hfl]at f1
   simp only[List.getElem?_map]at f1
   cases e:fl.toList[p.1]? with
   |none=>rw[e]at f1;cases f1
   |
    some fi =>
    rw[e]at f1
    simp only[cK,Option.some.injEq,Prod.mk.injEq]at f1
    obtain⟨rfl,rfl⟩:=f1
    simp[e])
  refine⟨rfl,rfl,_,?_,h2.agg⟩
  have hbt:P.built t (ps.map fun(i,x)=>(i,a.eval x)).toList=some vs':=by
   rw[el]
   simp only[Program.built,hi,hu,hz,hp]
   exact h1
  simp[execOp,ho,run_build w t _ _ hbt]
 ·rename_i m el' hk
  refine DR.aH fun hq=>?_
  rw[ai]at hq
  obtain⟨ie,ze,hie,hse,_⟩:=(hT el' hq.1).info
  obtain⟨vs',h1,h2⟩:=qY g.ev (fun i=>some (i*ie.size,ie.size)) (fun i=>i*(T el').sz) ps.toList hcr (fun p hp=>by
   obtain⟨f2,f3,f4⟩:=pY hq.2 p hp
   exact⟨f4,by rw[f2,hse];rfl,by rw[hzl];exact f3⟩)
  refine⟨rfl,rfl,_,?_,h2.agg⟩
  have hbt:P.built t (ps.map fun(i,x)=>(i,a.eval x)).toList=some vs':=by
   rw[el]
   simp only[Program.built,hi,(hT t hkn).array hk,hz,hie]
   exact h1
  simp[execOp,ho,run_build w t _ _ hbt]
 ·trivial
theorem foldl_set(k:Nat):∀(us:List Value) (j:Nat) (vs:Array Value),((us.zipIdx j).foldl (fun cs (c,j)=>cs.setIfInBounds (k+j) c) vs).size=vs.size /\
 (∀i,k+j+us.length<=vs.size->((us.zipIdx j).foldl (fun cs (c,j)=>cs.setIfInBounds (k+j) c) vs).getD i undef=if k+j<=i/\i<k+j+us.length then us.getD (i-(k+j)) undef else vs.getD i undef) /\
 ∀u,u∈(us.zipIdx j).foldl (fun cs (c,j)=>cs.setIfInBounds (k+j) c) vs->u∈vs\/u∈us
 |[],j,vs=>⟨rfl,fun i h=>by rw[if_neg (by simp only[aM];omega)];rfl,fun u hu=>.inl hu⟩
 |
  x::us,j,vs=>by
  obtain⟨h1,h2,h3⟩:=foldl_set k us (j+1) (vs.setIfInBounds (k+j) x)
  rw[List.zipIdx_cons,List.foldl_cons]
  refine⟨by rw[h1];simp,fun i h=>?_,fun u hu=>?_⟩
  ·simp only[aw]at h |-
   rw[h2 i (by simp;omega)]
   by_cases hc:k+(j+1)<=i/\i<k+(j+1)+us.length
   ·rw[if_pos hc,if_pos (by omega),show i-(k+j)=(i-(k+(j+1)))+1 by omega];rfl
   ·rw[if_neg hc]
    by_cases e:i=k+j
    ·subst e
     rw[if_pos (by omega)]
     have:k+j<vs.size:=by omega
     simp[this]
    ·rw[if_neg (by omega)]
     simp[Array.getElem?_setIfInBounds,Ne.symm e]
  ·rcases h3 u hu with h|h
   ·rcases Array.mem_or_eq_of_mem_setIfInBounds h with h|h
    ·exact .inl h
    ·exact .inr (by simp[h])
   ·exact .inr (af _ h)
theorem rX(sz:Nat):∀(L:List (Nat×Value)) (k:Nat) (vs:Array Value),L.map (·.1)=List.range' k L.length->(∀p,p∈L->p.2.cells.size=sz)->(k+L.length)*sz<=vs.size ->
 ∃vs',Instr.fill (fun i=>some (i*sz,sz)) vs L=some vs'/\vs'.size=vs.size/\(∀i,i<k*sz->vs'.getD i undef=vs.getD i undef) /\
  (∀i j,i<L.length->j<sz->vs'.getD ((k+i)*sz+j) undef=(L.getD i (0,undef)).2.cells.getD j undef)/\∀u,u∈vs'->u∈vs\/∃p,p∈L/\u∈p.2.cells
 |[],k,vs,_,_,_=>⟨vs,rfl,rfl,fun _ _=>rfl,fun i j hi=>by simp at hi,fun u hu=>.inl hu⟩
 |
  p::L,k,vs,hr,hs,hl=>by
  simp only[aS,aw,List.range'_succ,List.cons.injEq]at hr
  have hp:=hs p ae
  have hle:k*sz+sz<=vs.size:=by
   have:(k+1)*sz<=(k+(L.length+1))*sz:=aI _ (by omega)
   rw[ct]at this
   simp only[aw]at hl
   omega
  obtain⟨f1,f2,f3⟩:=foldl_set (k*sz) p.2.cells.toList 0 vs
  have f2:=fun i=>f2 i (by simp[hp];omega)
  obtain⟨vs',g1,g2,g3,g4,g5⟩:=rX sz L (k+1) ((p.2.cells.toList.zipIdx 0).foldl (fun cs (c,j)=>cs.setIfInBounds (k*sz+j) c) vs) (by simpa using hr.2) (fun q hq=>hs q (af _ hq)) (by rw[f1];simp only[aw]at hl;rw[show k+1+L.length=k+(L.length+1) by omega];exact hl)
  refine⟨vs',?_,by rw[g2,f1],fun i hi=>?_,fun i j hi hj=>?_,fun u hu=>?_⟩
  ·unfold Instr.fill
   rw[hr.1]
   simp only
   rw[if_neg (by simp[hp];omega),<-g1]
   congr 1
   rw[<-Array.foldl_toList]
   simp[Array.toList_zipIdx]
  ·rw[g3 i (by rw[ct];omega),f2,if_neg (by omega)]
  ·cases i with
   |
    zero =>
    rw[bo,g3 _ (by rw[ct];omega),f2,if_pos (by simp[hp];omega)]
    simp only[aQ]
    rw[show k*sz+j-(k*sz+0)=j by omega,dO]
   |
    succ i =>
    have:=g4 i j (by simpa using hi) hj
    rw[show k+(i+1)=k+1+i by omega,this]
    rfl
  ·rcases g5 u hu with h|⟨q,hq,h⟩
   ·rcases f3 u h with h|h
    ·exact .inl h
    ·exact .inr ⟨p,ae,by simpa using h⟩
   ·exact .inr ⟨q,af _ hq,h⟩
theorem vm{ob:Nat->Option Ob}{f:AV->Option (AV×List Nat)}:∀{xs:List AV} {asq:List (List AV)} {os:List Nat},qV f xs=some (asq,os)->Fz M β w ob os ->
 asq.length=xs.length/\∀i,i<xs.length->∃os',kD f (flat (xs.getD i .any))=some (asq.getD i [],os')/\Fz M β w ob os'
 |
  [],asq,os,h,_=>by
  simp[qV]at h
  obtain⟨rfl,rfl⟩:=h
  exact⟨rfl,fun i hi=>by simp at hi⟩
 |
  x::xs,asq,os,h,hz=>by
  unfold qV at h
  split at h
  ·rename_i a1 o1 a2 o2 h1 h2
   cases h
   obtain⟨q1,q2⟩:=vm h2 hz.right
   refine⟨by simp[q1],fun i hi=>?_⟩
   cases i with
   |zero=>exact⟨o1,by simpa using h1,hz.left⟩
   |succ i=>simpa using q2 i (by simpa using hi)
  ·cases h
theorem Hm{sz i j:Nat}(hj:j<sz):(i*sz+j)%sz=j:=by rw[Nat.mul_comm,Nat.mul_add_mod,Nat.mod_eq_of_lt hj]
theorem iZ(g:cz n A s a w M β){o:Oper}{d sz c:Nat}{es:List (List AV)}{vs:Array Value}{e:TypeId}{w1:World}(hh:w1.heap=w.heap)(ho1:w1.os=w.os)(ht1:w1.tape=w.tape)(hp1:w1.output=w.output)(hc:es.length<=c)(hs:∀i,i<es.length->(es.getD i []).length=sz)(hv:c*sz<=vs.size)
 (hr':∀i j,i<es.length->j<sz->aW M cR ((es.getD i []).getD j .any) (vs.getD (i*sz+j) undef)) (h1:∀u,u∈vs->u.oneCell'=true)
 (hr:(execOp a.eval o).run P w=.ok (.value (.slice (some ⟨w.heap.size,0,none⟩) es.length c)) (w1.alloc (.cells vs e))) {u:List (Nat×Option Ob)} {rd:List Nat}
 (k:Option Nat) (hk:∀o,k=some o->∃x,s.ob o=some x/\x.live=true) (hu:bX s.ob u=bP (kill k s.ob) d (some (.vec sz es)))
 (hn:cU s n o.dst {val:=.vec d,bP:=u,rd:=rd,new:=[d]}=true) :
 Step P n A o a w (s.app o.dst {val:=.vec d,bP:=u,rd:=rd,new:=[d]}):=by
 have hd:=oi hn rfl
 have hle:=sy g hd (.vec (.slice (some ⟨w.heap.size,0,none⟩) es.length c) sz)
 have hnew:(w1.alloc (.cells vs e)).heap[w.heap.size]?=some (.cells vs e (0,0)):=by rw[<-hh];exact heap_alloc_new w1 _
 have g':=g.fresh hd k hk (w':=w1.alloc (.cells vs e)) ho1 ht1 hp1 (by simp[hh]) (fun b hb _=>by rw[<-hh];exact heap_alloc_old w1 _ b (by rw[hh];exact hb)) (.vec (.slice (some ⟨w.heap.size,0,none⟩) es.length c) sz) (.vec sz es)
  ⟨_,aD _ _ _,hs,.inr ⟨w.heap.size,0,c,vs,e,rfl,hc,hnew,by simpa using hv,fun i j hi hj=>by rw[aK];exact hr' i j hi hj,tZ g,rfl,h1⟩⟩
  (fun b hb=>.inl (by simp[Loc.block]at hb;omega))
 refine Step.val (M':=M) (β':=bP β d (some (.vec (.slice (some ⟨w.heap.size,0,none⟩) es.length c) sz))) hr (.vec _ _ _ _ rfl (aD _ _ _)) hn ?_
 show cz n A {s with ob:=bX s.ob u,us:=bP s.us d true} a _ M _
 rw[hu]
 exact g'
end
end Go.VL
namespace Go.VL
open Go Go.RowKit
section
variable {P:Program} {M:Mem} {β:Lo} {w w':World} {n:Nat} {A:iA} {s:St} {a:Act}
theorem i3(es:List (List AV))(i:Nat)(h:i<es.length):es.getD i []∈es:=by
 have:es.getD i []=es[i]:=by simp[aa,h]
 rw[this];exact cc h
theorem An{sz:Nat}{asq:List (List AV)}(h:asq.all (fun a=>az a.length sz)=true)(i:Nat)(hi:i<asq.length):(asq.getD i []).length=sz:=by
 rw[bg]at h
 exact au (h _ (i3 asq i hi))
theorem kN(f:Nat->Option Ob):∀(l r:List (Nat×Option Ob)),bX f (l++r)=bX (bX f l) r
 |[],r=>rfl
 |(o,c)::l,r=>by show bX (bP f o c) (l++r)=_;rw[kN (bP f o c) l r];rfl
theorem qX(g:cz n A s a w M β){T:dL}(hT:cv P T)(o:Oper)(t m:Nat)(ps:Array (Nat×Operand))(ho:o.op=.buildSlice t m ps) :
 (db T (ev s) s.ob o).holds fun d=>cU s n o.dst d=true->Step P n A o a w (s.app o.dst d):=by
 unfold db
 rw[ho]
 refine DR.aH fun hkn=>?_
 split
 ·rename_i el d hk hd
  refine DR.aH fun hel=>?_
  split
  ·rename_i asq os hf
   refine DR.aH fun hq=>?_
   simp only[ai]at hq
   obtain⟨⟨⟨hq1,hq2⟩,hq3⟩,hq4⟩:=hq
   intro hn
   obtain⟨M',hM,g'⟩:=g.freeze os
   obtain⟨l1,l2⟩:=vm hf g'.fz
   have hlen:asq.length=ps.toList.length:=by rw[l1];simp
   have hps:ps.toList.map (·.1)=aP m:=by simpa using hq1
   have hm:ps.toList.length=m:=by have:=congrArg dR hps;simpa using this
   obtain⟨i,z,hi,hs,hb,hz,hcr,hsz⟩:=(hT el hel).qo (M:=M') (β:=cR)
   have hsl:=An hq3
   have hpart:∀i,i<ps.toList.length->∃p∈ps.toList,ps.toList[i]?=some p/\(a.eval p.2).cells.size=(T el).sz/\(∀j,j<(T el).sz->aW M' cR ((asq.getD i []).getD j .any) ((a.eval p.2).cells.getD j undef))/\∀u,u∈(a.eval p.2).cells->u.oneCell'=true:=by
    intro i hi
    have hp:ps.toList[i]?=some ps.toList[i]:=aO hi
    refine⟨ps.toList[i],cc hi,hp,?_⟩
    obtain⟨os',z1,z2⟩:=l2 i (by simpa using hi)
    have e1:(List.map (fun p=>ev s p.2) ps.toList).getD i .any=ev s (ps.toList[i]).2:=by simp[aa,hi,hp]
    rw[e1]at z1
    have h1:lf (ev s (ps.toList[i]).2)=true:=(bg.1 hq4) _ (cc hi)
    have f:=kP ((g.ev (ps.toList[i]).2).mono hM (Lo.le.refl _)) h1
    obtain⟨y1,y2⟩:=nB (M:=M') (β:=β) (w:=w) (ob:=s.ob) (fun c a' os v=>fu dG c a' os v) _ _ _ z1 z2
    have hls:=hsl i (by omega)
    refine⟨by rw[f.1,<-y1,hls],fun j hj=>y2 j _ (by omega) (f.2.1 j (by omega)),f.2.2⟩
   have hL:(ps.toList.map fun p=>(p.1,a.eval p.2)).map (·.1)=List.range' 0 (ps.toList.map fun p=>(p.1,a.eval p.2)).length:=by
    rw[List.map_map,bQ,hm,<-List.range_eq_range']
    exact hps
   have hsz':∀p,p∈(ps.toList.map fun p=>(p.1,a.eval p.2))->p.2.cells.size=(T el).sz:=by
    intro p hp
    obtain⟨q,hq,rfl⟩:=bp.1 hp
    obtain⟨i,hi,rfl⟩:=List.getElem_of_mem hq
    obtain⟨p',_,e,h,_⟩:=hpart i hi
    rw[aO hi]at e
    cases e;exact h
   have zsz:((Array.range (m*(T el).sz)).map (z.cells[· % z.cells.size]!)).size=m*(T el).sz:=by simp
   obtain⟨vs',f1,f2,f3,f4,f5⟩:=rX (T el).sz (ps.toList.map fun p=>(p.1,a.eval p.2)) 0 ((Array.range (m*(T el).sz)).map (z.cells[· % z.cells.size]!)) hL hsz' (by rw[zsz];simp[hm])
   have hrun:(Instr.buildSlice t m (ps.map fun(i,x)=>(i,a.eval x))).run P w=.ok (.slice (some ⟨w.heap.size,0,none⟩) m m) (w.alloc (.cells vs' el)):=by
    have e1:(ps.map fun(i,x)=>(i,a.eval x)).toList=ps.toList.map fun p=>(p.1,a.eval p.2):=by simp
    by_cases h0:m*i.size=0
    ·have h0':m*(T el).sz=0:=by rw[<-hs];exact h0
     have:(Array.range (m*(T el).sz)).map (z.cells[· % z.cells.size]!)=(Array.range 0).map (fun _=>default):=by
      rw[h0'];simp[Array.range_zero']
     rw[this]at f1
     simp only[<-hs]at f1
     simp[Instr.buildSlice,run_underlying ((hT t hkn).slice hk),sizeOf,typeInfo,hi,h0,e1,newRow]
     rw[f1]
     simp
    ·refine run_buildSlice w t el m _ vs' i z ((hT t hkn).slice hk) hi hz ?_ h0 ?_
     ·have:=aF hq2;rw[<-hs]at this;omega
     ·rw[e1,hs];exact f1
   have key:∀i j,i<asq.length->j<(T el).sz->aW M' cR ((asq.getD i []).getD j .any) (vs'.getD (i*(T el).sz+j) undef):=by
    intro i j hi hj
    obtain⟨p,_,e,_,h,_⟩:=hpart i (by omega)
    have:=f4 i j (by simp only[bQ];omega) hj
    rw[aK]at this
    rw[this]
    have e2:(ps.toList.map fun p=>(p.1,a.eval p.2)).getD i (0,undef)=(p.1,a.eval p.2):=by simp[aa,e]
    rw[e2]
    exact h j hj
   have ones:∀u,u∈vs'->u.oneCell'=true:=by
    intro u hu
    rcases f5 u hu with h|⟨p,hp,h⟩
    ·simp only[Array.mem_map,Array.mem_range]at h
     obtain⟨j,hj,rfl⟩:=h
     by_cases h0:z.cells.size=0
     ·exfalso;rw[<-hs,show i.size=0 by rw[hs,<-hsz];exact h0]at hj;simp at hj
     ·have:j%z.cells.size<z.cells.size:=Nat.mod_lt _ (by omega)
      rw[getElem!_pos z.cells _ this]
      exact hcr.2.2 _ (Array.getElem_mem this)
    ·obtain⟨q,hq,rfl⟩:=bp.1 hp
     obtain⟨i,hi,rfl⟩:=List.getElem_of_mem hq
     obtain⟨p',_,e,_,_,h'⟩:=hpart i hi
     rw[aO hi]at e
     cases e;exact h' u h
   have hn':cU {s with ob:=bX s.ob (eF s.ob os)} n o.dst {val:=.vec d,bP:=[(d,some (.vec (T el).sz asq))],rd:=[],new:=[d]}=true:=hn
   have hlm:asq.length=m:=by omega
   have st:=iZ (P:=P) (w1:=w) g' (d:=d) (sz:=(T el).sz) (c:=asq.length) (es:=asq) (vs:=vs') (e:=el) rfl rfl rfl rfl (an _) hsl (by rw[f2,zsz,hlm];exact an _) key ones (by
    rw[hlm]
    simp[execOp,ho,hrun]) (u:=[(d,some (.vec (T el).sz asq))]) (rd:=[]) none (fun o h=>by cases h) rfl hn'
   have e:s.app o.dst {val:=.vec d,bP:=eF s.ob os++[(d,some (.vec (T el).sz asq))],new:=[d]}=St.app {s with ob:=bX s.ob (eF s.ob os)} o.dst {val:=.vec d,bP:=[(d,some (.vec (T el).sz asq))],rd:=[],new:=[d]}:=by
    unfold St.app
    simp only[kN]
   rw[e]
   exact st
  ·trivial
 ·trivial
theorem sr(g:cz n A s a w M β){T:dL}(hT:cv P T)(o:Oper)(t:Nat)(l c:Operand)(ho:o.op=.makeSlice t l c) :
 (db T (ev s) s.ob o).holds fun d=>cU s n o.dst d=true->Step P n A o a w (s.app o.dst d):=by
 unfold db
 rw[ho]
 refine DR.aH fun hkn=>?_
 have hl:=g.ev l
 split
 ·rename_i el d k m hk hd e
  rw[e]at hl
  have hlv:=cT hl
  refine DR.aH fun hel=>?_
  rw[ai]at hel
  obtain⟨hel,hpos⟩:=hel
  have hpos:0<(T el).bytes:=aF hpos
  cases hsame:tA l c with
  |false=>simp only[cond_false];trivial
  |
   true =>
   simp only[cond_true]
   have hcv:∃k',a.eval c=.int k' m:=by
    unfold tA at hsame
    split at hsame
    ·have:=au hsame
     subst this;exact⟨k,hlv⟩
    ·rename_i k1 p k2 q
     have:p=q:=by simpa using hsame
     subst this
     have:a.eval (.const (.int k1 p))=.int k1 p:=rfl
     rw[this]at hlv
     cases hlv;exact⟨k2,rfl⟩
    ·cases hsame
   obtain⟨k',hcv⟩:=hcv
   intro⟨h0,hb⟩ hn
   obtain⟨i,z,hi,hs,hby,hz,hcr,hsz⟩:=(hT el hel).qo (M:=M) (β:=cR)
   have hbytes:(i.bytes:Int)*m<=281474976710656:=by rw[hby,Int.mul_comm];omega
   have h63:m<=9223372036854775807:=by
    have:m*1<=m*((T el).bytes:Int):=Int.mul_le_mul_of_nonneg_left (by omega) h0
    omega
   have hr:=run_make (P:=P) w t el i z ((hT t hkn).slice hk) hi hz k k' m m h0 (Int.le_refl _) hbytes h63
   have hlen:(List.replicate m.toNat (hD (T el))).length=m.toNat:=by simp
   have hzl:(hD (T el)).length=(T el).sz:=by simp[hD,TI.sz]
   have hget:∀q,q<m.toNat->(List.replicate m.toNat (hD (T el))).getD q []=hD (T el):=fun q hq=>by simp[aa,hq]
   refine iZ (P:=P) (w1:=w) g (d:=d) (sz:=(T el).sz) (c:=m.toNat) (es:=List.replicate m.toNat (hD (T el))) (vs:=madeCells z.cells (m.toNat*i.size)) (e:=el) rfl rfl rfl rfl (by rw[hlen];exact an _)
    (fun q hq=>by rw[hlen]at hq;rw[hget q hq,hzl]) (by rw[size_madeCells,hs];exact an _) (fun q j hq hj=>?_) (fun u hu=>?_) (by rw[hlen];simp[execOp,ho,hlv,hcv,hr]) none (fun o h=>by cases h) rfl hn
   ·rw[hlen]at hq
    rw[hget q hq]
    have hlt:q*(T el).sz+j<m.toNat*i.size:=by
     have:q*(T el).sz+(T el).sz<=m.toNat*(T el).sz:=by rw[<-ct];exact aI _ hq
     rw[hs];omega
    have e:(madeCells z.cells (m.toNat*i.size)).getD (q*(T el).sz+j) undef=z.cells.getD j undef:=by
     have hj':j<z.cells.size:=by omega
     simp[madeCells,hlt,hsz,Hm hj]
     rw[getElem!_pos z.cells _ hj'];simp[hj']
    rw[e]
    exact hcr.2.1 j (by omega)
   ·simp only[madeCells,Array.mem_map,Array.mem_range]at hu
    obtain⟨j,hj,rfl⟩:=hu
    by_cases h0:z.cells.size=0
    ·exfalso;rw[hs,<-hsz,h0]at hj;simp at hj
    ·have:j%z.cells.size<z.cells.size:=Nat.mod_lt _ (by omega)
     rw[getElem!_pos z.cells _ this]
     exact hcr.2.2 _ (Array.getElem_mem this)
 ·trivial
theorem yp{es fs:List (List AV)}{sz:Nat}{vs:Array Value}{old us:Nat->Value}(hs:∀i,i<es.length->(es.getD i []).length=sz)(hf:cN sz fs)
 (ho:∀i,i<es.length*sz->vs.getD i undef=old i) (hu:∀i,i<fs.length*sz->vs.getD (es.length*sz+i) undef=us i)
 (r1:∀i j,i<es.length->j<sz->aW M cR ((es.getD i []).getD j .any) (old (i*sz+j))) (r2:∀i j,i<fs.length->j<sz->aW M cR ((fs.getD i []).getD j .any) (us (i*sz+j))) :
 (∀i,i<(es++fs).length->((es++fs).getD i []).length=sz)/\∀i j,i<(es++fs).length->j<sz->aW M cR (((es++fs).getD i []).getD j .any) (vs.getD (i*sz+j) undef):=by
 have g1:∀i,i<es.length->(es++fs).getD i []=es.getD i []:=fun i hi=>by rw[gS,if_pos hi]
 have g2:∀i,¬i<es.length->(es++fs).getD i []=fs.getD (i-es.length) []:=fun i hi=>by rw[gS,if_neg hi]
 constructor
 ·intro i hi
  by_cases h:i<es.length
  ·rw[g1 i h];exact hs i h
  ·rw[g2 i h];exact hf _ (i3 fs _ (by simp at hi;omega))
 ·intro i j hi hj
  by_cases h:i<es.length
  ·rw[g1 i h,ho _ (cx (Nat.add_lt_add_left hj _) (by rw[<-ct];exact aI _ h))]
   exact r1 i j h hj
  ·have hi':i-es.length<fs.length:=by simp at hi;omega
   rw[g2 i h]
   have e:i*sz+j=es.length*sz+((i-es.length)*sz+j):=by
    rw[<-dz,<-Nat.add_mul,show es.length+(i-es.length)=i by omega]
   rw[e,hu _ (cx (Nat.add_lt_add_left hj _) (by rw[<-ct];exact aI _ hi'))]
   exact r2 _ j hi' hj
theorem lh{z:Value}(h:∀u,u∈z.cells->u.oneCell'=true)(k:Nat):∀u,u∈Builtin.zeroCells z.cells k->u.oneCell'=true:=by
 intro u hu
 simp only[Builtin.zeroCells,Array.mem_map,Array.mem_range]at hu
 obtain⟨j,hj,rfl⟩:=hu
 by_cases h0:z.cells.size=0
 ·exfalso;rw[h0]at hj;simp at hj
 ·have:j%z.cells.size<z.cells.size:=Nat.mod_lt _ (by omega)
  rw[getElem!_pos z.cells _ this]
  exact h _ (Array.getElem_mem this)
theorem fA{o:Oper}{x y:Operand}{t:Nat}(ho:o.op=.call ⟨.builtin .append,#[x,y],#[t,t]⟩){v:Value}{w':World}(h:(Builtin.append_ #[t,t] o.type #[a.eval x,a.eval y]).run P w=.ok v w') :
 (execOp a.eval o).run P w=.ok (.value v) w':=by
 obtain⟨_,e⟩:=ib (P:=P) (a:=a) (w:=w) ho
 rw[e];simp[builtin,h]
theorem tQ{fs:List (List AV)}{sz b off c:Nat}{us:Nat->Value}(h3:∀i,i<fs.length*sz->w.cell? ⟨b,off+i,none⟩=some (us i)) :
 ((aP (fs.length*sz)).map us).length=fs.length*sz/\∀j v,((aP (fs.length*sz)).map us)[j]?=some v->w.cell? ((⟨b,off,none⟩:Addr).add j)=some v:=by
 refine⟨by simp,fun j v h=>?_⟩
 rw[iu]
 simp only[List.getElem?_map]at h
 by_cases hj:j<fs.length*sz
 ·rw[List.getElem?_range hj]at h
  cases h;exact h3 j hj
 ·rw[List.getElem?_eq_none (by simp;omega)]at h;cases h
theorem rb{vs:List Value}{z:Array Value}{m:Nat}(i:Nat)(hi:i<vs.length):(vs.toArray++z).getD i undef=vs.getD i undef:=by
 simp[aa,Array.getElem?_append,hi]
theorem append_nil(g:cz n A s a w M β){T:dL}(hT:cv P T)(o:Oper){x y:Operand}{t el d sz:Nat}(ho:o.op=.call ⟨.builtin .append,#[x,y],#[t,t]⟩)(hkn:(T t).kn=true)(hk:(T t).k=.slice el)(hel:(T el).kn=true)(hpos:0<(T el).bytes)(hz:sz=(T el).sz)
 {fs:List (List AV)} (hv:a.eval x=.slice none 0 0) (hy:AG w M fs (a.eval y)) (hf:cN sz fs) (hb:fs.length*(T el).bytes<=140737488355328)
 (k:Option Nat) (hkk:∀o,k=some o->∃x,s.ob o=some x/\x.live=true) {u:List (Nat×Option Ob)} {rd:List Nat} (hu:bX s.ob u=bP (kill k s.ob) d (some (.vec sz fs)))
 (hn:cU s n o.dst {val:=.vec d,bP:=u,rd:=rd,new:=[d]}=true):Step P n A o a w (s.app o.dst {val:=.vec d,bP:=u,rd:=rd,new:=[d]}):=by
 have hd:=oi hn rfl
 obtain⟨i,z,hi,hs,hby,hzz,hcr,hsz⟩:=(hT el hel).qo (M:=M) (β:=cR)
 have ht:=(hT t hkn).slice hk
 by_cases hne:fs.length=0
 ·
  have e0:fs=[]:=List.length_eq_zero_iff.1 hne
  subst e0
  have hr:(Builtin.append_ #[t,t] o.type #[a.eval x,a.eval y]).run P w=.ok (.slice none 0 0) w:=by
   rcases hy with⟨hy,_⟩|⟨b,off,c,sz',us,hy,_⟩
   ·simp[hv,hy,Builtin.append_,run_underlying ht,sizeOf,typeInfo,hi,Builtin.lenOf,Builtin.firstCells]
   ·have hl:=run_loadCells (P:=P) w ⟨b,off,none⟩ 0 us (fun j hj=>by omega)
    simp[hv,hy,Builtin.append_,run_underlying ht,sizeOf,typeInfo,hi,Builtin.lenOf,Builtin.firstCells,hl]
  have g':=g.fresh hd k hkk (w':=w) rfl rfl rfl (an _) (fun b hb _=>rfl) (.vec (.slice none 0 0) sz) (.vec sz [])
   ⟨_,aD _ _ _,fun i hi=>by simp at hi,.inl ⟨rfl,rfl⟩⟩ (fun b hb=>by simp[Loc.block]at hb)
  refine Step.val (M':=M) (β':=bP β d (some (.vec (.slice none 0 0) sz))) (fA ho hr) (.vec _ _ _ _ rfl (aD _ _ _)) hn ?_
  show cz n A {s with ob:=bX s.ob u,us:=bP s.us d true} a _ M _
  rw[hu];exact g'
 ·rcases hy with⟨hy,rfl⟩|⟨b,off,c,sz',us,hy,h1,h2,h3,h4,h5⟩
  ·simp at hne
  ·have hsz':sz'=sz:=by rw[<-h2 0 (by omega)];exact hf _ (i3 fs 0 (by omega))
   subst hsz'
   obtain⟨n1,n2⟩:=tQ (c:=c) h3
   have hbb:fs.length<=fs.length*(T el).bytes:=Nat.le_mul_of_pos_right _ hpos
   have hr:=run_append_nil (P:=P) w t o.type el i z ht hi hzz ⟨b,off,none⟩ fs.length c _ (by rw[n1,hs,hz]) n2 (by omega) (by omega) (by rw[hby];omega)
   rw[<-hv,<-hy]at hr
   have hge:=grownCap_ge w fs.length 0 el
   refine iZ (P:=P) (w1:=w.drew) g (sz:=sz') (es:=fs) rfl rfl rfl rfl hge (fun i hi=>h2 i hi) ?_ (fun q j hq hj=>?_) (fun u hu=>?_) (fA ho hr) k hkk hu hn
   ·simp only[Array.size_append,List.size_toArray,n1,size_zeroCells,hsz,<-hz]
    rw[<-Nat.add_mul,show fs.length+(grownCap w fs.length 0 el-fs.length)=grownCap w fs.length 0 el by omega]
    exact an _
   ·have hlt:q*sz'+j<fs.length*sz':=cx (Nat.add_lt_add_left hj _) (by rw[<-ct];exact aI _ hq)
    rw[rb (m:=0) _ (by rw[n1];exact hlt),dq _ _ _ hlt]
    exact h4 q j hq hj
   ·rcases Array.mem_append.1 hu with hu|hu
    ·simp only[List.mem_toArray,bp,List.mem_range]at hu
     obtain⟨j,hj,rfl⟩:=hu
     exact h5 j hj
    ·exact lh hcr.2.2 _ u hu
end
end Go.VL
namespace Go.VL
open Go Go.RowKit
section
variable {P:Program} {M:Mem} {β:Lo} {w w':World} {n:Nat} {A:iA} {s:St} {a:Act}
theorem pM(w:World)(t ty e e':TypeId)(i:TypeInfo)(ht:P.underlying t=some (.slice e))(hi:P.info? e=some i)
 (g sLen sCap:Nat) (cur:Array Value) (hg:w.heap[g]?=some (.cells cur e' (0,0)))
 (a:Addr) (m c:Nat) (news:List Value) (hl:news.length=m*i.size) (hnews:∀j u,news[j]?=some u->w.cell? (a.add j)=some u) (h1:∀u∈news,u.oneCell'=true)
 (hroom:sLen+m<=sCap) (hfit:sLen*i.size+news.length<=cur.size) :
 (Builtin.append_ #[t,t] ty #[.slice (some ⟨g,0,none⟩) sLen sCap,.slice (some a) m c]).run P w =
  .ok (.slice (some ⟨g,0,none⟩) (sLen+m) sCap) (w.setRow g (cur.toList.take (sLen*i.size)++news++cur.toList.drop (sLen*i.size+news.length)).toArray):=by
 have hf:=run_firstCells_some (P:=P) w i.size m a m c news hl hnews
 have hst:=run_storeCells_at P g (sLen*i.size) e' news 0 cur w hg (by simpa using hfit) h1
 simp only[bo]at hst
 simp[Builtin.append_,run_underlying ht,sizeOf,typeInfo,hi,Builtin.lenOf,hroom,hf,iu,hst]
theorem s7(g:cz n A s a w M β){T:dL}(hT:cv P T)(o:Oper){x y:Operand}{t el d m sz:Nat}(ho:o.op=.call ⟨.builtin .append,#[x,y],#[t,t]⟩)(hkn:(T t).kn=true)(hk:(T t).k=.slice el)(hel:(T el).kn=true)(hpos:0<(T el).bytes)(hz:sz=(T el).sz)
 {es fs:List (List AV)} (hx:ev s x=.vec m) (hm:s.ob m=some (.vec sz es)) (hy:AG w M fs (a.eval y)) (hf:cN sz fs) (hb:(es.length+fs.length)*(T el).bytes<=140737488355328) {rd:List Nat}
 (hn:cU s n o.dst {val:=.vec d,bP:=[(m,none),(d,some (.vec sz (es++fs)))],rd:=rd,new:=[d]}=true):Step P n A o a w (s.app o.dst {val:=.vec d,bP:=[(m,none),(d,some (.vec sz (es++fs)))],rd:=rd,new:=[d]}):=by
 have hd:=oi hn rfl
 have hrx:=g.ev x
 rw[hx]at hrx
 obtain⟨v,q1,q2,q3⟩:=g.own m _ hm
 have hv:a.eval x=v:=by
  generalize a.eval x=v' at hrx
  cases hrx with|vec _ _ _ sz' hov hb=>rw[q1]at hb;cases hb;rfl
 have hkk:∀o,some m=some o->∃x,s.ob o=some x/\x.live=true:=fun o h=>by cases h;exact⟨_,hm,rfl⟩
 rcases q3 with⟨rfl,rfl⟩|⟨b,off,c,vs,e,rfl,q4,q5,q6,q7,q8,rfl,q10⟩
 ·exact append_nil g hT o ho hkn hk hel hpos hz hv hy hf (by simpa using hb) (some m) hkk rfl hn
 ·obtain⟨i,z,hi,hs,hby,hzz,hcr,hsz⟩:=(hT el hel).qo (M:=M) (β:=cR)
  have ht:=(hT t hkn).slice hk
  have hcc:es.length*sz<=c*sz:=aI _ q4
  have hbm:dk β m=some b:=by simp[dk,q1,Loc.block]
  have stay:∀(w':World) (vs':Array Value) (c':Nat) (us:Nat->Value),(w'=w/\vs'=vs\/w'=w.setRow b vs')->(execOp a.eval o).run P w=.ok (.value (.slice (some ⟨b,0,none⟩) (es++fs).length c')) w'->(es++fs).length<=c'->c'*sz<=vs'.size ->
   (∀i,i<es.length*sz->vs'.getD i undef=vs.getD (0+i) undef)->(∀i,i<fs.length*sz->vs'.getD (es.length*sz+i) undef=us i)->(∀i j,i<fs.length->j<sz->aW M cR ((fs.getD i []).getD j .any) (us (i*sz+j))) ->
   (∀u,u∈vs'->u.oneCell'=true)->Step P n A o a w (s.app o.dst {val:=.vec d,bP:=[(m,none),(d,some (.vec sz (es++fs)))],rd:=rd,new:=[d]}):=by
   intro w' vs' c' us hw hr hlc hcs hold hnew hus hone
   have hblk:w'.heap[b]?=some (.cells vs' e (0,0)):=by
    rcases hw with⟨rfl,rfl⟩|rfl
    ·exact q5
    ·exact setRow_heap w b vs vs' e (0,0) q5
   have hoth:∀b',b'≠b->w'.heap[b']?=w.heap[b']?:=by
    rcases hw with⟨rfl,rfl⟩|rfl
    ·exact fun _ _=>rfl
    ·exact fun b' hne=>setRow_other w b b' vs' hne
   have hsame:w'.os=w.os/\w'.tape=w.tape/\w'.output=w.output/\w.heap.size<=w'.heap.size:=by
    rcases hw with⟨rfl,rfl⟩|rfl
    ·exact⟨rfl,rfl,rfl,an _⟩
    ·exact⟨rfl,rfl,rfl,by simp⟩
   obtain⟨v1,v2⟩:=yp (M:=M) (es:=es) (fs:=fs) (sz:=sz) (vs:=vs') (old:=fun i=>vs.getD (0+i) undef) (us:=us) q2 hf hold hnew (fun i j hi hj=>q7 i j hi hj) hus
   have g':=g.fresh hd (some m) hkk (w':=w') hsame.1 hsame.2.1 hsame.2.2.1 hsame.2.2.2 (fun b' _ h=>hoth b' fun e=>h m rfl (by rw[e];exact hbm)) (.vec (.slice (some ⟨b,0,none⟩) (es++fs).length c') sz) (.vec sz (es++fs))
    ⟨_,aD _ _ _,v1,.inr ⟨b,0,c',vs',e,rfl,hlc,hblk,by simpa using hcs,fun i j hi hj=>by rw[aK];exact v2 i j hi hj,q8,rfl,hone⟩⟩ (fun b' hb'=>.inr ⟨m,rfl,by simp[Loc.block]at hb';rw[<-hb'];exact hbm⟩)
   exact Step.val (M':=M) (β':=bP β d (some (.vec (.slice (some ⟨b,0,none⟩) (es++fs).length c') sz))) hr (.vec _ _ _ _ rfl (aD _ _ _)) hn g'
  rcases hy with⟨hy,rfl⟩|⟨b',off',c',sz',us,hy,h1,h2,h3,h4,h5⟩
  ·refine stay w vs c (fun _=>undef) (.inl ⟨rfl,rfl⟩) (fA ho ?_) (by simpa using q4) (by simpa using q6) (fun i _=>by rw[aK]) (fun i hi=>by simp at hi) (fun i j hi=>by simp at hi) q10
   simp[hv,hy,Builtin.append_,run_underlying ht,sizeOf,typeInfo,hi,Builtin.lenOf,Builtin.firstCells,q4,storeCells]
  ·by_cases hne:fs.length=0
   ·have e0:fs=[]:=List.length_eq_zero_iff.1 hne
    subst e0
    refine stay w vs c (fun _=>undef) (.inl ⟨rfl,rfl⟩) (fA ho ?_) (by simpa using q4) (by simpa using q6) (fun i _=>by rw[aK]) (fun i hi=>by simp at hi) (fun i j hi=>by simp at hi) q10
    have hl:=run_loadCells (P:=P) w ⟨b',off',none⟩ 0 us (fun j hj=>by omega)
    simp[hv,hy,Builtin.append_,run_underlying ht,sizeOf,typeInfo,hi,Builtin.lenOf,Builtin.firstCells,q4,hl,storeCells]
   ·have hsz':sz'=sz:=by rw[<-h2 0 (by omega)];exact hf _ (i3 fs 0 (by omega))
    subst hsz'
    obtain⟨n1,n2⟩:=tQ (c:=c') h3
    have hbb:es.length+fs.length<=(es.length+fs.length)*(T el).bytes:=Nat.le_mul_of_pos_right _ hpos
    have h1c:∀u,u∈(aP (fs.length*sz')).map us->u.oneCell'=true:=fun u hu=>by
     simp only[bp,List.mem_range]at hu
     obtain⟨j,hj,rfl⟩:=hu
     exact h5 j hj
    by_cases hroom:es.length+fs.length<=c
    ·have hfit:es.length*sz'+fs.length*sz'<=vs.size:=by
      have:(es.length+fs.length)*sz'<=c*sz':=aI _ hroom
      rw[Nat.add_mul]at this;omega
     have hr:=pM (P:=P) w t o.type el e i ht hi b es.length c vs q5 ⟨b',off',none⟩ fs.length c' _ (by rw[n1,hs,hz]) n2 h1c hroom (by rw[n1,hs,<-hz];exact hfit)
     rw[<-hy,<-hv,hs,<-hz]at hr
     have vl:es.length*sz'+((aP (fs.length*sz')).map us).length<=vs.toList.length:=by rw[n1];simpa using hfit
     refine stay _ (gf vs.toList (es.length*sz') ((aP (fs.length*sz')).map us)).toArray c us (.inr rfl) (fA ho ?_) (by simpa using hroom) ?_ (fun i hi=>?_) (fun i hi=>?_) h4 (fun u hu=>?_)
     ·rw[hr,aq];rfl
     ·rw[List.size_toArray,jd _ _ _ vl];simpa using q6
     ·rw[jH,i5 _ _ _ vl,if_neg (by omega),dO,aK]
     ·rw[jH,i5 _ _ _ vl,if_pos (by rw[n1];omega),show es.length*sz'+i-es.length*sz'=i by omega,dq _ _ _ hi]
     ·rcases lI (by simpa using hu)with hu|hu
      ·exact q10 u (by simpa using hu)
      ·exact h1c u hu
    ·
     have holdlen:∀i,i<es.length*sz'->w.cell? ⟨b,0+i,none⟩=some (vs.getD (0+i) undef):=fun i hi=>cell_of q5 _ (by omega)
     obtain⟨m1,m2⟩:=tQ (c:=c) (fs:=es) (sz:=sz') (us:=fun i=>vs.getD (0+i) undef) holdlen
     have hr:=run_append_grow (P:=P) w t o.type el i z ht hi hzz ⟨b,0,none⟩ es.length c _ (by rw[m1,hs,hz]) m2 ⟨b',off',none⟩ fs.length c' _ (by rw[n1,hs,hz]) n2 (by omega) (by omega)
      (by rw[hby];exact growslice_fits (by omega) hb)
     rw[<-hy,<-hv,<-aq]at hr
     have hge:=grownCap_ge w (es++fs).length c el
     have hl1:((aP (es.length*sz')).map fun i=>vs.getD (0+i) undef).toArray++((aP (fs.length*sz')).map us).toArray=(((aP (es.length*sz')).map fun i=>vs.getD (0+i) undef)++(aP (fs.length*sz')).map us).toArray:=by simp
     rw[hl1]at hr
     have ln:(((aP (es.length*sz')).map fun i=>vs.getD (0+i) undef)++(aP (fs.length*sz')).map us).length=es.length*sz'+fs.length*sz':=by rw[aq,m1,n1]
     obtain⟨v1,v2⟩:=yp (M:=M) (es:=es) (fs:=fs) (sz:=sz') (vs:=(((aP (es.length*sz')).map fun i=>vs.getD (0+i) undef)++(aP (fs.length*sz')).map us).toArray++Builtin.zeroCells z.cells (grownCap w (es++fs).length c el-(es++fs).length)) (old:=fun i=>vs.getD (0+i) undef) (us:=us) q2 hf
      (fun i hi=>by rw[rb (m:=0) _ (by rw[ln];omega),gS,if_pos (by rw[m1];exact hi),dq _ _ _ hi]) (fun i hi=>by rw[rb (m:=0) _ (by rw[ln];omega),gS,if_neg (by rw[m1];omega),m1,show es.length*sz'+i-es.length*sz'=i by omega,dq _ _ _ hi])
      (fun i j hi hj=>q7 i j hi hj) h4
     refine iZ (P:=P) (w1:=w.drew) g (sz:=sz') (es:=es++fs) rfl rfl rfl rfl hge v1 ?_ v2 (fun u hu=>?_) (fA ho hr) (some m) hkk rfl hn
     ·simp only[Array.size_append,List.size_toArray,ln,size_zeroCells,hsz,<-hz]
      rw[<-Nat.add_mul,<-Nat.add_mul,<-aq,show (es++fs).length+(grownCap w (es++fs).length c el-(es++fs).length)=grownCap w (es++fs).length c el by omega]
      exact an _
     ·rcases Array.mem_append.1 hu with hu|hu
      ·rw[List.mem_toArray]at hu
       rcases aC.1 hu with hu|hu
       ·simp only[bp,List.mem_range]at hu
        obtain⟨j,hj,rfl⟩:=hu
        exact jn q10 _ (by omega)
       ·exact h1c u hu
      ·exact lh hcr.2.2 _ u hu
theorem xz(g:cz n A s a w M β){T:dL}(hT:cv P T)(o:Oper)(xs:Array Operand)(ts:Array TypeId)(ho:o.op=.call ⟨.builtin .append,xs,ts⟩) :
 (db T (ev s) s.ob o).holds fun d=>cU s n o.dst d=true->Step P n A o a w (s.app o.dst d):=by
 unfold db
 rw[ho]
 simp only
 split
 ·rename_i x y t t' d hxs hts hd
  have ex:xs = #[x,y]:=by rw[<-Array.toArray_toList (xs:=xs),hxs]
  have et:ts = #[t,t']:=by rw[<-Array.toArray_toList (xs:=ts),hts]
  subst ex;subst et
  refine DR.aH fun hq=>?_
  rw[ai]at hq
  obtain⟨hkn,htt⟩:=hq
  obtain rfl:=au htt
  have hx:=g.ev x
  have hy:=g.ev y
  split
  ·rename_i el p fs os hk hes
   refine DR.aH fun hq=>?_
   rw[ai]at hq
   obtain⟨hel,hpos⟩:=hq
   have hpos:0<(T el).bytes:=aF hpos
   split
   ·rename_i m e
    split
    ·rename_i sz es hm
     refine DR.aH fun hz=>DR.fq fun hp=>?_
     intro⟨hf,hb⟩ hn
     have hsl:=jU g.own g.agree hy hes hp
     have hz:=au hz
     subst hz
     exact s7 g hT o ho hkn hk hel hpos rfl e hm hsl hf hb hn
    ·trivial
   ·rename_i e
    rw[e]at hx
    refine DR.fq fun hp=>?_
    intro⟨hf,hb⟩ hn
    have hsl:=jU g.own g.agree hy hes hp
    exact append_nil g hT o ho hkn hk hel hpos rfl (cT hx) hsl hf hb none (fun o h=>by cases h) rfl hn
   ·trivial
  ·trivial
 ·trivial
end
end Go.VL
namespace Go.VL
open Go Go.RowKit
section
variable {P:Program} {M:Mem} {β:Lo} {w w':World} {n:Nat} {A:iA} {s:St} {a:Act}
theorem BJ(g:cz n A s a w M β){T:dL}(hT:cv P T)(o:Oper) :
 (db T (ev s) s.ob o).holds fun d=>cU s n o.dst d=true->Step P n A o a w (s.app o.dst d):=by
 have quiet:(db T (ev s) s.ob o).holds (Quiet (oL P M β o a w))->(db T (ev s) s.ob o).holds fun d=>cU s n o.dst d=true->Step P n A o a w (s.app o.dst d):=fun h=>jY g h
 have conv:∀(r:DR),db T (ev s) s.ob o=r->r.holds (Quiet (oL P M β o a w))->(db T (ev s) s.ob o).holds (Quiet (oL P M β o a w)):=fun r e h=>by rw[e];exact h
 cases ho:o.op with
 |move x=>exact quiet (conv _ (by unfold db;rw[ho];try rfl) (yz g o x (.inl ho)))
 |assign x=>exact quiet (conv _ (by unfold db;rw[ho];try rfl) (yz g o x (.inr ho)))
 |pick c x y=>exact quiet (conv _ (by unfold db;rw[ho];try rfl) (CB g o c x y ho))
 |binOp op t x y t'=>exact quiet (conv _ (by unfold db;rw[ho];try rfl) (Fe g hT o op t t' x y ho))
 |
  unOp op t x =>
  cases op with
  |not=>exact quiet (conv _ (by unfold db;rw[ho];try rfl) (GZ g o t x ho))
  |neg=>exact quiet (conv _ (by unfold db;rw[ho];try rfl) (DI g o t x ho))
  |_=>unfold db;rw[ho];trivial
 |nilCheck x=>exact quiet (conv _ (by unfold db;rw[ho];try rfl) (DX g o x ho))
 |fieldAddr t x f=>exact quiet (conv _ (by unfold db;rw[ho];try rfl) (sM g hT o t f x ho))
 |field t x f=>exact quiet (conv _ (by unfold db;rw[ho];try rfl) (zN g hT o t f x ho))
 |load t x=>exact quiet (conv _ (by unfold db;rw[ho];try rfl) (Dd g hT o t x ho))
 |indexAddr t x i=>exact quiet (conv _ (by unfold db;rw[ho];try rfl) (rS g hT o t x i ho))
 |index t x i=>exact quiet (conv _ (by unfold db;rw[ho];try rfl) (zh g hT o t x i ho))
 |extract x i=>exact quiet (conv _ (by unfold db;rw[ho];try rfl) (wo g o x i ho))
 |
  slice t x lo hi mx =>
  cases mx with
  |none=>exact Ap g hT o t x lo hi ho
  |some m=>unfold db;rw[ho];trivial
 |convert st dt x=>exact quiet (vM g hT o st dt x ho)
 |build t ps=>exact quiet (yQ g hT o t ps ho)
 |alloc t=>exact zJ g hT o t ho
 |box t x=>exact GR g hT o t x ho
 |store t x y=>exact Aw g hT o t x y ho
 |buildSlice t m ps=>exact qX g hT o t m ps ho
 |makeSlice t l c=>exact sr g hT o t l c ho
 |
  call c =>
  obtain⟨callee,xs,ts⟩:=c
  cases callee with
  |
   builtin b =>
   cases b with
   |len=>exact quiet (D0 g hT o xs ts ho)
   |append=>exact xz g hT o xs ts ho
   |max=>exact quiet (GP g o xs ts ho)
   |min=>exact quiet (F8 g o xs ts ho)
   |_=>unfold db;rw[ho];trivial
  |_=>unfold db;rw[ho];trivial
 |
  makeFunc f fs cs =>
  cases f with
  |func f=>exact quiet (tX g o f fs cs ho)
  |_=>unfold db;rw[ho];trivial
 |_=>unfold db;rw[ho];trivial
end
end Go.VL
namespace Go.VL
open Go
abbrev wi:String:="internal/strconv.uint64pow10"
structure pg(P:Program)(M:Mem)(w:World):Prop where
 is:Lib.TabIs P w wi .u64 Lib.pow10Tab
 kn:∃g v,P.globalNamed wi=some g/\M.c g 0=some v
def kf(P:Program)(A:iA):Prop:=pg P A.M0 A.w0/\∀b k v,A.M0.c b k=some v->¬A.rI b
theorem kf.at{P:Program}{A:iA}{M:Mem}{w:World}(h:kf P A)(hk:wx A w)(hM:A.M0.le M):pg P M w:=by
 obtain⟨⟨his,g,v,hg,hc⟩,hI⟩:=h
 refine⟨?_,g,v,hg,hM.c _ _ _ hc⟩
 unfold Lib.TabIs World.var? at his |-
 rw[hg]at his |-
 simp only[Option.bind_some]at his |-
 have hlt:g<A.w0.heap.size:=by
  rcases Nat.lt_or_ge g A.w0.heap.size with h|h
  ·exact h
  ·rw[Array.getElem?_eq_none h]at his;cases his
 rw[hk.block g hlt (hI _ _ _ hc)];exact his
theorem kf.of{P:Program}{A:iA}(h:pg P A.M0 A.w0)(hI:∀b k v,A.M0.c b k=some v->¬A.rI b):kf P A:=⟨h,hI⟩
end Go.VL
namespace Go.VL
open Go Go.RowKit
structure Out(w:World)(M:Mem)(β:Lo)(m:Nat)(r:AV)(obs:List Ob)(v:Value)(w':World)(M':Mem)(β':Lo):Prop where
 le:M.le M'
 agree:fL M' w'
 rep:aW M' β' r v
 own:∀j,j<obs.length->Own M' β' w' j (obs.getD j .dead)
 same:∀j b,j<m->β j=some (.cells b)->β' j=some (.cells b)
 wY:∀j l sz es,j<m->β j=some l->obs.getD j .dead=.kB sz es->β' j=some l
 apart:∀i j b,i≠j->i<obs.length->j<obs.length->(obs.getD i .dead).live=true->(obs.getD j .dead).live=true->dk β' i=some b->dk β' j≠some b
 place:∀j b,j<obs.length->(obs.getD j .dead).live=true->dk β' j=some b->w.heap.size<=b\/∃i,i<m/\dk β i=some b
 new:∀b k v,M'.c b k=some v->M.c b k=some v\/w.heap.size<=b\/∃i,i<m/\dk β i=some b
 cb:wx ⟨w,M,fun b=>∃i,i<m/\dk β i=some b,fun _=>none⟩ w'
def Ew(P:Program)(f:Nat):Prop:=∃fn,P.funcs[f]?=some fn/\fn.body.isNone=false/\(fn.name=="runtime.NumGoroutine")=false
structure In(w:World)(M:Mem)(β:Lo)(asq:List AV)(ins:List Ob)(vs:List Value):Prop where
 len:vs.length=asq.length
 rep:∀i,i<asq.length->aW M β (asq.getD i .any) (vs.getD i undef)
 agree:fL M w
 own:∀j,j<ins.length->Own M β w j (ins.getD j .dead)
 none:∀j,ins.length<=j->β j=none
 apart:∀i j b,i≠j->i<ins.length->j<ins.length->(ins.getD i .dead).live=true->(ins.getD j .dead).live=true->dk β i=some b->dk β j≠some b
def ay(P:Program)(f:Nat)(asq:List AV)(ins:List Ob)(R:AV->List Ob->Prop):Prop :=
 Ew P f/\∀w M β vs,pg P M w->In w M β asq ins vs->Calls P f vs.toArray w fun e w'=>∃v r obs M' β',e=.returned v/\R r obs/\Out w M β ins.length r obs v w' M' β'
def A4(n:Nat)(A:iA)(h:Shape)(xs:List AV)(obs:List Ob)(a:Act)(w:World):Prop:=∃s M β,cz n A s a w M β/\tL h s=some (xs,obs)
def lH(P:Program)(c:Code)(Q:Exit->Act->World->Prop)(a:Act)(w:World):Prop :=
 ∀X:Act->World->Prop,(∀a w,c.wp P (Exit.then X Q) a w->X a w)->X a w
theorem lH.Br{P:Program}{c:Code}{Q:Exit->Act->World->Prop}{a:Act}{w:World}(h:c.wp P (Exit.then (lH P c Q) Q) a w):lH P c Q a w:=by
 intro X hX
 refine hX a w (Code.wp_mono (fun e a w q=>?_) h)
 cases e<;>first|exact q|exact q X hX
theorem lH.wp{P:Program}{c:Code}{Q:Exit->Act->World->Prop}{a:Act}{w:World}(h:lH P c Q a w):(Code.loop c).wp P Q a w:=by
 intro b k cs
 have key:=h (fun a w=>∃e a' w',Q e a' w'/\Arrives P (lone (b.at a (.code c::.inLoop c::k)) cs w) b k cs e a' w') (by
  intro a w h
  obtain⟨e,a₁,w₁,hq,harr⟩:=h b (.inLoop c::k) cs
  cases e with
  |
   normal =>
   obtain⟨e₂,a₂,w₂,hq₂,harr₂⟩:=hq
   exact⟨e₂,a₂,w₂,hq₂,.of_steps (Steps.trans harr (.one step_inLoop)) harr₂⟩
  |exit id=>exact⟨_,a₁,w₁,hq,.pass (x:=.inLoop c) rfl (fun _ _=>.inl (by simp)) harr⟩
  |goto l=>exact⟨_,a₁,w₁,hq,.pass (x:=.inLoop c) rfl (fun _ _=>.inl (by simp)) harr⟩
  |ret=>exact⟨_,a₁,w₁,hq,.pass (x:=.inLoop c) rfl (fun _ _=>.inl (by simp)) harr⟩
  |panic ch=>exact⟨_,a₁,w₁,hq,.pass (x:=.inLoop c) rfl (fun _ _=>.inl (by simp)) harr⟩
  |outgrown=>exact⟨_,a₁,w₁,hq,.pass (x:=.inLoop c) rfl (fun _ _=>.inl (by simp)) harr⟩)
 obtain⟨e,a',w',hq,harr⟩:=key
 exact⟨e,a',w',hq,.of_steps (.one step_loop) harr⟩
def yI(n:Nat)(A:iA)(li:LI)(R:Nat->List AV->List Ob->Prop):Exit->Act->World->Prop
 | .exit i,a,w=>i=li.ex/\∃ys o,R 1 ys o/\A4 n A li.xs ys o a w
 | .ret,a,w=>∃ys o,R 2 ys o/\A4 n A li.rt ys o a w
 |_,_,_=>False
def cL(P:Program)(n:Nat)(c:Code)(li:LI)(xs:List AV)(obs:List Ob)(R:Nat->List AV->List Ob->Prop):Prop :=
 ∀A a w,kf P A->(∀o b,A.fix o=some b->o∈li.fx)->A4 n A li.hd xs obs a w->lH P c (yI n A li R) a w
def dV(P:Program)(n:Nat):Tree->(Nat->List AV->List Ob->Prop)->Prop
 | .fail,_=>False
 | .done tag xs obs,Q=>Q tag xs obs
 | .test b y t,Q=>(b=true->dV P n y Q)/\(b=false->dV P n t Q)
 | .ax p t,Q=>p/\dV P n t Q
 | .call f asq ins k,Q=>∃R,ay P f asq ins R/\(∃r obs,R r obs)/\∀r obs,R r obs->dV P n (k r obs) Q
 | .loop c li xs obs kx kr,Q=>∃R,cL P n c li xs obs R/\(∀ys o,R 1 ys o->dV P n (kx ys o) Q)/\∀ys o,R 2 ys o->dV P n (kr ys o) Q
def fo:List Prop->Prop
 |[]=>True
 |p::ps=>p/\fo ps
theorem fF{P:Program}{n:Nat}{Q:Nat->List AV->List Ob->Prop}:∀{ps:List Prop} {t:Tree},dV P n (mR ps t) Q↔fo ps/\dV P n t Q
 |[],t=>by simp[mR,fo]
 |p::ps,t=>by simp[mR,fo,dV,fF (ps:=ps),and_assoc]
section
variable {P:Program} {M:Mem} {β:Lo} {w w':World} {n:Nat} {A:iA} {s:St} {a:Act}
theorem mc{T:dL}(t:Nat){r:AV}{v:Value}{M':Mem}{β0 β':Lo}(h:aW M' β0 r v)(hh:mT (T t) r):aW M' β' (kA (T t) r) v:=by
 unfold mT at hh
 unfold kA
 cases ha:(T t).agg with
 |
  true =>
  simp only[ha,cond_true]at hh |-
  obtain⟨h1,h2,h3⟩:=hh
  rw[h1]at h
  obtain⟨vs,rfl,hl,hr,ho⟩:=eW h
  have hk:(T t).lk.length=r.cs.length:=h2.symm
  have e:vs=(aP (T t).lk.length).map fun i=>vs.getD i undef:=by
   apply List.ext_getElem
   ·simp[hk,hl]
   ·intro i h1 h2
    simp[aa,h1]
  rw[e]
  exact np h3 (fun i hi=>ho i (by omega)) fun i hi=>jB (by simpa using hr i (by omega)) (jk _ _ _ _ h3 hi)
 |
  false =>
  simp only[ha,cond_false]at hh |-
  exact LK.fM (jB h hh) hh
theorem ux{T:dL}{oa:List CK}{M':Mem}{β0 β':Lo}{vs:List Value}{r:AV}:∀(ts:List Nat) (i j:Nat) (obs:List Ob) (nm:Nat),fo (dA T [] oa r ts i j obs nm).1->(∀q,q<ts.length->aW M' β0 (r.comp (i+q)) (vs.getD (i+q) undef)) ->
 (dA T [] oa r ts i j obs nm).2.2=[]/\(dA T [] oa r ts i j obs nm).2.1.length=ts.length/\∀q,q<ts.length->aW M' β' ((dA T [] oa r ts i j obs nm).2.1.getD q .any) (vs.getD (i+q) undef)
 |[],i,j,obs,nm,_,_=>⟨rfl,rfl,fun q hq=>by simp at hq⟩
 |
  t::ts,i,j,obs,nm,hp,hr=>by
  simp only[dA,List.any_nil,cond_false]at hp |-
  obtain⟨hp1,hp2⟩:=hp
  obtain⟨q1,q2,q3⟩:=ux (vs:=vs) (β':=β') ts (i+1) j obs nm hp2 fun q hq=>by
   have:=hr (q+1) (by simpa using hq)
   rw[show i+(q+1)=i+1+q by omega]at this
   exact this
  refine⟨q1,by simp[q2],fun q hq=>?_⟩
  cases q with
  |zero=>simpa using mc (β':=β') t (hr 0 (by simp)) hp1
  |
   succ q =>
   have:=q3 q (by simpa using hq)
   rw[show i+(q+1)=i+1+q by omega]
   simpa using this
theorem Ad{T:dL}{ow:List LK}{oa:List CK}{M':Mem}{β0 β':Lo}{v:Value}{r:AV}(t j:Nat)(obs:List Ob)(nm:Nat)(hp:fo (da T [] ow oa t r j obs nm).1)(hr:aW M' β0 r v) :
 (da T [] ow oa t r j obs nm).2.2=[]/\aW M' β' (da T [] ow oa t r j obs nm).2.1 v:=by
 have plain:(∀ts,(T t).k≠.tuple ts)->(da T [] ow oa t r j obs nm)=([mT (T t) r],kA (T t) r,[]):=fun h=>by
  unfold da
  cases hk:(T t).k<;>first|rfl|exact absurd hk (h _)
 by_cases htu:∃ts,(T t).k=.tuple ts
 ·obtain⟨ts,hk⟩:=htu
  cases ts with
  |
   nil =>
   have e:da T [] ow oa t r j obs nm=([],.any,[]):=by unfold da;rw[hk]
   rw[e];exact⟨rfl,.any _ _⟩
  |
   cons t1 tl =>
   have e:da T [] ow oa t r j obs nm=(let q:=dA T [] oa r (t1::tl) 0 j obs nm;((r=.cQ ((aP (t1::tl).length).map r.comp))::q.1,.cQ q.2.1,q.2.2)):=by unfold da;rw[hk]
   rw[e]at hp |-
   obtain⟨hp1,hp2⟩:=hp
   rw[hp1]at hr
   have:∃vs:List Value,v=.tuple vs.toArray/\((aP (t1::tl).length).map r.comp).length=vs.length/\∀i,i<((aP (t1::tl).length).map r.comp).length->aW M' β0 (((aP (t1::tl).length).map r.comp).getD i .any) (vs.getD i undef):=by
    cases hr with|cQ _ _ vs hl h=>exact⟨vs,rfl,hl,h⟩
   obtain⟨vs,rfl,hl,h⟩:=this
   simp only[bQ,List.length_range]at hl h
   obtain⟨q1,q2,q3⟩:=ux (T:=T) (β':=β') (vs:=vs) (t1::tl) 0 j obs nm hp2 fun q hq=>by
    have:=h q hq
    rw[aK]
    have hq':q<tl.length+1:=by simpa using hq
    simpa[aa,List.getElem?_range hq']using this
   exact⟨q1,.cQ _ _ _ (by rw[q2];exact hl) fun i hi=>by have:=q3 i (by omega);rw[aK]at this;exact this⟩
 ·rw[plain fun ts h=>htu ⟨ts,h⟩]at hp |-
  exact⟨rfl,mc t hr hp.1⟩
end
end Go.VL
namespace Go.VL
open Go Go.RowKit
section
variable {ob ob':Nat->Option Ob} {tm:Nat->AV}
theorem sw{f f':AV->Option (AV×List Nat)}(hf:∀c a os,f c=some (a,os)->(∀m,m∈os->ob' m=ob m)->f' c=some (a,os)):∀{cs asq:List AV} {os:List Nat},kD f cs=some (asq,os)->(∀m,m∈os->ob' m=ob m)->kD f' cs=some (asq,os)
 |[],asq,os,h,_=>h
 |
  c::cs,asq,os,h,hm=>by
  unfold kD at h
  split at h
  ·rename_i a1 o1 a2 o2 h1 h2
   cases h
   have q1:=hf _ _ _ h1 fun m h=>hm m (ao _ h)
   have q2:=sw hf h2 fun m h=>hm m (ak _ h)
   simp[kD,q1,q2]
  ·cases h
theorem kk:∀(k:Nat) (c a:AV) (os:List Nat),freeze ob k c=some (a,os)->(∀m,m∈os->ob' m=ob m)->freeze ob' k c=some (a,os)
 |0,c,a,os,h,_=>by simp[freeze]at h
 |
  k+1,c,a,os,h,hm=>by
  have ih:=fun c a os=>kk k c a os
  unfold freeze at h |-
  cases c<;>first|exact h|skip
  ·rename_i cs
   simp only at h |-
   cases e:kD (freeze ob k) cs with
   |none=>rw[e]at h;cases h
   |
    some r =>
    rw[e]at h
    simp only[cK,Option.some.injEq,Prod.mk.injEq]at h
    obtain⟨rfl,rfl⟩:=h
    rw[sw ih (by rw[e]) hm];rfl
  ·rename_i o j
   cases j with
   |succ j=>exact h
   |
    zero =>
    simp only at h |-
    have key:∀cs,(ob o=some (.cells cs)\/ob o=some (.fS cs))->((kD (freeze ob k) cs).map fun r=>(AV.ptr r.1,o::r.2))=some (a,os)->ob' o=ob o/\(kD (freeze ob' k) cs).map (fun r=>(AV.ptr r.1,o::r.2))=some (a,os):=by
     intro cs _ h
     cases e:kD (freeze ob k) cs with
     |none=>rw[e]at h;cases h
     |
      some r =>
      rw[e]at h
      simp only[cK,Option.some.injEq,Prod.mk.injEq]at h
      obtain⟨rfl,rfl⟩:=h
      refine⟨hm o ae,?_⟩
      rw[sw ih (by rw[e]) fun m h=>hm m (af _ h)];rfl
    split at h
    ·rename_i cs ho
     obtain⟨q1,q2⟩:=key cs (.inl ho) h
     rw[q1,ho];exact q2
    ·rename_i cs ho
     obtain⟨q1,q2⟩:=key cs (.inr ho) h
     rw[q1,ho];exact q2
    ·cases h
  ·rename_i o
   simp only at h |-
   split at h
   ·rename_i sz es ho
    cases h
    rw[hm o ae,ho]
   ·rename_i es ho
    cases h
    rw[hm o ae,ho]
   ·cases h
theorem AK{c a:AV}(h:ext ob c=some a):ext ob' c=some a:=by
 unfold ext at h |-
 split at h
 ·rename_i a' h1
  cases h
  rw[kk (ob:=ob) (ob':=ob') dG c a [] h1 fun m hm=>by cases hm]
 ·cases h
theorem jS:∀(ks:List CK) {cs asq:List AV} {obs:List Ob} {os:List Nat} {j:Nat},bq ob ks cs j=some (asq,obs,os)->(∀m,m∈os->ob' m=ob m)->bq ob' ks cs j=some (asq,obs,os)
 |
  [],cs,asq,obs,os,j,h,hm=>by
  cases cs with
  |nil=>exact h
  |cons c cs=>simp[bq]at h
 |
  .lk k::ks,cs,asq,obs,os,j,h,hm=>by
  cases cs with
  |nil=>simp[bq]at h
  |
   cons c cs =>
   simp only[bq]at h |-
   split at h
   ·rename_i h1 h2;cases h;rw[AK h1,jS ks h2 hm]
   ·cases h
 |
  .vec hsz::ks,cs,asq,obs,os,j,h,hm=>by
  cases cs with
  |nil=>simp[bq]at h
  |
   cons c cs =>
   cases c<;>first|(simp[bq]at h;done)|skip
   ·rename_i x
    cases x<;>first|(simp[bq]at h;done)|skip
    rename_i ad ln cp
    cases ad<;>first|(simp[bq]at h;done)|skip
    cases ln<;>first|(simp[bq]at h;done)|skip
    cases cp<;>first|(simp[bq]at h;done)|skip
    simp only[bq]at h |-
    split at h
    ·rename_i h2;cases h;rw[jS ks h2 fun m hh=>hm m (af _ hh)]
    ·cases h
   ·simp only[bq]at h |-
    split at h
    ·rename_i h1 h2;cases h;rw[hm _ ae,h1,jS ks h2 fun m hh=>hm m (af _ hh)]
    ·cases h
theorem vn:∀(cD:List (Nat×List CK)) {obs:List Ob} {os:List Nat},nV ob cD=some (obs,os)->(∀m,m∈os->ob' m=ob m)->nV ob' cD=some (obs,os)
 |[],obs,os,h,hm=>h
 |
  (o,ks)::r,obs,os,h,hm=>by
  simp only[nV]at h |-
  split at h
  ·rename_i cs ho
   split at h
   ·rename_i h1 h2
    cases h
    rw[hm o (by simp),ho]
    simp only
    rw[jS ks h1 fun m hh=>hm m (by simp[hh]),vn r h2 fun m hh=>hm m (by simp[hh])]
   ·cases h
  ·cases h
theorem rn:∀(vs:List (Nat×Nat)) {obs:List Ob} {os:List Nat},jz ob tm vs=some (obs,os)->(∀m,m∈os->ob' m=ob m)->jz ob' tm vs=some (obs,os)
 |[],obs,os,h,hm=>h
 |
  (t,sz)::r,obs,os,h,hm=>by
  simp only[jz]at h |-
  split at h
  ·split at h
   ·rename_i h2
    cases h
    rw[rn r h2 fun m hh=>hm m (af _ hh)]
   ·cases h
  ·split at h
   ·rename_i h1 h2
    cases h
    rw[hm _ ae,h1,rn r h2 fun m hh=>hm m (af _ hh)]
   ·cases h
  ·cases h
theorem vq:∀(ags:List (Nat×List CK)) {xs:List AV} {obs:List Ob} {os:List Nat},nN ob tm ags=some (xs,obs,os)->(∀m,m∈os->ob' m=ob m)->nN ob' tm ags=some (xs,obs,os)
 |[],xs,obs,os,h,hm=>h
 |
  (t,ks)::r,xs,obs,os,h,hm=>by
  simp only[nN]at h |-
  split at h
  ·split at h
   ·rename_i h1 h2
    cases h
    rw[jS ks h1 fun m hh=>hm m (ao _ hh),vq r h2 fun m hh=>hm m (ak _ hh)]
   ·cases h
  ·cases h
theorem uf:∀(vs:List (Nat×Nat×Nat)) {obs:List Ob} {os:List Nat},oZ ob tm vs=some (obs,os)->(∀m,m∈os->ob' m=ob m)->oZ ob' tm vs=some (obs,os)
 |[],obs,os,h,hm=>h
 |
  (t,o,sz)::r,obs,os,h,hm=>by
  simp only[oZ]at h |-
  split at h
  ·rename_i o' _
   split at h
   ·rename_i sz' es obs1 os1 h1 h2
    cases hb:(az o' o&&az sz' sz)with
    |false=>rw[hb]at h;cases h
    |
     true =>
     rw[hb]at h
     cases h
     rw[hm _ ae,h1,uf r h2 fun m hh=>hm m (af _ hh)]
     simp only[hb,cond_true]
   ·cases h
  ·cases h
end
end Go.VL
namespace Go.VL
open Go Go.RowKit
section
variable {P:Program} {M:Mem} {β β2:Lo} {w w':World} {n:Nat} {A:iA} {s:St} {a:Act}
structure fg(s:St)(w:World)(M:Mem)(β:Lo)(U:List Nat)(f:Nat->Option Ob)(β2:Lo):Prop where
 own:∀m x,f m=some x->Own M β2 w m x
 G7:∀m,f m=none->β2 m=none
 src:∀m x b,f m=some x->x.live=true->dk β2 m=some b->∃o x0,o∈U/\s.ob o=some x0/\x0.live=true/\dk β o=some b
 apart:∀m m' x x' b,m≠m'->f m=some x->x.live=true->f m'=some x'->x'.live=true->dk β2 m=some b->dk β2 m'≠some b
theorem fg.nil:fg s w M β [] (fun _=>none) cR:=⟨fun m x h=>(by cases h),fun _ _=>rfl,fun m x b h=>(by cases h),fun m m' x x' b _ h=>(by cases h)⟩
theorem fg.le{U:List Nat}{f:Nat->Option Ob}(h:fg s w M β U f β2){m:Nat}(hm:f m=none)(l:Loc):Lo.le β2 (bP β2 m (some l)):=fun o q hq=>by
 by_cases ho:o=m
 ·subst ho;rw[h.G7 o hm]at hq;cases hq
 ·rw[aJ _ _ _ _ ho];exact hq
theorem fg.add(g:cz n A s a w M β){U:List Nat}{f:Nat->Option Ob}(h:fg s w M β U f β2){m:Nat}(hm:f m=none){l:Loc}{x:Ob}(hx:Own M (bP β2 m (some l)) w m x)(o:Nat)(ho:o∉U)
 (hs:∀b,l.block=some b->∃x0,s.ob o=some x0/\x0.live=true/\dk β o=some b):fg s w M β (o::U) (bP f m (some x)) (bP β2 m (some l)):=by
 have hβ:=h.le hm l
 have hbd:∀q b,q≠m->dk (bP β2 m (some l)) q=some b->dk β2 q=some b:=fun q b hq hb=>by unfold dk at hb |-;rw[aJ _ _ _ _ hq]at hb;exact hb
 have hdd:dk (bP β2 m (some l)) m=l.block:=by unfold dk;rw[aD];rfl
 have hf:∀q y,q≠m->bP f m (some x) q=some y->f q=some y:=fun q y hq hy=>by rw[aJ _ _ _ _ hq]at hy;exact hy
 refine⟨fun q y hy=>?_,fun q hq=>?_,fun q y b hy hl hb=>?_,?_⟩
 ·by_cases e:q=m
  ·subst e;rw[aD]at hy;cases hy;exact hx
  ·exact(h.own q y (hf q y e hy)).mono (Mem.le.refl _) hβ fun b hl hb=>⟨rfl,(h.own q y (hf q y e hy)).xY hl hb⟩
 ·by_cases e:q=m
  ·subst e;rw[aD]at hq;cases hq
  ·rw[aJ _ _ _ _ e]at hq |-;exact h.G7 q hq
 ·by_cases e:q=m
  ·subst e
   rw[hdd]at hb
   obtain⟨x0,h1,h2,h3⟩:=hs b hb
   exact⟨o,x0,ae,h1,h2,h3⟩
  ·obtain⟨o',x0,h1,h2⟩:=h.src q y b (hf q y e hy) hl (hbd q b e hb)
   exact⟨o',x0,af _ h1,h2⟩
 ·have key:∀q y b,q≠m->f q=some y->y.live=true->dk β2 q=some b->l.block≠some b:=fun q y b hq hy hl hb hb'=>by
   obtain⟨o',x0,h1,h2,h3,h4⟩:=h.src q y b hy hl hb
   obtain⟨x1,h5,h6,h7⟩:=hs b hb'
   exact g.apart o o' x1 x0 b (fun e=>ho (by rw[e];exact h1)) h5 h6 h2 h3 h7 h4
  intro q q' y y' b hne hy hl hy' hl' hb hb'
  by_cases e:q=m
  ·subst e
   rw[hdd]at hb
   exact key q' y' b (Ne.symm hne) (hf q' y' (Ne.symm hne) hy') hl' (hbd q' b (Ne.symm hne) hb') hb
  ·by_cases e':q'=m
   ·subst e'
    rw[hdd]at hb'
    exact key q y b e (hf q y e hy) hl (hbd q b e hb) hb'
   ·exact h.apart q q' y y' b hne (hf q y e hy) hl (hf q' y' e' hy') hl' (hbd q b e hb) (hbd q' b e' hb')
theorem fg.Ji(g:cz n A s a w M β){U:List Nat}{f:Nat->Option Ob}(h:fg s w M β U f β2)(hfix:∀o b,A.fix o=some b->(f o).isSome=true/\β2 o=some b){tm:Nat->AV}(ht:∀t,aW M β2 (tm t) (a.tmps.getD t undef)) :
 cz n A {tm:=tm,ob:=f,us:=fun x=>(f x).isSome} a w M β2 :=
 {
  size:=g.size,defs:=g.defs,tm:=ht,le:=g.le,new:=g.new,agree:=g.agree,own:=h.own,
  place:=fun o x b hx hl hb=>by obtain⟨o',x0,_,h2,h3,h4⟩:=h.src o x b hx hl hb;exact g.place o' x0 b h2 h3 h4
  apart:=h.apart
  us:=fun o hu=>by
   have:f o=none:=by simpa using hu
   exact⟨h.G7 o this,this⟩
  fix:=fun o b hf=>⟨(hfix o b hf).1,fun _ _=>(hfix o b hf).2⟩
  cb:=g.cb}
theorem fg.vec(g:cz n A s a w M β){U:List Nat}{f:Nat->Option Ob}(h:fg s w M β U f β2){m o sz:Nat}{es:List (List AV)}(hm:f m=none)(ho:o∉U)(hx:s.ob o=some (.vec sz es)) :
 ∃β3,fg s w M β (o::U) (bP f m (some (.vec sz es))) β3/\Lo.le β2 β3/\(∀v,aW M β (.vec o) v->aW M β3 (.vec m) v)/\β3 m=β o:=by
 obtain⟨v,h1,h2,h3⟩:=g.own o _ hx
 refine⟨bP β2 m (some (.vec v sz)),h.add g hm (l:=.vec v sz) (x:=.vec sz es) ⟨v,aD _ _ _,h2,h3⟩ o ho (fun b hb=>⟨_,hx,rfl,by simp[dk,h1];exact hb⟩),h.le hm _,fun u hu=>?_,by rw[aD,h1]⟩
 cases hu with
 |vec _ _ _ sz' hov hb=>rw[h1]at hb;cases hb;exact .vec _ _ _ _ hov (aD _ _ _)
theorem fg.obj(g:cz n A s a w M β){U:List Nat}{f:Nat->Option Ob}(h:fg s w M β U f β2){m o:Nat}{cs asq:List AV}(hm:f m=none)(ho:o∉U)(hx:s.ob o=some (.cells cs))(hl:asq.length=cs.length)
 (hr:∀i v,i<cs.length->aW M β (cs.getD i .any) v->aW M cR (asq.getD i .any) v) :
 ∃β3,fg s w M β (o::U) (bP f m (some (.cells asq))) β3/\Lo.le β2 β3/\∀v,aW M β (.ref o 0) v->aW M β3 (.ref m 0) v:=by
 obtain⟨b,vs,e,h1,h2,h3,h4,h5,h6⟩:=g.own o _ hx
 refine⟨bP β2 m (some (.cells b)),h.add g hm (l:=.cells b) (x:=.cells asq) ⟨b,vs,e,aD _ _ _,h2,by omega,fun i hi=>(hr i _ (by omega) (h4 i (by omega))).up,h5,h6⟩ o ho (fun b' hb=>⟨_,hx,rfl,by simp[dk,h1];exact hb⟩),h.le hm _,fun u hu=>?_⟩
 cases hu with
 |ref _ _ _ b' hb=>rw[h1]at hb;cases hb;exact .ref _ _ _ _ (aD _ _ _)
theorem fg.rk(g:cz n A s a w M β){U:List Nat}{f:Nat->Option Ob}(h:fg s w M β U f β2){m o sz:Nat}(hm:f m=none)(ho:o∉U) :
 ∃β3,fg s w M β (o::U) (bP f m (some (.vec sz []))) β3/\Lo.le β2 β3/\aW M β3 (.vec m) (.slice none 0 0) :=
 ⟨bP β2 m (some (.vec (.slice none 0 0) sz)),h.add g hm (l:=.vec (.slice none 0 0) sz) (x:=.vec sz []) ⟨_,aD _ _ _,fun i hi=>by simp at hi,.inl ⟨rfl,rfl⟩⟩ o ho (fun b hb=>by simp[Loc.block]at hb),h.le hm _,.vec _ _ _ _ rfl (aD _ _ _)⟩
theorem nodup_cons{x:Nat}{l:List Nat}(h:nodup (x::l)=true):x∉l/\nodup l=true:=by
 simp only[nodup,ai,bx]at h
 refine⟨fun hx=>?_,h.2⟩
 have:=h.1
 rw[List.any_eq_false]at this
 exact this x hx (dx x)
theorem dM{l r:List Nat}(h:nodup (l++r)=true):nodup l=true/\nodup r=true/\∀x,x∈l->x∉r:=by
 induction l with
 |nil=>exact⟨rfl,h,fun x hx=>by cases hx⟩
 |
  cons y l ih =>
  obtain⟨h1,h2⟩:=nodup_cons h
  obtain⟨q1,q2,q3⟩:=ih h2
  refine⟨?_,q2,fun x hx=>?_⟩
  ·simp only[nodup,ai,bx,List.any_eq_false]
   exact⟨fun z hz e=>h1 (ao _ (by rw[au e];exact hz)),q1⟩
  ·rcases aB.1 hx with rfl|hx
   ·exact fun hr=>h1 (ak _ hr)
   ·exact q3 x hx
theorem mX(g:cz n A s a w M β):∀(ks:List CK) {cs asq:List AV} {obs:List Ob} {os:List Nat} {j:Nat},bq s.ob ks cs j=some (asq,obs,os) ->
 ∀{U:List Nat} {f:Nat->Option Ob} {β2:Lo} {full:List AV} {i nm:Nat} {rest:List Ob},fg s w M β U f β2->(∀q,q<ks.length->full.getD (i+q) .any=(ek ks asq).getD q .any)->ah ks full i (obs++rest)->(∀m,nm<=m->f m=none)->nodup os=true->(∀o,o∈os->o∉U) ->
 ∃β3 U',fg s w M β U' (bX f (bf ks full i (obs++rest) nm).2.1) β3/\Lo.le β2 β3/\(∀o,o∈U'->o∈os\/o∈U)/\(bf ks full i (obs++rest) nm).2.2=(rest,nm+bb ks)/\(bf ks full i (obs++rest) nm).1.length=cs.length /\
  (∀q v,q<cs.length->aW M β (cs.getD q .any) v->aW M β3 ((bf ks full i (obs++rest) nm).1.getD q .any) v)/\(∀m,nm+bb ks<=m->bX f (bf ks full i (obs++rest) nm).2.1 m=none)/\(∀m,m<nm->bX f (bf ks full i (obs++rest) nm).2.1 m=f m)/\full.length=i+ks.length/\ks.length=cs.length
 |
  [],cs,asq,obs,os,j,h,U,f,β2,full,i,nm,rest,hB,hfull,hk,hnm,hnd,hU=>by
  cases cs with
  |
   nil =>
   simp only[bq,Option.some.injEq,Prod.mk.injEq]at h
   obtain⟨rfl,rfl,rfl⟩:=h
   exact⟨β2,U,hB,Lo.le.refl _,fun o ho=>.inr ho,rfl,rfl,fun q v hq=>by simp at hq,fun m hm=>hnm m (by simpa[bb]using hm),fun m _=>rfl,hk,rfl⟩
  |cons c cs=>simp[bq]at h
 |
  .lk k::ks,cs,asq,obs,os,j,h,U,f,β2,full,i,nm,rest,hB,hfull,hk,hnm,hnd,hU=>by
  cases cs with
  |nil=>simp[bq]at h
  |
   cons c cs =>
   simp only[bq]at h
   split at h
   ·rename_i a1 as1 obs1 os1 h1 h2
    cases h
    obtain⟨hk1,hk2⟩:=hk
    have e0:full.getD i .any=a1:=by simpa[ek]using hfull 0 (by simp)
    obtain⟨β3,U',b1,b2,b3,b4,b5,b6,b7,b8,b9,b10⟩:=mX g ks h2 (i:=i+1) (nm:=nm) (full:=full) hB (fun q hq=>by
     have:=hfull (q+1) (by simpa using hq)
     rw[show i+(q+1)=i+1+q by omega]at this
     simpa[ek]using this) hk2 hnm hnd hU
    refine⟨β3,U',b1,b2,b3,b4,by simp[bf,b5],fun q v hq hr=>?_,b7,b8,by simp;omega,by simp[b10]⟩
    cases q with
    |
     zero =>
     have hr':aW M cR a1 v:=tn h1 (by simpa using hr)
     rw[e0]at hk1
     show aW M β3 ((k.cast (full.getD i .any)::_).getD 0 .any) v
     rw[aQ,e0]
     exact LK.fM (β:=β3) hr' hk1
    |succ q=>simpa[bf]using b6 q v (by simpa using hq) (by simpa using hr)
   ·cases h
 |
  .vec hsz::ks,cs,asq,obs,os,j,h,U,f,β2,full,i,nm,rest,hB,hfull,hk,hnm,hnd,hU=>by
  cases cs with
  |nil=>simp[bq]at h
  |
   cons c cs =>
   have cont:∀(es:List (List AV)) (o:Nat) (as1:List AV) (obs1:List Ob) (os1:List Nat),bq s.ob ks cs (j+1)=some (as1,obs1,os1)->asq=.vec j::as1->obs=.vec hsz es::obs1->os=o::os1->(∃β3,fg s w M β (o::U) (bP f nm (some (.vec hsz es))) β3/\Lo.le β2 β3/\∀v,aW M β c v->aW M β3 (.vec nm) v) ->
    ∃β3 U',fg s w M β U' (bX f (bf (.vec hsz::ks) full i (obs++rest) nm).2.1) β3/\Lo.le β2 β3/\(∀o,o∈U'->o∈os\/o∈U)/\(bf (.vec hsz::ks) full i (obs++rest) nm).2.2=(rest,nm+bb (.vec hsz::ks))/\(bf (.vec hsz::ks) full i (obs++rest) nm).1.length=(c::cs).length /\
   (∀q v,q<(c::cs).length->aW M β ((c::cs).getD q .any) v->aW M β3 ((bf (.vec hsz::ks) full i (obs++rest) nm).1.getD q .any) v)/\(∀m,nm+bb (.vec hsz::ks)<=m->bX f (bf (.vec hsz::ks) full i (obs++rest) nm).2.1 m=none)/\(∀m,m<nm->bX f (bf (.vec hsz::ks) full i (obs++rest) nm).2.1 m=f m)/\full.length=i+(CK.vec hsz::ks).length/\(CK.vec hsz::ks).length=(c::cs).length:=by
    intro es o as1 obs1 os1 h2 ea eo eos ⟨β3,c1,c2,c3⟩
    subst ea;subst eo;subst eos
    obtain⟨n1,n2⟩:=nodup_cons hnd
    obtain⟨β4,U',b1,b2,b3,b4,b5,b6,b7,b8,b9,b10⟩:=mX g ks h2 (i:=i+1) (nm:=nm+1) (full:=full) (rest:=rest) c1 (fun q hq=>by
     have:=hfull (q+1) (by simpa using hq)
     rw[show i+(q+1)=i+1+q by omega]at this
     simpa[ek]using this) hk.2 (fun m hm=>by rw[aJ _ _ _ _ (by omega)];exact hnm m (by omega)) n2 (fun q hq=>by
      intro hh
      rcases aB.1 hh with rfl|hh
      ·exact n1 hq
      ·exact hU q (af _ hq) hh)
    have eb:bf (.vec hsz::ks) full i ((.vec hsz es::obs1)++rest) nm=(.vec nm::(bf ks full (i+1) (obs1++rest) (nm+1)).1,(nm,some (.vec hsz es))::(bf ks full (i+1) (obs1++rest) (nm+1)).2.1,(bf ks full (i+1) (obs1++rest) (nm+1)).2.2):=rfl
    rw[eb]
    refine⟨β4,U',b1,fun o l hl=>b2 o l (c2 o l hl),fun q hq=>?_,?_,by simp[b5],fun q v hq hr=>?_,fun m hm=>?_,fun m hm=>?_,by simp;omega,by simp[b10]⟩
    ·rcases b3 q hq with h|h
     ·exact .inl (af _ h)
     ·rcases aB.1 h with rfl|h
      ·exact .inl ae
      ·exact .inr h
    ·simp only[b4,bb];congr 1;omega
    ·cases q with
     |zero=>simpa using(c3 v (by simpa using hr)).mono (Mem.le.refl _) b2
     |succ q=>simpa using b6 q v (by simpa using hq) (by simpa using hr)
    ·exact b7 m (by simp only[bb]at hm;omega)
    ·have:=b8 m (by omega)
     rw[aJ _ _ _ _ (by omega)]at this
     exact this
   cases c<;>first|(simp[bq]at h;done)|skip
   ·rename_i x
    cases x<;>first|(simp[bq]at h;done)|skip
    rename_i ad ln cp
    cases ad<;>first|(simp[bq]at h;done)|skip
    cases ln<;>first|(simp[bq]at h;done)|skip
    cases cp<;>first|(simp[bq]at h;done)|skip
    simp only[bq]at h
    split at h
    ·rename_i as1 obs1 os1 h2
     cases h
     obtain⟨β3,c1,c2,c3⟩:=fg.rk g hB (m:=nm) (o:=dQ+j) (sz:=hsz) (hnm nm (an _)) (hU _ ae)
     exact cont [] _ as1 obs1 os1 h2 rfl rfl rfl ⟨β3,c1,c2,fun v hv=>by rw[cT hv];exact c3⟩
    ·cases h
   ·rename_i o
    simp only[bq]at h
    split at h
    ·rename_i sz es as1 obs1 os1 h1 h2
     cases h
     have e1:sz=hsz:=by
      have:=hk.1
      simp only[bA,ba,Ob.vec.injEq]at this
      exact this.1
     subst e1
     obtain⟨β3,c1,c2,c3,c4⟩:=fg.vec g hB (m:=nm) (hnm nm (an _)) (hU _ ae) h1
     exact cont es o as1 obs1 os1 h2 rfl rfl rfl ⟨β3,c1,c2,c3⟩
    ·cases h
end
end Go.VL
namespace Go.VL
open Go Go.RowKit
section
variable {P:Program} {M:Mem} {β β2:Lo} {w w':World} {n:Nat} {A:iA} {s:St} {a:Act}
theorem gm{ob:Nat->Option Ob}:∀(ks:List CK) {cs asq:List AV} {obs:List Ob} {os:List Nat} {j:Nat},bq ob ks cs j=some (asq,obs,os)->obs.length=bb ks
 |
  [],cs,asq,obs,os,j,h=>by
  cases cs with
  |nil=>simp only[bq,Option.some.injEq,Prod.mk.injEq]at h;obtain⟨rfl,rfl,rfl⟩:=h;rfl
  |cons c cs=>simp[bq]at h
 |
  .lk k::ks,cs,asq,obs,os,j,h=>by
  cases cs with
  |nil=>simp[bq]at h
  |
   cons c cs =>
   simp only[bq]at h
   split at h
   ·rename_i h1 h2;cases h;exact gm ks h2
   ·cases h
 |
  .vec hsz::ks,cs,asq,obs,os,j,h=>by
  cases cs with
  |nil=>simp[bq]at h
  |
   cons c cs =>
   cases c<;>first|(simp[bq]at h;done)|skip
   ·rename_i x
    cases x<;>first|(simp[bq]at h;done)|skip
    rename_i ad ln cp
    cases ad<;>first|(simp[bq]at h;done)|skip
    cases ln<;>first|(simp[bq]at h;done)|skip
    cases cp<;>first|(simp[bq]at h;done)|skip
    simp only[bq]at h
    split at h
    ·rename_i h2;cases h;simp[bb,gm ks h2]
    ·cases h
   ·simp only[bq]at h
    split at h
    ·rename_i h1 h2;cases h;simp[bb,gm ks h2]
    ·cases h
theorem vk(g:cz n A s a w M β):∀(cD:List (Nat×List CK)) {obs:List Ob} {os:List Nat},nV s.ob cD=some (obs,os)->∀{U:List Nat} {f:Nat->Option Ob} {β2:Lo} {nm:Nat} {rest:List Ob},
 fg s w M β U f β2->fo (rp cD (obs++rest))->(∀m,nm<=m->f m=none)->(∀p,p∈cD->f p.1=none/\p.1<nm)->nodup (cD.map (·.1))=true->nodup os=true->(∀o,o∈os->o∉U) ->
 ∃β3 U',fg s w M β U' (oD cD (obs++rest) f nm).1 β3/\Lo.le β2 β3/\(∀o,o∈U'->o∈os\/o∈U)/\(oD cD (obs++rest) f nm).2=rest/\(∀p,p∈cD->∃b,β p.1=some (.cells b)/\β3 p.1=some (.cells b)/\(∃x,s.ob p.1=some x)/\((oD cD (obs++rest) f nm).1 p.1).isSome=true)/\(∀m,nm+kX cD<=m->(oD cD (obs++rest) f nm).1 m=none)/\obs.length=yN cD /\
  (∀m,(f m).isSome=true->((oD cD (obs++rest) f nm).1 m).isSome=true)
 |
  [],obs,os,h,U,f,β2,nm,rest,hB,hp,hnm,hf,hnd,hno,hU=>by
  simp only[nV,Option.some.injEq,Prod.mk.injEq]at h
  obtain⟨rfl,rfl⟩:=h
  exact⟨β2,U,hB,Lo.le.refl _,fun o ho=>.inr ho,rfl,fun p hp=>(by cases hp),fun m hm=>hnm m (by simpa[kX]using hm),rfl,fun m hm=>hm⟩
 |
  (o,ks)::r,obs,os,h,U,f,β2,nm,rest,hB,hp,hnm,hf,hnd,hno,hU=>by
  simp only[nV]at h
  split at h
  ·rename_i cs ho
   split at h
   ·rename_i asq obs1 os1 obs' os' h1 h2
    cases h
    have hl1:=gm ks h1
    have eo:((.cells (ek ks asq)::obs1++obs')++rest:List Ob)=.cells (ek ks asq)::(obs1++(obs'++rest)):=by simp
    rw[eo]at hp |-
    obtain⟨_,hp2,hp3⟩:=hp
    simp only[ba,bD,Ob.cs]at hp2 hp3
    have hdrop:(obs1++(obs'++rest)).drop (bb ks)=obs'++rest:=by rw[<-hl1];simp
    rw[hdrop]at hp3
    have hno':nodup (o::(os1++os'))=true:=by simpa using hno
    obtain⟨n1,n2⟩:=nodup_cons hno'
    obtain⟨n3,n4,n5⟩:=dM n2
    have hnd':nodup (o::r.map (·.1))=true:=hnd
    obtain⟨d1,d2⟩:=nodup_cons hnd'
    obtain⟨hfo,hlo⟩:=hf (o,ks) ae
    simp only at hfo hlo
    obtain⟨β3,U1,b1,b2,b3,b4,b5,b6,b7,b8,b9,b10⟩:=mX g ks h1 (U:=U) (f:=f) (β2:=β2) (full:=ek ks asq) (i:=0) (nm:=nm) (rest:=obs'++rest) hB (fun q _=>by rw[aK]) hp2 hnm n3 (fun q hq=>hU q (by simp[hq]))
    obtain⟨b,vs,e,q1,q2,q3,q4,q5,q6⟩:=g.own o _ ho
    have hfo':bX f (bf ks (ek ks asq) 0 (obs1++(obs'++rest)) nm).2.1 o=none:=by rw[b8 o hlo];exact hfo
    have hB2:=b1.add g hfo' (l:=.cells b) (x:=.cells (bf ks (ek ks asq) 0 (obs1++(obs'++rest)) nm).1)
     ⟨b,vs,e,aD _ _ _,q2,by rw[q3,b5],fun i hi=>(b6 i _ (by omega) (q4 i (by omega))).mono (Mem.le.refl _) (b1.le hfo' _),q5,q6⟩ o
     (fun hh=>by
      rcases b3 o hh with h|h
      ·exact n1 (ao _ h)
      ·exact hU o (by simp) h)
     (fun b' hb'=>by
      simp only[Loc.block,Option.some.injEq]at hb'
      subst hb'
      exact⟨_,ho,rfl,by simp[dk,q1,Loc.block]⟩)
    obtain⟨β4,U2,c1,c2,c3,c4,c5,c6,c7,c8⟩:=vk g r h2 (rest:=rest) (nm:=nm+bb ks) hB2 hp3 (fun m hm=>by
     rw[aJ _ _ _ _ (by omega)];exact b7 m hm) (fun p hp=>by
     obtain⟨r1,r2⟩:=hf p (af _ hp)
     have hne:p.1≠o:=fun e=>d1 (by rw[<-e];exact bp.2 ⟨p,hp,rfl⟩)
     exact⟨by rw[aJ _ _ _ _ hne,b8 _ r2];exact r1,by omega⟩) d2 n4 (fun q hq hh=>by
     rcases aB.1 hh with rfl|hh
     ·exact n1 (ak _ hq)
     ·rcases b3 q hh with h|h
      ·exact n5 q h hq
      ·exact hU q (by simp[hq]) h)
    have em:oD ((o,ks)::r) (.cells (ek ks asq)::(obs1++(obs'++rest))) f nm=oD r (bf ks (ek ks asq) 0 (obs1++(obs'++rest)) nm).2.2.1 (bP (bX f (bf ks (ek ks asq) 0 (obs1++(obs'++rest)) nm).2.1) o (some (.cells (bf ks (ek ks asq) 0 (obs1++(obs'++rest)) nm).1))) (bf ks (ek ks asq) 0 (obs1++(obs'++rest)) nm).2.2.2:=rfl
    rw[em,b4]
    refine⟨β4,U2,c1,fun q l hl=>c2 q l (b1.le hfo' _ q l (b2 q l hl)),fun q hq=>?_,c4,fun p hp=>?_,fun m hm=>c6 m (by simp only[kX]at hm;omega),by simp[yN,hl1,c7];omega,fun m hm=>c8 m ?_⟩
    ·rcases c3 q hq with h|h
     ·exact .inl (by simp[h])
     ·rcases aB.1 h with rfl|h
      ·exact .inl (by simp)
      ·rcases b3 q h with h|h
       ·exact .inl (by simp[h])
       ·exact .inr h
    ·rcases aB.1 hp with rfl|hp
     ·exact⟨b,q1,c2 _ _ (aD _ _ _),⟨_,ho⟩,c8 _ (by rw[aD];rfl)⟩
     ·exact c5 p hp
    ·by_cases e:m=o
     ·subst e;rw[aD];rfl
     ·rw[aJ _ _ _ _ e]
      have:m<nm:=by
       rcases Nat.lt_or_ge m nm with h|h
       ·exact h
       ·rw[hnm m h]at hm;cases hm
      rw[b8 m this];exact hm
   ·cases h
  ·cases h
theorem uc(g:cz n A s a w M β):∀(ez:List (Nat×Nat)) {obs:List Ob} {os:List Nat},jz s.ob s.tm ez=some (obs,os)->∀{U:List Nat} {f:Nat->Option Ob} {β2:Lo} {nm:Nat} {tm:Nat->AV},
 fg s w M β U f β2->fo (lS ez obs)->(∀m,nm<=m->f m=none)->nodup os=true->(∀o,o∈os->o∉U)->(∀t,aW M β2 (tm t) (a.tmps.getD t undef)) ->
 ∀{rest:List Ob},∃β3 U',fg s w M β U' (nY ez (obs++rest) tm f nm).2 β3/\(∀t,aW M β3 ((nY ez (obs++rest) tm f nm).1 t) (a.tmps.getD t undef))/\Lo.le β2 β3/\(∀o,o∈U'->o∈os\/o∈U)/\(∀m,m<nm->(nY ez (obs++rest) tm f nm).2 m=f m)/\(∀m,nm+ez.length<=m->(nY ez (obs++rest) tm f nm).2 m=none)/\obs.length=ez.length
 |
  [],obs,os,h,U,f,β2,nm,tm,hB,hp,hnm,hno,hU,ht,rest=>by
  simp only[jz,Option.some.injEq,Prod.mk.injEq]at h
  obtain⟨rfl,rfl⟩:=h
  exact⟨β2,U,hB,ht,Lo.le.refl _,fun o ho=>.inr ho,fun m _=>rfl,fun m hm=>hnm m (by simpa using hm),rfl⟩
 |
  (t,sz)::r,obs,os,h,U,f,β2,nm,tm,hB,hp,hnm,hno,hU,ht,rest=>by
  have cont:∀(o:Nat) (es:List (List AV)) (obs1:List Ob) (os1:List Nat),jz s.ob s.tm r=some (obs1,os1)->obs=.vec sz es::obs1->os=o::os1->(∃β3,fg s w M β (o::U) (bP f nm (some (.vec sz es))) β3/\Lo.le β2 β3/\aW M β3 (.vec nm) (a.tmps.getD t undef)) ->
   ∃β3 U',fg s w M β U' (nY ((t,sz)::r) (obs++rest) tm f nm).2 β3/\(∀q,aW M β3 ((nY ((t,sz)::r) (obs++rest) tm f nm).1 q) (a.tmps.getD q undef))/\Lo.le β2 β3/\(∀o,o∈U'->o∈os\/o∈U)/\(∀m,m<nm->(nY ((t,sz)::r) (obs++rest) tm f nm).2 m=f m)/\(∀m,nm+((t,sz)::r).length<=m->(nY ((t,sz)::r) (obs++rest) tm f nm).2 m=none)/\obs.length=((t,sz)::r).length:=by
   intro o es obs1 os1 h2 eo eos ⟨β3,c1,c2,c3⟩
   subst eo;subst eos
   obtain⟨n1,n2⟩:=nodup_cons hno
   obtain⟨β4,U',d1,d2,d3,d4,d5,d6,d7⟩:=uc g r h2 (nm:=nm+1) (tm:=bP tm t (.vec nm)) c1 hp.2 (fun m hm=>by rw[aJ _ _ _ _ (by omega)];exact hnm m (by omega)) n2 (fun q hq hh=>by
    rcases aB.1 hh with rfl|hh
    ·exact n1 hq
    ·exact hU q (af _ hq) hh) (fun q=>by
    by_cases e:q=t
    ·subst e;rw[aD];exact c3
    ·rw[aJ _ _ _ _ e];exact(ht q).mono (Mem.le.refl _) c2) (rest:=rest)
   have ev:nY ((t,sz)::r) ((.vec sz es::obs1)++rest) tm f nm=nY r (obs1++rest) (bP tm t (.vec nm)) (bP f nm (some (.vec sz es))) (nm+1):=rfl
   rw[ev]
   refine⟨β4,U',d1,d2,fun q l hl=>d3 q l (c2 q l hl),fun q hq=>?_,fun m hm=>?_,fun m hm=>d6 m (by simp at hm;omega),by simp[d7]⟩
   ·rcases d4 q hq with hh|hh
    ·exact .inl (af _ hh)
    ·rcases aB.1 hh with rfl|hh
     ·exact .inl ae
     ·exact .inr hh
   ·rw[d5 m (by omega),aJ _ _ _ _ (by omega)]
  simp only[jz]at h
  split at h
  ·rename_i e
   split at h
   ·rename_i obs1 os1 h2
    cases h
    obtain⟨β3,c1,c2,c3⟩:=fg.rk g hB (m:=nm) (o:=2*dQ+t) (sz:=sz) (hnm nm (an _)) (hU _ ae)
    have hv:=g.tm t
    rw[e]at hv
    exact cont _ [] obs1 os1 h2 rfl rfl ⟨β3,c1,c2,by rw[cT hv];exact c3⟩
   ·cases h
  ·rename_i o e
   split at h
   ·rename_i sz' es obs1 os1 h1 h2
    cases h
    have e1:sz'=sz:=by
     have:=hp.1
     simp only[ba,Ob.vec.injEq]at this
     exact this.1
    subst e1
    obtain⟨β3,c1,c2,c3,c4⟩:=fg.vec g hB (m:=nm) (hnm nm (an _)) (hU _ ae) h1
    have hv:=g.tm t
    rw[e]at hv
    exact cont o es obs1 os1 h2 rfl rfl ⟨β3,c1,c2,c3 _ hv⟩
   ·cases h
  ·cases h
theorem SK.fM{β0:Lo}{k:SK}{a:AV}{v:Value}(h:aW M cR a v)(hk:k.has a):aW M β0 (k.cast a) v:=by
 cases k with
 |k k=>exact LK.fM h hk
 |
  agg ks =>
  obtain⟨h1,h2,h3⟩:=hk
  rw[h1]at h
  obtain⟨vs,rfl,hl,hr,ho⟩:=eW h
  have e:vs=(aP ks.length).map fun i=>vs.getD i undef:=by
   apply List.ext_getElem
   ·simp;omega
   ·intro i h1 h2
    simp[aa,h1]
  show aW M β0 (.agg (gX ks a.cs 0)) (.agg vs.toArray)
  rw[e]
  exact np h3 (fun i hi=>ho i (by omega)) fun i hi=>by simpa using hr i (by omega)
 |c u=>rw[hk]at h;rw[cT h];exact .v _ _
theorem uK{β0:Lo}(g:cz n A s a w M β){ob0:Nat->Option Ob}:∀(sl:List (Nat×SK)) {xs:List AV} {fz:List Nat},qe ob0 s.tm sl=some (xs,fz)->Fz M β w ob0 fz->fo (lE sl xs)->∀{tm:Nat->AV},(∀t,aW M β0 (tm t) (a.tmps.getD t undef))->∀t,aW M β0 (td sl xs tm t) (a.tmps.getD t undef)
 |[],xs,fz,h,hz,hp,tm,ht=>ht
 |
  (t,k)::r,xs,fz,h,hz,hp,tm,ht=>by
  simp only[qe]at h
  split at h
  ·rename_i x f asq fs h1 h2
   cases h
   refine uK g r h2 hz.right hp.2 fun q=>?_
   by_cases e:q=t
   ·subst e;rw[aD];exact SK.fM (fu _ _ _ _ _ h1 hz.left (g.tm q)) hp.1
   ·rw[aJ _ _ _ _ e];exact ht q
  ·cases h
theorem u5{β0:Lo}(g:cz n A s a w M β):∀(rf:List (Nat×Nat)),sV s.tm rf=true->(∀p,p∈rf->∀b,β p.2=some (.cells b)->β0 p.2=some (.cells b))->∀{tm:Nat->AV},(∀t,aW M β0 (tm t) (a.tmps.getD t undef))->∀t,aW M β0 (Ak rf tm t) (a.tmps.getD t undef)
 |[],h,hb,tm,ht=>ht
 |
  (t,o)::r,h,hb,tm,ht=>by
  simp only[sV,ai]at h
  refine u5 g r h.2 (fun p hp=>hb p (af _ hp)) fun q=>?_
  by_cases e:q=t
  ·subst e
   rw[aD]
   have h1:=h.1
   split at h1
   ·rename_i o' e'
    have:=au h1
    subst this
    have hv:=g.tm q
    rw[e']at hv
    obtain⟨b,h2,h3⟩:=jV hv
    rw[h3]
    exact .ref _ _ _ _ (hb (q,o) ae b h2)
   ·cases h1
  ·rw[aJ _ _ _ _ e];exact ht q
theorem ph:∀{l r:List (Option Nat)},CQ l r=true->l=r
 |[],[],_=>rfl
 |none::l,none::r,h=>by rw[ph (l:=l) (r:=r) h]
 |
  some x::l,some y::r,h=>by
  simp only[CQ,ai]at h
  rw[ph (l:=l) (r:=r) h.2,au h.1]
 |[],_::_,h=>by cases h
 |none::_,[],h=>by cases h
 |some _::_,[],h=>by cases h
 |none::_,some _::_,h=>by cases h
 |some _::_,none::_,h=>by cases h
theorem zb{β0:Lo}{f:Nat}{js:List (Option Nat)}{v:Value}(h:aW M β (.dS f js) v)(hb:∀o,some o∈js->∀b,β o=some (.cells b)->β0 o=some (.cells b)):aW M β0 (.dS f js) v:=by
 cases h with
 |
  dS _ _ _ b vs hc hl hs ho =>
  refine .dS _ _ _ _ vs hc hl hs fun i o hi e=>?_
  obtain⟨b',q1,q2⟩:=ho i o hi e
  refine⟨b',hb o ?_ b' q1,q2⟩
  rw[<-e]
  simp[aa,hi]
theorem uG{β0:Lo}(g:cz n A s a w M β):∀(cl:List (Nat×Nat×List (Option Nat))),sY s.tm cl=true->(∀p,p∈cl->∀o,some o∈p.2.2->∀b,β o=some (.cells b)->β0 o=some (.cells b))->∀{tm:Nat->AV},(∀t,aW M β0 (tm t) (a.tmps.getD t undef))->∀t,aW M β0 (zH cl tm t) (a.tmps.getD t undef)
 |[],h,hb,tm,ht=>ht
 |
  (t,f,js)::r,h,hb,tm,ht=>by
  simp only[sY,ai]at h
  refine uG g r h.2 (fun p hp=>hb p (af _ hp)) fun q=>?_
  by_cases e:q=t
  ·subst e
   rw[aD]
   have h1:=h.1
   split at h1
   ·rename_i f' js' e'
    simp only[ai]at h1
    have e1:=au h1.1
    have e2:=ph h1.2
    subst e1;subst e2
    have hv:=g.tm q
    rw[e']at hv
    exact zb hv (hb _ ae)
   ·cases h1
  ·rw[aJ _ _ _ _ e];exact ht q
theorem qm{β0:Lo}:∀{caps:List AV} {js:List Nat} {vs:List Value},rQ caps js=true->caps.length=vs.length->(∀i,i<caps.length->aW M β (caps.getD i .any) (vs.getD i undef))->(∀o,o∈js->∀b,β o=some (.cells b)->β0 o=some (.cells b)) ->
 js.length=vs.length/\∀i,i<js.length->aW M β0 ((js.map fun o=>AV.ref o 0).getD i .any) (vs.getD i undef)
 |
  caps,[],vs,h,hl,_,_=>by
  cases caps with
  |nil=>exact⟨hl,fun i hi=>by simp at hi⟩
  |
   cons c caps =>
   unfold rQ at h
   split at h
   ·rename_i he _;cases he
   ·rename_i he;cases he
   ·cases h
 |
  caps,p::js,vs,h,hl,hr,hb=>by
  unfold rQ at h
  split at h
  ·rename_i _ he;cases he
  ·rename_i o r p l he
   cases he
   simp only[ai]at h
   have:=au h.1
   subst this
   cases vs with
   |nil=>simp at hl
   |
    cons u vs =>
    obtain⟨q1,q2⟩:=qm (vs:=vs) h.2 (by simpa using hl) (fun i hi=>by simpa using hr (i+1) (by simpa using hi)) (fun o ho=>hb o (af _ ho))
    refine⟨by simp[q1],fun i hi=>?_⟩
    cases i with
    |
     zero =>
     have:=hr 0 (by simp)
     simp only[aQ]at this
     obtain⟨b,h2,h3⟩:=jV this
     simp only[aS,aQ,h3]
     exact .ref _ _ _ _ (hb o ae b h2)
    |succ i=>simpa using q2 i (by simpa using hi)
  ·cases h
theorem vC{β0:Lo}(g:cz n A s a w M β):∀(fl:List (Nat×Nat×List Nat)),sC s.tm fl=true->(∀p,p∈fl->∀o,o∈p.2.2->∀b,β o=some (.cells b)->β0 o=some (.cells b))->∀{tm:Nat->AV},(∀t,aW M β0 (tm t) (a.tmps.getD t undef))->∀t,aW M β0 (Ac fl tm t) (a.tmps.getD t undef)
 |[],h,hb,tm,ht=>ht
 |
  (t,f,js)::r,h,hb,tm,ht=>by
  simp only[sC,ai]at h
  refine vC g r h.2 (fun p hp=>hb p (af _ hp)) fun q=>?_
  by_cases e:q=t
  ·subst e
   rw[aD]
   have h1:=h.1
   split at h1
   ·rename_i f' caps e'
    simp only[ai]at h1
    have e1:=au h1.1
    subst e1
    have hv:=g.tm q
    rw[e']at hv
    generalize a.tmps.getD q undef=v at hv |-
    cases hv with
    |
     fn _ _ _ vs hl hr =>
     obtain⟨q1,q2⟩:=qm h1.2 hl hr (hb _ ae)
     exact .fn _ _ _ vs (by simpa using q1) fun i hi=>q2 i (by simpa using hi)
   ·cases h1
  ·rw[aJ _ _ _ _ e];exact ht q
theorem uD(g:cz n A s a w M β):∀(ags:List (Nat×List CK)) {xs:List AV} {obs:List Ob} {os:List Nat},nN s.ob s.tm ags=some (xs,obs,os)->∀{U:List Nat} {f:Nat->Option Ob} {β2:Lo} {nm:Nat} {tm:Nat->AV},
 fg s w M β U f β2->∀{rest:List Ob},fo (qZ ags xs (obs++rest))->(∀m,nm<=m->f m=none)->nodup os=true->(∀o,o∈os->o∉U)->(∀t,aW M β2 (tm t) (a.tmps.getD t undef)) ->
 ∃β3 U',fg s w M β U' (tG ags xs (obs++rest) tm f nm).2 β3/\(∀t,aW M β3 ((tG ags xs (obs++rest) tm f nm).1 t) (a.tmps.getD t undef))/\Lo.le β2 β3/\(∀m,m<nm->(tG ags xs (obs++rest) tm f nm).2 m=f m)/\(∀o,o∈U'->o∈os\/o∈U)/\obs.length=kX ags
 |
  [],xs,obs,os,h,U,f,β2,nm,tm,hB,rest,hp,hnm,hno,hU,ht=>by
  simp only[nN,Option.some.injEq,Prod.mk.injEq]at h
  obtain⟨rfl,rfl,rfl⟩:=h
  exact⟨β2,U,hB,ht,Lo.le.refl _,fun m _=>rfl,fun o ho=>.inr ho,rfl⟩
 |
  (t,ks)::r,xs,obs,os,h,U,f,β2,nm,tm,hB,rest,hp,hnm,hno,hU,ht=>by
  simp only[nN]at h
  split at h
  ·rename_i cs ecs
   split at h
   ·rename_i asq obs1 os1 xs' obs' os' h1 h2
    cases h
    have hl1:=gm ks h1
    rw[bH]at hp |-
    obtain⟨_,hp2,hp3⟩:=hp
    simp only[ba,bD,AV.cs]at hp2 hp3
    have hdrop:(obs1++(obs'++rest)).drop (bb ks)=obs'++rest:=by rw[<-hl1];simp
    rw[hdrop]at hp3
    obtain⟨n3,n4,n5⟩:=dM hno
    obtain⟨β3,U1,b1,b2,b3,b4,b5,b6,b7,b8,b9,b10⟩:=mX g ks h1 (U:=U) (f:=f) (β2:=β2) (full:=ek ks asq) (i:=0) (nm:=nm) (rest:=obs'++rest) hB (fun q _=>by rw[aK]) hp2 hnm n3 (fun q hq=>hU q (ao _ hq))
    have hrep:=g.tm t
    rw[ecs]at hrep
    obtain⟨vs,ev,hl,hr,ho⟩:=eW hrep
    obtain⟨β4,U2,c1,c2,c3,c4,c5,c6⟩:=uD g r h2 (nm:=nm+bb ks) (tm:=bP tm t (.agg (bf ks (ek ks asq) 0 (obs1++(obs'++rest)) nm).1)) b1 (rest:=rest) hp3 b7 n4 (fun q hq hh=>by
     rcases b3 q hh with h|h
     ·exact n5 q h hq
     ·exact hU q (ak _ hq) h) (fun q=>by
     by_cases e:q=t
     ·subst e
      rw[aD,ev]
      refine .agg _ _ _ (by omega) (fun i hi=>ho i (by omega)) fun i hi=>b6 i _ (by omega) ?_
      simpa using hr i (by omega)
     ·rw[aJ _ _ _ _ e];exact(ht q).mono (Mem.le.refl _) b2)
    have em:tG ((t,ks)::r) (.agg (ek ks asq)::xs') (obs1++(obs'++rest)) tm f nm=tG r xs' (bf ks (ek ks asq) 0 (obs1++(obs'++rest)) nm).2.2.1 (bP tm t (.agg (bf ks (ek ks asq) 0 (obs1++(obs'++rest)) nm).1)) (bX f (bf ks (ek ks asq) 0 (obs1++(obs'++rest)) nm).2.1) (bf ks (ek ks asq) 0 (obs1++(obs'++rest)) nm).2.2.2:=rfl
    rw[em,b4]
    exact⟨β4,U2,c1,c2,fun q l hl=>c3 q l (b2 q l hl),fun m hm=>by rw[c4 m (by omega),b8 m hm],fun q hq=>(by
     rcases c5 q hq with h|h
     ·exact .inl (ak _ h)
     ·rcases b3 q h with h|h
      ·exact .inl (ao _ h)
      ·exact .inr h),by simp[kX,hl1,c6]⟩
   ·cases h
  ·cases h
theorem oS:∀(ks:List CK) (cs:List AV) (i:Nat) (obs:List Ob) (nm:Nat),(∀p,p∈(bf ks cs i obs nm).2.1->nm<=p.1)/\nm<=(bf ks cs i obs nm).2.2.2
 |[],cs,i,obs,nm=>⟨fun p hp=>(by cases hp),an _⟩
 | .lk k::ks,cs,i,obs,nm=>oS ks cs (i+1) obs nm
 |
  .vec h::ks,cs,i,obs,nm=>by
  obtain⟨h1,h2⟩:=oS ks cs (i+1) obs.tail (nm+1)
  refine⟨fun p hp=>?_,Nat.le_of_succ_le h2⟩
  rcases aB.1 hp with rfl|hp
  ·exact an _
  ·exact Nat.le_of_succ_le (h1 p hp)
theorem uC:∀(l:List (Nat×Option Ob)) (f:Nat->Option Ob) (m:Nat),(∀p,p∈l->p.1≠m)->bX f l m=f m
 |[],f,m,h=>rfl
 |
  (q,c)::l,f,m,h=>by
  show bX (bP f q c) l m=f m
  rw[uC l _ m fun p hp=>h p (af _ hp),aJ _ _ _ _ (Ne.symm (h (q,c) ae))]
theorem ur:∀(cD:List (Nat×List CK)) (obs:List Ob) (f:Nat->Option Ob) (nm m:Nat),m<nm->(∀p,p∈cD->p.1≠m)->(oD cD obs f nm).1 m=f m
 |[],obs,f,nm,m,hm,h=>rfl
 |
  (o,ks)::r,obs,f,nm,m,hm,h=>by
  obtain⟨h1,h2⟩:=oS ks (obs.headD .dead).cs 0 obs.tail nm
  show (oD r _ (bP (bX f (bf ks (obs.headD .dead).cs 0 obs.tail nm).2.1) o _) (bf ks (obs.headD .dead).cs 0 obs.tail nm).2.2.2).1 m=f m
  rw[ur r _ _ _ m (by omega) fun p hp=>h p (af _ hp),aJ _ _ _ _ (Ne.symm (h (o,ks) ae)),uC _ _ _ fun p hp=>(by have:=h1 p hp;omega)]
theorem vt(g:cz n A s a w M β):∀(kv:List (Nat×Nat×Nat)) {obs:List Ob} {os:List Nat},oZ s.ob s.tm kv=some (obs,os)->∀{U:List Nat} {f:Nat->Option Ob} {β2:Lo} {tm:Nat->AV},
 fg s w M β U f β2->(∀p,p∈kv->f p.2.1=none)->nodup (kv.map (·.2.1))=true->nodup os=true->(∀o,o∈os->o∉U)->(∀t,aW M β2 (tm t) (a.tmps.getD t undef)) ->
 ∃β3 U',fg s w M β U' (sU kv obs tm f).2 β3/\(∀t,aW M β3 ((sU kv obs tm f).1 t) (a.tmps.getD t undef))/\Lo.le β2 β3/\(∀m,(∀p,p∈kv->p.2.1≠m)->(sU kv obs tm f).2 m=f m)/\∀p,p∈kv->β3 p.2.1=β p.2.1/\((sU kv obs tm f).2 p.2.1).isSome=true/\∃x,s.ob p.2.1=some x
 |[],obs,os,h,U,f,β2,tm,hB,hf,hnd,hno,hU,ht=>⟨β2,U,hB,ht,Lo.le.refl _,fun m _=>rfl,fun p hp=>(by cases hp)⟩
 |
  (t,o,sz)::r,obs,os,h,U,f,β2,tm,hB,hf,hnd,hno,hU,ht=>by
  simp only[oZ]at h
  split at h
  ·rename_i o' e
   split at h
   ·rename_i sz' es obs1 os1 h1 h2
    cases hb:(az o' o&&az sz' sz)with
    |false=>rw[hb]at h;cases h
    |
     true =>
     rw[hb]at h
     simp only[ai]at hb
     obtain⟨hb1,hb2⟩:=hb
     have e1:=au hb1
     have e2:=au hb2
     subst e1;subst e2
     cases h
     obtain⟨n1,n2⟩:=nodup_cons hno
     have hnd':nodup (o'::r.map (·.2.1))=true:=hnd
     obtain⟨d1,d2⟩:=nodup_cons hnd'
     have hne:∀p,p∈r->p.2.1≠o':=fun p hp e=>d1 (by rw[<-e];exact bp.2 ⟨p,hp,rfl⟩)
     obtain⟨β3,c1,c2,c3,c4⟩:=fg.vec g hB (m:=o') (hf _ ae) (hU _ ae) h1
     have hv:=g.tm t
     rw[e]at hv
     obtain⟨β4,U',b1,b2,b3,b4,b5⟩:=vt g r h2 (tm:=bP tm t (.vec o')) c1 (fun p hp=>by rw[aJ _ _ _ _ (hne p hp)];exact hf p (af _ hp)) d2 n2 (fun q hq hh=>by
      rcases aB.1 hh with rfl|hh
      ·exact n1 hq
      ·exact hU q (af _ hq) hh) (fun q=>by
      by_cases e:q=t
      ·subst e;rw[aD];exact c3 _ hv
      ·rw[aJ _ _ _ _ e];exact(ht q).mono (Mem.le.refl _) c2)
     refine⟨β4,U',b1,b2,fun q l hl=>b3 q l (c2 q l hl),fun m hm=>?_,fun p hp=>?_⟩
     ·show (sU r obs1 (bP tm t (.vec o')) (bP f o' (some (.vec sz' es)))).2 m=f m
      rw[b4 m fun p hp=>hm p (af _ hp),aJ _ _ _ _ (Ne.symm (hm _ ae))]
     ·rcases aB.1 hp with rfl|hp
      ·obtain⟨l,hl⟩:=(g.own _ _ h1).B8 (by intro e;cases e)
       refine⟨?_,?_,_,h1⟩
       ·show β4 o'=β o'
        rw[hl];rw[hl]at c4;exact b3 _ _ c4
       ·show ((sU r obs1 (bP tm t (.vec o')) (bP f o' (some (.vec sz' es)))).2 o').isSome=true
        rw[b4 o' hne,aD];rfl
      ·exact b5 p hp
   ·cases h
  ·cases h
theorem qv{ob:Nat->Option Ob}{tm:Nat->AV}:∀(sl:List (Nat×SK)) {xs:List AV} {fz:List Nat},qe ob tm sl=some (xs,fz)->xs.length=sl.length
 |[],xs,fz,h=>by cases h;rfl
 |
  (t,k)::r,xs,fz,h=>by
  simp only[qe]at h
  split at h
  ·rename_i h1 h2;cases h;simp[qv r h2]
  ·cases h
theorem sH:∀(sl:List (Nat×SK)) (xs ys:List AV) (f:Nat->AV),xs.length=sl.length->td sl (xs++ys) f=td sl xs f
 |[],[],ys,f,h=>rfl
 |
  (t,k)::r,x::xs,ys,f,h=>by
  simp only[bA,td,bD,ba]
  exact sH r xs ys _ (by simpa using h)
 |[],_::_,_,_,h=>by cases h
 |_::_,[],_,_,h=>by cases h
theorem pf:∀(sl:List (Nat×SK)) (xs ys:List AV),xs.length=sl.length->lE sl (xs++ys)=lE sl xs
 |[],[],ys,h=>rfl
 |
  (t,k)::r,x::xs,ys,h=>by
  simp only[bA,lE,bD,ba]
  rw[pf r xs ys (by simpa using h)]
 |[],_::_,_,h=>by cases h
 |_::_,[],_,h=>by cases h
theorem oX:∀(vs:List (Nat×Nat)) (o r:List Ob),o.length=vs.length->lS vs (o++r)=lS vs o
 |[],[],r,h=>rfl
 |
  (t,k)::vs,x::o,r,h=>by
  simp only[bA,lS,bD,ba]
  rw[oX vs o r (by simpa using h)]
 |[],_::_,_,h=>by cases h
 |_::_,[],_,h=>by cases h
theorem nj{ob:Nat->Option Ob}{tm:Nat->AV}:∀(vs:List (Nat×Nat)) {o:List Ob} {os:List Nat},jz ob tm vs=some (o,os)->o.length=vs.length
 |
  [],o,os,h=>by
  simp only[jz,Option.some.injEq,Prod.mk.injEq]at h
  rw[<-h.1];rfl
 |
  (t,sz)::r,o,os,h=>by
  simp only[jz]at h
  split at h
  ·split at h
   ·rename_i h2;cases h;simp[nj r h2]
   ·cases h
  ·split at h
   ·rename_i h1 h2;cases h;simp[nj r h2]
   ·cases h
  ·cases h
theorem gV:∀{l r:List Prop},fo (l++r)->fo l/\fo r
 |[],r,h=>⟨trivial,h⟩
 |p::l,r,h=>by obtain⟨h1,h2⟩:=h;obtain⟨h3,h4⟩:=gV h2;exact⟨⟨h1,h3⟩,h4⟩
theorem xc{fx:List Nat}{h:Shape}(hf:qM fx h=true){o:Nat}(ho:o∈fx):(∃q,q∈h.cD/\q.1=o)\/∃q,q∈h.kv/\q.2.1=o:=by
 unfold qM at hf
 rw[bg]at hf
 have:=hf o ho
 rw[br]at this
 rcases this with this|this
 ·rw[bB]at this
  obtain⟨q,hq,e⟩:=this
  exact .inl ⟨q,hq,au e⟩
 ·rw[bB]at this
  obtain⟨q,hq,e⟩:=this
  exact .inr ⟨q,hq,au e⟩
theorem nK(ob0:Nat->Option Ob):∀(os:List Nat) (f:Nat->Option Ob) (o:Nat),o∉os->bX f (eF ob0 os) o=f o
 |[],f,o,h=>rfl
 |
  q::os,f,o,h=>by
  show bX (bP f q (ca (ob0 q))) (eF ob0 os) o=_
  rw[nK ob0 os _ o (fun hh=>h (af _ hh)),aJ _ _ _ _ (fun e=>h (by rw[e];exact ae))]
theorem s4(g:cz n A s a w M β){h:Shape}{xs:List AV}{obs:List Ob}{fx:List Nat}(hfx:qM fx h=true)(hA:∀o b,A.fix o=some b->o∈fx)(hc:tL h s=some (xs,obs))(hp:fo (uk h xs obs)):fa n A (EB h xs obs) a w:=by
 unfold tL at hc
 split at hc
 ·rename_i xs' fz o1 n1 o2 n2 ys o3 n3 o4 n4 h1 h2 h3 h4 h5
  cases hq:(((sV s.tm h.refs&&(sY s.tm h.vQ&&sC s.tm h.fns))&&!((n1++(n2++(n3++n4))).any (e9 fz)))&&(nodup (n1++(n2++(n3++n4)))&&rA h))with
  |false=>rw[hq]at hc;cases hc
  |
   true =>
   rw[hq]at hc
   simp only[cond_true,Option.some.injEq,Prod.mk.injEq]at hc
   obtain⟨rfl,rfl⟩:=hc
   simp only[ai,rA]at hq
   obtain⟨⟨⟨q1,q1c,q1f⟩,q0⟩,q2,⟨q3,q3k⟩,q4k,q5,q7,q6,q6c,q6f⟩:=hq
   obtain⟨q4,q4v,q4x⟩:=dM q4k
   have hdj:∀m,m∈n1++(n2++(n3++n4))->m∉fz:=fun m hm hf=>by
    rw[bx,List.any_eq_false]at q0
    exact q0 m hm (by unfold e9;exact bB.2 ⟨m,hf,dx m⟩)
   obtain⟨M1,hM,g1⟩:=g.freeze fz
   have hsame:∀m,m∈n1++(n2++(n3++n4))->bX s.ob (eF s.ob fz) m=s.ob m:=fun m hm=>nK s.ob fz s.ob m (hdj m hm)
   replace h2:=vn (ob':=bX s.ob (eF s.ob fz)) h.cD h2 fun m hm=>hsame m (ao _ hm)
   replace h3:=rn (ob':=bX s.ob (eF s.ob fz)) h.ez h3 fun m hm=>hsame m (ak _ (ao _ hm))
   replace h4:=vq (ob':=bX s.ob (eF s.ob fz)) h.pP h4 fun m hm=>hsame m (ak _ (ak _ (ao _ hm)))
   replace h5:=uf (ob':=bX s.ob (eF s.ob fz)) h.kv h5 fun m hm=>hsame m (ak _ (ak _ (ak _ hm)))
   have gfz:=g1.fz
   obtain⟨m1,m23,m3⟩:=dM q2
   obtain⟨m2,m45,m5⟩:=dM m23
   obtain⟨m4,m6,m7⟩:=dM m45
   have lx:=qv h.bY h1
   have lv:=nj h.ez h3
   have hp':fo (lE h.bY (xs'++ys)++(rp h.cD (o1++(o2++(o3++o4)))++(lS h.ez ((o1++(o2++(o3++o4))).drop (yN h.cD))++(qZ h.pP ((xs'++ys).drop h.bY.length) (((o1++(o2++(o3++o4))).drop (yN h.cD)).drop h.ez.length)++s6 h.kv ((((o1++(o2++(o3++o4))).drop (yN h.cD)).drop h.ez.length).drop (kX h.pP)))))):=hp
   obtain⟨p1,p23⟩:=gV hp'
   obtain⟨p2,p34⟩:=gV p23
   obtain⟨p3,p45⟩:=gV p34
   obtain⟨p4,_⟩:=gV p45
   rw[pf _ _ _ lx]at p1
   rw[bg]at q3 q3k q6 q6c q6f
   obtain⟨β3,U,b1,b2,b3,b4,b5,b6,b7,b8⟩:=vk g1 h.cD h2 (nm:=gL) (rest:=o2++(o3++o4)) fg.nil p2 (fun _ _=>rfl) (fun p hp=>⟨rfl,aF (q3 p hp)⟩) q4 m1 (fun _ _ hh=>by cases hh)
   have hdrop:(o1++(o2++(o3++o4))).drop (yN h.cD)=o2++(o3++o4):=by rw[<-b7];simp
   have hdrop2:(o2++(o3++o4)).drop h.ez.length=o3++o4:=by rw[<-lv];simp
   have hdrop3:(xs'++ys).drop h.bY.length=ys:=by rw[<-lx];simp
   rw[hdrop,oX _ _ _ lv]at p3
   rw[hdrop,hdrop2,hdrop3]at p4
   have htm:∀t,aW M1 β3 (Ac h.fns (zH h.vQ (Ak h.refs (td h.bY xs' (fun _=>.any)))) t) (a.tmps.getD t undef) :=
    vC g1 h.fns q1f (fun p hp o ho b hb=>by
     have:=q6f p hp
     rw[bg]at this
     have:=this _ ho
     simp only[G5]at this
     rw[bB]at this
     obtain⟨q,hq,he⟩:=this
     have he:=au he
     obtain⟨b',c1,c2,_⟩:=b5 q hq
     rw[he]at c1 c2
     rw[hb]at c1;cases c1;exact c2) <|
    uG g1 h.vQ q1c (fun p hp o ho b hb=>by
     have:=q6c p hp
     rw[bg]at this
     have:=this _ ho
     simp only[G5]at this
     rw[bB]at this
     obtain⟨q,hq,he⟩:=this
     have he:=au he
     obtain⟨b',c1,c2,_⟩:=b5 q hq
     rw[he]at c1 c2
     rw[hb]at c1;cases c1;exact c2) <|
    u5 g1 h.refs q1 (fun p hp b hb=>by
     have:=q6 p hp
     rw[bB]at this
     obtain⟨q,hq,he⟩:=this
     have he:=au he
     obtain⟨b',c1,c2,_⟩:=b5 q hq
     rw[he]at c1 c2
     rw[hb]at c1;cases c1;exact c2) (uK g1 h.bY h1 gfz p1 fun t=>.any _ _)
   have hle:=aF q5
   have hle2:=aF q7
   obtain⟨β4,U',c1,c2,c3,c4,c5,c6,c7⟩:=uc g1 h.ez h3 (nm:=k9) b1 p3 (fun m hm=>b6 m (by omega)) m2 (fun o ho hh=>by
    rcases b3 o hh with hh|hh
    ·exact m3 o hh (ao _ ho)
    ·cases hh) htm (rest:=o3++o4)
   obtain⟨β5,U3,d1,d2,d3,d4,d5,d6⟩:=uD g1 h.pP h4 (nm:=mA) c1 (rest:=o4) p4 (fun m hm=>c6 m (by omega)) m4 (fun o ho hh=>by
    rcases c4 o hh with hh|hh
    ·exact m5 o hh (ao _ ho)
    ·rcases b3 o hh with hh|hh
     ·exact m3 o hh (ak _ (ao _ ho))
     ·cases hh) c2
   have e1:gL<k9:=by decide
   have e2:k9<mA:=by decide
   have hkn:∀p,p∈h.kv->p.2.1<gL:=fun p hp=>aF (q3k p hp)
   obtain⟨β6,U4,k1,k2,k3,k4,k5⟩:=vt g1 h.kv h5 d1 (fun p hp=>by
    have hn:=hkn p hp
    rw[d4 _ (by omega),c5 _ (by omega),ur _ _ _ _ _ hn]
    intro q hq e
    exact q4x q.1 (bp.2 ⟨q,hq,rfl⟩) (bp.2 ⟨p,hp,e.symm⟩)) q4v m6 (fun o ho hh=>by
    rcases d5 o hh with hh|hh
    ·exact m7 o hh ho
    ·rcases c4 o hh with hh|hh
     ·exact m5 o hh (ak _ ho)
     ·rcases b3 o hh with hh|hh
      ·exact m3 o hh (ak _ (ak _ ho))
      ·cases hh) d2
   have hdrop4:(o3++o4).drop (kX h.pP)=o4:=by rw[<-d6];simp
   refine⟨M1,β6,?_⟩
   have:=k1.Ji g1 (fun o b hf=>by
    rcases xc hfx (hA o b hf)with⟨q,hq,e⟩|⟨q,hq,e⟩
    rotate_left
    ·obtain⟨r1,r2,x,r3⟩:=k5 q hq
     rw[e]at r1 r2 r3
     exact⟨r2,by rw[r1];exact(g1.fix o b hf).2 x r3⟩
    obtain⟨b',r1,r2,⟨x,r3⟩,r4⟩:=b5 q hq
    rw[e]at r1 r2 r3 r4
    have hb:=(g1.fix o b hf).2 x r3
    rw[r1]at hb;cases hb
    have ho:o<gL:=by have:=aF (q3 q hq);rw[e]at this;exact this
    refine⟨?_,k3 _ _ (d3 _ _ (c3 _ _ r2))⟩
    rw[k4 o (fun p hp e'=>q4x q.1 (bp.2 ⟨q,hq,rfl⟩) (bp.2 ⟨p,hp,e'.trans e.symm⟩)),d4 o (by omega),c5 o (by omega)];exact r4) k2
   unfold EB
   simp only
   rw[b4,sH _ _ _ _ lx,hdrop2,hdrop3,hdrop4]
   exact this
 ·cases hc
end
end Go.VL
