/-
  Part of a proof: Go functions read by values, trees of functions, their contracts.
-/
import Derived.Orders
import Derived.Below
import Derived.KernelRfl
import Derived.Laws.Cells
import Derived.Laws.Rows
import Derived.Laws.OwnMore
import Derived.Laws.StructEq
import Derived.LaidEql
import Derived.Laws.Strings
import Derived.Laws.BytesArg
import Derived.Great.BuildSlice
import Derived.Lib.LaidTab
import Derived.Lib.ItoaNum
set_option linter.unusedVariables false
set_option linter.unusedSimpArgs false
open Bool renaming and_eq_true→au,eq_iff_iff→cL,not_eq_true'→bR,or_eq_true→bn
open List renaming all_cons→cO,all_eq_true→bH,any_eq_true→bT,append_assoc→bq,cons_append→bC,getD_cons_zero→bh,getD_eq_getElem?_getD→aa,getElem?_append→aY,getElem?_drop→cm,getElem?_eq_getElem→aV,getElem_mem→bY,headD_cons→aM,length→dX,length_append→ak,length_cons→aw,length_drop→bI,length_map→cg,length_nil→aE,map_cons→a6,mem_append→aH,mem_append_left→aA,mem_append_right→az,mem_cons→aI,mem_cons_of_mem→ai,mem_cons_self→ag,mem_map→bD,range→bc,tail_cons→a8
open Nat renaming add_zero→bM,beq→aF,ble→fv,blt→cv,eq_of_beq_eq_true→aC,le_of_ble_eq_true→aN,le_refl→aq,lt_of_lt_of_le→cX,mod_lt→dR,mul_le_mul_right→aS,succ_mul→cR,zero_add→aR
open Option renaming map_some→cy
open UInt8 renaming ofNat→bb
namespace Go.VL
open Go Go.RowKit
inductive AV where
 |any
 |v (x:Value)
 |agg (cs:List AV)
 |cP (cs:List AV)
 |ptr (cs:List AV)
 |pid (b:Nat) (cs:List AV)
 |sl (es:List (List AV))
 |x (a:AV)
 |b (t:Bool)
 |ref (o k:Nat)
 |nw (o k:Nat)
 |vec (o:Nat)
 |mn (o i k:Nat)
 |fn (f:Nat) (cap:List AV)
 |eJ (f:Nat) (js:List (Option Nat))
 deriving Inhabited
inductive Ob where
 |cells (cs:List AV)
 |vec (sz:Nat) (es:List (List AV))
 |gO (cs:List AV)
 |mw (es:List (List AV))
 |dead
 |mC (sz:Nat) (es:List (List AV))
 deriving Inhabited
def AV.toInt:AV->Int| .v (.int _ n)=>n|_=>0
def AV.toStr:AV->ByteArray| .v (.string s)=>s|_=>⟨#[]⟩
def AV.toBool:AV->Bool| .v (.bool q)=>q| .b q=>q|_=>false
def AV.cs:AV->List AV| .agg cs=>cs|_=>[]
def AV.comp(a:AV)(i:Nat):AV:=match a with| .cP cs=>cs.getD i .any|_=>.any
def AV.deref:AV->List AV| .ptr cs=>cs| .pid _ cs=>cs|_=>[]
def AV.elems:AV->List (List AV)| .sl es=>es|_=>[]
def AV.isNil:AV->Bool| .v (.pointer none)=>true|_=>false
def AV.qU:AV->Prop| .v (.pointer none)=>True| .pid _ _=>True|_=>False
def AV.BL:AV->AV->Bool
 | .v (.pointer none),.v (.pointer none)=>true
 | .pid m _,.pid m' _=>aF m m'
 |_,_=>false
def AV.cap:AV->List AV| .fn _ c=>c|_=>[]
def Ob.cs:Ob->List AV| .cells cs=>cs| .gO cs=>cs|_=>[]
def Ob.es:Ob->List (List AV)| .vec _ es=>es| .mw es=>es| .mC _ es=>es|_=>[]
def Bi:AV->Bool
 | .any| .cP _| .agg _=>false
 | .v x=>x.oneCell'
 |_=>true
def BE:AV->Bool
 | .v x=>x.oneCell'
 | .x _=>true
 |_=>false
inductive LK where
 |int (k:IntKind)|bool|str|ptr|sl|kS
 deriving DecidableEq,Inhabited
def LK.has:LK->AV->Prop
 | .int k,a=>∃n,a=.v (.int k n)
 | .bool,a=>∃b,a=.v (.bool b)
 | .str,a=>∃s,a=.v (.string s)
 | .ptr,a=>a=.v (.pointer none)\/(∃cs,a=.ptr cs)\/∃b cs,a=.pid b cs
 | .sl,a=>a=.v (.slice none 0 0)\/∃es,a=.sl es
 | .kS,a=>BE a=true
def LK.cast:LK->AV->AV
 | .int k,a=>.v (.int k a.toInt)
 | .bool,a=>.b a.toBool
 | .str,a=>.v (.string a.toStr)
 | .ptr,a=>.x a
 | .sl,a=>.x a
 | .kS,a=>.x a
def LK.zero:LK->AV
 | .int k=>.v (.int k 0)
 | .bool=>.v (.bool false)
 | .str=>.v (.string ⟨#[]⟩)
 | .ptr=>.v (.pointer none)
 | .sl=>.v (.slice none 0 0)
 | .kS=>.x .any
def LK.kn:LK->Bool| .kS=>false|_=>true
def LK.plain:LK->Bool| .int _| .bool| .str=>true|_=>false
def cc:List LK->List AV->Nat->Prop
 |[],_,_=>True
 |k::ks,cs,i=>k.has (cs.getD i .any)/\cc ks cs (i+1)
def je:List LK->List AV->Nat->List AV
 |[],_,_=>[]
 |k::ks,cs,i=>k.cast (cs.getD i .any)::je ks cs (i+1)
inductive TK where
 |str|slice (e:Nat)|array (n e:Nat)|struct (fs:List (Nat×Nat))|tuple (ts:List Nat)|pt|bl|num (k:IntKind)|other
 deriving Inhabited
structure TI where
 kn:Bool
 lk:List LK
 agg:Bool
 bytes:Nat
 k:TK
 nz:Bool
 deriving Inhabited
def TI.sz(t:TI):Nat:=t.lk.length
abbrev ep:=Nat->TI
structure St where
 tm:Nat->AV
 ob:Nat->Option Ob
 us:Nat->Bool
def cr{α:Type}(f:Nat->α)(i:Nat)(a:α):Nat->α:=fun j=>bif aF j i then a else f j
def St.set(s:St)(t:Nat)(a:AV):St:={s with tm:=cr s.tm t a}
def cx:(Nat->Option Ob)->List (Nat×Option Ob)->Nat->Option Ob
 |f,[]=>f
 |f,(o,c)::r=>cx (cr f o c) r
def eM:(Nat->Bool)->List Nat->Nat->Bool
 |f,[]=>f
 |f,o::r=>eM (cr f o true) r
def ev(s:St):Operand->AV
 | .tmp t=>s.tm t
 | .const v=>.v v
 | .global g=>.v (.pointer (some ⟨g,0,none⟩))
 | .func f=>.v (.func (.func f) #[] #[])
structure De where
 val:AV
 cr:List (Nat×Option Ob):=[]
 rd:List Nat:=[]
 new:List Nat:=[]
inductive DR where
 |no
 |yes (d:De)
 |ok (p:Prop) (d:De)
def dm(q:Bool)(r:DR):DR:=bif q then r else .no
def ty(T:ep)(t:Nat):TI:=T t
def Ba(t:TI):LK:=t.lk.headD .kS
def sK(t:TI)(cs:List AV):AV:=bif t.agg then .agg (je t.lk cs 0)else(Ba t).cast (cs.headD .any)
def zl(t:TI)(cs:List AV):Prop:=bif t.agg then cc t.lk cs 0 else(Ba t).has (cs.headD .any)
def flat:AV->List AV| .agg cs=>cs|a=>[a]
def mV:AV->Bool
 | .agg _=>true
 |a=>Bi a
def ic{α:Type}:List α->Nat->List α->List α
 |l,_,[]=>l
 |l,n,c::cs=>ic (l.set n c) (n+1) cs
def jh(t:TI):List AV:=t.lk.map LK.zero
def bytesOf:List (List AV)->List UInt8
 |[]=>[]
 |e::es=>bb (e.headD .any).toInt.toNat::bytesOf es
def mB:List (List AV)->Prop
 |[]=>True
 |e::es=>e.length=1/\(LK.int .u8).has (e.headD .any)/\mB es
def cI(z:Nat)(es:List (List AV)):Prop:=∀c,c∈es->c.length=z
def Ab(k:IntKind)(a b:Int):Int:=k.wrap ((BitVec.ofInt k.bits a ^^^ BitVec.ofInt k.bits b).toNat:Int)
def FZ(op:BinOp)(k:IntKind)(a b:Int):DR :=
 match op with
 | .add=>.yes {val:=.v (.int k (k.wrap (a+b)))}
 | .sub=>.yes {val:=.v (.int k (k.wrap (a-b)))}
 | .mul=>.yes {val:=.v (.int k (k.wrap (a*b)))}
 | .quo=>.ok (¬b=0) {val:=.v (.int k (k.wrap (a.tdiv b)))}
 | .rem=>.ok (¬b=0) {val:=.v (.int k (a.tmod b))}
 | .xor=>.yes {val:=.v (.int k (Ab k a b))}
 | .eql=>.yes {val:=.b (a==b)}
 | .neq=>.yes {val:=.b (a != b)}
 | .lss=>.yes {val:=.b (decide (a<b))}
 | .leq=>.yes {val:=.b (decide (a<=b))}
 | .gtr=>.yes {val:=.b (decide (a>b))}
 | .geq=>.yes {val:=.b (decide (a≥b))}
 |_=>.no
def GY(op:BinOp)(a b:ByteArray):DR :=
 match op with
 | .add=>.ok (a.size+b.size<=9223372036854775807) {val:=.v (.string (a++b))}
 | .eql=>.yes {val:=.b (a.toList==b.toList)}
 | .neq=>.yes {val:=.b (!(a.toList==b.toList))}
 | .lss=>.yes {val:=.b (Op.bytesLess a.toList b.toList)}
 |_=>.no
def mq(op:BinOp)(b:Bool):Option Bool:=match op with| .eql=>some b| .neq=>some (!b)|_=>none
def AZ(t:TI)(op:BinOp)(p:Option Prop)(q:Bool):DR :=
 dm t.kn<|match t.k,mq op q with
 | .pt,some c=>match p with|some p=>.ok p {val:=.b c}|none=>.yes {val:=.b c}
 |_,_=>.no
def cmpL(t:TI)(op:BinOp)(q:Bool):DR :=
 dm t.kn<|match t.k,mq op q with
 | .pt,some c=>.yes {val:=.v (.bool c)}
 |_,_=>.no
def vx(t:TI)(op:BinOp)(q:Bool):DR :=
 dm t.kn<|match t.k,mq op q with
 | .bl,some c=>.yes {val:=.b c}
 |_,_=>.no
def LD:LK->AV->AV->Option Bool
 | .str,.v (.string a),.v (.string b)=>some (a.toList==b.toList)
 | .int k,.v (.int k1 a),.v (.int k2 b)=>if k=k1 then(if k=k2 then some (a==b)else none)else none
 |_,_,_=>none
def C5:List LK->List AV->List AV->Option Bool
 |[],[],[]=>some true
 |
  l::ls,c::cs,d::ds=>match LD l c d,C5 ls cs ds with
  |some p,some q=>some (p&&q)
  |_,_=>none
 |_,_,_=>none
def ES(t:TI)(op:BinOp)(cs ds:List AV):DR :=
 dm (t.kn&&t.nz)<|match t.k with
 |
  .struct _=>(match C5 t.lk cs ds with
  |some q=>(match mq op q with|some c=>.yes {val:=.b c}|none=>.no)
  |none=>.no)
 |_=>.no
def bin(t:TI)(op:BinOp)(x y:AV):DR :=
 match x,y with
 | .v (.int k a),.v (.int k' b)=>if k=k' then FZ op k a b else .no
 | .v (.string a),.v (.string b)=>GY op a b
 | .x a,.v (.pointer none)=>AZ t op (some (LK.ptr.has a)) a.isNil
 | .x a,.x c=>bif t.nz then AZ t op (some (a.qU/\c.qU)) (a.BL c)else .no
 | .v (.pointer none),.v (.pointer none)=>cmpL t op true
 | .ptr _,.v (.pointer none)=>cmpL t op false
 | .pid _ _,.v (.pointer none)=>cmpL t op false
 | .ref _ _,.v (.pointer none)=>cmpL t op false
 | .v (.bool a),.v (.bool b)=>vx t op (a==b)
 | .v (.bool a),.b b=>vx t op (a==b)
 | .b a,.v (.bool b)=>vx t op (a==b)
 | .b a,.b b=>vx t op (a==b)
 | .agg cs,.agg ds=>ES t op cs ds
 |_,_=>.no
def qg(x:AV)(off:Nat):DR :=
 match x with
 | .ref o k=>.yes {val:=.ref o (k+off)}
 | .nw o k=>.yes {val:=.nw o (k+off)}
 | .mn o i k=>.yes {val:=.mn o i (k+off)}
 | .ptr cs=>.yes {val:=.ptr (cs.drop off)}
 | .pid _ cs=>.yes {val:=.ptr (cs.drop off)}
 | .x a=>.ok (LK.ptr.has a/\a.isNil=false) {val:=.ptr (a.deref.drop off)}
 |_=>.no
def nA(t:TI)(cs:List AV)(k:Nat):DR :=
 dm t.kn<|bif t.agg then(bif fv (k+t.sz) cs.length then .yes {val:=.agg ((cs.drop k).take t.sz)}else .no)
 else(bif cv k cs.length then .yes {val:=cs.getD k .any}else .no)
def jo(t:TI)(cs:List AV)(k:Nat):DR :=
 dm (t.kn&&t.lk.all LK.kn)<|bif t.agg then .ok (k+t.sz<=cs.length/\cc t.lk cs k) {val:=.agg (je t.lk cs k)}
 else .ok (k<cs.length/\(Ba t).has (cs.getD k .any)) {val:=(Ba t).cast (cs.getD k .any)}
def DR.reads(r:DR)(o:Nat):DR:=match r with| .ok p d=>.ok p {d with rd:=o::d.rd}| .yes d=>.yes {d with rd:=o::d.rd}| .no=>.no
def DR.AH(r:DR)(q:Prop):DR:=match r with| .ok p d=>.ok (q/\p) d| .yes d=>.ok q d| .no=>.no
def DR.when(q:Option Prop)(r:DR):DR:=match q with|none=>r|some p=>r.AH p
def Mq(f:Nat)(js:List (Option Nat)):Option Nat->AV
 |none=>.eJ f js
 |some o=>.ref o 0
def loadAt(ob:Nat->Option Ob)(t:TI)(x:AV):DR :=
 match x with
 |
  .ref o k=>match ob o with
  |some (.cells cs)|some (.gO cs)=>(nA t cs k).reads o
  |_=>.no
 |
  .nw o k=>match ob o with
  |some (.cells cs)|some (.gO cs)=>(jo t cs k).reads o
  |_=>.no
 |
  .mn o i k=>match ob o with
  |some (.vec _ es)|some (.mw es)=>((jo t (es.getD i []) k).AH (i<es.length)).reads o
  |_=>.no
 | .ptr cs=>dm t.kn<|.ok (zl t cs/\t.sz<=cs.length) {val:=sK t cs}
 | .pid _ cs=>dm t.kn<|.ok (zl t cs/\t.sz<=cs.length) {val:=sK t cs}
 | .x a=>dm t.kn<|.ok (LK.ptr.has a/\a.isNil=false/\zl t a.deref/\t.sz<=a.deref.length) {val:=sK t a.deref}
 | .eJ f js=>dm (t.kn&&!t.agg)<|.yes {val:=.fn f (js.map (Mq f js))}
 |_=>.no
def eX(ob:Nat->Option Ob)(x:AV):Option (Option Prop×List (List AV)×List Nat) :=
 match x with
 | .sl es=>some (none,es,[])
 | .x a=>some (some (LK.sl.has a),a.elems,[])
 | .v (.slice none 0 0)=>some (none,[],[])
 |
  .vec o=>match ob o with
  |some (.vec _ es)|some (.mw es)=>some (none,es,[o])
  |_=>none
 |_=>none
def indexAt(T:ep)(ob:Nat->Option Ob)(t:TI)(x:AV)(i:Int):DR :=
 match t.k,x with
 | .array n e,.ref o k=>dm (T e).kn<|.ok (0<=i/\i<n) {val:=.nw o (k+i.toNat*(T e).sz)}
 |
  .slice e,.vec o=>dm (T e).kn<|match ob o with
  |some (.vec sz es)=>dm (aF sz (T e).sz)<|.ok (0<=i/\i<es.length) {val:=.mn o i.toNat 0,rd:=[o]}
  |some (.mw es)=>.ok (0<=i/\i<es.length/\(es.getD i.toNat []).length=(T e).sz) {val:=.mn o i.toNat 0,rd:=[o]}
  |_=>.no
 | .slice e,.sl es=>dm (T e).kn<|.ok (0<=i/\i<es.length/\(es.getD i.toNat []).length=(T e).sz) {val:=.ptr (es.getD i.toNat [])}
 | .slice e,.x a=>dm (T e).kn<|.ok (LK.sl.has a/\0<=i/\i<a.elems.length/\(a.elems.getD i.toNat []).length=(T e).sz) {val:=.ptr (a.elems.getD i.toNat [])}
 |_,_=>.no
def bt(s:ByteArray)(i:Int):Int:=if h:i.toNat<s.size then((s[i.toNat]'h).toNat:Int)else 0
def ij(e:Operand->AV):Option Operand->Option Int
 |none=>some 0
 |some x=>match e x with| .v (.int _ n)=>some n|_=>none
def gm(e:Operand->AV)(n:Nat):Option Operand->Option Int
 |none=>some n
 |some x=>match e x with| .v (.int _ n)=>some n|_=>none
def mF(g:AV->Option (AV×List Nat)):List AV->Option (List AV×List Nat)
 |[]=>some ([],[])
 |
  c::cs=>match g c,mF g cs with
  |some (a,os),some (asq,os')=>some (a::asq,os++os')
  |_,_=>none
def tJ(g:AV->Option (AV×List Nat)):List AV->Option (List (List AV)×List Nat)
 |[]=>some ([],[])
 |
  c::cs=>match mF g (flat c),tJ g cs with
  |some (a,os),some (asq,os')=>some (a::asq,os++os')
  |_,_=>none
def freeze(ob:Nat->Option Ob):Nat->AV->Option (AV×List Nat)
 |0,_=>none
 |
  n+1,a=>match a with
  |
   .ref o 0=>match ob o with
   |some (.cells cs)|some (.gO cs)=>(mF (freeze ob n) cs).map fun r=>(.ptr r.1,o::r.2)
   |_=>none
  |
   .vec o=>match ob o with
   |some (.vec _ es)|some (.mw es)=>some (.sl es,[o])
   |_=>none
  | .x a=>some (a,[])
  | .agg cs=>(mF (freeze ob n) cs).map fun r=>(.agg r.1,r.2)
  | .any=>some (.any,[])
  | .b t=>some (.v (.bool t),[])
  | .v x=>some (.v x,[])
  | .ptr cs=>some (.ptr cs,[])
  | .pid b cs=>some (.pid b cs,[])
  | .sl es=>some (.sl es,[])
  |_=>none
def eh:Nat:=12
def cz:Option Ob->Option Ob
 |some (.cells cs)=>some (.gO cs)
 |some (.vec _ es)=>some (.mw es)
 |some (.mC _ es)=>some (.mw es)
 |o=>o
def fw(ob:Nat->Option Ob)(os:List Nat):List (Nat×Option Ob):=os.map fun o=>(o,cz (ob o))
def qH(T:ep)(fs:List (Nat×Nat))(m:Nat)(e:Operand->AV):List (Nat×Operand)->Bool
 |[]=>true
 |p::r=>((match fs[p.1]? with|some (off,ft)=>aF (flat (e p.2)).length (T ft).sz&&fv (off+(flat (e p.2)).length) m|none=>false)&&mV (e p.2))&&qH T fs m e r
def qR(z m:Nat)(e:Operand->AV):List (Nat×Operand)->Bool
 |[]=>true
 |p::r=>(aF (flat (e p.2)).length z&&fv (p.1*z+(flat (e p.2)).length) m&&mV (e p.2))&&qR z m e r
def wy(l c:Operand):Bool:=match l,c with| .tmp i,.tmp j=>aF i j| .const (.int _ p),.const (.int _ q)=>decide (p=q)|_,_=>false
def dI(T:ep)(e:Operand->AV)(ob:Nat->Option Ob)(o:Oper):DR :=
 match o.op with
 | .move x| .assign x=>.yes {val:=e x}
 | .pick c a b=>match e c with| .v (.bool true)=>.yes {val:=e a}| .v (.bool false)=>.yes {val:=e b}|_=>.no
 | .binOp op t x y _=>bin (T t) op (e x) (e y)
 | .unOp .not _ x=>match e x with| .v (.bool b)=>.yes {val:=.v (.bool !b)}| .b b=>.yes {val:=.b (!b)}|_=>.no
 | .unOp .neg _ x=>match e x with| .v (.int k n)=>.yes {val:=.v (.int k (k.wrap (0-n)))}|_=>.no
 |
  .nilCheck x=>match e x with
  | .x a=>.ok (LK.ptr.has a/\a.isNil=false) {val:=.x a}
  | .ptr cs=>.yes {val:=.ptr cs}
  | .pid b cs=>.yes {val:=.pid b cs}
  | .ref o k=>.yes {val:=.ref o k}
  |_=>.no
 |
  .fieldAddr t x f=>dm (T t).kn<|match (T t).k with
  |
   .struct fs=>match fs[f]? with
   |some (off,ft)=>dm ((T ft).kn&&cv 0 (T ft).sz)<|qg (e x) off
   |none=>.no
  |_=>.no
 |
  .field t x f=>dm (T t).kn<|match (T t).k,e x with
  |
   .struct fs,.agg cs=>match fs[f]? with
   |some (off,ft)=>nA (T ft) cs off
   |none=>.no
  |_,_=>.no
 | .load t x=>loadAt ob (T t) (e x)
 | .indexAddr t x i=>dm (T t).kn<|match e i with| .v (.int _ n)=>indexAt T ob (T t) (e x) n|_=>.no
 |
  .index t x i=>dm (T t).kn<|match (T t).k,e x,e i with
  | .str,.v (.string s),.v (.int _ n)=>.ok (0<=n/\n<s.size) {val:=.v (.int .u8 (bt s n))}
  | .array m el,.agg cs,.v (.int _ n)=>((jo (T el) cs (n.toNat*(T el).sz))).AH (0<=n/\n<m)
  |_,_,_=>.no
 |
  .slice t x lo hi none=>dm (T t).kn<|match (T t).k,e x with
  |
   .str,.v (.string s)=>match ij e lo,gm e s.size hi with
   |some l,some h=>.ok (0<=l/\l<=h/\h<=s.size) {val:=.v (.string (s.extract l.toNat h.toNat))}
   |_,_=>.no
  |
   .slice el,.vec o=>dm (T el).kn<|match ob o with
   |
    some (.vec sz es)=>dm (aF sz (T el).sz)<|match ij e lo,gm e es.length hi with
    |some l,some h=>.ok (0<=l/\l<=h/\h<=es.length) {val:=.sl ((es.take h.toNat).drop l.toNat),cr:=[(o,some (.mw es))]}
    |_,_=>.no
   |
    some (.mw es)=>match ij e lo,gm e es.length hi with
    |some l,some h=>DR.when (lo.map fun _=>cI (T el).sz es)<|.ok (0<=l/\l<=h/\h<=es.length) {val:=.sl ((es.take h.toNat).drop l.toNat),rd:=[o]}
    |_,_=>.no
   |_=>.no
  |
   .slice el,x=>dm (T el).kn<|match eX ob x with
   |
    some (p,es,os)=>match ij e lo,gm e es.length hi with
    |some l,some h=>.when p<|DR.when (lo.map fun _=>cI (T el).sz es)<|.ok (0<=l/\l<=h/\h<=es.length) {val:=.sl ((es.take h.toNat).drop l.toNat),rd:=os}
    |_,_=>.no
   |none=>.no
  |_,_=>.no
 | .extract t i=>match e t with| .cP cs=>dm (cv i cs.length)<|.yes {val:=cs.getD i .any}|_=>.no
 |
  .convert s d x=>dm ((T s).kn&&(T d).kn)<|match (T s).k,(T d).k,e x with
  |
   .slice el,.str,y=>dm ((T el).kn&&(match (T el).k with| .num .u8=>true|_=>false))<|match eX ob y with
   |some (p,es,os)=>.when p<|.ok (mB es) {val:=.v (.string ⟨(bytesOf es).toArray⟩),rd:=os}
   |none=>.no
  | .num _,.num k,.v (.int _ n)=>.yes {val:=.v (.int k (k.wrap n))}
  |_,_,_=>.no
 |
  .build t ps=>dm (T t).kn<|match (T t).k with
  | .struct fs=>dm (fs.all (fun p=>(T p.2).kn)&&qH T fs (T t).sz e ps.toList)<|.yes {val:=.agg (ps.toList.foldl (fun cs p=>ic cs (fs.getD p.1 (0,0)).1 (flat (e p.2))) (jh (T t)))}
  | .array n el=>dm ((T el).kn&&qR (T el).sz (T t).sz e ps.toList)<|.yes {val:=.agg (ps.toList.foldl (fun cs p=>ic cs (p.1*(T el).sz) (flat (e p.2))) (jh (T t)))}
  |_=>.no
 |
  .alloc t=>dm (T t).kn<|match o.dst with
  |some d=>.yes {val:=.ref d 0,cr:=[(d,some (.cells (jh (T t))))],new:=[d]}
  |none=>.no
 |
  .box t x=>dm (T t).kn<|match o.dst with
  |some d=>dm (aF (flat (e x)).length (T t).sz&&mV (e x))<|.yes {val:=.ref d 0,cr:=[(d,some (.cells (flat (e x))))],new:=[d]}
  |none=>.no
 |
  .store t a x=>dm (T t).kn<|dm (aF (flat (e x)).length (T t).sz&&mV (e x))<|match e a with
  |
   .ref n k=>match ob n with
   |some (.cells cs)=>dm (fv (k+(flat (e x)).length) cs.length)<|.yes {val:=.any,cr:=[(n,some (.cells (ic cs k (flat (e x)))))]}
   |_=>.no
  |
   .nw n k=>match ob n with
   |some (.cells cs)=>.ok (k+(flat (e x)).length<=cs.length) {val:=.any,cr:=[(n,some (.cells (ic cs k (flat (e x)))))]}
   |_=>.no
  |
   .mn n i k=>match ob n with
   |
    some (.vec sz es)=>match mF (freeze ob eh) (flat (e x))with
    |some (xs,[])=>.ok (i<es.length/\k+xs.length<=sz) {val:=.any,cr:=[(n,some (.vec sz (es.set i (ic (es.getD i []) k xs))))]}
    |_=>.no
   |_=>.no
  |_=>.no
 |
  .buildSlice t n ps=>dm (T t).kn<|match (T t).k,o.dst with
  |
   .slice el,some d=>dm (T el).kn<|match tJ (freeze ob eh) (ps.toList.map fun p=>e p.2)with
   |some (asq,os)=>dm (ps.toList.map (·.1)==bc n&&fv (n*(T el).sz) 16777216&&asq.all (fun a=>aF a.length (T el).sz)&&ps.toList.all fun p=>mV (e p.2))<|.yes {val:=.vec d,cr:=fw ob os++[(d,some (.vec (T el).sz asq))],new:=[d]}
   |none=>.no
  |_,_=>.no
 |
  .makeSlice t l c=>dm (T t).kn<|match (T t).k,o.dst,e l with
  | .slice el,some d,.v (.int _ n)=>dm ((T el).kn&&cv 0 (T el).bytes)<|bif wy l c then
   .ok (0<=n/\n*(T el).bytes<=140737488355328) {val:=.vec d,cr:=[(d,some (.vec (T el).sz (List.replicate n.toNat (jh (T el)))))],new:=[d]}else .no
  |_,_,_=>.no
 |
  .call ⟨.builtin .len,xs,ts⟩=>match xs.toList,ts.toList with
  |
   [x],[t]=>dm (T t).kn<|match (T t).k,e x with
   | .str,.v (.string s)=>.yes {val:=.v (.int .i64 s.size)}
   | .array n _,_=>.yes {val:=.v (.int .i64 n)}
   |
    .slice _,y=>match eX ob y with
    |some (p,es,os)=>.when p<|.yes {val:=.v (.int .i64 es.length),rd:=os}
    |none=>.no
   |_,_=>.no
  |_,_=>.no
 |
  .call ⟨.builtin .append,xs,ts⟩=>match xs.toList,ts.toList,o.dst with
  |
   [x,y],[t,t'],some d=>dm ((T t).kn&&aF t t')<|match (T t).k,eX ob (e y)with
   |
    .slice el,some (p,fs,os)=>dm ((T el).kn&&cv 0 (T el).bytes)<|match e x with
    |
     .vec n=>match ob n with
     |some (.vec sz es)=>dm (aF sz (T el).sz)<|.when p<|.ok (cI (T el).sz fs/\(es.length+fs.length)*(T el).bytes<=140737488355328) {val:=.vec d,cr:=[(n,none),(d,some (.vec (T el).sz (es++fs)))],rd:=os,new:=[d]}
     |_=>.no
    | .v (.slice none 0 0)=>.when p<|.ok (cI (T el).sz fs/\fs.length*(T el).bytes<=140737488355328) {val:=.vec d,cr:=[(d,some (.vec (T el).sz fs))],rd:=os,new:=[d]}
    |_=>.no
   |_,_=>.no
  |_,_,_=>.no
 |
  .call ⟨.builtin .max,xs,_⟩=>match xs.toList with
  |
   [x,y]=>match e x,e y with
   | .v (.int k a),.v (.int k' b)=>if k=k' then .yes {val:=.v (.int k (if b>a then b else a))}else .no
   |_,_=>.no
  |_=>.no
 |
  .call ⟨.builtin .min,xs,_⟩=>match xs.toList with
  |
   [x,y]=>match e x,e y with
   | .v (.int k a),.v (.int k' b)=>if k=k' then .yes {val:=.v (.int k (if b<a then b else a))}else .no
   |_,_=>.no
  |_=>.no
 | .makeFunc (.func f) fs cs=>bif aF fs.size 0 then .yes {val:=.fn f (cs.toList.map e)}else .no
 |_=>.no
inductive CK where
 |lk (k:LK)|vec (h:Nat)
 deriving Inhabited
inductive MK where
 |obj (cs:List CK)|vec
 |cB (g:Bool) (ks:List CK)
 |ve (ks:List CK)
 deriving Inhabited
inductive PK where
 |one (m:MK)|fn (ms:List (Option MK))|yX (f:Nat) (js:List (Option Nat))
 |Ed (ms:List (Option MK)) (f:Nat) (js:List (Option Nat))
 deriving Inhabited
structure FC where
 mu:List (Nat×PK):=[]
 own:List Nat:=[]
 ow:List LK:=[]
 oa:List CK:=[]
 deriving Inhabited
inductive SK where
 |k (l:LK)|agg (ks:List LK)|c (v:Value)
 deriving Inhabited
def SK.has:SK->AV->Prop
 | .k l,a=>l.has a
 | .agg ks,a=>a=.agg a.cs/\a.cs.length=ks.length/\cc ks a.cs 0
 | .c v,a=>a=.v v
def SK.cast:SK->AV->AV
 | .k l,a=>l.cast a
 | .agg ks,a=>.agg (je ks a.cs 0)
 | .c v,_=>.v v
structure Shape where
 ck:List (Nat×SK):=[]
 refs:List (Nat×Nat):=[]
 cM:List (Nat×List CK):=[]
 eG:List (Nat×Nat):=[]
 sa:List (Nat×List CK):=[]
 yY:List (Nat×Nat×List (Option Nat)):=[]
 fns:List (Nat×Nat×List Nat):=[]
 kv:List (Nat×Nat×Nat):=[]
 deriving Inhabited
structure LI where
 hd:Shape
 xs:Shape
 rt:Shape
 ex:Nat
 fx:List Nat:=[]
 deriving Inhabited
inductive Tree where
 |fail
 |done (tag:Nat) (xs:List AV) (obs:List Ob)
 |test (b:Bool) (y n:Tree)
 |al (p:Prop) (t:Tree)
 |call (f:Nat) (args:List AV) (ins:List Ob) (k:AV->List Ob->Tree)
 |loop (c:Code) (li:LI) (xs:List AV) (obs:List Ob) (kx kr:List AV->List Ob->Tree)
def nU:List Prop->Tree->Tree
 |[],t=>t
 |p::ps,t=>.al p (nU ps t)
def nodup:List Nat->Bool
 |[]=>true
 |a::l=>!(l.any (aF a))&&nodup l
def ext(ob:Nat->Option Ob)(a:AV):Option AV:=match freeze ob eh a with|some (a,[])=>some a|_=>none
def ez:Nat:=3000000
def bN(ob:Nat->Option Ob):List CK->List AV->Nat->Option (List AV×List Ob×List Nat)
 |[],[],_=>some ([],[],[])
 |
  .lk _::ks,c::cs,j=>match ext ob c,bN ob ks cs j with
  |some a,some (asq,obs,os)=>some (a::asq,obs,os)
  |_,_=>none
 |
  .vec _::ks,.vec o::cs,j=>match ob o,bN ob ks cs (j+1)with
  |some (.vec sz es),some (asq,obs,os)=>some (.vec j::asq,.vec sz es::obs,o::os)
  |_,_=>none
 |
  .vec h::ks,.v (.slice none 0 0)::cs,j=>match bN ob ks cs (j+1)with
  |some (asq,obs,os)=>some (.vec j::asq,.vec h []::obs,(ez+j)::os)
  |none=>none
 |_,_,_=>none
def fe:List CK->List AV->List AV
 | .vec _::ks,_::cs=>.any::fe ks cs
 | .lk _::ks,c::cs=>c::fe ks cs
 |_,_=>[]
def ld:List CK->Nat
 | .vec h::_=>h
 |_::ks=>ld ks
 |[]=>0
def n6(ob:Nat->Option Ob)(ks:List CK)(cs:List AV)(j:Nat):Option (List AV×List Ob×List Nat):=match bN ob ks cs j with
 |
  some (asq,[.vec sz es],[o])=>match ob o with
  |some (.vec _ _)=>bif aF sz (ld ks)then some (asq,[.vec sz es],[o])else none
  |_=>none
 |_=>none
def n8(ob:Nat->Option Ob):MK->AV->Nat->Option (AV×List Ob×List Nat)
 |
  .vec,.vec o,j=>match ob o with
  |some (.vec sz es)=>some (.vec j,[.vec sz es],[o])
  |_=>none
 |
  .cB false ks,.vec o,j=>match ob o with
  |some (.vec sz es)=>bif aF sz (ld ks)then some (.vec j,[.vec sz es],[o])else none
  |_=>none
 |
  .cB true ks,.agg cs,j=>match n6 ob ks cs j with
  |some (asq,obs,os)=>some (.agg asq,obs,os)
  |none=>none
 |
  .obj ks,.ref o 0,j=>match ob o with
  |
   some (.cells cs)=>match bN ob ks cs (j+1)with
   |some (asq,obs,os)=>some (.ref j 0,.cells asq::obs,o::os)
   |none=>none
  |_=>none
 |
  .ve ks,.agg cs,j=>match n6 ob ks cs j with
  |some (asq,obs,os)=>some (.agg asq,obs,os)
  |none=>none
 |_,_,_=>none
def fg(ob:Nat->Option Ob):List (Option MK)->List AV->Nat->Option (List AV×List Ob×List Nat)
 |[],[],_=>some ([],[],[])
 |
  none::ms,c::cs,j=>match ext ob c,fg ob ms cs j with
  |some a,some (asq,obs,os)=>some (a::asq,obs,os)
  |_,_=>none
 |
  some m::ms,c::cs,j=>match n8 ob m c j with
  |
   some (a,obs,os)=>match fg ob ms cs (j+obs.length)with
   |some (asq,obs',os')=>some (a::asq,obs++obs',os++os')
   |none=>none
  |none=>none
 |_,_,_=>none
def nf(ob:Nat->Option Ob):PK->AV->Nat->Option (AV×List Ob×List Nat)
 | .one m,a,j=>n8 ob m a j
 |
  .fn ms,.fn f cap,j=>match fg ob ms cap j with
  |some (asq,obs,os)=>some (.fn f asq,obs,os)
  |none=>none
 |
  .Ed ms f' _,.fn f cap,j=>match fg ob ms cap.dropLast j,cap.getLast? with
  |some (asq,obs,os),some (.eJ g _)=>bif aF g f' then some (.fn f (asq++[.any]),obs,os)else none
  |_,_=>none
 |_,_,_=>none
def nY(o:Nat):List AV->Option (List (Option Nat))
 |[]=>some []
 | .ref p 0::r=>(nY o r).map fun l=>(bif aF p o then none else some p)::l
 |_=>none
def qS(ob:Nat->Option Ob)(f:Nat):AV->Option (List (Option Nat)×List Nat)
 | .eJ f' js=>bif aF f' f then some (js,[])else none
 |
  .ref o 0=>match ob o with
  |some (.cells [.fn f' caps])|some (.gO [.fn f' caps])=>bif aF f' f then(nY o caps).map fun l=>(l,[o])else none
  |_=>none
 |_=>none
def E5:List (Option Nat)->List (Option Nat)->Bool
 |[],[]=>true
 |none::a,none::b=>E5 a b
 |some x::a,some y::b=>aF x y&&E5 a b
 |_,_=>false
def Ob.oL:Ob->Bool| .cells _=>true|_=>false
def xQ:List (Nat×PK)->Nat->Option PK
 |[],_=>none
 |(j,m)::r,i=>bif aF j i then some m else xQ r i
def HA(os:List Nat):Option Nat->Option Nat
 |none=>none
 |some j=>some (os.getD j 0)
def LA(ins:List Ob):Option Nat->Bool
 |none=>true
 |some j=>cv j ins.length&&(ins.getD j .dead).oL
def Bv(os:List Nat)(ins:List Ob)(f:Nat)(js:List (Option Nat)):AV->Bool
 |
  .fn _ cap=>match cap.getLast? with
  |some (.eJ _ l)=>E5 l (js.map (HA os))&&js.all (LA ins)
  |_=>false
 |_=>false
def qu(f:Nat)(js:List (Option Nat)):AV->AV
 | .fn g cap=>.fn g (cap.dropLast++[.eJ f js])
 |a=>a
def lN(ob:Nat->Option Ob)(mu:List (Nat×PK))(os:List Nat)(ins:List Ob):List AV->Nat->Bool
 |[],_=>true
 |
  a::asq,i=>(match xQ mu i with
  |
   some (.yX f js)=>(match qS ob f a with
   |some (l,_)=>E5 l (js.map (HA os))&&js.all (LA ins)
   |none=>false)
  |some (.Ed _ f js)=>Bv os ins f js a
  |_=>true)&&lN ob mu os ins asq (i+1)
def jf(mu:List (Nat×PK)):List AV->Nat->List AV
 |[],_=>[]
 |a::asq,i=>(match xQ mu i with|some (.yX f js)=>.eJ f js|some (.Ed _ f js)=>qu f js a|_=>a)::jf mu asq (i+1)
def dz:List (Nat×PK)->List MK
 |[]=>[]
 |(_,.yX _ _)::r=>dz r
 |(_,.one m)::r=>m::dz r
 |(_,.fn ms)::r=>ms.filterMap id++dz r
 |(_,.Ed ms _ _)::r=>ms.filterMap id++dz r
def ik(ob:Nat->Option Ob)(mu:List (Nat×PK)):List AV->Nat->Nat->Option (List AV×List Ob×List Nat×List Nat)
 |[],_,_=>some ([],[],[],[])
 |
  a::asq,i,j=>match xQ mu i with
  |
   some (.yX f _)=>match qS ob f a,ik ob mu asq (i+1) j with
   |some (_,f),some (as',obs',os',fz)=>some (.any::as',obs',os',f++fz)
   |_,_=>none
  |
   some m=>match nf ob m a j with
   |
    some (a',obs,os)=>match ik ob mu asq (i+1) (j+obs.length)with
    |some (as',obs',os',fz)=>some (a'::as',obs++obs',os++os',fz)
    |none=>none
   |none=>none
  |
   none=>match freeze ob eh a,ik ob mu asq (i+1) j with
   |some (a',f),some (as',obs',os',fz)=>some (a'::as',obs',os',f++fz)
   |_,_=>none
def bE:List CK->List AV->Nat->List Ob->Nat->List AV×List (Nat×Option Ob)×List Ob×Nat
 |[],_,_,obs,nm=>([],[],obs,nm)
 | .lk k::ks,cs,i,obs,nm=>let r:=bE ks cs (i+1) obs nm;(k.cast (cs.getD i .any)::r.1,r.2)
 | .vec h::ks,cs,i,obs,nm=>let r:=bE ks cs (i+1) obs.tail (nm+1);(.vec nm::r.1,(nm,some (.vec h (obs.headD .dead).es))::r.2.1,r.2.2)
def aO:List CK->List AV->Nat->Nat->List Ob->Prop
 |[],cs,i,_,_=>cs.length=i
 | .lk k::ks,cs,i,j,obs=>k.has (cs.getD i .any)/\aO ks cs (i+1) j obs
 | .vec h::ks,cs,i,j,obs=>cs.getD i .any=.vec j/\obs.headD .dead=.vec h (obs.headD .dead).es/\aO ks cs (i+1) (j+1) obs.tail
def bB:List CK->Nat
 |[]=>0
 | .lk _::ks=>bB ks
 | .vec _::ks=>bB ks+1
def Ob.K3:Ob->Bool| .vec _ _=>true|_=>false
def dK:List MK->List Ob->Bool
 |[],[]=>true
 | .vec::ms,.vec _ _::obs=>dK ms obs
 | .cB _ ks::ms,.vec sz _::obs=>aF sz (ld ks)&&dK ms obs
 | .ve _::ms,.vec _ _::obs=>dK ms obs
 | .obj ks::ms,.cells _::obs=>(fv (bB ks) obs.length&&(obs.take (bB ks)).all Ob.K3)&&dK ms (obs.drop (bB ks))
 |_,_=>false
def ph:List MK->Nat->List Nat
 |[],_=>[]
 | .vec::ms,j=>ph ms (j+1)
 | .cB _ _::ms,j=>j::ph ms (j+1)
 | .ve _::ms,j=>ph ms (j+1)
 | .obj ks::ms,j=>j::ph ms (j+1+bB ks)
def rO(ms:List MK)(os:List Nat)(ins:List Ob):Bool:=(ph ms 0).all fun q=>(ins.getD q .dead).oL||cv (os.getD q 0) ez
def runN:Nat->Nat->List Nat
 |_,0=>[]
 |nm,k+1=>nm::runN (nm+1) k
def sx:List MK->Nat->List Nat
 |[],_=>[]
 | .vec::ms,nm=>sx ms nm
 | .cB _ _::ms,nm=>sx ms nm
 | .ve _::ms,nm=>sx ms nm
 | .obj ks::ms,nm=>runN nm (bB ks)++sx ms (nm+bB ks)
def dj:List MK->List Nat->List Ob->Nat->Nat->List Prop×List (Nat×Option Ob)×List Ob×Nat
 |[],_,obs,_,nm=>([],[],obs,nm)
 | .vec::ms,os,obs,j,nm=>dj ms os.tail obs.tail (j+1) nm
 | .ve _::ms,os,obs,j,nm=>dj ms os.tail obs.tail (j+1) nm
 |
  .cB _ ks::ms,os,obs,j,nm =>
  let r:=dj ms os.tail obs.tail (j+1) nm
  ((obs.headD .dead=.mC (ld ks) (obs.headD .dead).es)::r.1,(os.headD 0,some (.vec (ld ks) (obs.headD .dead).es))::r.2.1,r.2.2)
 |
  .obj ks::ms,os,obs,j,nm =>
  let c:=bE ks (obs.headD .dead).cs 0 obs.tail nm
  let r:=dj ms (os.drop (bB ks+1)) c.2.2.1 (j+1+bB ks) c.2.2.2
  ((obs.headD .dead=.cells (obs.headD .dead).cs)::aO ks (obs.headD .dead).cs 0 (j+1) obs.tail::r.1,c.2.1++(os.headD 0,some (.cells c.1))::r.2.1,r.2.2)
def oO(t:TI)(a:AV):Prop:=bif t.agg then(a=.agg a.cs/\a.cs.length=t.sz/\cc t.lk a.cs 0)else(Ba t).has a
def l0(t:TI)(a:AV):AV:=bif t.agg then .agg (je t.lk a.cs 0)else(Ba t).cast a
def qa(T:ep)(t:Nat):Nat:=match (T t).k with| .slice el=>(T el).sz|_=>0
def ec(T:ep)(own:List Nat)(oa:List CK)(r:AV):List Nat->Nat->Nat->List Ob->Nat->List Prop×List AV×List (Nat×Option Ob)
 |[],_,_,_,_=>([],[],[])
 |
  t::ts,i,j,obs,nm =>
  bif own.any (aF i)then(bif (T t).agg then let c:=bE oa (r.comp i).cs 0 obs nm;let q:=ec T own oa r ts (i+1) (j+bB oa) c.2.2.1 c.2.2.2;((r.comp i=.agg (r.comp i).cs/\aO oa (r.comp i).cs 0 j obs)::q.1,.agg c.1::q.2.1,c.2.1++q.2.2)
  else let q:=ec T own oa r ts (i+1) (j+1) obs.tail (nm+1);((r.comp i=.vec j/\obs.headD .dead=.vec (qa T t) (obs.headD .dead).es)::q.1,.vec nm::q.2.1,(nm,some (.vec (qa T t) (obs.headD .dead).es))::q.2.2))
  else let q:=ec T own oa r ts (i+1) j obs nm;(oO (T t) (r.comp i)::q.1,l0 (T t) (r.comp i)::q.2.1,q.2.2)
def dH(T:ep)(own:List Nat)(ow:List LK)(oa:List CK)(t:Nat)(r:AV)(j:Nat)(obs:List Ob)(nm:Nat):List Prop×AV×List (Nat×Option Ob) :=
 match (T t).k with
 | .tuple []=>([],.any,[])
 | .tuple ts=>let q:=ec T own oa r ts 0 j obs nm;((r=.cP ((bc ts.length).map r.comp))::q.1,.cP q.2.1,q.2.2)
 |
  .pt=>bif own.any (aF 0)then([r=.ref j 0/\obs.headD .dead=.cells (obs.headD .dead).cs/\(obs.headD .dead).cs.length=ow.length/\cc ow (obs.headD .dead).cs 0],.ref nm 0,[(nm,some (.cells (je ow (obs.headD .dead).cs 0)))])
  else([oO (T t) r],l0 (T t) r,[])
 |
  _=>bif own.any (aF 0)then(bif (T t).agg then let c:=bE oa r.cs 0 obs nm;([r=.agg r.cs/\aO oa r.cs 0 j obs],.agg c.1,c.2.1)else([r=.vec j/\obs.headD .dead=.vec (qa T t) (obs.headD .dead).es],.vec nm,[(nm,some (.vec (qa T t) (obs.headD .dead).es))]))
  else([oO (T t) r],l0 (T t) r,[])
def newName(d:Option Nat):Nat:=match d with|some d=>(d+1)*1000|none=>999000
def mH(d:De):List Nat:=d.cr.map (·.1)
def jN(o:Oper):List Nat:=o.op.operands.toList.filterMap fun| .tmp t=>some t|_=>none
def cV(o:Oper)(ops:List Oper):List Nat:=match o.guard with|some (g,_)=>(match (ops[g]?).map (·.dst)with|some (some t)=>[t]|_=>[])|none=>[]
def fT(l:List Nat)(a:Nat):Bool:=l.any (aF a)
def gZ(o:Oper):List Nat:=match o.dst with|some d=>[d]|none=>[]
def pZ(a b:List Nat):Bool:=!(a.any (fT b))
def Bh(ops:List Oper)(x y:Oper):Bool :=
 pZ (gZ x) (jN y)&&(pZ (gZ x) (cV y ops)&&(pZ (gZ x) (gZ y)&&(pZ (gZ y) (jN x)&&(pZ (gZ y) (cV x ops)&&(pZ (cV x ops) (jN y)&&pZ (cV y ops) (jN x))))))
def gP(o:Oper):Bool:=match o.op with| .call ⟨.value _,_,_⟩=>true|_=>false
structure HE where
 i:Nat
 o:Oper
 rd:List Nat
 wr:List Nat
 uw:List Nat
def dh(o:Oper):List Nat:=o.after.toList.filterMap fun e=>match e.ground with| .textOnly _| .gcOnly _=>none|_=>some e.on
def hJ(o:Oper)(hist:List HE):List Nat:=dh o++(hist.filter fun h=>fT (dh o) h.i).flatMap (·.uw)
def wL(ops:List Oper)(p o:Oper)(rq wq rd wr:List Nat):Bool :=
 !(gP p&&gP o)&&(Bh ops p o&&(pZ wr wq&&(pZ wr rq&&pZ rd wq)))
def jx(ops:List Oper)(o:Oper)(rd wr:List Nat)(hist:List HE)(uw:List Nat):Bool :=
 hist.all fun h=>fT uw h.i||wL ops h.o o h.rd h.wr rd wr
def St.app(s:St)(dst:Option Nat)(d:De):St :=
 {tm:=match dst with|some t=>cr s.tm t d.val|none=>s.tm,ob:=cx s.ob d.cr,us:=eM s.us d.new}
def dB(s:St)(n:Nat)(dst:Option Nat)(d:De):Bool :=
 (d.new.all fun o=>!(s.us o))&&nodup d.new&&(match dst with|some t=>cv t n|none=>true)
section
variable (T:ep) (cfg:Nat->FC) (n:Nat)
inductive zG where
 |no
 |d (p:Option Prop) (d:De)
 |c (f:Nat) (asq:List AV) (ins:List Ob) (wr:List Nat) (k:AV->List Ob->List Prop×De)
def keyOf(f:Nat):List AV->Nat
 |[]=>f
 | .fn g _::_=>f+100000*(g+1)
 |_::r=>keyOf f r
def Br(t:TI):Bool:=!t.agg&&(Ba t).plain
def Hj(T:ep)(t:Nat):Bool:=match (T t).k with| .tuple ts=>ts.all fun u=>Br (T u)|_=>Br (T t)
def F2:List CK->Bool
 |[]=>true
 | .lk k::r=>k.plain&&F2 r
 | .vec _::r=>F2 r
def Io(T:ep)(own:List Nat)(oa:List CK)(i t:Nat):Bool:=bif own.any (aF i)then(bif (T t).agg then F2 oa else true)else Br (T t)
def Kd(T:ep)(own:List Nat)(oa:List CK):List Nat->Nat->Bool
 |[],_=>true
 |t::ts,i=>Io T own oa i t&&Kd T own oa ts (i+1)
def Ge(T:ep)(own:List Nat)(oa:List CK)(t:Nat):Bool:=match (T t).k with
 | .tuple []=>false
 | .tuple ts=>Kd T own oa ts 0
 | .pt=>!(own.any (aF 0))&&Br (T t)
 |_=>Io T own oa 0 t
def vj(T:ep)(own:List Nat)(oa:List CK)(ins:List Ob)(t:Nat):Bool:=(match ins with|[]=>true|_=>false)&&(match own with|[]=>Hj T t|_=>Ge T own oa t)
def jq:Ob->Prop
 | .vec _ es=>∀e,e∈es->∀c,c∈e->∃x,c=.v x
 |_=>False
def uM(T:ep)(own:List Nat)(oa:List CK)(ins:List Ob)(t:Nat)(obs:List Ob):List Prop:=match own with
 |[]=>[]
 |_=>bif vj T own oa ins t then [∀x,x∈obs->jq x]else []
def pN(os:List Nat):List (Nat×Option Ob):=os.map fun o=>(o,none)
def fR(e:Operand->AV)(ob:Nat->Option Ob)(o:Oper)(f:Nat)(asq:List AV):zG :=
 let c:=cfg (keyOf f asq)
 match ik ob c.mu asq 0 0 with
 |
  some (as',ins,os,fz)=>bif nodup os&&(!(os.any (fT fz))&&(dK (dz c.mu) ins&&(lN ob c.mu os ins asq 0&&rO (dz c.mu) os ins)))then
   .c f (jf c.mu as' 0) ins (let b:=dj (dz c.mu) os [] 0 (newName o.dst);fz++(os++(b.2.1++(dH T c.own c.ow c.oa o.type .any ins.length b.2.2.1 b.2.2.2).2.2).map (·.1))) fun r obs =>
    let b:=dj (dz c.mu) os obs 0 (newName o.dst)
    let v:=dH T c.own c.ow c.oa o.type r ins.length b.2.2.1 b.2.2.2
    (b.1++(v.1++uM T c.own c.oa ins o.type obs),{val:=v.2.1,cr:=(bif vj T c.own c.oa ins o.type then []else fw ob fz)++(pN os++(b.2.1++v.2.2)),new:=sx (dz c.mu) (newName o.dst)++v.2.2.map (·.1)})
  else .no
 |none=>.no
def jX(e:Operand->AV)(ob:Nat->Option Ob)(o:Oper):zG :=
 match o.op with
 |
  .call ⟨.value g,xs,_⟩ =>
  match e g with
  | .v (.func (.func f) fi cap)=>bif aF fi.size 0&&aF cap.size 0 then fR T cfg e ob o f (xs.toList.map e)else .no
  | .fn f cap=>fR T cfg e ob o f (xs.toList.map e++cap)
  |_=>.no
 |
  _=>match dI T e ob o with
  | .ok p d=>.d (some p) d
  | .yes d=>.d none d
  | .no=>.no
def wg(o:Oper)(s:St)(K:List Nat->List Nat->St->Tree):Tree :=
 match jX T cfg (ev s) s.ob o with
 | .no=>.fail
 | .d p d=>bif dB s n o.dst d then(match p with|none=>K d.rd (mH d) (s.app o.dst d)|some p=>.al p (K d.rd (mH d) (s.app o.dst d)))else .fail
 | .c f asq ins wr k=>.call f asq ins fun r obs=>nU (k r obs).1 (bif dB s n o.dst (k r obs).2 then K [] wr (s.app o.dst (k r obs).2)else .fail)
def kF(draw:Bool)(all:List Oper):List Oper->List HE->St->(St->Tree)->Tree
 |[],_,s,K=>K s
 |
  o::rest,hist,s,K =>
  let run (s:St):Tree:=wg T cfg n o s fun rd wr s'=>bif !draw||((dh o).all (fun j=>cv j hist.length)&&jx all o rd wr hist (hJ o hist))then kF draw all rest (hist++[⟨hist.length,o,rd,wr,hJ o hist⟩]) s' K else .fail
  let skip (s:St):Tree:=bif (match o.dst with|some t=>cv t n|none=>true)&&(!draw||((dh o).all (fun j=>cv j hist.length)&&jx all o [] [] hist (hJ o hist)))then kF draw all rest (hist++[⟨hist.length,o,[],[],hJ o hist⟩]) (match o.dst with|some t=>s.set t (.v (.tuple #[]))|none=>s) K else .fail
  match o.guard with
  |none=>run s
  |
   some (g,want)=>match (all[g]?).map (·.dst)with
   |
    some (some t)=>match s.tm t with
    | .v (.bool true)=>bif want then run s else skip s
    | .v (.bool false)=>bif want then skip s else run s
    | .v (.tuple _)=>skip s
    | .b b=>.test b (bif want then run (s.set t (.v (.bool true)))else skip (s.set t (.v (.bool true)))) (bif want then skip (s.set t (.v (.bool false)))else run (s.set t (.v (.bool false))))
    |_=>.fail
   |_=>.fail
inductive Ex where
 |normal|exit (id:Nat)|ret
def s3(ob:Nat->Option Ob)(tm:Nat->AV):List (Nat×SK)->Option (List AV×List Nat)
 |[]=>some ([],[])
 |
  (t,_)::r=>match freeze ob eh (tm t),s3 ob tm r with
  |some (a,f),some (asq,fs)=>some (a::asq,f++fs)
  |_,_=>none
def uZ(tm:Nat->AV):List (Nat×Nat)->Bool
 |[]=>true
 |(t,o)::r=>(match tm t with| .ref o' 0=>aF o o'|_=>false)&&uZ tm r
def vd(tm:Nat->AV):List (Nat×Nat×List (Option Nat))->Bool
 |[]=>true
 |(t,f,js)::r=>(match tm t with| .eJ f' js'=>aF f' f&&E5 js' js|_=>false)&&vd tm r
def vg:List AV->List Nat->Bool
 |[],[]=>true
 | .ref o 0::r,p::l=>aF o p&&vg r l
 |_,_=>false
def vO(tm:Nat->AV):List (Nat×Nat×List Nat)->Bool
 |[]=>true
 |(t,f,js)::r=>(match tm t with| .fn f' caps=>aF f' f&&vg caps js|_=>false)&&vO tm r
def pT(ob:Nat->Option Ob):List (Nat×List CK)->Option (List Ob×List Nat)
 |[]=>some ([],[])
 |
  (o,ks)::r=>match ob o with
  |
   some (.cells cs)=>match bN ob ks cs (100*o),pT ob r with
   |some (asq,obs,os),some (obs',os')=>some (.cells (fe ks asq)::obs++obs',o::os++os')
   |_,_=>none
  |_=>none
def kC(ob:Nat->Option Ob)(tm:Nat->AV):List (Nat×Nat)->Option (List Ob×List Nat)
 |[]=>some ([],[])
 |
  (t,sz)::r=>match tm t with
  |
   .v (.slice none 0 0)=>match kC ob tm r with
   |some (obs,os)=>some (.vec sz []::obs,(2*ez+t)::os)
   |none=>none
  |
   .vec o=>match ob o,kC ob tm r with
   |some (.vec sz es),some (obs,os)=>some (.vec sz es::obs,o::os)
   |_,_=>none
  |_=>none
def iZ:Nat:=1000000
def mR:Nat:=2000000
def oJ:Nat:=4000000
def lZ:List (Nat×List CK)->Nat
 |[]=>0
 |(_,ks)::r=>bB ks+lZ r
def pQ(ob:Nat->Option Ob)(tm:Nat->AV):List (Nat×List CK)->Option (List AV×List Ob×List Nat)
 |[]=>some ([],[],[])
 |
  (t,ks)::r=>match tm t with
  |
   .agg cs=>match bN ob ks cs (oJ+100*t),pQ ob tm r with
   |some (asq,obs,os),some (xs,obs',os')=>some (.agg (fe ks asq)::xs,obs++obs',os++os')
   |_,_=>none
  |_=>none
def qP(ob:Nat->Option Ob)(tm:Nat->AV):List (Nat×Nat×Nat)->Option (List Ob×List Nat)
 |[]=>some ([],[])
 |
  (t,o,sz)::r=>match tm t with
  |
   .vec o'=>match ob o,qP ob tm r with
   |some (.vec sz' es),some (obs,os)=>bif aF o' o&&aF sz' sz then some (.vec sz es::obs,o::os)else none
   |_,_=>none
  |_=>none
def LC(cM:List (Nat×List CK)):Option Nat->Bool
 |none=>true
 |some o=>cM.any fun q=>aF q.1 o
def tQ(h:Shape):Bool:=(h.cM.all (fun p=>cv p.1 iZ)&&h.kv.all (fun p=>cv p.2.1 iZ))&&(nodup (h.cM.map (·.1)++h.kv.map (·.2.1))&&(fv (iZ+lZ h.cM) mR&&(fv (mR+h.eG.length) oJ&&(h.refs.all (fun p=>h.cM.any fun q=>aF q.1 p.2)&&(h.yY.all (fun p=>p.2.2.all (LC h.cM))&&h.fns.all (fun p=>p.2.2.all fun o=>LC h.cM (some o)))))))
def wT(h:Shape)(s:St):Option (List AV×List Ob) :=
 match s3 s.ob s.tm h.ck,pT s.ob h.cM,kC s.ob s.tm h.eG,pQ s.ob s.tm h.sa,qP s.ob s.tm h.kv with
 |some (xs,fz),some (o1,n1),some (o2,n2),some (ys,o3,n3),some (o4,n4)=>bif ((uZ s.tm h.refs&&(vd s.tm h.yY&&vO s.tm h.fns))&&!((n1++(n2++(n3++n4))).any (fT fz)))&&(nodup (n1++(n2++(n3++n4)))&&tQ h)then some (xs++ys,o1++(o2++(o3++o4)))else none
 |_,_,_,_,_=>none
def wF:List (Nat×SK)->List AV->(Nat->AV)->Nat->AV
 |[],_,f=>f
 |(t,k)::r,xs,f=>wF r xs.tail (cr f t (k.cast (xs.headD .any)))
def Cv:List (Nat×Nat)->(Nat->AV)->Nat->AV
 |[],f=>f
 |(t,o)::r,f=>Cv r (cr f t (.ref o 0))
def Dj:List (Nat×Nat×List (Option Nat))->(Nat->AV)->Nat->AV
 |[],f=>f
 |(t,k,js)::r,f=>Dj r (cr f t (.eJ k js))
def DA:List (Nat×Nat×List Nat)->(Nat->AV)->Nat->AV
 |[],f=>f
 |(t,k,js)::r,f=>DA r (cr f t (.fn k (js.map fun o=>.ref o 0)))
def rj:List (Nat×List CK)->List Ob->(Nat->Option Ob)->Nat->(Nat->Option Ob)×List Ob
 |[],obs,f,_=>(f,obs)
 |
  (o,ks)::r,obs,f,nm =>
  let c:=bE ks (obs.headD .dead).cs 0 obs.tail nm
  rj r c.2.2.1 (cr (cx f c.2.1) o (some (.cells c.1))) c.2.2.2
def p7:List (Nat×Nat)->List Ob->(Nat->AV)->(Nat->Option Ob)->Nat->(Nat->AV)×(Nat->Option Ob)
 |[],_,f,g,_=>(f,g)
 |(t,sz)::r,obs,f,g,nm=>p7 r obs.tail (cr f t (.vec nm)) (cr g nm (some (.vec sz (obs.headD .dead).es))) (nm+1)
def wz:List (Nat×List CK)->List AV->List Ob->(Nat->AV)->(Nat->Option Ob)->Nat->(Nat->AV)×(Nat->Option Ob)
 |[],_,_,f,g,_=>(f,g)
 |
  (t,ks)::r,xs,obs,f,g,nm =>
  let c:=bE ks (xs.headD .any).cs 0 obs nm
  wz r xs.tail c.2.2.1 (cr f t (.agg c.1)) (cx g c.2.1) c.2.2.2
def vk:List (Nat×Nat×Nat)->List Ob->(Nat->AV)->(Nat->Option Ob)->(Nat->AV)×(Nat->Option Ob)
 |[],_,f,g=>(f,g)
 |(t,o,sz)::r,obs,f,g=>vk r obs.tail (cr f t (.vec o)) (cr g o (some (.vec sz (obs.headD .dead).es)))
def KM(h:Shape)(xs:List AV)(obs:List Ob):St :=
 let o:=rj h.cM obs (fun _=>none) iZ
 let v:=p7 h.eG o.2 (DA h.fns (Dj h.yY (Cv h.refs (wF h.ck xs (fun _=>.any))))) o.1 mR
 let u:=wz h.sa (xs.drop h.ck.length) (o.2.drop h.eG.length) v.1 v.2 oJ
 let k:=vk h.kv ((o.2.drop h.eG.length).drop (lZ h.sa)) u.1 u.2
 {tm:=k.1,ob:=k.2,us:=fun x=>(k.2 x).isSome}
def nu:List (Nat×SK)->List AV->List Prop
 |[],_=>[]
 |(_,k)::r,xs=>k.has (xs.headD .any)::nu r xs.tail
def ah:List CK->List AV->Nat->List Ob->Prop
 |[],cs,i,_=>cs.length=i
 | .lk k::ks,cs,i,obs=>k.has (cs.getD i .any)/\ah ks cs (i+1) obs
 | .vec h::ks,cs,i,obs=>obs.headD .dead=.vec h (obs.headD .dead).es/\ah ks cs (i+1) obs.tail
def uc:List (Nat×List CK)->List Ob->List Prop
 |[],_=>[]
 |(_,ks)::r,obs=>(obs.headD .dead=.cells (obs.headD .dead).cs)::ah ks (obs.headD .dead).cs 0 obs.tail::uc r (obs.tail.drop (bB ks))
def nH:List (Nat×Nat)->List Ob->List Prop
 |[],_=>[]
 |(_,sz)::r,obs=>(obs.headD .dead=.vec sz (obs.headD .dead).es)::nH r obs.tail
def BZ:List (Nat×List CK)->Nat
 |[]=>0
 |(_,ks)::r=>1+bB ks+BZ r
def tR:List (Nat×List CK)->List AV->List Ob->List Prop
 |[],_,_=>[]
 |(_,ks)::r,xs,obs=>(xs.headD .any=.agg (xs.headD .any).cs)::ah ks (xs.headD .any).cs 0 obs::tR r xs.tail (obs.drop (bB ks))
def wv:List (Nat×Nat×Nat)->List Ob->List Prop
 |[],_=>[]
 |(_,_,sz)::r,obs=>(obs.headD .dead=.vec sz (obs.headD .dead).es)::wv r obs.tail
def xU(h:Shape)(xs:List AV)(obs:List Ob):List Prop:=nu h.ck xs++(uc h.cM obs++(nH h.eG (obs.drop (BZ h.cM))++(tR h.sa (xs.drop h.ck.length) ((obs.drop (BZ h.cM)).drop h.eG.length)++wv h.kv (((obs.drop (BZ h.cM)).drop h.eG.length).drop (lZ h.sa)))))
def jR:Code->Option Nat
 | .region i _ _=>some i
 | .seq a b=>match jR a with|some i=>some i|none=>jR b
 | .cond _ a b=>match jR a with|some i=>some i|none=>jR b
 | .block _ c| .loop c| .scope c=>jR c
 |_=>none
def BN:List (Nat×LI)->Nat->Option LI
 |[],_=>none
 |(j,m)::r,i=>bif aF j i then some m else BN r i
def Js:List Nat->List Nat->Bool
 |[],[]=>true
 |a::l,b::r=>aF a b&&Js l r
 |_,_=>false
def uk(fx:List Nat)(h:Shape):Bool:=fx.all fun o=>(h.cM.any fun q=>aF q.1 o)||h.kv.any fun q=>aF q.2.1 o
def go(lis:List (Nat×LI))(fx:List Nat):Code->St->(Ex->St->Tree)->Tree
 | .skip,s,K=>K .normal s
 | .region _ ops draw,s,K=>kF T cfg n draw ops.toList ops.toList [] s (K .normal)
 | .seq a b,s,K=>go lis fx a s fun e s'=>match e with| .normal=>go lis fx b s' K| .exit i=>K (.exit i) s'| .ret=>K .ret s'
 |
  .cond c a b,s,K=>match c with
  |
   .tmp t=>match s.tm t with
   | .v (.bool true)=>go lis fx a s K
   | .v (.bool false)=>go lis fx b s K
   | .b x=>.test x (go lis fx a (s.set t (.v (.bool true))) K) (go lis fx b (s.set t (.v (.bool false))) K)
   |_=>.fail
  | .const (.bool true)=>go lis fx a s K
  | .const (.bool false)=>go lis fx b s K
  |_=>.fail
 | .block id c,s,K=>go lis fx c s fun e s'=>match e with| .exit i=>bif aF i id then K .normal s' else K (.exit i) s'| .normal=>K .normal s'| .ret=>K .ret s'
 |
  .loop c,s,K=>match (jR c).bind (BN lis)with
  |
   some li=>bif Js fx li.fx&&(uk fx li.xs&&uk fx li.rt)then(match wT li.hd s with
   |some (xs,obs)=>.loop c li xs obs (fun ys obs'=>nU (xU li.xs ys obs') (K (.exit li.ex) (KM li.xs ys obs'))) (fun ys obs'=>nU (xU li.rt ys obs') (K .ret (KM li.rt ys obs')))
   |none=>.fail)else .fail
  |none=>.fail
 | .exit i,s,K=>K (.exit i) s
 | .label _,s,K=>K .normal s
 | .ret,s,K=>K .ret s
 |_,_,_=>.fail
def round(lis:List (Nat×LI))(c:Code)(li:LI)(xs:List AV)(obs:List Ob):Tree :=
 bif !(uk li.fx li.hd)then .fail else nU (xU li.hd xs obs)<|go T cfg n lis li.fx c (KM li.hd xs obs) fun e s=>match e with
  | .normal=>match wT li.hd s with|some (ys,o)=>.done 0 ys o|none=>.fail
  | .exit i=>bif aF i li.ex then(match wT li.xs s with|some (ys,o)=>.done 1 ys o|none=>.fail)else .fail
  | .ret=>match wT li.rt s with|some (ys,o)=>.done 2 ys o|none=>.fail
end
def mG(T:ep)(s:St):List ResultVar->Option (List Prop×List AV)
 |[]=>some ([],[])
 | .tmp t::r=>(mG T s r).map fun q=>(q.1,s.tm t::q.2)
 |
  .cell t ty::r=>match loadAt s.ob (T ty) (s.tm t),mG T s r with
  | .ok p d,some q=>some (p::q.1,d.val::q.2)
  | .yes d,some q=>some (q.1,d.val::q.2)
  |_,_=>none
def sb(T:ep)(s:St)(own:List Nat)(oa:List CK):List Nat->List AV->Nat->Nat->Option (List AV×List Ob×List Nat×List Nat)
 |_,[],_,_=>some ([],[],[],[])
 |
  ts,a::asq,i,k=>bif own.any (aF i)then
   match a with
   |
    .vec o=>match s.ob o,sb T s own oa ts.tail asq (i+1) (k+1)with
    |some (.vec sz es),some (xs,obs,os,fz)=>some (.vec k::xs,.vec sz es::obs,o::os,fz)
    |_,_=>none
   |
    .ref o 0=>match s.ob o with
    |
     some (.cells cs)=>match mF (freeze s.ob eh) cs,sb T s own oa ts.tail asq (i+1) (k+1)with
     |some (as',[]),some (xs,obs,os,fz)=>some (.ref k 0::xs,.cells as'::obs,o::os,fz)
     |_,_=>none
    |_=>none
   |
    .v (.slice none 0 0)=>match sb T s own oa ts.tail asq (i+1) (k+1)with
    |some (xs,obs,os,fz)=>some (.vec k::xs,.vec (qa T (ts.headD 0)) []::obs,(4*ez+k)::os,fz)
    |none=>none
   |
    .agg cs=>match bN s.ob oa cs k,sb T s own oa ts.tail asq (i+1) (k+bB oa)with
    |some (as',ob',os'),some (xs,obs,os,fz)=>some (.agg as'::xs,ob'++obs,os'++os,fz)
    |_,_=>none
   |_=>none
  else match freeze s.ob eh a,sb T s own oa ts.tail asq (i+1) k with
   |some (x,f),some (xs,obs,os,fz)=>some (x::xs,obs,os,f++fz)
   |_,_=>none
def l8(ob:Nat->Option Ob):List MK->Nat->Option (List Ob×List Nat)
 |[],_=>some ([],[])
 |
  .vec::ms,j=>match l8 ob ms (j+1)with
  |some (obs,os)=>some (.dead::obs,(5*ez+j)::os)
  |none=>none
 |
  .ve _::ms,j=>match l8 ob ms (j+1)with
  |some (obs,os)=>some (.dead::obs,(5*ez+j)::os)
  |none=>none
 |
  .cB _ ks::ms,j=>match ob j with
  |
   some (.vec sz es)=>bif aF sz (ld ks)then(match l8 ob ms (j+1)with
   |some (obs,os)=>some (.mC sz es::obs,j::os)
   |none=>none)else none
  |_=>none
 |
  .obj ks::ms,j=>match ob j with
  |
   some (.cells cs)=>match bN ob ks cs (j+1)with
   |
    some (asq,obs,os)=>match l8 ob ms (j+1+bB ks)with
    |some (obs',os')=>some (.cells asq::obs++obs',j::os++os')
    |none=>none
   |none=>none
  |_=>none
def finish(T:ep)(fc:FC)(rv:List ResultVar)(ts:List Nat)(s:St):Tree :=
 match mG T s rv with
 |
  some (p,asq)=>match l8 s.ob (dz fc.mu) 0 with
  |some (obs',os')=>match sb T s fc.own fc.oa ts asq 0 obs'.length with
   |some (xs,obs,os,fz)=>bif nodup (os'++os)&&!((os'++os).any (fT fz))then nU p (.done 0 [match xs with|[]=>.any|[x]=>x|xs=>.cP xs] (obs'++obs))else .fail
   |none=>.fail
  |none=>.fail
 |none=>.fail
def setArgs:List AV->Nat->(Nat->AV)->Nat->AV
 |[],_,f=>f
 |a::asq,i,f=>setArgs asq (i+1) (cr f i a)
def rB:List Ob->Nat->(Nat->Option Ob)->Nat->Option Ob
 |[],_,f=>f
 |a::asq,i,f=>rB asq (i+1) (cr f i (some a))
def enter(args:List AV)(ins:List Ob):St :=
 {tm:=setArgs args 0 fun _=>.any,ob:=rB ins 0 fun _=>none,us:=fun j=>cv j ins.length}
def main(T:ep)(cfg:Nat->FC)(lis:List (Nat×LI))(fc:FC)(f:Func)(args:List AV)(ins:List Ob):Tree :=
 match f.body with
 |
  some c=>bif fv args.length f.ntmps&&dK (dz fc.mu) ins then go T cfg f.ntmps lis (ph (dz fc.mu) 0) c (enter args ins) fun e s=>match e with
  | .normal| .ret=>finish T fc f.results.toList f.resultTypes.toList s
  | .exit _=>.fail else .fail
 |none=>.fail
def dx(f:Func):Code:=match f.body with|some c=>c|none=>.skip
def gX:Code->Nat->Option Code
 |
  .loop c,i=>match jR c with
  |some j=>bif aF j i then some c else gX c i
  |none=>gX c i
 | .seq a b,i=>match gX a i with|some c=>some c|none=>gX b i
 | .cond _ a b,i=>match gX a i with|some c=>some c|none=>gX b i
 | .block _ c,i=>gX c i
 | .scope c,i=>gX c i
 |_,_=>none
def dF(c:Code)(i:Nat):Code:=match gX c i with|some d=>d|none=>.skip
def yp:List (Nat×TI)->Nat->TI
 |[],_=>⟨false,[],false,0,.other,false⟩
 |(j,m)::r,i=>bif aF j i then m else yp r i
def Aw:List (Nat×FC)->Nat->FC
 |[],_=>{}
 |(j,m)::r,i=>bif aF j i then m else Aw r i
end Go.VL
namespace Go.VL
open Go Go.RowKit
structure Mem where
 c:Nat->Nat->Option Value
 one:∀b k v,c b k=some v->v.oneCell'=true
 p:Nat->Prop
 pc:∀b,p b->∃k v,c b k=some v
structure Mem.le(M M':Mem):Prop where
 c:∀b k v,M.c b k=some v->M'.c b k=some v
 p:∀b,M.p b->M'.p b
theorem Mem.le.refl(M:Mem):M.le M:=⟨fun _ _ _ h=>h,fun _ h=>h⟩
theorem Mem.le.trans{M M' M'':Mem}(h:M.le M')(k:M'.le M''):M.le M'':=⟨fun b i v e=>k.c _ _ _ (h.c _ _ _ e),fun b e=>k.p _ (h.p _ e)⟩
inductive Loc where
 |cells (b:Nat)
 |vec (v:Value) (sz:Nat)
abbrev Lo:=Nat->Option Loc
def dk:Lo:=fun _=>none
def Lo.le(β β':Lo):Prop:=∀o l,β o=some l->β' o=some l
theorem Lo.le.refl(β:Lo):Lo.le β β:=fun _ _ h=>h
theorem Cm(β:Lo):Lo.le dk β:=fun _ _ h=>by cases h
def Loc.block:Loc->Option Nat
 | .cells b=>some b
 | .vec (.slice (some a) _ _) _=>some a.block
 |_=>none
inductive bo(M:Mem):Lo->AV->Value->Prop
 |any (β x):bo M β .any x
 |v (β x):bo M β (.v x) x
 |b (β t):bo M β (.b t) (.bool t)
 |agg (β cs) (vs:List Value) (hl:cs.length=vs.length) (ho:∀i,i<cs.length->(vs.getD i undef).oneCell'=true) (h:∀i,i<cs.length->bo M β (cs.getD i .any) (vs.getD i undef)):bo M β (.agg cs) (.agg vs.toArray)
 |cP (β cs) (vs:List Value) (hl:cs.length=vs.length) (h:∀i,i<cs.length->bo M β (cs.getD i .any) (vs.getD i undef)):bo M β (.cP cs) (.tuple vs.toArray)
 |ptr (β) (cs:List AV) (b off:Nat) (us:Nat->Value) (h:∀i,i<cs.length->M.c b (off+i)=some (us i)) (h':∀i,i<cs.length->bo M dk (cs.getD i .any) (us i)) :
  bo M β (.ptr cs) (.pointer (some ⟨b,off,none⟩))
 |pid (β) (cs:List AV) (b:Nat) (us:Nat->Value) (hp:M.p b) (h:∀i,i<cs.length->M.c b i=some (us i)) (h':∀i,i<cs.length->bo M dk (cs.getD i .any) (us i)) :
  bo M β (.pid b cs) (.pointer (some ⟨b,0,none⟩))
 |slnil (β):bo M β (.sl []) (.slice none 0 0)
 |sl (β) (es:List (List AV)) (b off c sz:Nat) (us:Nat->Value) (hc:es.length<=c) (hs:∀i,i<es.length->(es.getD i []).length=sz)
  (h:∀i,i<es.length*sz->M.c b (off+i)=some (us i)) (h':∀i j,i<es.length->j<sz->bo M dk ((es.getD i []).getD j .any) (us (i*sz+j))) :
  bo M β (.sl es) (.slice (some ⟨b,off,none⟩) es.length c)
 |x (β a v) (ho:v.oneCell'=true) (h:bo M dk a v):bo M β (.x a) v
 |ref (β:Lo) (o k b) (h:β o=some (.cells b)):bo M β (.ref o k) (.pointer (some ⟨b,k,none⟩))
 |nw (β:Lo) (o k b) (h:β o=some (.cells b)):bo M β (.nw o k) (.pointer (some ⟨b,k,none⟩))
 |vec (β:Lo) (o v sz) (ho:v.oneCell'=true) (h:β o=some (.vec v sz)):bo M β (.vec o) v
 |mn (β:Lo) (o i k sz b off n c) (h:β o=some (.vec (.slice (some ⟨b,off,none⟩) n c) sz)):bo M β (.mn o i k) (.pointer (some ⟨b,off+i*sz+k,none⟩))
 |eJ (β:Lo) (f js b) (vs:List Value) (h:M.c b 0=some (.func (.func f) #[] vs.toArray)) (hl:js.length=vs.length) (hs:∀i,i<js.length->js.getD i none=none->vs.getD i undef=.pointer (some ⟨b,0,none⟩)) (ho:∀i o,i<js.length->js.getD i none=some o->∃b',β o=some (.cells b')/\vs.getD i undef=.pointer (some ⟨b',0,none⟩)) :
  bo M β (.eJ f js) (.pointer (some ⟨b,0,none⟩))
 |fn (β f cs) (vs:List Value) (hl:cs.length=vs.length) (h:∀i,i<cs.length->bo M β (cs.getD i .any) (vs.getD i undef)):bo M β (.fn f cs) (.func (.func f) #[] vs.toArray)
theorem bo.mono{M M':Mem}(hM:M.le M'){β:Lo}{a:AV}{v:Value}(h:bo M β a v):∀{β':Lo},Lo.le β β'->bo M' β' a v:=by
 induction h with
 |any β x=>intro β' hβ;exact .any _ _
 |v β x=>intro β' hβ;exact .v _ _
 |b β t=>intro β' hβ;exact .b _ _
 |agg β cs vs hl ho h ih=>intro β' hβ;exact .agg _ _ _ hl ho fun i hi=>ih i hi hβ
 |cP β cs vs hl h ih=>intro β' hβ;exact .cP _ _ _ hl fun i hi=>ih i hi hβ
 |ptr β cs b off us h h' ih=>intro β' hβ;exact .ptr _ _ _ _ us (fun i hi=>hM.c _ _ _ (h i hi)) fun i hi=>ih i hi (Lo.le.refl _)
 |pid β cs b us hp h h' ih=>intro β' hβ;exact .pid _ _ _ us (hM.p _ hp) (fun i hi=>hM.c _ _ _ (h i hi)) fun i hi=>ih i hi (Lo.le.refl _)
 |slnil β=>intro β' hβ;exact .slnil _
 |sl β es b off c sz us hc hs h h' ih=>intro β' hβ;exact .sl _ _ _ _ _ sz us hc hs (fun i hi=>hM.c _ _ _ (h i hi)) fun i j hi hj=>ih i j hi hj (Lo.le.refl _)
 |x β a v ho h ih=>intro β' hβ;exact .x _ _ _ ho (ih (Lo.le.refl _))
 |ref β o k b h=>intro β' hβ;exact .ref _ _ _ _ (hβ _ _ h)
 |nw β o k b h=>intro β' hβ;exact .nw _ _ _ _ (hβ _ _ h)
 |vec β o v sz ho h=>intro β' hβ;exact .vec _ _ _ sz ho (hβ _ _ h)
 |mn β o i k sz b off n c h=>intro β' hβ;exact .mn _ _ _ _ sz _ _ n c (hβ _ _ h)
 |eJ β f js b vs h hl hs ho=>intro β' hβ;exact .eJ _ _ _ _ vs (hM.c _ _ _ h) hl hs fun i o hi e=>let ⟨b',h1,h2⟩:=ho i o hi e;⟨b',hβ _ _ h1,h2⟩
 |fn β f cs vs hl h ih=>intro β' hβ;exact .fn _ _ _ _ hl fun i hi=>ih i hi hβ
theorem bo.up{M:Mem}{β:Lo}{a:AV}{v:Value}(h:bo M dk a v):bo M β a v:=h.mono (Mem.le.refl M) (Cm β)
theorem xS{M:Mem}{β:Lo}{a:AV}{v:Value}(h:bo M β a v)(hk:LK.ptr.has a):v.oneCell'=true:=by
 rcases hk with rfl|⟨cs,rfl⟩|⟨b,cs,rfl⟩<;>cases h<;>rfl
theorem AR{M:Mem}{β:Lo}{a:AV}{v:Value}(h:bo M β a v)(hk:Bi a=true):v.oneCell'=true:=by
 cases h<;>first|rfl|(simp[Bi]at hk;done)|skip
 ·exact hk
 all_goals assumption
theorem Ci{M:Mem}{β:Lo}{a:AV}{v:Value}(h:bo M β a v)(hk:LK.kS.has a):v.oneCell'=true:=by
 have hk:BE a=true:=hk
 cases h<;>first|(simp[BE]at hk;done)|skip
 ·exact hk
 ·assumption
theorem km{M:Mem}{β:Lo}{k:LK}{a:AV}{v:Value}(h:bo M β a v)(hk:k.has a):bo M dk a v:=by
 cases k with
 |int k=>obtain⟨n,rfl⟩:=hk;cases h;exact .v _ _
 |bool=>obtain⟨n,rfl⟩:=hk;cases h;exact .v _ _
 |str=>obtain⟨n,rfl⟩:=hk;cases h;exact .v _ _
 |
  ptr =>
  rcases hk with rfl|⟨cs,rfl⟩|⟨b,cs,rfl⟩
  ·cases h;exact .v _ _
  ·cases h with|ptr _ _ _ _ us h h'=>exact .ptr _ _ _ _ us h h'
  ·cases h with|pid _ _ _ us hp h h'=>exact .pid _ _ _ us hp h h'
 |
  sl =>
  rcases hk with rfl|⟨es,rfl⟩
  ·cases h;exact .v _ _
  ·cases h with
   |slnil=>exact .slnil _
   |sl _ _ _ _ _ sz us hc hs h h'=>exact .sl _ _ _ _ _ sz us hc hs h h'
 |
  kS =>
  have hk:BE a=true:=hk
  cases h<;>first|(simp[BE]at hk;done)|skip
  ·exact .v _ _
  ·rename_i ho h;exact .x _ _ _ ho h
theorem AO{M:Mem}{β:Lo}{a:AV}{v:Value}(h:bo M β a v)(hk:LK.sl.has a):v.oneCell'=true:=by
 rcases hk with rfl|⟨cs,rfl⟩<;>cases h<;>rfl
theorem LK.gR{M:Mem}{β:Lo}{k:LK}{a:AV}{v:Value}(h:bo M dk a v)(hk:k.has a):bo M β (k.cast a) v:=by
 cases k with
 |int k=>obtain⟨n,rfl⟩:=hk;exact h.up
 |bool=>obtain⟨n,rfl⟩:=hk;cases h;exact .b _ _
 |str=>obtain⟨n,rfl⟩:=hk;exact h.up
 |ptr=>exact .x _ _ _ (xS h hk) h
 |sl=>exact .x _ _ _ (AO h hk) h
 |kS=>exact .x _ _ _ (Ci h hk) h
theorem kp:∀(ks:List LK) (cs:List AV) (s i:Nat) (h:cc ks cs s) (hi:i<ks.length),(ks.getD i .kS).has (cs.getD (s+i) .any)
 |k::ks,cs,s,0,h,hi=>by simpa using h.1
 |
  k::ks,cs,s,i+1,h,hi=>by
  have:=kp ks cs (s+1) i h.2 (by simpa using hi)
  simpa[Nat.add_comm,Nat.add_left_comm]using this
theorem df:∀(ks:List LK) (cs:List AV) (s:Nat),(je ks cs s).length=ks.length
 |[],_,_=>rfl
 |_::ks,cs,s=>by simp[je,df ks cs (s+1)]
theorem kH:∀(ks:List LK) (cs:List AV) (s i:Nat),i<ks.length->(je ks cs s).getD i .any=(ks.getD i .kS).cast (cs.getD (s+i) .any)
 |k::ks,cs,s,0,h=>by simp[je]
 |
  k::ks,cs,s,i+1,h=>by
  have:=kH ks cs (s+1) i (by simpa using h)
  simp only[je,List.getD_cons_succ]
  rw[this]
  congr 2
  omega
theorem pC{M:Mem}{β:Lo}{ks:List LK}{cs:List AV}{s:Nat}{us:Nat->Value}(h:cc ks cs s)(ho:∀i,i<ks.length->(us i).oneCell'=true)(hr:∀i,i<ks.length->bo M dk (cs.getD (s+i) .any) (us i)) :
 bo M β (.agg (je ks cs s)) (.agg ((bc ks.length).map us).toArray):=by
 refine .agg _ _ _ (by simp[df]) (fun i hi=>by rw[df]at hi;simpa[aa,hi]using ho i hi) fun i hi=>?_
 rw[df]at hi
 rw[kH ks cs s i hi]
 have e:((bc ks.length).map us).getD i undef=us i:=by simp[aa,hi]
 rw[e]
 exact LK.gR (hr i hi) (kp ks cs s i h hi)
structure gV(M:Mem)(w:World):Prop where
 c:∀b k v,M.c b k=some v->w.cell? ⟨b,k,none⟩=some v
 p:∀b,M.p b->∃vs e,w.heap[b]?=some (.cells vs e (0,0))/\vs.size≠0
instance (M:Mem) (w:World):CoeFun (gV M w) (fun _=>∀b k v,M.c b k=some v->w.cell? ⟨b,k,none⟩=some v):=⟨gV.c⟩
def Ob.live:Ob->Bool
 | .cells _| .vec _ _| .mC _ _=>true
 |_=>false
def Own(M:Mem)(β:Lo)(w:World)(o:Nat):Ob->Prop
 | .cells cs=>∃b vs e,β o=some (.cells b)/\w.heap[b]?=some (.cells vs e (0,0))/\vs.size=cs.length/\(∀i,i<cs.length->bo M β (cs.getD i .any) (vs.getD i undef))/\(∀k,M.c b k=none)/\∀v,v∈vs->v.oneCell'=true
 | .vec sz es=>∃v,β o=some (.vec v sz)/\(∀i,i<es.length->(es.getD i []).length=sz) /\
  ((
   v=.slice none 0 0/\es=[])\/∃b off c vs e,v=.slice (some ⟨b,off,none⟩) es.length c/\es.length<=c/\w.heap[b]?=some (.cells vs e (0,0))/\off+c*sz<=vs.size /\
   (∀i j,i<es.length->j<sz->bo M dk ((es.getD i []).getD j .any) (vs.getD (off+(i*sz+j)) undef))/\(∀k,M.c b k=none)/\off=0/\∀v,v∈vs->v.oneCell'=true)
 | .gO cs=>∃(b:Nat) (us:Nat->Value),β o=some (.cells b)/\(∀i,i<cs.length->M.c b i=some (us i)/\bo M β (cs.getD i .any) (us i))
 | .mw es=>∃v sz,β o=some (.vec v sz)/\(∀i,i<es.length->(es.getD i []).length=sz) /\
  ((
   v=.slice none 0 0/\es=[])\/∃(b off c:Nat) (us:Nat->Value),v=.slice (some ⟨b,off,none⟩) es.length c/\es.length<=c/\(∀i,i<es.length*sz->M.c b (off+i)=some (us i)) /\
   (∀i j,i<es.length->j<sz->bo M dk ((es.getD i []).getD j .any) (us (i*sz+j))))
 | .mC sz es=>∃v,β o=some (.vec v sz)/\(∀i,i<es.length->(es.getD i []).length=sz) /\
  ((
   v=.slice none 0 0/\es=[])\/∃b off c vs e,v=.slice (some ⟨b,off,none⟩) es.length c/\es.length<=c/\w.heap[b]?=some (.cells vs e (0,0))/\off+c*sz<=vs.size /\
   (∀i j,i<es.length->j<sz->bo M dk ((es.getD i []).getD j .any) (vs.getD (off+(i*sz+j)) undef))/\(∀k,M.c b k=none)/\off=0/\∀v,v∈vs->v.oneCell'=true)
 | .dead=>True
def dN(β:Lo)(o:Nat):Option Nat:=(β o).bind Loc.block
structure jP where
 w0:World
 M0:Mem
 uA:Nat->Prop
 fix:Nat->Option Loc
structure zu(A:jP)(w:World):Prop where
 os:w.os=A.w0.os
 tape:w.tape=A.w0.tape
 output:w.output=A.w0.output
 size:A.w0.heap.size<=w.heap.size
 block:∀b,b<A.w0.heap.size->¬A.uA b->w.heap[b]?=A.w0.heap[b]?
structure cZ(n:Nat)(A:jP)(s:St)(a:Act)(w:World)(M:Mem)(β:Lo):Prop where
 size:a.tmps.size=n
 defs:a.defers=[]
 tm:∀t,bo M β (s.tm t) (a.tmps.getD t undef)
 le:A.M0.le M
 new:∀b k v,M.c b k=some v->A.M0.c b k=some v\/A.w0.heap.size<=b\/A.uA b
 agree:gV M w
 own:∀o x,s.ob o=some x->Own M β w o x
 place:∀o x b,s.ob o=some x->x.live=true->dN β o=some b->A.w0.heap.size<=b\/A.uA b
 apart:∀o o' x x' b,o≠o'->s.ob o=some x->x.live=true->s.ob o'=some x'->x'.live=true->dN β o=some b->dN β o'≠some b
 us:∀o,s.us o=false->β o=none/\s.ob o=none
 fix:∀o b,A.fix o=some b->s.us o=true/\∀x,s.ob o=some x->β o=some b
 cB:zu A w
def fV(n:Nat)(A:jP)(s:St)(a:Act)(w:World):Prop:=∃M β,cZ n A s a w M β
theorem aL{α:Type}(f:Nat->α)(i:Nat)(a:α):cr f i a i=a:=by simp[cr,Nat.beq_refl]
theorem aW{α:Type}(f:Nat->α)(i j:Nat)(a:α)(h:j≠i):cr f i a j=f j:=by
 have:aF j i=false:=by
  cases e:aF j i with
  |false=>rfl
  |true=>exact absurd (aC e) h
 simp[cr,this]
theorem cZ.Mn{n:Nat}{A:jP}{s:St}{a:Act}{w:World}{M:Mem}{β:Lo}(g:cZ n A s a w M β){d:Nat}(hd:s.us d=false){ob':Nat->Option Ob}(ho:∀o y,o≠d->ob' o=some y->∃z,s.ob o=some z){l:Loc} :
 ∀o b,A.fix o=some b->cr s.us d true o=true/\∀y,ob' o=some y->cr β d (some l) o=some b:=fun o b hf=>by
 obtain⟨h1,h2⟩:=g.fix o b hf
 have hne:o≠d:=fun e=>by subst e;rw[hd]at h1;cases h1
 refine⟨by rw[aW _ _ _ _ hne];exact h1,fun y hy=>?_⟩
 obtain⟨z,hz⟩:=ho o y hne hy
 rw[aW _ _ _ _ hne];exact h2 z hz
theorem cZ.ER{n:Nat}{A:jP}{s:St}{a:Act}{w:World}{M:Mem}{β:Lo}(g:cZ n A s a w M β){ob':Nat->Option Ob}(ho:∀o y,ob' o=some y->∃z,s.ob o=some z) :
 ∀o b,A.fix o=some b->s.us o=true/\∀y,ob' o=some y->β o=some b:=fun o b hf=>by
 obtain⟨h1,h2⟩:=g.fix o b hf
 exact⟨h1,fun y hy=>by obtain⟨z,hz⟩:=ho o y hy;exact h2 z hz⟩
theorem cZ.ev{n:Nat}{A:jP}{s:St}{a:Act}{w:World}{M:Mem}{β:Lo}(g:cZ n A s a w M β)(x:Operand):bo M β (VL.ev s x) (a.eval x):=by
 cases x with
 |tmp t=>exact g.tm t
 |const v=>exact .v _ _
 |global g=>exact .v _ _
 |func f=>exact .v _ _
end Go.VL
namespace Go.VL
open Go Go.RowKit
def zy:TypeDesc->Bool
 | .struct _| .array _ _=>true
 |_=>false
def rW:TK->TypeDesc->Bool
 | .str,.string=>true
 | .slice e,.slice e'=>aF e e'
 | .array n e,.array n' e'=>aF n n'&&aF e e'
 | .struct fs,.struct fl=>fl.toList.map (fun f=>(f.offset,f.type))==fs
 | .pt,.pointer _=>true
 | .bl,.bool=>true
 | .num k,.int k'=>k==k'
 | .other,_=>true
 |_,_=>false
def oZ:LK->Value->Bool
 | .int k,.int k' n=>k==k'&&n==0
 | .bool,.bool q=>!q
 | .str,.string s=>s.data.toList==[]
 | .ptr,.pointer none=>true
 | .sl,.slice none 0 0=>true
 | .kS,v=>v.oneCell'
 |_,_=>false
def jg:List LK->List Value->Bool
 |[],[]=>true
 |k::ks,v::vs=>oZ k v&&jg ks vs
 |_,_=>false
def LM:LK->Option TypeDesc->Bool
 | .str,some .string=>true
 | .int k,some (.int k')=>k==k'
 |_,_=>false
def nB(P:Program):List Field->List LK->Nat->Bool
 |[],[],_=>true
 |f::fs,l::ls,i=>f.name != "_"&&aF f.offset i&&LM l (P.underlying f.type)&&nB P fs ls (i+1)
 |_,_,_=>false
def TI.D9(P:Program)(t:Nat)(ti:TI):Bool :=
 match P.info? t,P.underlying t with
 |some i,some d=>aF i.size ti.lk.length&&aF i.bytes ti.bytes&&(zy d==ti.agg)&&rW ti.k d&&(match i.zero with|some z=>jg ti.lk z.cells.toList&&(match z with| .agg _=>ti.agg|_=>!ti.agg)|none=>false)&&(ti.agg||aF ti.lk.length 1)&&(!ti.nz||(match d with| .pointer e=>(match P.info? e with|some i=>!(aF i.size 0)|none=>false)| .struct ds=>!(P.stoodInHeld t)&&!(P.eqGuardType P.depth t)&&nB P ds.toList ti.lk 0|_=>false))
 |_,_=>false
structure ib(P:Program)(t:Nat)(ti:TI):Prop where
 info:∃i z,P.info? t=some i/\i.size=ti.lk.length/\i.bytes=ti.bytes/\i.zero=some z/\jg ti.lk z.cells.toList=true/\(ti.agg=true↔∃cs,z=.agg cs)
 D1:∃d,P.underlying t=some d/\zy d=ti.agg/\rW ti.k d=true
 one:ti.agg=false->ti.lk.length=1
 nz:ti.nz=true->ti.k=.pt->∃e i,P.underlying t=some (.pointer e)/\P.info? e=some i/\i.size≠0
 sq:ti.nz=true->∀fs,ti.k=.struct fs->∃ds,P.underlying t=some (.struct ds)/\P.stoodInHeld t=false/\P.eqGuardType P.depth t=false/\nB P ds.toList ti.lk 0=true
def cT(P:Program)(T:ep):Prop:=∀t,(T t).kn=true->ib P t (T t)
theorem Ga{P:Program}{t:Nat}{ti:TI}(h:ti.D9 P t=true):ib P t ti:=by
 unfold TI.D9 at h
 split at h
 ·rename_i i d hi hd
  simp only[au,bn]at h
  obtain⟨⟨⟨⟨⟨⟨h1,h2⟩,h3⟩,h4⟩,h5⟩,h6⟩,h9⟩:=h
  have e1:=aC h1
  have e2:=aC h2
  have e3:zy d=ti.agg:=by simpa using h3
  split at h5
  ·rename_i z hz
   simp only[au]at h5
   refine⟨⟨i,z,hi,e1,e2,hz,h5.1,?_⟩,⟨d,hd,e3,h4⟩,fun ha=>?_,fun hnz hpt=>?_,fun hnz fs hst=>?_⟩
   ·have h7:=h5.2
    split at h7
    ·simp[h7]
    ·rename_i hne
     constructor
     ·intro hh;simp[hh]at h7
     ·rintro⟨cs,rfl⟩;exact absurd rfl (hne cs)
   ·rcases h6 with h6|h6
    ·rw[ha]at h6;cases h6
    ·exact aC h6
   ·rcases h9 with h9|h9
    ·rw[hnz]at h9;cases h9
    ·split at h9
     ·rename_i e _ _
      split at h9
      ·rename_i i' hi'
       exact⟨_,i',hd,hi',fun e0=>by rw[e0]at h9;cases h9⟩
      ·cases h9
     ·rw[hpt]at h4;cases h4
     ·cases h9
   ·rcases h9 with h9|h9
    ·rw[hnz]at h9;cases h9
    ·rw[hst]at h4
     cases d<;>first
      |(simp[rW]at h4;done)
      |(
       simp only[au,bR]at h9
       exact⟨_,hd,h9.1.1,h9.1.2,h9.2⟩)
  ·cases h5
 ·cases h
section
variable {P:Program} {t:Nat} {ti:TI}
theorem ib.sV(h:ib P t ti)(w:World):(isAgg t).run P w=.ok ti.agg w:=by
 obtain⟨d,hd,ha,_⟩:=h.D1
 unfold isAgg
 rw[Sem.run_bind,run_underlying hd w]
 rw[<-ha]
 cases d<;>rfl
theorem ib.iY(h:ib P t ti)(w:World):(sizeOf t).run P w=.ok ti.sz w:=by
 obtain⟨i,z,hi,hs,_⟩:=h.info
 simp[sizeOf,typeInfo,hi,hs,TI.sz]
end
theorem zW{M:Mem}{β:Lo}:∀{k:LK} {v:Value},oZ k v=true->bo M β k.zero v
 |
  .int k,v,h=>by
  cases v<;>simp[oZ]at h
  obtain⟨rfl,rfl⟩:=h
  exact .v _ _
 |
  .bool,v,h=>by
  cases v<;>simp[oZ]at h
  subst h;exact .v _ _
 |
  .str,v,h=>by
  cases v<;>simp[oZ]at h
  rename_i s
  obtain⟨d⟩:=s
  simp at h
  subst h;exact .v _ _
 |
  .ptr,v,h=>by
  cases v<;>simp[oZ]at h
  rename_i a
  cases a<;>simp at h
  exact .v _ _
 |
  .sl,v,h=>by
  unfold oZ at h
  split at h<;>first|cases h|skip
  all_goals first|exact .v _ _|(exfalso;simp_all)
 | .kS,v,h=>.x _ _ _ h (.any _ _)
theorem zO:∀{k:LK} {v:Value},oZ k v=true->v.oneCell'=true
 | .kS,v,h=>h
 | .int k,v,h=>by cases v<;>first|rfl|simp[oZ]at h
 | .bool,v,h=>by cases v<;>first|rfl|simp[oZ]at h
 | .str,v,h=>by cases v<;>first|rfl|simp[oZ]at h
 | .ptr,v,h=>by cases v<;>first|rfl|simp[oZ]at h
 | .sl,v,h=>by cases v<;>first|rfl|simp[oZ]at h
theorem sQ:∀{ks:List LK} {vs:List Value},jg ks vs=true->∀v,v∈vs->v.oneCell'=true
 |[],[],_,v,hv=>by cases hv
 |[],_::_,h,_,_=>by simp[jg]at h
 |_::_,[],h,_,_=>by simp[jg]at h
 |
  k::ks,v::vs,h,u,hu=>by
  simp only[jg,au]at h
  rcases aI.1 hu with rfl|hu
  ·exact zO h.1
  ·exact sQ h.2 u hu
theorem sj:∀{ks:List LK} {vs:List Value},jg ks vs=true->ks.length=vs.length
 |[],[],_=>rfl
 |[],_::_,h=>by simp[jg]at h
 |_::_,[],h=>by simp[jg]at h
 |k::ks,v::vs,h=>by simp[jg]at h;simp[sj h.2]
theorem su{M:Mem}{β:Lo}:∀{ks:List LK} {vs:List Value},jg ks vs=true->∀i,i<ks.length->bo M β ((ks.map LK.zero).getD i .any) (vs.getD i undef)
 |[],[],_,i,hi=>by simp at hi
 |[],_::_,h,_,_=>by simp[jg]at h
 |_::_,[],h,_,_=>by simp[jg]at h
 |k::ks,v::vs,h,0,_=>by simp[jg]at h;simpa using zW h.1
 |
  k::ks,v::vs,h,i+1,hi=>by
  simp[jg]at h
  simpa using su h.2 i (by simpa using hi)
def DR.holds(r:DR)(X:De->Prop):Prop :=
 match r with
 | .no=>True
 | .yes d=>X d
 | .ok p d=>p->X d
theorem DR.aT{q:Bool}{r:DR}{X:De->Prop}(h:q=true->r.holds X):(dm q r).holds X:=by
 cases q
 ·trivial
 ·exact h rfl
theorem DR.kV{r:DR}{q:Prop}{X:De->Prop}(h:q->r.holds X):(r.AH q).holds X:=by
 cases r with
 |no=>trivial
 |yes d=>exact h
 |ok p d=>exact fun hh=>h hh.1 hh.2
theorem DR.gr{r:DR}{q:Option Prop}{X:De->Prop}(h:(∀p,q=some p->p)->r.holds X):(r.when q).holds X:=by
 cases q with
 |none=>exact h (fun _ hh=>by cases hh)
 |some p=>exact DR.kV fun hp=>h (fun p' hh=>by cases hh;exact hp)
theorem DR.gp{r:DR}{X Y:De->Prop}(h:r.holds X)(hxy:∀d,X d->Y d):r.holds Y:=by
 cases r with
 |no=>trivial
 |yes d=>exact hxy _ h
 |ok p d=>exact fun hp=>hxy _ (h hp)
theorem DR.vI{r:DR}{o:Nat}{X:De->Prop}(h:r.holds fun d=>X {d with rd:=o::d.rd}):(r.reads o).holds X:=by
 cases r with
 |no=>trivial
 |yes d=>exact h
 |ok p d=>exact h
def jF(P:Program)(M:Mem)(β:Lo)(s:Sem Value)(w:World)(x:AV):Prop:=∃v,s.run P w=.ok v w/\bo M β x v
def Quiet(X:AV->Prop)(d:De):Prop:=d.cr=[]/\d.new=[]/\X d.val
end Go.VL
namespace Go.VL
open Go Go.RowKit
section
variable {P:Program} {M:Mem} {β:Lo} {w:World}
theorem jI(b o i:Nat):(⟨b,o,none⟩:Addr).add i=⟨b,o+i,none⟩:=by
 unfold Addr.add
 split
 ·subst_vars;rfl
 ·rfl
theorem p6(op:BinOp)(t:Nat)(x y:Operand)(k k':IntKind)(a b:Int):(eqGuard op t x y (.int k a) (.int k' b)).run P w=.ok () w:=by
 unfold eqGuard;split<;>rfl
theorem qb(op:BinOp)(t:Nat)(x y:Operand)(a b:ByteArray):(eqGuard op t x y (.string a) (.string b)).run P w=.ok () w:=by
 unfold eqGuard;split<;>rfl
theorem pF(op:BinOp)(t:Nat)(x y:Operand)(a b:Bool):(eqGuard op t x y (.bool a) (.bool b)).run P w=.ok () w:=by
 unfold eqGuard;split<;>rfl
theorem lP(op:BinOp)(t:Nat)(x y:Operand)(a b:Option Addr):(eqGuard op t x y (.pointer a) (.pointer b)).run P w=.ok () w:=by
 unfold eqGuard;split<;>rfl
theorem Cp(op:BinOp)(t:Nat)(x y:Operand)(k:IntKind)(a b:Int) :
 (FZ op k a b).holds (Quiet fun r=>jF P M β (do eqGuard op t x y (.int k a) (.int k b);binOp op t (.int k a) (.int k b)) w r):=by
 have e:=p6 (P:=P) (w:=w) op t x y k k a b
 cases op<;>simp only[FZ,DR.holds]<;>first
  |trivial
  |(
   intro hb
   refine⟨rfl,rfl,?_⟩
   refine⟨_,?_,.v _ _⟩
   simp only[Sem.run_bind,e,Result.andThen_ok,binOp,Op.intDiv,ne_eq,not_true_eq_false,if_false]
   rw[if_neg hb]
   rfl)
  |(
   refine⟨rfl,rfl,?_⟩
   refine⟨_,?_,by first|exact .v _ _|exact .b _ _⟩
   simp[Sem.run_bind,e,binOp,Op.intArith,Op.intCmp,Op.intBits,Ab])
theorem B8(op:BinOp)(t:Nat)(x y:Operand)(a b:ByteArray) :
 (GY op a b).holds (Quiet fun r=>jF P M β (do eqGuard op t x y (.string a) (.string b);binOp op t (.string a) (.string b)) w r):=by
 have e:=qb (P:=P) (w:=w) op t x y a b
 cases op<;>simp only[GY,DR.holds]<;>(try trivial)<;>(try intro hb)<;>refine⟨rfl,rfl,?_⟩
 ·refine⟨.string (a++b),?_,.v _ _⟩
  have:¬(((a.size+b.size:Nat):Int)>IntKind.i64.max):=by
   have:IntKind.i64.max=9223372036854775807:=by decide
   omega
  simp only[Sem.run_bind,e,Result.andThen_ok,binOp,Op.stringOp]
  rw[if_neg this];rfl
 all_goals (refine⟨_,?_,.b _ _⟩;simp[Sem.run_bind,e,binOp,Op.stringOp])
theorem oM{t:Nat}{ti:TI}(h:ib P t ti)(hk:ti.k=.pt)(a:Option Addr):(Op.equal t (.pointer a) (.pointer none)).run P w=.ok a.isNone w:=by
 obtain⟨d,hd,_,hc⟩:=h.D1
 rw[hk]at hc
 cases d<;>simp[rW]at hc
 show (Op.equalIn (9999+1) t (.pointer a) (.pointer none)).run P w=_
 unfold Op.equalIn
 rw[Sem.run_bind,run_underlying hd w]
 cases a<;>rfl
theorem run_equal_bool{t:Nat}{ti:TI}(h:ib P t ti)(hk:ti.k=.bl)(a b:Bool):(Op.equal t (.bool a) (.bool b)).run P w=.ok (a==b) w:=by
 obtain⟨d,hd,_,hc⟩:=h.D1
 rw[hk]at hc
 cases d<;>simp[rW]at hc
 show (Op.equalIn (9999+1) t (.bool a) (.bool b)).run P w=_
 unfold Op.equalIn
 rw[Sem.run_bind,run_underlying hd w]
 rfl
theorem oe{t:Nat}{ti:TI}(h:ib P t ti)(hk:ti.k=.pt)(op:BinOp)(x y:Operand)(a:Option Addr)(c:Bool)(hc:mq op a.isNone=some c) :
 (do eqGuard op t x y (.pointer a) (.pointer none);binOp op t (.pointer a) (.pointer none):Sem Value).run P w=.ok (.bool c) w:=by
 have e:=lP (P:=P) (w:=w) op t x y a none
 have q:=oM (P:=P) (w:=w) h hk a
 cases op<;>simp only[mq]at hc<;>cases hc<;>simp[Sem.run_bind,e,binOp,q]
theorem Ae{t:Nat}(op:BinOp)(x y:Operand)(a b:Option Addr)(c:Bool)(hc:mq op (decide (a=b))=some c)(q:(Op.equal t (.pointer a) (.pointer b)).run P w=.ok (decide (a=b)) w) :
 (do eqGuard op t x y (.pointer a) (.pointer b);binOp op t (.pointer a) (.pointer b):Sem Value).run P w=.ok (.bool c) w:=by
 have e:=lP (P:=P) (w:=w) op t x y a b
 cases op<;>simp only[mq]at hc<;>cases hc<;>simp[Sem.run_bind,e,binOp,q]
theorem rL{t:Nat}{ti:TI}(h:ib P t ti)(hk:ti.nz=true)(hpt:ti.k=.pt)(a b:Option Addr)(ha:∀x,a=some x->∃vs e,w.heap[x.block]?=some (.cells vs e (0,0)))(hb:∀x,b=some x->∃vs e,w.heap[x.block]?=some (.cells vs e (0,0))) :
 (Op.equal t (.pointer a) (.pointer b)).run P w=.ok (decide (a=b)) w:=by
 obtain⟨e,i,hd,hi,hs⟩:=h.nz hk hpt
 show (Op.equalIn (9999+1) t (.pointer a) (.pointer b)).run P w=_
 unfold Op.equalIn
 rw[Sem.run_bind,run_underlying hd w]
 cases a with
 |none=>cases b<;>rfl
 |
  some a =>
  cases b with
  |none=>rfl
  |
   some b =>
   have hsz:(sizeOf e).run P w=.ok i.size w:=by simp[sizeOf,typeInfo,hi]
   by_cases hab:a=b
   ·subst hab
    simp[Result.andThen,Sem.run_bind,hsz,hs,run_sameAddr_same]
   ·obtain⟨va,ea,ha'⟩:=ha a rfl
    obtain⟨vb,eb,hb'⟩:=hb b rfl
    simp[Result.andThen,Sem.run_bind,hsz,hs,hab]
    exact run_sameAddr_other w hab ha' hb'
theorem Bk{t:Nat}{ti:TI}(h:ib P t ti)(hk:ti.k=.bl)(op:BinOp)(x y:Operand)(a b c:Bool)(hc:mq op (a==b)=some c) :
 (do eqGuard op t x y (.bool a) (.bool b);binOp op t (.bool a) (.bool b):Sem Value).run P w=.ok (.bool c) w:=by
 have e:=pF (P:=P) (w:=w) op t x y a b
 have q:=run_equal_bool (P:=P) (w:=w) h hk a b
 cases op<;>simp only[mq]at hc<;>cases hc<;>simp[Sem.run_bind,e,binOp,q]
theorem yj{a:AV}{v:Value}(h:bo M dk a v)(hk:LK.ptr.has a):∃q,v=.pointer q/\a.isNil=q.isNone:=by
 rcases hk with rfl|⟨cs,rfl⟩|⟨b,cs,rfl⟩
 ·cases h;exact⟨none,rfl,rfl⟩
 ·cases h;exact⟨_,rfl,rfl⟩
 ·cases h;exact⟨_,rfl,rfl⟩
theorem G2(hA:gV M w){a b:AV}{v u:Value}(h:bo M dk a v)(h':bo M dk b u)(hk:a.qU)(hk':b.qU):∃p q,v=.pointer p/\u=.pointer q/\a.BL b=decide (p=q) /\
 (∀x,p=some x->∃vs e,w.heap[x.block]?=some (.cells vs e (0,0)))/\(∀x,q=some x->∃vs e,w.heap[x.block]?=some (.cells vs e (0,0))):=by
 have key:∀{a:AV} {v:Value},bo M dk a v->a.qU->(a=.v (.pointer none)/\v=.pointer none)\/∃b cs,a=.pid b cs/\v=.pointer (some ⟨b,0,none⟩)/\∃vs e,w.heap[b]?=some (.cells vs e (0,0)):=by
  intro a v h hk
  unfold AV.qU at hk
  split at hk
  ·cases h;exact .inl ⟨rfl,rfl⟩
  ·cases h with
   |
    pid _ _ _ us hp _ _ =>
    obtain⟨vs,e,h1,_⟩:=hA.p _ hp
    exact .inr ⟨_,_,rfl,rfl,vs,e,h1⟩
  ·exact absurd hk id
 have none1:∀x:Addr,(none:Option Addr)=some x->∃vs e,w.heap[x.block]?=some (.cells vs e (0,0)):=fun x h=>by cases h
 rcases key h hk with⟨rfl,rfl⟩|⟨b1,c1,rfl,rfl,p1⟩<;>rcases key h' hk' with⟨rfl,rfl⟩|⟨b2,c2,rfl,rfl,p2⟩
 ·exact⟨_,_,rfl,rfl,rfl,none1,none1⟩
 ·exact⟨_,_,rfl,rfl,rfl,none1,fun x h=>by cases h;exact p2⟩
 ·exact⟨_,_,rfl,rfl,rfl,fun x h=>by cases h;exact p1,none1⟩
 ·refine⟨_,_,rfl,rfl,?_,fun x h=>by cases h;exact p1,fun x h=>by cases h;exact p2⟩
  show aF b1 b2=_
  rw[cL]
  simp[Nat.beq_eq]
theorem tH{y v:Value}(h:bo M β (.v y) v):v=y:=by cases h;rfl
theorem s9{t off:Nat}{vs:List Value}{d:TypeDesc}(hu:P.underlying t=some d)(hd:zy d=false)(hl:off<vs.length):(part t vs.toArray off).run P w=.ok (vs.getD off undef) w:=by
 have e:vs.toArray[off]?=some (vs.getD off undef):=by simp[aa,hl]
 cases d<;>first|(simp[zy]at hd;done)|simp[part,isAgg,run_underlying hu,e]
theorem CW{l:LK}{c d:AV}{q:Bool}(h:LD l c d=some q):(∃a b,l=.str/\c=.v (.string a)/\d=.v (.string b)/\q=(a.toList==b.toList))\/∃k a b,l=.int k/\c=.v (.int k a)/\d=.v (.int k b)/\q=(a==b):=by
 unfold LD at h
 split at h
 ·cases h;exact .inl ⟨_,_,rfl,rfl,rfl,rfl⟩
 ·split at h
  ·split at h
   ·subst_vars;cases h;exact .inr ⟨_,_,_,rfl,rfl,rfl,rfl⟩
   ·cases h
  ·cases h
 ·cases h
theorem Ce{t:Nat}{l:LK}{c d:AV}{x y:Value}{q:Bool}(h:LD l c d=some q)(hk:LM l (P.underlying t)=true)(hx:bo M β c x)(hy:bo M β d y) :
 (∃e,P.underlying t=some e/\zy e=false)/\(Op.equalIn 9999 t x y).run P w=.ok q w:=by
 rcases CW h with⟨a,b,rfl,rfl,rfl,rfl⟩|⟨k,a,b,rfl,rfl,rfl,rfl⟩
 ·cases hu:P.underlying t with
  |none=>rw[hu]at hk;cases hk
  |
   some e =>
   rw[hu]at hk
   cases e<;>first
    |(simp[LM]at hk;done)
    |(
     rw[tH hx,tH hy]
     exact⟨⟨_,rfl,rfl⟩,run_equalIn_string w 9998 t _ _ hu⟩)
 ·cases hu:P.underlying t with
  |none=>rw[hu]at hk;cases hk
  |
   some e =>
   rw[hu]at hk
   cases e<;>first
    |(simp[LM]at hk;done)
    |(
     rw[tH hx,tH hy]
     exact⟨⟨_,rfl,rfl⟩,run_equalIn_int w 9998 t _ _ _ _ hu⟩)
theorem oP:∀(fs:List Field) (ls:List LK) (i:Nat) (cs ds:List AV) (xs ys:List Value) (q:Bool),nB P fs ls i=true->C5 ls cs ds=some q->i+cs.length<=xs.length->i+ds.length<=ys.length ->
 (∀j,j<cs.length->bo M β (cs.getD j .any) (xs.getD (i+j) undef))->(∀j,j<ds.length->bo M β (ds.getD j .any) (ys.getD (i+j) undef))->(Op.eqFields 9999 xs.toArray ys.toArray fs).run P w=.ok q w
 |[],[],i,[],[],xs,ys,q,hf,hq,hx,hy,rx,ry=>by simp only[C5]at hq;cases hq;simp[Op.eqFields]
 |[],[],i,_::_,ds,xs,ys,q,hf,hq,hx,hy,rx,ry=>by simp[C5]at hq
 |[],[],i,[],_::_,xs,ys,q,hf,hq,hx,hy,rx,ry=>by simp[C5]at hq
 |[],l::ls,i,cs,ds,xs,ys,q,hf,hq,hx,hy,rx,ry=>by simp[nB]at hf
 |f::fs,[],i,cs,ds,xs,ys,q,hf,hq,hx,hy,rx,ry=>by simp[nB]at hf
 |f::fs,l::ls,i,[],ds,xs,ys,q,hf,hq,hx,hy,rx,ry=>by simp[C5]at hq
 |f::fs,l::ls,i,_::_,[],xs,ys,q,hf,hq,hx,hy,rx,ry=>by simp[C5]at hq
 |
  f::fs,l::ls,i,c::cs,d::ds,xs,ys,q,hf,hq,hx,hy,rx,ry=>by
  simp only[nB,au,bne_iff_ne]at hf
  obtain⟨⟨⟨hn,ho⟩,hk⟩,hr⟩:=hf
  have ho:=aC ho
  simp only[C5]at hq
  split at hq
  ·rename_i q1 q2 e1 e2
   cases hq
   simp only[aw]at hx hy
   obtain⟨⟨e,hu,hd⟩,hrun⟩:=Ce (P:=P) (t:=f.type) (w:=w) e1 hk (x:=xs.getD i undef) (y:=ys.getD i undef) (by simpa using rx 0 (by simp)) (by simpa using ry 0 (by simp))
   have hrest:=oP fs ls (i+1) cs ds xs ys q2 hr e2 (by omega) (by omega) (fun j hj=>by
    have:=rx (j+1) (by simpa using hj)
    rw[show i+(j+1)=i+1+j by omega]at this
    simpa using this) (fun j hj=>by
    have:=ry (j+1) (by simpa using hj)
    rw[show i+(j+1)=i+1+j by omega]at this
    simpa using this)
   unfold Op.eqFields
   rw[if_pos hn,ho]
   simp only[Sem.run_bind,s9 hu hd (show i<xs.length by omega),s9 hu hd (show i<ys.length by omega),Result.andThen_ok,hrun]
   cases q1
   ·simp
   ·simp[hrest]
  ·cases hq
theorem DL{T:ep}(hT:cT P T)(op:BinOp)(t:Nat)(x y:Operand){cs ds:List AV}{xv yv:Value}(hx:bo M β (.agg cs) xv)(hy:bo M β (.agg ds) yv) :
 (ES (T t) op cs ds).holds (Quiet fun r=>jF P M β (do eqGuard op t x y xv yv;binOp op t xv yv) w r):=by
 unfold ES
 refine DR.aT fun hb=>?_
 simp only[au]at hb
 have ok:=hT t hb.1
 split
 ·rename_i fs hk
  split
  ·rename_i q hq
   split
   ·rename_i c hc
    obtain⟨dd,hu,hs,hg,hf⟩:=ok.sq hb.2 fs hk
    obtain⟨xs,rfl,hl1,hr1⟩:∃vs:List Value,xv=.agg vs.toArray/\cs.length=vs.length/\∀i,i<cs.length->bo M β (cs.getD i .any) (vs.getD i undef):=by cases hx with|agg _ _ vs hl ho h=>exact⟨vs,rfl,hl,h⟩
    obtain⟨ys,rfl,hl2,hr2⟩:∃vs:List Value,yv=.agg vs.toArray/\ds.length=vs.length/\∀i,i<ds.length->bo M β (ds.getD i .any) (vs.getD i undef):=by cases hy with|agg _ _ vs hl ho h=>exact⟨vs,rfl,hl,h⟩
    have hfo:P.fieldsOf t=dd:=by unfold Program.fieldsOf;rw[hu]
    have hrun:(Op.equalIn 10000 t (.agg xs.toArray) (.agg ys.toArray)).run P w=.ok q w:=by
     rw[run_equalIn_struct w 9999 t xs.toArray ys.toArray (by rw[hfo];exact hu) hs,hfo]
     exact oP dd.toList _ 0 cs ds xs ys q hf hq (by omega) (by omega) (fun j hj=>by rw[aR];exact hr1 j hj) (fun j hj=>by rw[aR];exact hr2 j hj)
    have hgd:=run_eqGuard_agg (P:=P) w op t x y xs.toArray ys.toArray hg
    refine⟨rfl,rfl,.bool c,?_,.b _ _⟩
    cases op<;>simp only[mq]at hc<;>cases hc
    ·rw[Sem.run_bind,hgd,Result.andThen_ok,run_eql_struct,hrun,Result.andThen_ok]
    ·rw[Sem.run_bind,hgd,Result.andThen_ok,run_neq_struct,hrun,Result.andThen_ok]
   ·trivial
  ·trivial
 ·trivial
theorem FM{T:ep}(hT:cT P T)(hA:gV M w)(op:BinOp)(t:Nat)(x y:Operand){xa ya:AV}{xv yv:Value}(hx:bo M β xa xv)(hy:bo M β ya yv) :
 (bin (T t) op xa ya).holds (Quiet fun r=>jF P M β (do eqGuard op t x y xv yv;binOp op t xv yv) w r):=by
 unfold bin
 split
 ·cases hx;cases hy
  split
  ·subst_vars;exact Cp op t x y _ _ _
  ·trivial
 ·cases hx;cases hy
  exact B8 op t x y _ _
 ·rename_i a
  cases hy
  obtain⟨_,_,_,hx'⟩:∃_:True,∃_:True,∃_:True,bo M dk a xv:=by cases hx;exact⟨trivial,trivial,trivial,‹_›⟩
  unfold AZ
  refine DR.aT fun hkn=>?_
  split
  ·rename_i c hk hc
   simp only[DR.holds]
   intro hp
   obtain⟨q,rfl,hq⟩:=yj hx' hp
   rw[hq]at hc
   exact⟨rfl,rfl,_,oe (hT t hkn) hk op x y q c hc,.b _ _⟩
  ·trivial
 ·rename_i a b
  obtain⟨_,hx'⟩:∃_:True,bo M dk a xv:=by cases hx;exact⟨trivial,‹_›⟩
  obtain⟨_,hy'⟩:∃_:True,bo M dk b yv:=by cases hy;exact⟨trivial,‹_›⟩
  cases hnz:(T t).nz with
  |false=>trivial
  |
   true =>
   show (AZ (T t) op (some (a.qU/\b.qU)) (a.BL b)).holds _
   unfold AZ
   refine DR.aT fun hkn=>?_
   split
   ·rename_i c hk hc
    simp only[DR.holds]
    rintro⟨h1,h2⟩
    obtain⟨p,q,rfl,rfl,he,g1,g2⟩:=G2 hA hx' hy' h1 h2
    rw[he]at hc
    exact⟨rfl,rfl,_,Ae op x y p q c hc (rL (hT t hkn) hnz hk p q g1 g2),.b _ _⟩
   ·trivial
 ·cases hx;cases hy
  unfold cmpL
  refine DR.aT fun hkn=>?_
  split
  ·rename_i c hk hc
   exact⟨rfl,rfl,_,oe (hT t hkn) hk op x y none c hc,.v _ _⟩
  ·trivial
 ·cases hx;cases hy
  unfold cmpL
  refine DR.aT fun hkn=>?_
  split
  ·rename_i c hk hc
   exact⟨rfl,rfl,_,oe (hT t hkn) hk op x y (some _) c hc,.v _ _⟩
  ·trivial
 ·cases hx;cases hy
  unfold cmpL
  refine DR.aT fun hkn=>?_
  split
  ·rename_i c hk hc
   exact⟨rfl,rfl,_,oe (hT t hkn) hk op x y (some _) c hc,.v _ _⟩
  ·trivial
 ·cases hx;cases hy
  unfold cmpL
  refine DR.aT fun hkn=>?_
  split
  ·rename_i c hk hc
   exact⟨rfl,rfl,_,oe (hT t hkn) hk op x y (some _) c hc,.v _ _⟩
  ·trivial
 all_goals first
  |trivial
  |exact DL hT op t x y hx hy
  |(
   cases hx;cases hy
   unfold vx
   refine DR.aT fun hkn=>?_
   split
   ·rename_i c hk hc
    exact⟨rfl,rfl,_,Bk (hT t hkn) hk op x y _ _ c hc,.b _ _⟩
   ·trivial)
theorem zg(cs:List AV)(n i:Nat):(cs.drop n).getD i .any=cs.getD (n+i) .any:=by
 simp[aa,cm]
theorem tc{a:AV}{v:Value}(h:bo M dk a v)(hk:LK.ptr.has a)(hn:a.isNil=false):bo M β (.ptr a.deref) v:=by
 rcases hk with rfl|⟨cs,rfl⟩|⟨b,cs,rfl⟩
 ·cases hn
 ·exact h.up
 ·cases h with
  |pid _ _ _ us hp h h'=>exact .ptr _ _ _ _ us (fun i hi=>by simpa using h i hi) h'
theorem qF{cs:List AV}{b o:Nat}(h:bo M β (.ptr cs) (.pointer (some ⟨b,o,none⟩)))(n:Nat):bo M β (.ptr (cs.drop n)) (.pointer (some ⟨b,o+n,none⟩)):=by
 cases h with
 |
  ptr _ _ _ _ us h h' =>
  refine .ptr _ _ _ _ (fun i=>us (n+i)) (fun i hi=>?_) (fun i hi=>?_)
  ·have:=h (n+i) (by simp at hi;omega)
   rwa[<-Nat.add_assoc]at this
  ·rw[zg];exact h' (n+i) (by simp at hi;omega)
theorem ko{cs:List AV}{v:Value}(h:bo M β (.ptr cs) v):∃b o,v=.pointer (some ⟨b,o,none⟩):=by
 cases h;exact⟨_,_,rfl⟩
theorem wV{x:AV}{v:Value}(h:bo M β x v)(off:Nat) :
 (qg x off).holds (Quiet fun r=>∃b o,v=.pointer (some ⟨b,o,none⟩)/\bo M β r (.pointer (some ⟨b,o+off,none⟩))):=by
 unfold qg
 split
 ·cases h with|ref _ _ _ b hb=>exact⟨rfl,rfl,_,_,rfl,.ref _ _ _ _ hb⟩
 ·cases h with|nw _ _ _ b hb=>exact⟨rfl,rfl,_,_,rfl,.nw _ _ _ _ hb⟩
 ·cases h with|mn _ _ _ _ sz b o n c hb=>exact⟨rfl,rfl,_,_,rfl,by rw[Nat.add_assoc];exact .mn _ _ _ _ _ _ _ _ _ hb⟩
 ·obtain⟨b,o,rfl⟩:=ko h
  exact⟨rfl,rfl,b,o,rfl,qF h off⟩
 ·cases h with
  |
   pid _ _ _ us hp h h' =>
   exact⟨rfl,rfl,_,_,rfl,qF (.ptr β _ _ _ us (fun i hi=>by simpa using h i hi) h') off⟩
 ·simp only[DR.holds]
  intro⟨hk,hn⟩
  cases h with
  |
   x _ _ _ ho h =>
   have q:=tc (β:=β) h hk hn
   obtain⟨b,o,rfl⟩:=ko q
   exact⟨rfl,rfl,b,o,rfl,qF q off⟩
 ·trivial
end
end Go.VL
namespace Go.VL
open Go Go.RowKit
section
variable {P:Program} {M:Mem} {β:Lo} {w:World}
theorem LK.lq{k:LK}{a:AV}{v:Value}(h:bo M β a v)(hk:k.has a)(hq:k.kn=true):bo M β (k.cast a) v:=by
 cases k with
 |int k=>obtain⟨n,rfl⟩:=hk;exact h
 |bool=>obtain⟨n,rfl⟩:=hk;cases h;exact .b _ _
 |str=>obtain⟨n,rfl⟩:=hk;exact h
 |
  ptr =>
  rcases hk with rfl|⟨cs,rfl⟩|⟨b,cs,rfl⟩
  ·cases h;exact .x _ _ _ rfl (.v _ _)
  ·cases h with|ptr _ _ _ _ us h h'=>exact .x _ _ _ rfl (.ptr _ _ _ _ us h h')
  ·cases h with|pid _ _ _ us hp h h'=>exact .x _ _ _ rfl (.pid _ _ _ us hp h h')
 |
  sl =>
  rcases hk with rfl|⟨es,rfl⟩
  ·cases h;exact .x _ _ _ rfl (.v _ _)
  ·cases h with
   |slnil=>exact .x _ _ _ rfl (.slnil _)
   |sl _ _ _ _ _ sz us hc hs h h'=>exact .x _ _ _ rfl (.sl _ _ _ _ _ sz us hc hs h h')
 |kS=>cases hq
theorem eQ{t:Nat}{ti:TI}(h:ib P t ti)(b o:Nat)(us:Nat->Value)(hc:∀i,i<ti.sz->w.cell? ⟨b,o+i,none⟩=some (us i)) :
 (loadVar t ⟨b,o,none⟩).run P w=.ok (if ti.agg then .agg ((bc ti.sz).map us).toArray else us 0) w:=by
 unfold loadVar
 rw[Sem.run_bind,h.sV w]
 simp only[Result.andThen_ok]
 cases ha:ti.agg with
 |
  true =>
  simp only[if_true]
  rw[Sem.run_bind,h.iY w]
  simp only[Result.andThen_ok]
  rw[Sem.run_bind,run_loadCells w ⟨b,o,none⟩ ti.sz us (fun j hj=>by rw[jI];exact hc j hj)]
  rfl
 |
  false =>
  have h1:ti.sz=1:=h.one ha
  have:=hc 0 (by omega)
  simp only[bM]at this
  simp[run_load,this]
theorem kL{vs:Array Value}(h:∀v,v∈vs->v.oneCell'=true)(i:Nat)(hi:i<vs.size):(vs.getD i undef).oneCell'=true:=by
 have:vs.getD i undef=vs[i]:=by simp[hi]
 rw[this];exact h _ (Array.getElem_mem hi)
theorem tB{ks:List LK}(h:ks.all LK.kn=true)(i:Nat)(hi:i<ks.length):(ks.getD i .kS).kn=true:=by
 rw[bH]at h
 have:ks.getD i .kS=ks[i]:=by simp[aa,hi]
 rw[this];exact h _ (bY hi)
theorem dQ(n:Nat)(us:Nat->Value)(i:Nat)(h:i<n):((bc n).map us).getD i undef=us i:=by
 simp[aa,h]
theorem nD(l:List AV):l.headD .any=l.getD 0 .any:=by cases l<;>rfl
theorem vi(t:TI):Ba t=t.lk.getD 0 .kS:=by unfold Ba;cases t.lk<;>rfl
theorem yQ{t:Nat}{ti:TI}(h:ib P t ti){cs:List AV}{us:Nat->Value}(hh:zl ti cs)(ho:∀i,i<ti.sz->(us i).oneCell'=true)(hr:∀i,i<ti.sz->bo M dk (cs.getD i .any) (us i)) :
 bo M β (sK ti cs) (if ti.agg then .agg ((bc ti.sz).map us).toArray else us 0):=by
 unfold sK
 unfold zl at hh
 cases ha:ti.agg with
 |
  true =>
  simp only[ha,cond_true]at hh |-
  exact pC hh ho (fun i hi=>by simpa using hr i hi)
 |
  false =>
  simp only[ha,cond_false]at hh |-
  have h1:ti.sz=1:=h.one ha
  rw[nD]at hh |-
  exact LK.gR (hr 0 (by omega)) hh
theorem si{t:Nat}{T:ep}(hT:cT P T){cs:List AV}{b o k:Nat}{us:Nat->Value}(hk:o=k)(hc:∀i,i<cs.length->w.cell? ⟨b,i,none⟩=some (us i))(ho:∀i,i<cs.length->(us i).oneCell'=true)(hr:∀i,i<cs.length->bo M β (cs.getD i .any) (us i)) :
 (nA (T t) cs k).holds (Quiet fun r=>jF P M β (loadVar t ⟨b,o,none⟩) w r):=by
 subst hk
 unfold nA
 refine DR.aT fun hkn=>?_
 have h:=hT t hkn
 cases ha:(T t).agg with
 |
  true =>
  simp only[cond_true]
  cases hb:fv (o+(T t).sz) cs.length with
  |false=>simp only[cond_false];trivial
  |
   true =>
   have hle:=aN hb
   simp only[cond_true]
   refine⟨rfl,rfl,_,eQ h b o (fun i=>us (o+i)) (fun i hi=>hc (o+i) (by omega)),?_⟩
   rw[if_pos ha]
   refine .agg _ _ _ (by simp;omega) (fun i hi=>by simp only[List.length_take,bI]at hi;rw[dQ _ _ _ (by omega)];exact ho _ (by omega)) fun i hi=>?_
   simp only[List.length_take,bI]at hi
   rw[dQ _ _ _ (by omega)]
   have e:((cs.drop o).take (T t).sz).getD i .any=cs.getD (o+i) .any:=by
    simp[aa,List.getElem?_take,cm,show i<(T t).sz by omega]
   rw[e]
   exact hr (o+i) (by omega)
 |
  false =>
  simp only[cond_false]
  cases hb:cv o cs.length with
  |false=>simp only[cond_false];trivial
  |
   true =>
   have hlt:o<cs.length:=by have:=aN hb;omega
   have h1:(T t).sz=1:=h.one ha
   simp only[cond_true]
   refine⟨rfl,rfl,_,eQ h b o (fun i=>us (o+i)) (fun i hi=>hc (o+i) (by omega)),?_⟩
   simp only[ha,Bool.false_eq_true,if_false,bM]
   exact hr o hlt
theorem lF{t:Nat}{T:ep}(hT:cT P T){cs:List AV}{b o k:Nat}{us:Nat->Value}(hc:∀i,k+i<cs.length->w.cell? ⟨b,o+i,none⟩=some (us (k+i)))(ho:∀i,i<cs.length->(us i).oneCell'=true)(hr:∀i,i<cs.length->bo M β (cs.getD i .any) (us i)) :
 (jo (T t) cs k).holds (Quiet fun r=>jF P M β (loadVar t ⟨b,o,none⟩) w r):=by
 unfold jo
 refine DR.aT fun hkq=>?_
 rw[au]at hkq
 obtain⟨hkn,hq⟩:=hkq
 have h:=hT t hkn
 cases ha:(T t).agg with
 |
  true =>
  simp only[cond_true,DR.holds]
  intro⟨hle,hh⟩
  refine⟨rfl,rfl,_,eQ h b o (fun i=>us (k+i)) (fun i hi=>hc i (by omega)),?_⟩
  rw[if_pos ha]
  refine .agg _ _ _ (by simp[df,TI.sz]) (fun i hi=>by rw[df]at hi;rw[dQ _ _ _ (show i<(T t).sz from hi)];exact ho _ (by unfold TI.sz at hle;omega)) fun i hi=>?_
  rw[df]at hi
  rw[dQ _ _ _ (show i<(T t).sz from hi),kH _ _ _ _ hi]
  exact LK.lq (hr (k+i) (by unfold TI.sz at hle;omega)) (kp _ _ _ _ hh hi) (tB hq i hi)
 |
  false =>
  simp only[cond_false,DR.holds]
  intro⟨hlt,hh⟩
  have h1:(T t).sz=1:=h.one ha
  refine⟨rfl,rfl,_,eQ h b o (fun i=>us (k+i)) (fun i hi=>hc i (by omega)),?_⟩
  simp only[ha,Bool.false_eq_true,if_false,bM]
  exact LK.lq (hr k hlt) hh (by rw[vi];exact tB hq 0 (by unfold TI.sz at h1;omega))
theorem Quiet.reads{X:AV->Prop}{r:DR}{o:Nat}(h:r.holds (Quiet X)):(r.reads o).holds (Quiet X):=DR.vI (DR.gp h fun d hd=>hd)
theorem cell_of{b:Nat}{vs:Array Value}{e:TypeId}{fr:Nat×Nat}(h:w.heap[b]?=some (.cells vs e fr))(i:Nat)(hi:i<vs.size):w.cell? ⟨b,i,none⟩=some (vs.getD i undef):=by
 rw[cell_of_row w b i vs e fr h]
 simp[hi]
theorem sE{T:ep}(hT:cT P T){ob:Nat->Option Ob}(hob:∀o x,ob o=some x->Own M β w o x)(hA:gV M w){t:Nat}{x:AV}{v:Value}(h:bo M β x v) :
 (loadAt ob (T t) x).holds (Quiet fun r=>jF P M β (Instr.loadAt t v) w r):=by
 have sure:∀b o,(Instr.loadAt t (.pointer (some ⟨b,o,none⟩))).run P w=(loadVar t ⟨b,o,none⟩).run P w:=fun b o=>by
  simp[Instr.loadAt,Instr.sureAddr,Sem.run_bind]
 have tr:∀(r:DR) b o,r.holds (Quiet fun q=>jF P M β (loadVar t ⟨b,o,none⟩) w q)->r.holds (Quiet fun q=>jF P M β (Instr.loadAt t (.pointer (some ⟨b,o,none⟩))) w q):=fun r b o hr =>
  DR.gp hr fun d hd=>⟨hd.1,hd.2.1,by obtain⟨q,h1,h2⟩:=hd.2.2;exact⟨q,by rw[sure];exact h1,h2⟩⟩
 have ptrL:∀(cs:List AV) b o,bo M β (.ptr cs) (.pointer (some ⟨b,o,none⟩))->(T t).kn=true->zl (T t) cs->(T t).sz<=cs.length ->
  jF P M β (Instr.loadAt t (.pointer (some ⟨b,o,none⟩))) w (sK (T t) cs):=fun cs b o hr hkn hh hl=>by
  cases hr with
  |
   ptr _ _ _ _ us h h' =>
   refine⟨_,(sure b o).trans (eQ (hT t hkn) b o us fun i hi=>hA _ _ _ (h i (by omega))),yQ (hT t hkn) hh (fun i hi=>M.one _ _ _ (h i (by omega))) fun i hi=>h' i (by omega)⟩
 unfold loadAt
 split
 ·rename_i o k
  cases h with
  |
   ref _ _ _ b hb =>
   split
   ·rename_i cs hcs
    obtain⟨b',vs,e,h1,h2,h3,h4,_,h5⟩:=hob _ _ hcs
    rw[hb]at h1;cases h1
    exact tr _ _ _ (Quiet.reads (si hT rfl (us:=fun i=>vs.getD i undef) (fun i hi=>cell_of h2 i (by omega)) (fun i hi=>kL h5 i (by omega)) h4))
   ·rename_i cs hcs
    obtain⟨b',us,h1,h2⟩:=hob _ _ hcs
    rw[hb]at h1;cases h1
    exact tr _ _ _ (Quiet.reads (si hT rfl (fun i hi=>hA _ _ _ (h2 i hi).1) (fun i hi=>M.one _ _ _ (h2 i hi).1) fun i hi=>(h2 i hi).2))
   ·trivial
 ·rename_i o k
  cases h with
  |
   nw _ _ _ b hb =>
   split
   ·rename_i cs hcs
    obtain⟨b',vs,e,h1,h2,h3,h4,_,h5⟩:=hob _ _ hcs
    rw[hb]at h1;cases h1
    exact tr _ _ _ (Quiet.reads (lF hT (us:=fun i=>vs.getD i undef) (fun i hi=>cell_of h2 (k+i) (by omega)) (fun i hi=>kL h5 i (by omega)) h4))
   ·rename_i cs hcs
    obtain⟨b',us,h1,h2⟩:=hob _ _ hcs
    rw[hb]at h1;cases h1
    exact tr _ _ _ (Quiet.reads (lF hT (fun i hi=>hA _ _ _ (h2 (k+i) hi).1) (fun i hi=>M.one _ _ _ (h2 i hi).1) fun i hi=>(h2 i hi).2))
   ·trivial
 ·rename_i o i k
  cases h with
  |
   mn _ _ _ _ sz b off n c hb =>
   split
   ·rename_i sz' es hes
    obtain⟨v',h1,h2,h3⟩:=hob _ _ hes
    rw[hb]at h1;cases h1
    refine Quiet.reads (DR.kV fun hi=>?_)
    rcases h3 with⟨h3,_⟩|⟨b',off',c',vs,e,h3,h4,h5,h6,h7,_,_,h9'⟩
    ·cases h3
    ·injection h3 with h3 h3' h3''
     injection h3 with h3
     injection h3 with h3 h8 h9
     subst h3;subst h8
     refine tr _ _ _ (lF hT (us:=fun j=>vs.getD (off+(i*sz+j)) undef) (fun j hj=>?_) (fun j hj=>kL h9' _ (by
      rw[h2 i hi]at hj
      have hlt:i*sz+sz<=es.length*sz:=by rw[<-cR];exact aS _ hi
      have hcc:es.length*sz<=c'*sz:=aS _ h4
      omega)) fun j hj=>(h7 i j hi (by rw[h2 i hi]at hj;exact hj)).up)
     rw[h2 i hi]at hj
     have hlt:i*sz+sz<=es.length*sz:=by rw[<-cR];exact aS _ hi
     have hcc:es.length*sz<=c'*sz:=aS _ h4
     have:=cell_of h5 (off+(i*sz+(k+j))) (by omega)
     rw[show off+i*sz+k+j=off+(i*sz+(k+j)) by omega]
     exact this
   ·rename_i es hes
    obtain⟨v',sz',h1,h2,h3⟩:=hob _ _ hes
    rw[hb]at h1;cases h1
    refine Quiet.reads (DR.kV fun hi=>?_)
    rcases h3 with⟨h3,_⟩|⟨b',off',c',us,h3,h4,h5,h7⟩
    ·cases h3
    ·injection h3 with h3 h3' h3''
     injection h3 with h3
     injection h3 with h3 h8 h9
     subst h3;subst h8
     refine tr _ _ _ (lF hT (us:=fun j=>us (i*sz+j)) (fun j hj=>?_) (fun j hj=>M.one _ _ _ (h5 (i*sz+j) (by
      rw[h2 i hi]at hj
      have hlt:i*sz+sz<=es.length*sz:=by rw[<-cR];exact aS _ hi
      omega))) fun j hj=>(h7 i j hi (by rw[h2 i hi]at hj;exact hj)).up)
     rw[h2 i hi]at hj
     have hlt:i*sz+sz<=es.length*sz:=by rw[<-cR];exact aS _ hi
     have:=hA _ _ _ (h5 (i*sz+(k+j)) (by omega))
     rw[show off+i*sz+k+j=off+(i*sz+(k+j)) by omega]
     exact this
   ·trivial
 ·obtain⟨b,o,rfl⟩:=ko h
  refine DR.aT fun hkn=>?_
  simp only[DR.holds]
  intro⟨hh,hl⟩
  exact⟨rfl,rfl,ptrL _ b o h hkn hh hl⟩
 ·cases h with
  |
   pid _ _ _ us hp h h' =>
   refine DR.aT fun hkn=>?_
   simp only[DR.holds]
   intro⟨hh,hl⟩
   exact⟨rfl,rfl,ptrL _ _ 0 (.ptr β _ _ _ us (fun i hi=>by simpa using h i hi) h') hkn hh hl⟩
 ·cases h with
  |
   x _ _ _ ho h =>
   refine DR.aT fun hkn=>?_
   simp only[DR.holds]
   intro⟨hk,hn,hh,hl⟩
   have q:=tc (β:=β) h hk hn
   obtain⟨b,o,rfl⟩:=ko q
   exact⟨rfl,rfl,ptrL _ b o q hkn hh hl⟩
 ·rename_i f js
  have hq:=h
  cases h with
  |
   eJ _ _ _ b vs hc hl hs ho =>
   refine DR.aT fun hkq=>?_
   rw[au,bR]at hkq
   obtain⟨hkn,ha⟩:=hkq
   have h1:(T t).sz=1:=(hT t hkn).one ha
   refine⟨rfl,rfl,_,(sure b 0).trans (eQ (hT t hkn) b 0 (fun _=>.func (.func f) #[] vs.toArray) fun i hi=>by
    have:i=0:=by omega
    subst this;exact hA _ _ _ hc),?_⟩
   simp only[ha,Bool.false_eq_true,if_false]
   refine .fn _ _ _ vs (by simp[hl]) fun i hi=>?_
   have hi':i<js.length:=by simpa using hi
   have e:(js.map (Mq f js)).getD i .any=Mq f js (js.getD i none):=by
    simp[aa,hi']
   rw[e]
   cases e2:js.getD i none with
   |none=>rw[hs i hi' e2];exact hq
   |
    some o =>
    obtain⟨b',q1,q2⟩:=ho i o hi' e2
    rw[q2];exact .ref _ _ _ _ q1
 ·trivial
end
end Go.VL
namespace Go.VL
open Go Go.RowKit
section
variable {P:Program} {M:Mem} {β:Lo} {w:World}
theorem dA{y v:Value}(h:bo M β (.v y) v):v=y:=by cases h;rfl
def Em(w:World)(M:Mem)(es:List (List AV))(v:Value):Prop :=
 (v=.slice none 0 0/\es=[])\/∃(b off c sz:Nat) (us:Nat->Value),v=.slice (some ⟨b,off,none⟩) es.length c/\es.length<=c/\(∀i,i<es.length->(es.getD i []).length=sz) /\
  (∀i,i<es.length*sz->w.cell? ⟨b,off+i,none⟩=some (us i))/\(∀i j,i<es.length->j<sz->bo M dk ((es.getD i []).getD j .any) (us (i*sz+j)))/\∀i,i<es.length*sz->(us i).oneCell'=true
theorem yl(hA:gV M w){es:List (List AV)}{v:Value}(h:bo M β (.sl es) v):Em w M es v:=by
 cases h with
 |slnil=>exact .inl ⟨rfl,rfl⟩
 |sl _ _ b off c sz us hc hs h h'=>exact .inr ⟨b,off,c,sz,us,rfl,hc,hs,fun i hi=>hA _ _ _ (h i hi),h',fun i hi=>M.one _ _ _ (h i hi)⟩
theorem KU(hA:gV M w){a:AV}{v:Value}(h:bo M dk a v)(hk:LK.sl.has a):Em w M a.elems v:=by
 rcases hk with rfl|⟨es,rfl⟩
 ·cases h;exact .inl ⟨rfl,rfl⟩
 ·exact yl hA h
theorem Cb{o sz:Nat}{es:List (List AV)}{v:Value}(h:bo M β (.vec o) v)(hw:Own M β w o (.vec sz es)):Em w M es v:=by
 cases h with
 |
  vec _ _ _ sz' hov hb =>
  obtain⟨v',h1,h2,h3⟩:=hw
  rw[hb]at h1;cases h1
  rcases h3 with⟨rfl,rfl⟩|⟨b,off,c,vs,e,rfl,h4,h5,h6,h7,_,_,h8⟩
  ·exact .inl ⟨rfl,rfl⟩
  ·have lt:∀i,i<es.length*sz->off+i<vs.size:=fun i hi=>cX (Nat.add_lt_add_left (cX hi (aS _ h4)) _) h6
   exact .inr ⟨b,off,c,_,fun i=>vs.getD (off+i) undef,rfl,h4,h2,fun i hi=>cell_of h5 _ (lt i hi),h7,fun i hi=>kL h8 _ (lt i hi)⟩
theorem zQ(hA:gV M w){o:Nat}{es:List (List AV)}{v:Value}(h:bo M β (.vec o) v)(hw:Own M β w o (.mw es)):Em w M es v:=by
 cases h with
 |
  vec _ _ _ sz' hov hb =>
  obtain⟨v',sz,h1,h2,h3⟩:=hw
  rw[hb]at h1;cases h1
  rcases h3 with⟨rfl,rfl⟩|⟨b,off,c,us,rfl,h4,h5,h7⟩
  ·exact .inl ⟨rfl,rfl⟩
  ·exact .inr ⟨b,off,c,_,us,rfl,h4,h2,fun i hi=>hA _ _ _ (h5 i hi),h7,fun i hi=>M.one _ _ _ (h5 i hi)⟩
theorem kW{ob:Nat->Option Ob}(hob:∀o x,ob o=some x->Own M β w o x)(hA:gV M w){x:AV}{v:Value}(h:bo M β x v){p:Option Prop}{es:List (List AV)}{os:List Nat}
 (he:eX ob x=some (p,es,os)) (hp:∀q,p=some q->q):Em w M es v:=by
 unfold eX at he
 split at he
 ·cases he;exact yl hA h
 ·cases he
  cases h with|x _ _ _ ho h=>exact KU hA h (hp _ rfl)
 ·cases he;cases h;exact .inl ⟨rfl,rfl⟩
 ·split at he
  ·rename_i hes;cases he;exact Cb h (hob _ _ hes)
  ·rename_i hes;cases he;exact zQ hA h (hob _ _ hes)
  ·cases he
 ·cases he
theorem ib.slice{t e:Nat}{ti:TI}(h:ib P t ti)(hk:ti.k=.slice e):P.underlying t=some (.slice e):=by
 obtain⟨d,hd,_,hc⟩:=h.D1
 rw[hk]at hc
 cases d<;>simp[rW]at hc
 subst hc;exact hd
theorem ib.array{t n e:Nat}{ti:TI}(h:ib P t ti)(hk:ti.k=.array n e):P.underlying t=some (.array n e):=by
 obtain⟨d,hd,_,hc⟩:=h.D1
 rw[hk]at hc
 cases d<;>simp[rW]at hc
 obtain⟨rfl,rfl⟩:=hc;exact hd
theorem ib.str{t:Nat}{ti:TI}(h:ib P t ti)(hk:ti.k=.str):P.underlying t=some .string:=by
 obtain⟨d,hd,_,hc⟩:=h.D1
 rw[hk]at hc
 cases d<;>simp[rW]at hc
 exact hd
theorem ib.num{t:Nat}{k:IntKind}{ti:TI}(h:ib P t ti)(hk:ti.k=.num k):P.underlying t=some (.int k):=by
 obtain⟨d,hd,_,hc⟩:=h.D1
 rw[hk]at hc
 cases d<;>simp[rW]at hc
 subst hc;exact hd
theorem ib.struct{t:Nat}{fs:List (Nat×Nat)}{ti:TI}(h:ib P t ti)(hk:ti.k=.struct fs):∃fl,P.underlying t=some (.struct fl)/\fl.toList.map (fun f=>(f.offset,f.type))=fs:=by
 obtain⟨d,hd,_,hc⟩:=h.D1
 rw[hk]at hc
 cases d<;>simp[rW]at hc
 exact⟨_,hd,hc⟩
theorem run_indexAt_slice{t e:Nat}(hu:P.underlying t=some (.slice e)){te:TI}(he:ib P e te)(b off n c:Nat)(k:IntKind)(i:Int)(h0:0<=i)(h1:i<n) :
 (Instr.indexAt t (.slice (some ⟨b,off,none⟩) n c) (.int k i)).run P w=.ok (.pointer (some ⟨b,off+i.toNat*te.sz,none⟩)) w:=by
 unfold Instr.indexAt
 simp only[asIntOf,Sem.run_bind,Sem.run_pure,Result.andThen_ok,run_underlying hu w]
 rw[if_pos ⟨h0,h1⟩]
 simp only[Sem.run_bind,he.iY w,Result.andThen_ok,Sem.run_pure,jI]
theorem run_indexAt_array{t m e:Nat}(hu:P.underlying t=some (.array m e)){te:TI}(he:ib P e te)(b off:Nat)(k:IntKind)(i:Int)(h0:0<=i)(h1:i<m) :
 (Instr.indexAt t (.pointer (some ⟨b,off,none⟩)) (.int k i)).run P w=.ok (.pointer (some ⟨b,off+i.toNat*te.sz,none⟩)) w:=by
 unfold Instr.indexAt
 simp only[asIntOf,Sem.run_bind,Sem.run_pure,Result.andThen_ok,run_underlying hu w,Instr.sureAddr]
 rw[if_pos ⟨h0,h1⟩]
 simp only[Sem.run_bind,he.iY w,Result.andThen_ok,Sem.run_pure,jI]
theorem FI{es:List (List AV)}{b off c i z:Nat}(h:bo M β (.sl es) (.slice (some ⟨b,off,none⟩) es.length c))(hi:i<es.length)(hz:(es.getD i []).length=z) :
 bo M β (.ptr (es.getD i [])) (.pointer (some ⟨b,off+i*z,none⟩)):=by
 cases h with
 |
  sl _ _ _ _ _ sz us hc hs h h' =>
  have e:sz=z:=(hs i hi).symm.trans hz
  subst e
  have hle:i*sz+sz<=es.length*sz:=by rw[<-cR];exact aS _ hi
  refine .ptr _ _ _ _ (fun j=>us (i*sz+j)) (fun j hj=>?_) (fun j hj=>h' i j hi (by omega))
  rw[hz]at hj
  rw[Nat.add_assoc]
  exact h _ (by omega)
theorem CT{es:List (List AV)}{v:Value}(h:bo M β (.sl es) v)(hi:0<es.length):∃b off c,v=.slice (some ⟨b,off,none⟩) es.length c:=by
 cases h with
 |slnil=>simp at hi
 |sl=>exact⟨_,_,_,rfl⟩
theorem Np{a:AV}{v:Value}(h:bo M dk a v)(hk:LK.sl.has a):bo M β (.sl a.elems) v:=by
 rcases hk with rfl|⟨es,rfl⟩
 ·cases h;exact .slnil _
 ·exact h.up
theorem wi{T:ep}(hT:cT P T){ob:Nat->Option Ob}(hob:∀o x,ob o=some x->Own M β w o x){t:Nat}(ht:(T t).kn=true){x:AV}{v:Value}(h:bo M β x v)(k:IntKind)(i:Int) :
 (indexAt T ob (T t) x i).holds (Quiet fun r=>jF P M β (Instr.indexAt t v (.int k i)) w r):=by
 have slC:∀(es:List (List AV)) e,(T t).k=.slice e->(T e).kn=true->bo M β (.sl es) v->0<=i->i<es.length->(es.getD i.toNat []).length=(T e).sz ->
  jF P M β (Instr.indexAt t v (.int k i)) w (.ptr (es.getD i.toNat [])):=fun es e hk hkn hr h0 h1 hz=>by
  obtain⟨b,off,c,rfl⟩:=CT hr (by omega)
  exact⟨_,run_indexAt_slice ((hT t ht).slice hk) (hT e hkn) b off _ c k i h0 h1,FI hr (by omega) hz⟩
 unfold indexAt
 split
 ·rename_i m e o q hk
  cases h with
  |
   ref _ _ _ b hb =>
   refine DR.aT fun hkn=>?_
   intro⟨h0,h1⟩
   exact⟨rfl,rfl,_,run_indexAt_array ((hT t ht).array hk) (hT e hkn) b q k i h0 h1,.nw _ _ _ _ hb⟩
 ·rename_i e o hk
  refine DR.aT fun hkn=>?_
  cases h with
  |
   vec _ _ _ sz hov hb =>
   split
   ·rename_i sz' es hes
    refine DR.aT fun hz=>?_
    intro⟨h0,h1⟩
    obtain⟨v',h3,h4,h5⟩:=hob _ _ hes
    rw[hb]at h3;cases h3
    have hz:=aC hz
    rcases h5 with⟨_,rfl⟩|⟨b,off,c,vs,e',rfl,h6,_⟩
    ·simp at h1;omega
    ·refine⟨rfl,rfl,_,run_indexAt_slice ((hT t ht).slice hk) (hT e hkn) b off _ c k i h0 h1,?_⟩
     rw[<-hz]
     exact .mn β o i.toNat 0 _ b off es.length c hb
   ·rename_i es hes
    intro⟨h0,h1,h2⟩
    obtain⟨v',sz',h3,h4,h5⟩:=hob _ _ hes
    rw[hb]at h3;cases h3
    rcases h5 with⟨_,rfl⟩|⟨b,off,c,us,rfl,h6,_⟩
    ·simp at h1;omega
    ·refine⟨rfl,rfl,_,run_indexAt_slice ((hT t ht).slice hk) (hT e hkn) b off _ c k i h0 h1,?_⟩
     have hz:sz=(T e).sz:=(h4 i.toNat (by omega)).symm.trans h2
     rw[<-hz]
     exact .mn β o i.toNat 0 _ b off es.length c hb
   ·trivial
 ·rename_i e es hk
  refine DR.aT fun hkn=>?_
  intro⟨h0,h1,h2⟩
  exact⟨rfl,rfl,slC es e hk hkn h h0 h1 h2⟩
 ·rename_i e a hk
  refine DR.aT fun hkn=>?_
  intro⟨hs,h0,h1,h2⟩
  cases h with
  |x _ _ _ ho h=>exact⟨rfl,rfl,slC a.elems e hk hkn (Np h hs) h0 h1 h2⟩
 ·trivial
theorem rZ{t:Nat}(hu:P.underlying t=some .string)(s:ByteArray)(k:IntKind)(n:Int)(h0:0<=n)(h1:n<s.size):(Instr.index t (.string s) (.int k n)).run P w=.ok (.int .u8 (bt s n)) w:=by
 have hlt:n.toNat<s.size:=by omega
 unfold Instr.index
 simp only[asIntOf,Sem.run_bind,Sem.run_pure,Result.andThen_ok,run_underlying hu w]
 have e:(if 0<=n then s[n.toNat]? else none)=some (s[n.toNat]'hlt):=by rw[if_pos h0];simp[hlt]
 rw[e]
 simp[bt,hlt]
theorem qB{e:Operand->AV}{ρ:Operand->Value}(he:∀x,bo M β (e x) (ρ x))(isS:Bool)(len cap:Nat)(lo hi:Option Operand)(l h:Int)(hl:ij e lo=some l)(hh:gm e len hi=some h)
 (h0:0<=l) (h1:l<=h) (h2:h<=len) (hc:len<=cap) :
 (Instr.sliceBounds isS len cap (lo.map ρ) (hi.map ρ) none).run P w=.ok (l.toNat,h.toNat,cap) w:=by
 have b1:∀(x:Operand) (n:Int) (y:Nat) (code:BoundsCode),(∃k,e x=.v (.int k n))->0<=n->n<=y->(Instr.sliceBound (ρ x) y code).run P w=.ok n.toNat w:=by
  intro x n y code ⟨k,hx⟩ hn0 hn1
  have q:=he x
  rw[hx]at q
  rw[dA q]
  simp[Instr.sliceBound,asIntOf,hn0,hn1]
 have low:∀(x:Operand),ij e (some x)=some l->∃k,e x=.v (.int k l):=fun x hx=>by
  simp only[ij]at hx
  split at hx
  ·rename_i k n hq;cases hx;exact⟨k,hq⟩
  ·cases hx
 have high:∀(x:Operand),gm e len (some x)=some h->∃k,e x=.v (.int k h):=fun x hx=>by
  simp only[gm]at hx
  split at hx
  ·rename_i k n hq;cases hx;exact⟨k,hq⟩
  ·cases hx
 unfold Instr.sliceBounds
 cases hi with
 |
  none =>
  simp only[gm,Option.some.injEq]at hh
  subst hh
  cases lo with
  |
   none =>
   simp only[ij,Option.some.injEq]at hl
   subst hl
   simp[Sem.run_bind]
  |some x=>simp[Sem.run_bind,b1 x l len _ (low x hl) h0 (by omega)]
 |
  some y =>
  have c1:=b1 y h cap (if isS=true then .sliceAcap else .sliceAlen) (high y hh) (by omega) (by omega)
  cases lo with
  |
   none =>
   simp only[ij,Option.some.injEq]at hl
   subst hl
   simp[Sem.run_bind,c1]
  |some x=>simp[Sem.run_bind,c1,b1 x l h.toNat _ (low x hl) h0 (by omega)]
end
end Go.VL
namespace Go.VL
open Go Go.RowKit
section
variable {P:Program} {M:Mem} {β:Lo} {w:World}
def mX(tm:Nat->AV)(dst:Option Nat)(x:AV):Nat->AV:=match dst with|some t=>cr tm t x|none=>tm
theorem uT(a:Act)(dst:Option Nat)(v:Value):(a.put dst v).tmps.size=a.tmps.size/\(a.put dst v).defers=a.defers:=by
 cases dst<;>simp[Act.put]
theorem Dw{a:Act}{tm:Nat->AV}{n:Nat}(hs:a.tmps.size=n)(h:∀t,bo M β (tm t) (a.tmps.getD t undef)){dst:Option Nat}{x:AV}{v:Value}(hr:bo M β x v)(hd:∀t,dst=some t->t<n) :
 ∀t,bo M β (mX tm dst x t) ((a.put dst v).tmps.getD t undef):=by
 intro t
 cases dst with
 |none=>exact h t
 |
  some d =>
  have hlt:=hd d rfl
  simp only[mX,Act.put]
  by_cases e:t=d
  ·subst e
   rw[aL]
   have:(a.tmps.setIfInBounds t v).getD t undef=v:=by simp[hs,hlt]
   rw[this];exact hr
  ·rw[aW _ _ _ _ e]
   have:(a.tmps.setIfInBounds d v).getD t undef=a.tmps.getD t undef:=by
    simp[Array.getElem?_setIfInBounds_ne (Ne.symm e)]
   rw[this];exact h t
theorem cZ.put{n:Nat}{A:jP}{s:St}{a:Act}(g:cZ n A s a w M β){dst:Option Nat}{x:AV}{v:Value}(hr:bo M β x v)(hd:∀t,dst=some t->t<n) :
 cZ n A {s with tm:=mX s.tm dst x} (a.put dst v) w M β :=
 {size:=(uT a dst v).1.trans g.size,defs:=(uT a dst v).2.trans g.defs,tm:=Dw g.size g.tm hr hd,le:=g.le,new:=g.new,agree:=g.agree,own:=g.own,place:=g.place,apart:=g.apart,us:=g.us,fix:=g.fix,cB:=g.cB}
theorem zb(s:St)(dst:Option Nat)(d:De)(hu:d.cr=[])(hn:d.new=[]):s.app dst d = {s with tm:=mX s.tm dst d.val}:=by
 unfold St.app
 rw[hu,hn]
 cases dst<;>rfl
theorem fN{s:St}{n:Nat}{dst:Option Nat}{d:De}(h:dB s n dst d=true):∀t,dst=some t->t<n:=by
 intro t ht
 unfold dB at h
 simp only[ht,au]at h
 have:=aN h.2
 omega
def qD(P:Program)(M:Mem)(β:Lo)(o:Oper)(a:Act)(w:World)(r:AV):Prop:=∃v,(execOp a.eval o).run P w=Result.ok (.value v) w/\bo M β r v
def LZ(P:Program)(o:Oper)(a:Act)(w:World)(v:Value)(w':World):Prop:=(execOp a.eval o).run P w=.ok (.value v) w'\/((execOp a.eval o).run P w=.ok .skip w'/\v=undef)
def Step(P:Program)(n:Nat)(A:jP)(o:Oper)(a:Act)(w:World)(s':St):Prop:=∃v w' M' β',LZ P o a w v w'/\cZ n A s' (a.put o.dst v) w' M' β'
theorem Step.wp{n:Nat}{A:jP}{o:Oper}{a:Act}{s':St}(h:Step P n A o a w s'){K:Act->World->Prop}{Q:Exit->Act->World->Prop}(hk:∀a' w',fV n A s' a' w'->K a' w'):o.wp P a w K Q:=by
 obtain⟨v,w',M',β',hr,g⟩:=h
 unfold Oper.wp
 rcases hr with hr|⟨hr,rfl⟩
 ·rw[hr];exact hk _ _ ⟨M',β',g⟩
 ·rw[hr];exact hk _ _ ⟨M',β',g⟩
theorem la{n:Nat}{A:jP}{s:St}{a:Act}(g:cZ n A s a w M β){o:Oper}{r:DR}(h:r.holds (Quiet (qD P M β o a w))) :
 r.holds fun d=>dB s n o.dst d=true->Step P n A o a w (s.app o.dst d) :=
 DR.gp h fun d hd hn=>by
  obtain⟨v,hv,hr⟩:=hd.2.2
  exact⟨v,w,M,β,.inl hv,by rw[zb s o.dst d hd.1 hd.2.1];exact g.put hr (fN hn)⟩
theorem o0{o:Oper}{a:Act}{r:DR}{sv:Sem Value}(he:execOp a.eval o=(do pure (.value (<-sv))))(h:r.holds (Quiet fun x=>jF P M β sv w x)) :
 r.holds (Quiet (qD P M β o a w)) :=
 DR.gp h fun d hd=>⟨hd.1,hd.2.1,by
  obtain⟨v,h1,h2⟩:=hd.2.2
  exact⟨v,by rw[he];simp[Sem.run_bind,h1],h2⟩⟩
variable {n:Nat} {A:jP} {s:St} {a:Act}
theorem AT(g:cZ n A s a w M β)(o:Oper)(x:Operand)(ho:o.op=.move x\/o.op=.assign x) :
 (DR.yes {val:=ev s x}).holds (Quiet (qD P M β o a w)):=by
 refine⟨rfl,rfl,a.eval x,?_,g.ev x⟩
 rcases ho with ho|ho<;>simp[execOp,ho]
theorem F8(g:cZ n A s a w M β)(o:Oper)(c x y:Operand)(ho:o.op=.pick c x y) :
 (match ev s c with| .v (.bool true)=>DR.yes {val:=ev s x}| .v (.bool false)=>DR.yes {val:=ev s y}|_=>DR.no).holds (Quiet (qD P M β o a w)):=by
 have hc:=g.ev c
 split
 ·rename_i e
  rw[e]at hc
  exact⟨rfl,rfl,a.eval x,by simp[execOp,ho,dA hc,asBool],g.ev x⟩
 ·rename_i e
  rw[e]at hc
  exact⟨rfl,rfl,a.eval y,by simp[execOp,ho,dA hc,asBool],g.ev y⟩
 ·trivial
theorem KN(g:cZ n A s a w M β){T:ep}(hT:cT P T)(o:Oper)(op:BinOp)(t t':Nat)(x y:Operand)(ho:o.op=.binOp op t x y t') :
 (bin (T t) op (ev s x) (ev s y)).holds (Quiet (qD P M β o a w)) :=
 o0 (sv:=do eqGuard op t x y (a.eval x) (a.eval y);binOp op t (a.eval x) (a.eval y)) (by simp[execOp,ho]) (FM hT g.agree op t x y (g.ev x) (g.ev y))
theorem DX{t:Bool}{v:Value}(h:bo M β (.b t) v):v=.bool t:=by cases h;rfl
theorem Kr(g:cZ n A s a w M β)(o:Oper)(t:Nat)(x:Operand)(ho:o.op=.unOp .not t x) :
 (match ev s x with| .v (.bool b)=>DR.yes {val:=.v (.bool !b)}| .b b=>DR.yes {val:=.b (!b)}|_=>DR.no).holds (Quiet (qD P M β o a w)):=by
 have hc:=g.ev x
 split
 ·rename_i e
  rw[e]at hc
  exact⟨rfl,rfl,_,by simp[execOp,ho,dA hc,Op.unary],.v _ _⟩
 ·rename_i e
  rw[e]at hc
  exact⟨rfl,rfl,_,by simp[execOp,ho,DX hc,Op.unary],.b _ _⟩
 ·trivial
theorem Jr(g:cZ n A s a w M β)(o:Oper)(t:Nat)(x:Operand)(ho:o.op=.unOp .neg t x) :
 (match ev s x with| .v (.int k m)=>DR.yes {val:=.v (.int k (k.wrap (0-m)))}|_=>DR.no).holds (Quiet (qD P M β o a w)):=by
 have hc:=g.ev x
 split
 ·rename_i e
  rw[e]at hc
  exact⟨rfl,rfl,_,by simp[execOp,ho,dA hc,Op.unary,Op.intArith],.v _ _⟩
 ·trivial
theorem H3(g:cZ n A s a w M β)(o:Oper)(x:Operand)(ho:o.op=.nilCheck x) :
 (match ev s x with
 | .x a=>DR.ok (LK.ptr.has a/\a.isNil=false) {val:=.x a}
 | .ptr cs=>.yes {val:=.ptr cs}
 | .pid b cs=>.yes {val:=.pid b cs}
 | .ref o k=>.yes {val:=.ref o k}
 |_=>.no).holds (Quiet (qD P M β o a w)):=by
 have hc:=g.ev x
 have run:∀ad,a.eval x=.pointer (some ad)->(execOp a.eval o).run P w=.ok (.value (a.eval x)) w:=fun ad e=>by
  simp[execOp,ho,e]
 split
 ·rename_i y e
  rw[e]at hc
  intro⟨hk,hn⟩
  cases hc with
  |
   x _ _ _ ho h =>
   obtain⟨q,hq,hq'⟩:=yj h hk
   rw[hn]at hq'
   cases q with
   |none=>cases hq'
   |some ad=>exact⟨rfl,rfl,_,run ad hq,.x _ _ _ ho h⟩
 ·rename_i cs e
  rw[e]at hc
  obtain⟨b,o',hq⟩:=ko hc
  exact⟨rfl,rfl,_,run _ hq,hc⟩
 ·rename_i b cs e
  rw[e]at hc
  have:∃ad,a.eval x=.pointer (some ad):=by generalize a.eval x=v at hc;cases hc;exact⟨_,rfl⟩
  obtain⟨ad,hq⟩:=this
  exact⟨rfl,rfl,_,run _ hq,hc⟩
 ·rename_i o' k e
  rw[e]at hc
  have:∃ad,a.eval x=.pointer (some ad):=by generalize a.eval x=v at hc;cases hc;exact⟨_,rfl⟩
  obtain⟨ad,hq⟩:=this
  exact⟨rfl,rfl,_,run _ hq,hc⟩
 ·trivial
theorem vu(g:cZ n A s a w M β){T:ep}(hT:cT P T)(o:Oper)(t f:Nat)(x:Operand)(ho:o.op=.fieldAddr t x f) :
 (dm (T t).kn<|match (T t).k with
 |
  .struct fs=>match fs[f]? with
  |some (off,ft)=>dm ((T ft).kn&&cv 0 (T ft).sz)<|qg (ev s x) off
  |none=>.no
 |_=>.no).holds (Quiet (qD P M β o a w)):=by
 refine DR.aT fun hkn=>?_
 split
 ·rename_i fs hk
  obtain⟨fl,hu,hfl⟩:=(hT t hkn).struct hk
  split
  ·rename_i off ft hf
   refine DR.aT fun hq=>?_
   simp only[au]at hq
   have hsz:0<(T ft).sz:=by have:=aN hq.2;omega
   have hf':∃fi,fl[f]?=some fi/\fi.offset=off/\fi.type=ft:=by
    rw[<-hfl,List.getElem?_map]at hf
    cases hq':fl.toList[f]? with
    |none=>rw[hq']at hf;cases hf
    |
     some fi =>
     rw[hq']at hf
     simp only[cy,Option.some.injEq,Prod.mk.injEq]at hf
     exact⟨fi,by simpa using hq',hf.1,hf.2⟩
   obtain⟨fi,h1,rfl,rfl⟩:=hf'
   refine DR.gp (wV (g.ev x) fi.offset) fun d hd=>⟨hd.1,hd.2.1,?_⟩
   obtain⟨b,q,hv,hr⟩:=hd.2.2
   refine⟨_,?_,hr⟩
   have hz:=(hT fi.type hq.1).iY w
   simp only[execOp,ho,Instr.fieldAt,Sem.run_bind,run_underlying hu w,Result.andThen_ok,h1,hv,Instr.sureAddr,Sem.run_pure,fieldPlace,hz]
   rw[if_neg (by omega)]
   simp[jI]
  ·trivial
 ·trivial
theorem Gr(g:cZ n A s a w M β){T:ep}(hT:cT P T)(o:Oper)(t:Nat)(x:Operand)(ho:o.op=.load t x) :
 (loadAt s.ob (T t) (ev s x)).holds (Quiet (qD P M β o a w)) :=
 o0 (sv:=Instr.loadAt t (a.eval x)) (by simp[execOp,ho]) (sE hT g.own g.agree (g.ev x))
theorem uI(g:cZ n A s a w M β){T:ep}(hT:cT P T)(o:Oper)(t:Nat)(x i:Operand)(ho:o.op=.indexAddr t x i) :
 (dm (T t).kn<|match ev s i with| .v (.int _ m)=>indexAt T s.ob (T t) (ev s x) m|_=>.no).holds (Quiet (qD P M β o a w)):=by
 refine DR.aT fun hkn=>?_
 have hi:=g.ev i
 split
 ·rename_i k m e
  rw[e]at hi
  exact o0 (sv:=Instr.indexAt t (a.eval x) (a.eval i)) (by simp[execOp,ho]) (by rw[dA hi];exact wi hT g.own hkn (g.ev x) k m)
 ·trivial
theorem fJ{cs:List AV}{v:Value}(h:bo M β (.agg cs) v):∃vs:List Value,v=.agg vs.toArray/\cs.length=vs.length/\(∀i,i<cs.length->bo M β (cs.getD i .any) (vs.getD i undef))/\∀i,i<cs.length->(vs.getD i undef).oneCell'=true:=by
 cases h with|agg _ _ vs hl ho h=>exact⟨vs,rfl,hl,h,ho⟩
theorem nL{t:Nat}{ti:TI}(h:ib P t ti)(vs:List Value)(off:Nat)(hl:off+ti.sz<=vs.length) :
 (part t vs.toArray off).run P w=.ok (if ti.agg then .agg ((bc ti.sz).map fun i=>vs.getD (off+i) undef).toArray else vs.getD off undef) w:=by
 unfold part
 rw[Sem.run_bind,h.sV w]
 simp only[Result.andThen_ok]
 cases ha:ti.agg with
 |
  true =>
  simp only[if_true,Sem.run_bind,h.iY w,Result.andThen_ok,Sem.run_pure]
  congr 2
  apply Array.ext'
  simp only[Array.toList_extract,List.extract_eq_take_drop]
  apply List.ext_getElem
  ·simp;omega
  ·intro i h1 h2
   simp at h1 h2
   simp[aa,show off+i<vs.length by omega]
 |
  false =>
  have h1:ti.sz=1:=h.one ha
  have hlt:off<vs.length:=by omega
  simp[hlt,aa]
theorem Cj{T:ep}(hT:cT P T){t:Nat}{cs:List AV}{vs:List Value}(hl:cs.length=vs.length)(hr:∀i,i<cs.length->bo M β (cs.getD i .any) (vs.getD i undef))(ho:∀i,i<cs.length->(vs.getD i undef).oneCell'=true)(off:Nat) :
 (nA (T t) cs off).holds (Quiet fun r=>jF P M β (part t vs.toArray off) w r):=by
 unfold nA
 refine DR.aT fun hkn=>?_
 have h:=hT t hkn
 cases ha:(T t).agg with
 |
  true =>
  simp only[cond_true]
  cases hb:fv (off+(T t).sz) cs.length with
  |false=>simp only[cond_false];trivial
  |
   true =>
   have hle:=aN hb
   simp only[cond_true]
   refine⟨rfl,rfl,_,nL h vs off (by omega),?_⟩
   rw[if_pos ha]
   refine .agg _ _ _ (by simp;omega) (fun i hi=>by simp only[List.length_take,bI]at hi;rw[dQ _ _ _ (by omega)];exact ho _ (by omega)) fun i hi=>?_
   simp only[List.length_take,bI]at hi
   rw[dQ _ _ _ (by omega)]
   have e:((cs.drop off).take (T t).sz).getD i .any=cs.getD (off+i) .any:=by
    simp[aa,List.getElem?_take,cm,show i<(T t).sz by omega]
   rw[e]
   exact hr (off+i) (by omega)
 |
  false =>
  simp only[cond_false]
  cases hb:cv off cs.length with
  |false=>simp only[cond_false];trivial
  |
   true =>
   have hlt:off<cs.length:=by have:=aN hb;omega
   have h1:(T t).sz=1:=h.one ha
   simp only[cond_true]
   refine⟨rfl,rfl,_,nL h vs off (by omega),?_⟩
   simp only[ha,Bool.false_eq_true,if_false]
   exact hr off hlt
theorem Aq{T:ep}(hT:cT P T){t:Nat}{cs:List AV}{vs:List Value}(hl:cs.length=vs.length)(hr:∀i,i<cs.length->bo M β (cs.getD i .any) (vs.getD i undef))(ho:∀i,i<cs.length->(vs.getD i undef).oneCell'=true)(off:Nat) :
 (jo (T t) cs off).holds (Quiet fun r=>jF P M β (part t vs.toArray off) w r):=by
 unfold jo
 refine DR.aT fun hkq=>?_
 rw[au]at hkq
 obtain⟨hkn,hq⟩:=hkq
 have h:=hT t hkn
 cases ha:(T t).agg with
 |
  true =>
  simp only[cond_true,DR.holds]
  intro⟨hle,hh⟩
  refine⟨rfl,rfl,_,nL h vs off (by omega),?_⟩
  rw[if_pos ha]
  refine .agg _ _ _ (by simp[df,TI.sz]) (fun i hi=>by rw[df]at hi;rw[dQ _ _ _ (show i<(T t).sz from hi)];exact ho _ (by unfold TI.sz at hle;omega)) fun i hi=>?_
  rw[df]at hi
  rw[dQ _ _ _ (show i<(T t).sz from hi),kH _ _ _ _ hi]
  exact LK.lq (hr (off+i) (by unfold TI.sz at hle;omega)) (kp _ _ _ _ hh hi) (tB hq i hi)
 |
  false =>
  simp only[cond_false,DR.holds]
  intro⟨hlt,hh⟩
  have h1:(T t).sz=1:=h.one ha
  refine⟨rfl,rfl,_,nL h vs off (by omega),?_⟩
  simp only[ha,Bool.false_eq_true,if_false]
  exact LK.lq (hr off hlt) hh (by rw[vi];exact tB hq 0 (by unfold TI.sz at h1;omega))
theorem B6(g:cZ n A s a w M β){T:ep}(hT:cT P T)(o:Oper)(t f:Nat)(x:Operand)(ho:o.op=.field t x f) :
 (dm (T t).kn<|match (T t).k,ev s x with
 |
  .struct fs,.agg cs=>match fs[f]? with
  |some (off,ft)=>nA (T ft) cs off
  |none=>.no
 |_,_=>.no).holds (Quiet (qD P M β o a w)):=by
 refine DR.aT fun hkn=>?_
 have hx:=g.ev x
 split
 ·rename_i fs cs hk e
  rw[e]at hx
  obtain⟨vs,hv,hl,hr,hone⟩:=fJ hx
  obtain⟨fl,hu,hfl⟩:=(hT t hkn).struct hk
  split
  ·rename_i off ft hf
   have hf':∃fi,fl[f]?=some fi/\fi.offset=off/\fi.type=ft:=by
    rw[<-hfl,List.getElem?_map]at hf
    cases hq':fl.toList[f]? with
    |none=>rw[hq']at hf;cases hf
    |
     some fi =>
     rw[hq']at hf
     simp only[cy,Option.some.injEq,Prod.mk.injEq]at hf
     exact⟨fi,by simpa using hq',hf.1,hf.2⟩
   obtain⟨fi,h1,rfl,rfl⟩:=hf'
   refine DR.gp (Cj (P:=P) (w:=w) hT hl hr hone fi.offset) fun d hd=>⟨hd.1,hd.2.1,?_⟩
   obtain⟨v,q1,q2⟩:=hd.2.2
   exact⟨v,by simp[execOp,ho,Instr.field,Sem.run_bind,run_underlying hu w,h1,hv,asAgg,q1],q2⟩
  ·trivial
 ·trivial
theorem DE(g:cZ n A s a w M β){T:ep}(hT:cT P T)(o:Oper)(t:Nat)(x i:Operand)(ho:o.op=.index t x i) :
 (dm (T t).kn<|match (T t).k,ev s x,ev s i with
 | .str,.v (.string q),.v (.int _ m)=>.ok (0<=m/\m<q.size) {val:=.v (.int .u8 (bt q m))}
 | .array l el,.agg cs,.v (.int _ m)=>((jo (T el) cs (m.toNat*(T el).sz))).AH (0<=m/\m<l)
 |_,_,_=>.no).holds (Quiet (qD P M β o a w)):=by
 refine DR.aT fun hkn=>?_
 have hx:=g.ev x
 have hi:=g.ev i
 split
 ·rename_i q k m hk e e'
  rw[e]at hx;rw[e']at hi
  intro⟨h0,h1⟩
  refine⟨rfl,rfl,_,?_,.v _ _⟩
  simp[execOp,ho,dA hx,dA hi,Sem.run_bind,rZ ((hT t hkn).str hk) q k m h0 h1]
 ·rename_i l el cs k m hk e e'
  rw[e]at hx;rw[e']at hi
  obtain⟨vs,hv,hl,hr,hone⟩:=fJ hx
  refine DR.kV fun⟨h0,h1⟩=>?_
  by_cases hel:(T el).kn=true
  ·refine DR.gp (Aq (P:=P) (w:=w) hT hl hr hone _) fun d hd=>⟨hd.1,hd.2.1,?_⟩
   obtain⟨v,q1,q2⟩:=hd.2.2
   refine⟨v,?_,q2⟩
   simp only[execOp,ho,Instr.index,dA hi,hv,asIntOf,Sem.run_bind,Sem.run_pure,Result.andThen_ok,run_underlying ((hT t hkn).array hk) w]
   rw[if_pos ⟨h0,h1⟩]
   simp[Sem.run_bind,(hT el hel).iY w,q1]
  ·unfold jo
   exact DR.aT fun h=>absurd (au _ _ |>.mp h).1 hel
 ·trivial
theorem yL(g:cZ n A s a w M β)(o:Oper)(x:Operand)(i:Nat)(ho:o.op=.extract x i) :
 (match ev s x with| .cP cs=>dm (cv i cs.length)<|DR.yes {val:=cs.getD i .any}|_=>.no).holds (Quiet (qD P M β o a w)):=by
 have hx:=g.ev x
 split
 ·rename_i cs e
  rw[e]at hx
  have:∃vs:List Value,a.eval x=.tuple vs.toArray/\cs.length=vs.length/\∀i,i<cs.length->bo M β (cs.getD i .any) (vs.getD i undef):=by
   generalize a.eval x=v at hx
   cases hx with|cP _ _ vs hl h=>exact⟨vs,rfl,hl,h⟩
  obtain⟨vs,hv,hl,hr⟩:=this
  refine DR.aT fun hq=>?_
  have hi:i<cs.length:=by have:=aN hq;omega
  refine⟨rfl,rfl,_,?_,hr i hi⟩
  have:i<vs.length:=by omega
  simp[execOp,ho,hv,Instr.extract,this,aa]
 ·trivial
end
end Go.VL
namespace Go.VL
open Go Go.RowKit
section
variable {P:Program} {M M':Mem} {β β':Lo} {w w':World}
theorem Own.Gj{o:Nat}{x:Ob}(h:Own M β w o x)(hx:x≠.dead):∃l,β o=some l:=by
 cases x with
 |cells cs=>obtain⟨b,_,_,h1,_⟩:=h;exact⟨_,h1⟩
 |vec sz es=>obtain⟨v,h1,_⟩:=h;exact⟨_,h1⟩
 |mC sz es=>obtain⟨v,h1,_⟩:=h;exact⟨_,h1⟩
 |gO cs=>obtain⟨b,_,h1,_⟩:=h;exact⟨_,h1⟩
 |mw es=>obtain⟨v,_,h1,_⟩:=h;exact⟨_,h1⟩
 |dead=>exact absurd rfl hx
theorem Own.mono{o:Nat}{x:Ob}(h:Own M β w o x)(hM:M.le M')(hβ:Lo.le β β')(hw:∀b,x.live=true->dN β o=some b->w'.heap[b]?=w.heap[b]?/\∀k,M'.c b k=none):Own M' β' w' o x:=by
 cases x with
 |
  cells cs =>
  obtain⟨b,vs,e,h1,h2,h3,h4,h5,h6⟩:=h
  obtain⟨q1,q2⟩:=hw b rfl (by simp[dN,h1,Loc.block])
  exact⟨b,vs,e,hβ _ _ h1,q1.trans h2,h3,fun i hi=>(h4 i hi).mono hM hβ,q2,h6⟩
 |
  vec sz es =>
  obtain⟨v,h1,h2,h3⟩:=h
  refine⟨v,hβ _ _ h1,h2,?_⟩
  rcases h3 with h3|⟨b,off,c,vs,e,rfl,h4,h5,h6,h7,h8,h9⟩
  ·exact .inl h3
  ·obtain⟨q1,q2⟩:=hw b rfl (by simp[dN,h1,Loc.block])
   exact .inr ⟨b,off,c,vs,e,rfl,h4,q1.trans h5,h6,fun i j hi hj=>(h7 i j hi hj).mono hM (Lo.le.refl _),q2,h9⟩
 |
  mC sz es =>
  obtain⟨v,h1,h2,h3⟩:=h
  refine⟨v,hβ _ _ h1,h2,?_⟩
  rcases h3 with h3|⟨b,off,c,vs,e,rfl,h4,h5,h6,h7,h8,h9⟩
  ·exact .inl h3
  ·obtain⟨q1,q2⟩:=hw b rfl (by simp[dN,h1,Loc.block])
   exact .inr ⟨b,off,c,vs,e,rfl,h4,q1.trans h5,h6,fun i j hi hj=>(h7 i j hi hj).mono hM (Lo.le.refl _),q2,h9⟩
 |
  gO cs =>
  obtain⟨b,us,h1,h2⟩:=h
  exact⟨b,us,hβ _ _ h1,fun i hi=>⟨hM.c _ _ _ (h2 i hi).1,(h2 i hi).2.mono hM hβ⟩⟩
 |
  mw es =>
  obtain⟨v,sz,h1,h2,h3⟩:=h
  refine⟨v,sz,hβ _ _ h1,h2,?_⟩
  rcases h3 with h3|⟨b,off,c,us,rfl,h4,h5,h7⟩
  ·exact .inl h3
  ·exact .inr ⟨b,off,c,us,rfl,h4,fun i hi=>hM.c _ _ _ (h5 i hi),fun i j hi hj=>(h7 i j hi hj).mono hM (Lo.le.refl _)⟩
 |dead=>trivial
theorem Own.lt{o:Nat}{x:Ob}(h:Own M β w o x)(hx:x.live=true){b:Nat}(hb:dN β o=some b):b<w.heap.size:=by
 have key:∀(b':Nat) (ob:Go.Obj),w.heap[b']?=some ob->b'<w.heap.size:=fun b' ob hh=>(Array.getElem?_eq_some_iff.1 hh).1
 cases x with
 |
  cells cs =>
  obtain⟨b',vs,e,h1,h2,_⟩:=h
  simp[dN,h1,Loc.block]at hb
  subst hb;exact key _ _ h2
 |
  vec sz es =>
  obtain⟨v,h1,h2,h3⟩:=h
  rcases h3 with⟨rfl,_⟩|⟨b',off,c,vs,e,rfl,h4,h5,_⟩
  ·simp[dN,h1,Loc.block]at hb
  ·simp[dN,h1,Loc.block]at hb
   subst hb;exact key _ _ h5
 |
  mC sz es =>
  obtain⟨v,h1,h2,h3⟩:=h
  rcases h3 with⟨rfl,_⟩|⟨b',off,c,vs,e,rfl,h4,h5,_⟩
  ·simp[dN,h1,Loc.block]at hb
  ·simp[dN,h1,Loc.block]at hb
   subst hb;exact key _ _ h5
 |_=>cases hx
theorem Own.Aj{o:Nat}{x:Ob}(h:Own M β w o x)(hx:x.live=true){b:Nat}(hb:dN β o=some b):∀k,M.c b k=none:=by
 cases x with
 |
  cells cs =>
  obtain⟨b',vs,e,h1,_,_,_,h5,_⟩:=h
  simp[dN,h1,Loc.block]at hb
  subst hb;exact h5
 |
  vec sz es =>
  obtain⟨v,h1,h2,h3⟩:=h
  rcases h3 with⟨rfl,_⟩|⟨b',off,c,vs,e,rfl,h4,h5,_,_,h6,_⟩
  ·simp[dN,h1,Loc.block]at hb
  ·simp[dN,h1,Loc.block]at hb
   subst hb;exact h6
 |
  mC sz es =>
  obtain⟨v,h1,h2,h3⟩:=h
  rcases h3 with⟨rfl,_⟩|⟨b',off,c,vs,e,rfl,h4,h5,_,_,h6,_⟩
  ·simp[dN,h1,Loc.block]at hb
  ·simp[dN,h1,Loc.block]at hb
   subst hb;exact h6
 |_=>cases hx
theorem gV.lt(h:gV M w){b k:Nat}{v:Value}(hc:M.c b k=some v):b<w.heap.size:=World.block_lt_of_cell? w _ (h b k v hc)
theorem gV.world(h:gV M w)(hw:∀b k v,M.c b k=some v->w'.heap[b]?=w.heap[b]?):gV M w':=⟨fun b k v hc =>
 (World.cell?_of_block (w:=w) (a:=⟨b,k,none⟩) (hw b k v hc)).trans (h b k v hc),fun b hb=>by
  obtain⟨k,v,hc⟩:=M.pc b hb
  rw[hw b k v hc];exact h.p b hb⟩
theorem zu.jG{A:jP}(h:zu A w)(ho:w'.os=w.os)(ht:w'.tape=w.tape)(hp:w'.output=w.output)(hs:w.heap.size<=w'.heap.size)(hb:∀b,b<A.w0.heap.size->¬A.uA b->w'.heap[b]?=w.heap[b]?):zu A w' :=
 ⟨ho.trans h.os,ht.trans h.tape,hp.trans h.output,Nat.le_trans h.size hs,fun b hlt hn=>(hb b hlt hn).trans (h.block b hlt hn)⟩
variable {n:Nat} {A:jP} {s:St} {a:Act}
theorem cZ.write(g:cZ n A s a w M β){o b:Nat}{x:Ob}(hx:s.ob o=some x)(hlv:x.live=true)(hb:dN β o=some b)(vs:Array Value)(x':Ob)(hx':Own M β (w.setRow b vs) o x')(hlv':x'.live=true) :
 cZ n A {s with ob:=cr s.ob o (some x')} a (w.setRow b vs) M β:=by
 have other:∀b',b'≠b->(w.setRow b vs).heap[b']?=w.heap[b']?:=fun b' hne=>setRow_other w b b' vs hne
 refine {size:=g.size,defs:=g.defs,tm:=g.tm,le:=g.le,new:=g.new,agree:=?_,own:=?_,place:=?_,apart:=?_,us:=?_,fix:=g.ER fun o' y hy=>(by
  by_cases e:o'=o
  ·subst e;exact⟨x,hx⟩
  ·exact⟨y,by rw[<-hy];exact(aW _ _ _ _ e).symm⟩),cB:=?_}
 ·have hM:=(g.own o x hx).Aj hlv hb
  refine g.agree.world fun b' k v hc=>other b' fun e=>?_
  subst e;rw[hM k]at hc;cases hc
 ·intro o' y hy
  by_cases ho:o'=o
  ·subst ho
   rw[show ({s with ob:=cr s.ob o' (some x')}:St).ob o'=some x' from aL _ _ _]at hy
   cases hy;exact hx'
  ·have hy':s.ob o'=some y:=by simpa[aW _ _ _ _ ho]using hy
   refine(g.own o' y hy').mono (Mem.le.refl _) (Lo.le.refl _) fun b' hl hb'=>⟨other b' fun e=>?_,(g.own o' y hy').Aj hl hb'⟩
   subst e
   exact g.apart o o' x y b' (Ne.symm ho) hx hlv hy' hl hb hb'
 ·intro o' y b' hy hl hb'
  by_cases ho:o'=o
  ·subst ho;exact g.place o' x b' hx hlv hb'
  ·have hy':s.ob o'=some y:=by simpa[aW _ _ _ _ ho]using hy
   exact g.place o' y b' hy' hl hb'
 ·intro o1 o2 y1 y2 b' hne h1 l1 h2 l2 hb1 hb2
  have back:∀o' y,({s with ob:=cr s.ob o (some x')}:St).ob o'=some y->y.live=true->∃z,s.ob o'=some z/\z.live=true:=fun o' y hy hl=>by
   by_cases ho:o'=o
   ·subst ho;exact⟨x,hx,hlv⟩
   ·exact⟨y,by simpa[aW _ _ _ _ ho]using hy,hl⟩
  obtain⟨z1,q1,r1⟩:=back o1 y1 h1 l1
  obtain⟨z2,q2,r2⟩:=back o2 y2 h2 l2
  exact g.apart o1 o2 z1 z2 b' hne q1 r1 q2 r2 hb1 hb2
 ·intro o' hu
  obtain⟨q1,q2⟩:=g.us o' hu
  refine⟨q1,?_⟩
  have ho:o'≠o:=fun e=>by subst e;rw[q2]at hx;cases hx
  show cr s.ob o (some x') o'=none
  rw[aW _ _ _ _ ho];exact q2
 ·refine g.cB.jG rfl rfl rfl (by simp) fun b' hlt hni=>other b' fun e=>?_
  subst e
  rcases g.place o x b' hx hlv hb with h|h
  ·omega
  ·exact hni h
end
end Go.VL
namespace Go.VL
open Go Go.RowKit
section
variable {P:Program} {M M':Mem} {β β':Lo} {w w':World} {n:Nat} {A:jP} {s:St} {a:Act}
def Mem.add(M:Mem)(b:Nat)(vs:Array Value)(h1:∀v,v∈vs->v.oneCell'=true)(hb:∀k,M.c b k=none):Mem where
 c b' k:=if b'=b then vs[k]? else M.c b' k
 one b' k v h:=by
  by_cases e:b'=b
  ·rw[if_pos e]at h;exact h1 v (Array.mem_of_getElem? h)
  ·rw[if_neg e]at h;exact M.one _ _ _ h
 p b':=M.p b'\/(b'=b/\vs.size≠0)
 pc b' h:=by
  rcases h with h|⟨rfl,h⟩
  ·obtain⟨k,v,hc⟩:=M.pc b' h
   have:b'≠b:=fun e=>by subst e;rw[hb k]at hc;cases hc
   exact⟨k,v,by rw[if_neg this];exact hc⟩
  ·exact⟨0,vs[0]'(by omega),by rw[if_pos rfl];simp⟩
theorem Mem.v8{M:Mem}{b:Nat}{vs:Array Value}{h1:∀v,v∈vs->v.oneCell'=true}(h:∀k,M.c b k=none):M.le (M.add b vs h1 h):=by
 refine⟨fun b' k v hc=>?_,fun b' hb=>.inl hb⟩
 have:b'≠b:=fun e=>by subst e;rw[h k]at hc;cases hc
 simp[Mem.add,this,hc]
theorem Bd{w:World}{b k:Nat}{vs:Array Value}{e:TypeId}(h:w.heap[b]?=some (.cells vs e (0,0))):w.cell? ⟨b,k,none⟩=vs[k]?:=by
 simp[World.cell?,h]
theorem cZ.s8(g:cZ n A s a w M β){o:Nat}{x:Ob}(hx:s.ob o=some x)(hlv:x.live=true) :
 ∃M',M.le M'/\cZ n A {s with ob:=cr s.ob o (cz (some x))} a w M' β/\∀cs b,x=.cells cs->cs≠[]->β o=some (.cells b)->M'.p b:=by
 have hown:=g.own o x hx
 have key:(∀b,dN β o≠some b)/\(∀M',M.le M'->∀y,cz (some x)=some y->Own M' β w o y) ∨
  ∃b vs e,dN β o=some b/\w.heap[b]?=some (.cells vs e (0,0))/\(∀k,M.c b k=none)/\(∀v,v∈vs->v.oneCell'=true)/\(∀M',M.le M'->(∀k,M'.c b k=vs[k]?)->∀y,cz (some x)=some y->Own M' β w o y)/\∀cs,x=.cells cs->vs.size=cs.length:=by
  cases x with
  |
   cells cs =>
   obtain⟨b,vs,e,h1,h2,h3,h4,h5,h6⟩:=hown
   refine .inr ⟨b,vs,e,by simp[dN,h1,Loc.block],h2,h5,h6,fun M' hM hk y hy=>?_,fun cs' e'=>by cases e';exact h3⟩
   cases hy
   refine⟨b,fun i=>vs.getD i undef,h1,fun i hi=>⟨?_,(h4 i hi).mono hM (Lo.le.refl _)⟩⟩
   rw[hk i]
   have:i<vs.size:=by omega
   simp[this]
  |
   vec sz es =>
   obtain⟨v,h1,h2,h3⟩:=hown
   rcases h3 with⟨rfl,rfl⟩|⟨b,off,c,vs,e,rfl,h4,h5,h6,h7,h8,h9,h10⟩
   ·refine .inl ⟨fun b hb=>by simp[dN,h1,Loc.block]at hb,fun M' hM y hy=>?_⟩
    cases hy
    exact⟨_,sz,h1,h2,.inl ⟨rfl,rfl⟩⟩
   ·refine .inr ⟨b,vs,e,by simp[dN,h1,Loc.block],h5,h8,h10,fun M' hM hk y hy=>?_,fun cs' e'=>by cases e'⟩
    cases hy
    refine⟨_,sz,h1,h2,.inr ⟨b,off,c,fun i=>vs.getD (off+i) undef,rfl,h4,fun i hi=>?_,fun i j hi hj=>(h7 i j hi hj).mono hM (Lo.le.refl _)⟩⟩
    rw[hk]
    have:es.length*sz<=c*sz:=aS _ h4
    have:off+i<vs.size:=by omega
    simp[this]
  |
   mC sz es =>
   obtain⟨v,h1,h2,h3⟩:=hown
   rcases h3 with⟨rfl,rfl⟩|⟨b,off,c,vs,e,rfl,h4,h5,h6,h7,h8,h9,h10⟩
   ·refine .inl ⟨fun b hb=>by simp[dN,h1,Loc.block]at hb,fun M' hM y hy=>?_⟩
    cases hy
    exact⟨_,sz,h1,h2,.inl ⟨rfl,rfl⟩⟩
   ·refine .inr ⟨b,vs,e,by simp[dN,h1,Loc.block],h5,h8,h10,fun M' hM hk y hy=>?_,fun cs' e'=>by cases e'⟩
    cases hy
    refine⟨_,sz,h1,h2,.inr ⟨b,off,c,fun i=>vs.getD (off+i) undef,rfl,h4,fun i hi=>?_,fun i j hi hj=>(h7 i j hi hj).mono hM (Lo.le.refl _)⟩⟩
    rw[hk]
    have:es.length*sz<=c*sz:=aS _ h4
    have:off+i<vs.size:=by omega
    simp[this]
  |_=>cases hlv
 have fr:∀y,cz (some x)=some y->y.live=false:=by
  intro y hy
  cases x<;>simp[cz,Ob.live]at hy hlv
  all_goals subst hy;rfl
 have build:∀M',M.le M'->(∀b k v,M'.c b k=some v->M.c b k=some v\/dN β o=some b)->gV M' w->(∀b,dN β o≠some b->∀k,M'.c b k=M.c b k)->(∀y,cz (some x)=some y->Own M' β w o y) ->
  cZ n A {s with ob:=cr s.ob o (cz (some x))} a w M' β:=by
  intro M' hM hnew hag hoth hfz
  refine {size:=g.size,defs:=g.defs,tm:=fun t=>(g.tm t).mono hM (Lo.le.refl _),le:=g.le.trans hM,new:=?_,agree:=hag,own:=?_,place:=?_,apart:=?_,us:=?_,fix:=g.ER fun o' y hy=>(by
   by_cases e:o'=o
   ·subst e;exact⟨x,hx⟩
   ·exact⟨y,by rw[<-hy];exact(aW _ _ _ _ e).symm⟩),cB:=g.cB}
  ·intro b k v hc
   rcases hnew b k v hc with h|h
   ·exact g.new b k v h
   ·exact .inr (g.place o x b hx hlv h)
  ·intro o' y hy
   by_cases ho:o'=o
   ·subst ho
    have hy':cz (some x)=some y:=by simpa[aL]using hy
    exact hfz y hy'
   ·have hy':s.ob o'=some y:=by simpa[aW _ _ _ _ ho]using hy
    refine(g.own o' y hy').mono hM (Lo.le.refl _) fun b hl hb=>⟨rfl,fun k=>?_⟩
    rw[hoth b fun hb'=>g.apart o o' x y b (Ne.symm ho) hx hlv hy' hl hb' hb]
    exact(g.own o' y hy').Aj hl hb k
  ·intro o' y b hy hl hb
   by_cases ho:o'=o
   ·subst ho
    have hy':cz (some x)=some y:=by simpa[aL]using hy
    rw[fr y hy']at hl;cases hl
   ·have hy':s.ob o'=some y:=by simpa[aW _ _ _ _ ho]using hy
    exact g.place o' y b hy' hl hb
  ·intro o1 o2 y1 y2 b hne h1 l1 h2 l2
   have back:∀o' y,({s with ob:=cr s.ob o (cz (some x))}:St).ob o'=some y->y.live=true->s.ob o'=some y:=fun o' y hy hl=>by
    by_cases ho:o'=o
    ·subst ho
     have hy':cz (some x)=some y:=by simpa[aL]using hy
     rw[fr y hy']at hl;cases hl
    ·simpa[aW _ _ _ _ ho]using hy
   exact g.apart o1 o2 y1 y2 b hne (back o1 y1 h1 l1) l1 (back o2 y2 h2 l2) l2
  ·intro o' hu
   obtain⟨q1,q2⟩:=g.us o' hu
   refine⟨q1,?_⟩
   have ho:o'≠o:=fun e=>by subst e;rw[q2]at hx;cases hx
   show cr s.ob o (cz (some x)) o'=none
   rw[aW _ _ _ _ ho];exact q2
 rcases key with⟨h1,h2⟩|⟨b,vs,e,h1,h2,h3,hone,h4,h5⟩
 ·exact⟨M,Mem.le.refl M,build M (Mem.le.refl M) (fun b k v h=>.inl h) g.agree (fun _ _ _=>rfl) (h2 M (Mem.le.refl M)),fun cs b _ _ hb=>absurd (by simp[dN,hb,Loc.block]) (h1 b)⟩
 ·refine⟨M.add b vs hone h3,Mem.v8 h3,build _ (Mem.v8 h3) (fun b' k v hc=>?_) ⟨fun b' k v hc=>?_,fun b' hb=>?_⟩ (fun b' hne k=>?_) (h4 _ (Mem.v8 h3) fun k=>by simp[Mem.add]),fun cs b' hc hne hb=>?_⟩
  rotate_right
  ·have e1:dN β o=some b':=by simp[dN,hb,Loc.block]
   rw[h1]at e1;cases e1
   exact .inr ⟨rfl,by rw[h5 cs hc];cases cs<;>simp at hne |-⟩
  ·by_cases hb:b'=b
   ·subst hb;exact .inr h1
   ·left;simpa[Mem.add,hb]using hc
  ·by_cases hb:b'=b
   ·subst hb
    rw[Bd h2]
    simpa[Mem.add]using hc
   ·exact g.agree b' k v (by simpa[Mem.add,hb]using hc)
  ·rcases hb with hb|⟨rfl,hb⟩
   ·exact g.agree.p b' hb
   ·exact⟨vs,e,h2,hb⟩
  ·have hb:b'≠b:=fun e=>by subst e;exact hne h1
   simp[Mem.add,hb]
theorem wQ{α:Type}(f:Nat->α)(o:Nat):cr f o (f o)=f:=by
 funext j
 by_cases h:j=o
 ·subst h;rw[aL]
 ·rw[aW _ _ _ _ h]
theorem pY{x:Ob}(h:x.live=false):cz (some x)=some x:=by cases x<;>simp[Ob.live]at h<;>rfl
theorem cZ.xt(ob0:Nat->Option Ob):∀(os:List Nat) {s:St} {M:Mem},cZ n A s a w M β->(∀o,s.ob o=ob0 o\/s.ob o=cz (ob0 o)) ->
 ∃M',M.le M'/\cZ n A {s with ob:=cx s.ob (fw ob0 os)} a w M' β/\∀o,o∈os->∀cs b,s.ob o=some (.cells cs)->s.ob o=ob0 o->cs≠[]->β o=some (.cells b)->M'.p b
 |[],s,M,g,_=>⟨M,Mem.le.refl M,g,fun o ho=>by cases ho⟩
 |
  o::os,s,M,g,h=>by
  have step:∃M',M.le M'/\cZ n A {s with ob:=cr s.ob o (cz (ob0 o))} a w M' β/\∀cs b,s.ob o=some (.cells cs)->s.ob o=ob0 o->cs≠[]->β o=some (.cells b)->M'.p b:=by
   rcases h o with ho|ho
   ·cases e:ob0 o with
    |none=>exact⟨M,Mem.le.refl M,by rw[show cz none=s.ob o by rw[ho,e];rfl,wQ];exact g,fun cs b hc _=>by rw[ho,e]at hc;cases hc⟩
    |
     some x =>
     cases hl:x.live with
     |
      true =>
      obtain⟨M',q1,q2,q3⟩:=g.s8 (x:=x) (by rw[ho,e]) hl
      exact⟨M',q1,q2,fun cs b hc _=>q3 cs b (by rw[ho,e]at hc;cases hc;rfl)⟩
     |false=>exact⟨M,Mem.le.refl M,by rw[pY hl,show some x=s.ob o by rw[ho,e],wQ];exact g,fun cs b hc _=>by rw[ho,e]at hc;cases hc;cases hl⟩
   ·refine⟨M,Mem.le.refl M,by rw[<-ho,wQ];exact g,fun cs b hc he=>?_⟩
    rw[he]at hc
    rw[he,hc]at ho
    cases ho
  obtain⟨M1,hM1,g1,p1⟩:=step
  obtain⟨M2,hM2,g2,p2⟩:=cZ.xt ob0 os g1 (fun o'=>by
   by_cases ho:o'=o
   ·subst ho;right;exact aL _ _ _
   ·rcases h o' with h|h
    ·left;exact(aW _ _ _ _ ho).trans h
    ·right;exact(aW _ _ _ _ ho).trans h)
  refine⟨M2,hM1.trans hM2,g2,fun o' ho' cs b hc he hne hb=>?_⟩
  by_cases e:o'=o
  ·subst e;exact hM2.p _ (p1 cs b hc he hne hb)
  ·rcases aI.1 ho' with h'|h'
   ·exact absurd h' e
   ·exact p2 o' h' cs b ((aW _ _ _ _ e).trans hc) ((aW _ _ _ _ e).trans he) hne hb
theorem cZ.w8(g:cZ n A s a w M β)(os:List Nat):∃M',M.le M'/\cZ n A {s with ob:=cx s.ob (fw s.ob os)} a w M' β/\∀o,o∈os->∀cs b,s.ob o=some (.cells cs)->cs≠[]->β o=some (.cells b)->M'.p b:=by
 obtain⟨M',h1,h2,h3⟩:=g.xt s.ob os fun _=>.inl rfl
 exact⟨M',h1,h2,fun o ho cs b hc=>h3 o ho cs b hc rfl⟩
theorem cZ.freeze(g:cZ n A s a w M β)(os:List Nat):∃M',M.le M'/\cZ n A {s with ob:=cx s.ob (fw s.ob os)} a w M' β:=by
 obtain⟨M',h1,h2,_⟩:=g.w8 os
 exact⟨M',h1,h2⟩
theorem oK(ob0:Nat->Option Ob):∀(os:List Nat) (f:Nat->Option Ob) (o:Nat),(o∈os\/f o=cz (ob0 o))->cx f (fw ob0 os) o=cz (ob0 o)
 |[],f,o,h=>by rcases h with h|h;cases h;exact h
 |
  q::os,f,o,h=>by
  show cx (cr f q (cz (ob0 q))) (fw ob0 os) o=_
  refine oK ob0 os _ o ?_
  by_cases e:o=q
  ·subst e;right;exact aL _ _ _
  ·rcases h with h|h
   ·left;rcases aI.1 h with h|h
    ·exact absurd h e
    ·exact h
   ·right;rw[aW _ _ _ _ e];exact h
def Fz(M:Mem)(β:Lo)(w:World)(ob:Nat->Option Ob)(os:List Nat):Prop:=∀o,o∈os->∀x,cz (ob o)=some x->Own M β w o x
theorem cZ.fz{ob:Nat->Option Ob}{os:List Nat}(g:cZ n A {s with ob:=cx ob (fw ob os)} a w M β):Fz M β w ob os:=fun o ho x hx=>g.own o x ((oK ob os ob o (.inl ho)).trans hx)
theorem Fz.left{ob:Nat->Option Ob}{p q:List Nat}(h:Fz M β w ob (p++q)):Fz M β w ob p:=fun o ho=>h o (aA _ ho)
theorem Fz.right{ob:Nat->Option Ob}{p q:List Nat}(h:Fz M β w ob (p++q)):Fz M β w ob q:=fun o ho=>h o (az _ ho)
theorem pE{ob:Nat->Option Ob}{f:AV->Option (AV×List Nat)}(hf:∀c a' os v,f c=some (a',os)->Fz M β w ob os->bo M β c v->bo M dk a' v) :
 ∀(cs:List AV) (asq:List AV) (os:List Nat),mF f cs=some (asq,os)->Fz M β w ob os->asq.length=cs.length/\∀i v,i<cs.length->bo M β (cs.getD i .any) v->bo M dk (asq.getD i .any) v
 |
  [],asq,os,h,_=>by
  simp[mF]at h
  obtain⟨rfl,rfl⟩:=h
  exact⟨rfl,fun i v hi=>by simp at hi⟩
 |
  c::cs,asq,os,h,hz=>by
  unfold mF at h
  split at h
  ·rename_i a1 os1 as2 os2 h1 h2
   cases h
   obtain⟨q1,q2⟩:=pE hf cs _ _ h2 hz.right
   refine⟨by simp[q1],fun i v hi hr=>?_⟩
   cases i with
   |zero=>simpa using hf _ _ _ _ h1 hz.left (by simpa using hr)
   |succ i=>simpa using q2 i v (by simpa using hi) (by simpa using hr)
  ·cases h
theorem nS{o:Nat}{es:List (List AV)}{v:Value}(h:Own M β w o (.mw es))(hr:bo M β (.vec o) v):bo M dk (.sl es) v:=by
 obtain⟨v',sz,h1,h2,h3⟩:=h
 have hv:v=v':=by
  cases hr with
  |vec _ _ _ sz' ho h=>rw[h1]at h;cases h;rfl
 subst hv
 rcases h3 with⟨rfl,rfl⟩|⟨b,off,c,us,rfl,h4,h5,h6⟩
 ·exact .slnil _
 ·exact .sl _ _ _ _ _ sz us h4 h2 h5 h6
theorem gA{ob:Nat->Option Ob}:∀(k:Nat) (c a':AV) (os:List Nat) (v:Value),VL.freeze ob k c=some (a',os)->Fz M β w ob os->bo M β c v->bo M dk a' v
 |0,c,a',os,v,h,_,_=>by simp[VL.freeze]at h
 |
  k+1,c,a',os,v,h,hz,hr=>by
  have ih:∀c a' os v,VL.freeze ob k c=some (a',os)->Fz M β w ob os->bo M β c v->bo M dk a' v:=fun c a' os v=>gA k c a' os v
  have ptrCase:∀o cs r,(ob o=some (.cells cs)\/ob o=some (.gO cs))->mF (VL.freeze ob k) cs=some r->a'=.ptr r.1->os=o::r.2->bo M β (.ref o 0) v->bo M dk a' v:=by
   intro o cs r ho hfz ea eo hr
   subst ea;subst eo
   obtain⟨asq,os'⟩:=r
   have hfr:cz (ob o)=some (.gO cs):=by rcases ho with ho|ho<;>rw[ho]<;>rfl
   obtain⟨b,us,h1,h2⟩:=hz o ag _ hfr
   obtain⟨q1,q2⟩:=pE ih cs _ _ hfz (fun o' ho'=>hz o' (ai _ ho'))
   cases hr with
   |
    ref _ _ _ b' hb =>
    rw[h1]at hb;cases hb
    simp only at q1 q2 |-
    exact .ptr _ _ _ _ us (fun i hi=>by simpa using(h2 i (by omega)).1) fun i hi=>q2 i _ (by omega) (h2 i (by omega)).2
  unfold VL.freeze at h
  split at h
  ·rename_i o
   split at h
   ·rename_i cs ho
    cases e:mF (VL.freeze ob k) cs with
    |none=>rw[e]at h;cases h
    |some r=>rw[e]at h;cases h;exact ptrCase o cs r (.inl ho) e rfl rfl hr
   ·rename_i cs ho
    cases e:mF (VL.freeze ob k) cs with
    |none=>rw[e]at h;cases h
    |some r=>rw[e]at h;cases h;exact ptrCase o cs r (.inr ho) e rfl rfl hr
   ·cases h
  ·rename_i o
   split at h
   ·rename_i sz es ho
    cases h
    exact nS (hz o ag _ (by rw[ho];rfl)) hr
   ·rename_i es ho
    cases h
    exact nS (hz o ag _ (by rw[ho];rfl)) hr
   ·cases h
  ·cases h;cases hr with|x _ _ _ ho h=>exact h
  ·rename_i cs
   cases e:mF (VL.freeze ob k) cs with
   |none=>rw[e]at h;cases h
   |
    some r =>
    rw[e]at h;cases h
    obtain⟨q1,q2⟩:=pE ih cs _ _ (by rw[e]) hz
    cases hr with
    |
     agg _ _ vs hl ho h =>
     exact .agg _ _ _ (q1.trans hl) (fun i hi=>ho i (by omega)) fun i hi=>q2 i _ (by omega) (h i (by omega))
  ·cases h;exact .any _ _
  ·cases h;cases hr;exact .v _ _
  ·cases h;cases hr;exact .v _ _
  ·cases h;cases hr with|ptr _ _ b off us h h'=>exact .ptr _ _ _ _ us h h'
  ·cases h;cases hr with|pid _ _ b us hp h h'=>exact .pid _ _ _ us hp h h'
  ·cases h;cases hr with
   |slnil=>exact .slnil _
   |sl _ _ b off c sz us hc hs h h'=>exact .sl _ _ _ _ _ sz us hc hs h h'
  ·cases h
theorem vZ{ob:Nat->Option Ob}{c a':AV}{v:Value}(h:ext ob c=some a')(hr:bo M β c v):bo M dk a' v:=by
 unfold ext at h
 split at h
 ·rename_i a1 e
  cases h
  exact gA (w:=default) _ _ _ _ _ e (fun o ho=>by cases ho) hr
 ·cases h
end
end Go.VL
namespace Go.VL
open Go Go.RowKit
section
variable {P:Program} {M:Mem} {β:Lo} {w:World} {n:Nat} {A:jP} {s:St} {a:Act}
theorem uR(es:List (List AV))(l h i:Nat)(hi:i<h-l):((es.take h).drop l).getD i []=es.getD (l+i) []:=by
 simp[aa,cm,List.getElem?_take,show l+i<h by omega]
theorem tz{es:List (List AV)}{v:Value}(hv:bo M dk (.sl es) v){l h size:Nat}(h1:l<=h)(h2:h<=es.length)(hz:l=0\/∀c,c∈es->c.length=size) :
 ∃ad len cap,v=.slice ad len cap/\len=es.length/\es.length<=cap /\
 bo M β (.sl ((es.take h).drop l)) (.slice (if cap=l then ad else ad.map (·.add (l*size))) (h-l) (cap-l)):=by
 cases hv with
 |
  slnil =>
  refine⟨none,0,0,rfl,rfl,aq _,?_⟩
  simp at h2
  subst h2
  have:l=0:=by omega
  subst this
  exact .slnil _
 |
  sl _ _ b off c sz us hc hs hh h' =>
  refine⟨_,_,c,rfl,rfl,hc,?_⟩
  have hlen:((es.take h).drop l).length=h-l:=by simp;omega
  by_cases hcl:c=l
  ·rw[if_pos hcl]
   have e0:(es.take h).drop l=[]:=List.length_eq_zero_iff.1 (by rw[hlen];omega)
   rw[e0,show h-l=([]:List (List AV)).length by simp;omega]
   exact .sl _ _ _ _ _ sz us (by simp) (fun i hi=>by simp at hi) (fun i hi=>by simp at hi) (fun i j hi=>by simp at hi)
  ·rw[if_neg hcl]
   have e1:Option.map (·.add (l*size)) (some (⟨b,off,none⟩:Addr))=some ⟨b,off+l*size,none⟩:=by simp[jI]
   rw[e1]
   by_cases hne:h-l=0
   ·have e0:(es.take h).drop l=[]:=List.length_eq_zero_iff.1 (by rw[hlen];omega)
    rw[e0,show h-l=([]:List (List AV)).length by simp;omega]
    exact .sl _ _ _ _ _ sz us (by simp) (fun i hi=>by simp at hi) (fun i hi=>by simp at hi) (fun i j hi=>by simp at hi)
   ·have e2:l*size=l*sz:=by
     rcases hz with hz|hz
     ·subst hz;simp
     ·have hl:l<es.length:=by omega
      have m1:=hs l hl
      have m2:es.getD l []∈es:=by
       have:es.getD l []=es[l]:=by simp[aa,hl]
       rw[this];exact bY hl
      rw[<-m1,hz _ m2]
    rw[e2,<-hlen]
    refine .sl _ _ _ _ _ sz (fun k=>us (l*sz+k)) (by rw[hlen];omega) (fun i hi=>?_) (fun i hi=>?_) fun i j hi hj=>?_
    ·rw[hlen]at hi
     rw[uR _ _ _ _ hi];exact hs _ (by omega)
    ·rw[hlen]at hi
     have:(h-l)*sz+l*sz<=es.length*sz:=by rw[<-Nat.add_mul];exact aS _ (by omega)
     have q:=hh (l*sz+i) (by omega)
     rw[show off+l*sz+i=off+(l*sz+i) by omega]
     exact q
    ·rw[hlen]at hi
     rw[uR _ _ _ _ hi]
     have q:=h' (l+i) j (by omega) hj
     rw[Nat.add_mul]at q
     rw[show l*sz+(i*sz+j)=l*sz+i*sz+j by omega]
     exact q
theorem lE{t el:Nat}{T:ep}(hT:cT P T)(hkn:(T t).kn=true)(hel:(T el).kn=true)(hk:(T t).k=.slice el){ρ:Operand->Value}{e:Operand->AV}(he:∀x,bo M β (e x) (ρ x)){ad:Option Addr}{len cap:Nat}(lo hi:Option Operand)(l h:Int)
 (hl:ij e lo=some l) (hh:gm e len hi=some h) (h0:0<=l) (h1:l<=h) (h2:h<=len) (hc:len<=cap) :
 (Instr.sliceAt t (.slice ad len cap) (lo.map ρ) (hi.map ρ) none).run P w=.ok (.slice (if cap=l.toNat then ad else ad.map (·.add (l.toNat*(T el).sz))) (h.toNat-l.toNat) (cap-l.toNat)) w:=by
 have hb:=qB (P:=P) (w:=w) he true len cap lo hi l h hl hh h0 h1 h2 hc
 have hu:=run_underlying ((hT t hkn).slice hk) w
 simp[Instr.sliceAt,Instr.slice,Sem.run_bind,hu,hb,(hT el hel).iY w]
theorem rY{t:Nat}{T:ep}(hT:cT P T)(hkn:(T t).kn=true)(hk:(T t).k=.str){ρ:Operand->Value}{e:Operand->AV}(he:∀x,bo M β (e x) (ρ x))(q:ByteArray)(lo hi:Option Operand)(l h:Int)
 (hl:ij e lo=some l) (hh:gm e q.size hi=some h) (h0:0<=l) (h1:l<=h) (h2:h<=q.size) :
 (Instr.sliceAt t (.string q) (lo.map ρ) (hi.map ρ) none).run P w=.ok (.string (q.extract l.toNat h.toNat)) w:=by
 have hb:=qB (P:=P) (w:=w) he false q.size q.size lo hi l h hl hh h0 h1 h2 (aq _)
 have hu:=run_underlying ((hT t hkn).str hk) w
 simp[Instr.sliceAt,Instr.slice,Sem.run_bind,hu,hb]
theorem zT{x:AV}{v:Value}(h:bo M β (.x x) v)(hk:LK.sl.has x):bo M dk (.sl x.elems) v:=by
 cases h with
 |
  x _ _ _ ho h =>
  rcases hk with rfl|⟨es,rfl⟩
  ·cases h;exact .slnil _
  ·exact h
theorem yS{es:List (List AV)}{v:Value}(h:bo M β (.sl es) v):bo M dk (.sl es) v:=by
 cases h with
 |slnil=>exact .slnil _
 |sl _ _ b off c sz us hc hs h h'=>exact .sl _ _ _ _ _ sz us hc hs h h'
theorem tW{ob:Nat->Option Ob}(hob:∀o x,ob o=some x->Own M β w o x){x:AV}{v:Value}(h:bo M β x v)(hx:∀o,x≠.vec o){p:Option Prop}{es:List (List AV)}{os:List Nat}
 (he:eX ob x=some (p,es,os)) (hp:∀q,p=some q->q):bo M dk (.sl es) v:=by
 unfold eX at he
 split at he
 ·cases he;exact yS h
 ·cases he;exact zT h (hp _ rfl)
 ·cases he;cases h;exact .slnil _
 ·exact absurd rfl (hx _)
 ·cases he
theorem mQ{o:Oper}{t:Nat}{x:Operand}{lo hi:Option Operand}(ho:o.op=.slice t x lo hi none){v:Value}(h:(Instr.sliceAt t (a.eval x) (lo.map a.eval) (hi.map a.eval) none).run P w=.ok v w) :
 (execOp a.eval o).run P w=.ok (.value v) w:=by
 simp[execOp,ho,h]
theorem Bm{ob:Nat->Option Ob}{T:ep}{t el:Nat}{lo:Option Operand}{es:List (List AV)}{l:Int}{e:Operand->AV}(hl:ij e lo=some l)(hw:∀q,lo.map (fun _=>cI (T el).sz es)=some q->q):l.toNat=0\/∀c,c∈es->c.length=(T el).sz:=by
 cases lo with
 |none=>simp[ij]at hl;subst hl;exact .inl rfl
 |some x=>exact .inr (hw _ rfl)
theorem CV(g:cZ n A s a w M β){T:ep}(hT:cT P T)(o:Oper)(t:Nat)(x:Operand)(lo hi:Option Operand)(ho:o.op=.slice t x lo hi none) :
 (dI T (ev s) s.ob o).holds fun d=>dB s n o.dst d=true->Step P n A o a w (s.app o.dst d):=by
 unfold dI
 rw[ho]
 refine DR.aT fun hkn=>?_
 have hx:=g.ev x
 split
 ·rename_i q hk e
  rw[e]at hx
  refine la g ?_
  split
  ·rename_i l h hl hh
   intro⟨h0,h1,h2⟩
   have:=dA hx
   exact⟨rfl,rfl,_,mQ ho (by rw[this];exact rY hT hkn hk g.ev q lo hi l h hl hh h0 h1 h2),.v _ _⟩
  ·trivial
 ·rename_i el o' hk e
  rw[e]at hx
  refine DR.aT fun hel=>?_
  split
  ·rename_i sz es hes
   refine DR.aT fun hz=>?_
   have hz:=aC hz
   split
   ·rename_i l h hl hh
    intro⟨h0,h1,h2⟩ hn
    obtain⟨M',hM,g',_⟩:=g.s8 hes rfl
    have hfz:=g'.own o' (.mw es) (by rw[show cz (some (Ob.vec sz es))=some (.mw es) from rfl];exact aL _ _ _)
    have hsl:=nS hfz (hx.mono hM (Lo.le.refl _))
    have hlen:∀c,c∈es->c.length=(T el).sz:=by
     obtain⟨v,_,q,_⟩:=g.own _ _ hes
     intro c hc
     obtain⟨i,hi,rfl⟩:=List.getElem_of_mem hc
     have:=q i hi
     rw[<-hz];simpa[aa,hi]using this
    obtain⟨ad,len,cap,hv,hlen',hcap,hr⟩:=tz (β:=β) hsl (l:=l.toNat) (h:=h.toNat) (size:=(T el).sz) (by omega) (by omega) (.inr hlen)
    subst hlen'
    refine⟨_,w,M',β,.inl (mQ ho (by rw[hv];exact lE hT hkn hel hk g.ev lo hi l h hl hh h0 h1 h2 hcap)),?_⟩
    have:=cZ.put g' hr (fN hn)
    exact this
   ·trivial
  ·rename_i es hes
   refine la g ?_
   split
   ·rename_i l h hl hh
    refine DR.gr fun hw=>?_
    intro⟨h0,h1,h2⟩
    have hsl:=nS (g.own _ _ hes) hx
    obtain⟨ad,len,cap,hv,hlen',hcap,hr⟩:=tz (β:=β) hsl (l:=l.toNat) (h:=h.toNat) (size:=(T el).sz) (by omega) (by omega) (Bm (ob:=s.ob) (t:=t) hl hw)
    subst hlen'
    exact⟨rfl,rfl,_,mQ ho (by rw[hv];exact lE hT hkn hel hk g.ev lo hi l h hl hh h0 h1 h2 hcap),hr⟩
   ·trivial
  ·trivial
 ·rename_i el hk hnv
  refine DR.aT fun hel=>la g ?_
  split
  ·rename_i p es os hes
   split
   ·rename_i l h hl hh
    refine DR.gr fun hp=>DR.gr fun hw=>?_
    intro⟨h0,h1,h2⟩
    have hsl:=tW g.own hx (fun o he=>hnv o he) hes hp
    obtain⟨ad,len,cap,hv,hlen',hcap,hr⟩:=tz (β:=β) hsl (l:=l.toNat) (h:=h.toNat) (size:=(T el).sz) (by omega) (by omega) (Bm (ob:=s.ob) (t:=t) hl hw)
    subst hlen'
    exact⟨rfl,rfl,_,mQ ho (by rw[hv];exact lE hT hkn hel hk g.ev lo hi l h hl hh h0 h1 h2 hcap),hr⟩
   ·trivial
  ·trivial
 ·trivial
end
end Go.VL
namespace Go.VL
open Go Go.RowKit
section
variable {P:Program} {M:Mem} {β:Lo} {w:World} {n:Nat} {A:jP} {s:St} {a:Act}
def pd(es:List (List AV)):List Int:=es.map fun e=>(e.headD .any).toInt
theorem ox:∀(es:List (List AV)),bytesOf es=(pd es).map fun n=>bb n.toNat
 |[]=>rfl
 |e::es=>by rw[bytesOf,ox es];rfl
theorem td:∀{es:List (List AV)},mB es->∀i,i<es.length->(es.getD i []).length=1/\(es.getD i []).getD 0 .any=.v (.int .u8 ((pd es).getD i 0))
 |[],_,i,hi=>by simp at hi
 |
  e::es,h,0,_=>by
  obtain⟨h1,⟨m,h2⟩,_⟩:=h
  refine⟨by simpa using h1,?_⟩
  rw[nD]at h2
  simp only[bh,pd,a6,nD]
  rw[h2];rfl
 |
  e::es,h,i+1,hi=>by
  have:=td h.2.2 i (by simpa using hi)
  simpa[pd]using this
theorem rD{src dst el:Nat}(hs:P.underlying src=some (.slice el))(he:P.underlying el=some (.int .u8))(hd:P.underlying dst=some .string){es:List (List AV)}{v:Value}(h:Em w M es v)(hb:mB es) :
 (convert src dst v).run P w=.ok (.string ⟨(bytesOf es).toArray⟩) w:=by
 rcases h with⟨rfl,rfl⟩|⟨b,off,c,sz,us,rfl,h1,h2,h3,h4,_⟩
 ·rw[run_convert_bytes_nil w src el hs he 0 0 dst hd];rfl
 ·rw[ox]
  refine run_convert_bytes_arg w src el hs he b off es.length c (pd es) (by simp[pd]) (fun i hi=>?_) dst hd
  obtain⟨q1,q2⟩:=td hb i hi
  have hz:sz=1:=by rw[<-h2 i hi,q1]
  subst hz
  have r:=h4 i 0 hi (by omega)
  rw[q2]at r
  have:=dA r
  rw[h3 i (by omega),<-this];simp
theorem zC(g:cZ n A s a w M β){T:ep}(hT:cT P T)(o:Oper)(st dt:Nat)(x:Operand)(ho:o.op=.convert st dt x) :
 (dI T (ev s) s.ob o).holds (Quiet (qD P M β o a w)):=by
 unfold dI
 rw[ho]
 refine DR.aT fun hkn=>?_
 simp only[au]at hkn
 obtain⟨hs,hd⟩:=hkn
 have hx:=g.ev x
 split
 ·rename_i el hk1 hk2
  refine DR.aT fun hel=>?_
  simp only[au]at hel
  obtain⟨hel,hu⟩:=hel
  have hu8:(T el).k=.num .u8:=by split at hu<;>first|assumption|cases hu
  split
  ·rename_i p es os hes
   refine DR.gr fun hp=>?_
   intro hb
   have hsl:=kW g.own g.agree hx hes hp
   exact⟨rfl,rfl,_,by simp[execOp,ho,rD ((hT st hs).slice hk1) ((hT el hel).num hu8) ((hT dt hd).str hk2) hsl hb],.v _ _⟩
  ·trivial
 ·rename_i k1 k2 k3 m hk1 hk2 e
  rw[e]at hx
  have hv:=dA hx
  refine⟨rfl,rfl,_,?_,.v _ _⟩
  have u1:=run_underlying ((hT st hs).num hk1) w
  have u2:=run_underlying ((hT dt hd).num hk2) w
  simp[execOp,ho,hv,convert,Sem.run_bind,u1,u2,Conv.intToInt]
 ·trivial
theorem jm{o:Oper}{b:Builtin}{xs:Array Operand}{ts:Array TypeId}(ho:o.op=.call ⟨.builtin b,xs,ts⟩) :
 ∃cs,(execOp a.eval o).run P w=(builtin b ts o.type cs (xs.map a.eval)).run P w:=by
 have key:∀c:Array Bool,(invoke (.builtin b ts o.type c) (xs.map a.eval)).run P w=(builtin b ts o.type c (xs.map a.eval)).run P w:=fun c=>rfl
 simp only[execOp,ho,resolve,Sem.run_bind,Sem.run_pure,Result.andThen_ok,key]
 exact⟨_,rfl⟩
theorem HL(g:cZ n A s a w M β){T:ep}(hT:cT P T)(o:Oper)(xs:Array Operand)(ts:Array TypeId)(ho:o.op=.call ⟨.builtin .len,xs,ts⟩) :
 (dI T (ev s) s.ob o).holds (Quiet (qD P M β o a w)):=by
 unfold dI
 rw[ho]
 simp only
 split
 ·rename_i x t hxs hts
  have ex:xs = #[x]:=by rw[<-Array.toArray_toList (xs:=xs),hxs]
  have et:ts = #[t]:=by rw[<-Array.toArray_toList (xs:=ts),hts]
  subst ex;subst et
  refine DR.aT fun hkn=>?_
  have hx:=g.ev x
  have run:∀v,(Builtin.len_ #[t] o.type #[a.eval x]).run P w=.ok v w->(execOp a.eval o).run P w=.ok (.value v) w:=fun v h=>by
   obtain⟨_,e⟩:=jm (P:=P) (a:=a) (w:=w) ho
   rw[e];simp[builtin,h]
  split
  ·rename_i q hk e
   rw[e]at hx
   have hv:=dA hx
   exact⟨rfl,rfl,_,run _ (by simp[Builtin.len_,Sem.run_bind,run_underlying ((hT t hkn).str hk) w,hv,goInt]),.v _ _⟩
  ·rename_i m el hk
   exact⟨rfl,rfl,_,run _ (by simp[Builtin.len_,Sem.run_bind,run_underlying ((hT t hkn).array hk) w,goInt]),.v _ _⟩
  ·rename_i el hk
   split
   ·rename_i p es os hes
    refine DR.gr fun hp=>?_
    have hsl:=kW g.own g.agree hx hes hp
    refine⟨rfl,rfl,_,run _ ?_,.v _ _⟩
    have u:=run_underlying ((hT t hkn).slice hk) w
    rcases hsl with⟨hv,rfl⟩|⟨b,off,c,sz,us,hv,_⟩
    ·simp[Builtin.len_,Sem.run_bind,u,hv,goInt]
    ·simp[Builtin.len_,Sem.run_bind,u,hv,goInt]
   ·trivial
  ·trivial
 ·trivial
theorem KZ(g:cZ n A s a w M β){T:ep}(o:Oper)(xs:Array Operand)(ts:Array TypeId)(ho:o.op=.call ⟨.builtin .max,xs,ts⟩) :
 (dI T (ev s) s.ob o).holds (Quiet (qD P M β o a w)):=by
 unfold dI
 rw[ho]
 simp only
 split
 ·rename_i x y hxs
  have ex:xs = #[x,y]:=by rw[<-Array.toArray_toList (xs:=xs),hxs]
  subst ex
  have hx:=g.ev x
  have hy:=g.ev y
  split
  ·rename_i k p k' q e e'
   rw[e]at hx;rw[e']at hy
   have h1:=dA hx
   have h2:=dA hy
   split
   ·refine⟨rfl,rfl,_,?_,.v _ _⟩
    obtain⟨_,e⟩:=jm (P:=P) (a:=a) (w:=w) ho
    rw[e]
    simp[builtin,Builtin.max_,h1,h2,Builtin.max2]
   ·trivial
  ·trivial
 ·trivial
theorem HD(g:cZ n A s a w M β){T:ep}(o:Oper)(xs:Array Operand)(ts:Array TypeId)(ho:o.op=.call ⟨.builtin .min,xs,ts⟩) :
 (dI T (ev s) s.ob o).holds (Quiet (qD P M β o a w)):=by
 unfold dI
 rw[ho]
 simp only
 split
 ·rename_i x y hxs
  have ex:xs = #[x,y]:=by rw[<-Array.toArray_toList (xs:=xs),hxs]
  subst ex
  have hx:=g.ev x
  have hy:=g.ev y
  split
  ·rename_i k p k' q e e'
   rw[e]at hx;rw[e']at hy
   have h1:=dA hx
   have h2:=dA hy
   split
   ·refine⟨rfl,rfl,_,?_,.v _ _⟩
    obtain⟨_,e⟩:=jm (P:=P) (a:=a) (w:=w) ho
    rw[e]
    simp[builtin,Builtin.min_,h1,h2,Builtin.min2]
   ·trivial
  ·trivial
 ·trivial
theorem wA(g:cZ n A s a w M β){T:ep}(o:Oper)(f:Nat)(fs cs:Array Operand)(ho:o.op=.makeFunc (.func f) fs cs) :
 (dI T (ev s) s.ob o).holds (Quiet (qD P M β o a w)):=by
 unfold dI
 rw[ho]
 simp only
 cases h:aF fs.size 0 with
 |false=>simp only[cond_false];trivial
 |
  true =>
  simp only[cond_true]
  have h0:=aC h
  have e:fs = #[]:=Array.size_eq_zero_iff.1 h0
  subst e
  refine⟨rfl,rfl,.func (.func f) #[] (cs.toList.map a.eval).toArray,?_,?_⟩
  ·have:Array.map a.eval cs=(List.map a.eval cs.toList).toArray:=by apply Array.ext';simp
   simp[execOp,ho,Instr.makeFunc,this]
  ·refine .fn _ _ _ _ (by simp) fun i hi=>?_
   have hi':i<cs.size:=by simpa using hi
   simp[aa,hi']
   exact g.ev _
theorem mj{x:AV}{v:Value}(h:bo M β x v)(ho:mV x=true):v.cells.size=(flat x).length/\(∀i,i<(flat x).length->bo M β ((flat x).getD i .any) (v.cells.getD i undef))/\∀u,u∈v.cells->u.oneCell'=true:=by
 by_cases ha:∃cs,x=.agg cs
 ·obtain⟨cs,rfl⟩:=ha
  obtain⟨vs,rfl,hl,hr,hone⟩:=fJ h
  refine⟨by simp[Value.cells,flat,hl],fun i hi=>by simpa[Value.cells,flat]using hr i hi,fun u hu=>?_⟩
  simp only[Value.cells,List.mem_toArray]at hu
  obtain⟨i,hi,rfl⟩:=List.getElem_of_mem hu
  have:=hone i (by omega)
  simpa[aa,hi]using this
 ·have e1:flat x=[x]:=by cases x<;>first|rfl|exact absurd ⟨_,rfl⟩ ha
  have e2:Bi x=true:=by
   have:mV x=Bi x:=by cases x<;>first|rfl|exact absurd ⟨_,rfl⟩ ha
   rw[<-this];exact ho
  have e3:=AR h e2
  have e4:v.cells = #[v]:=by cases v<;>first|rfl|(cases e3)
  rw[e1,e4]
  refine⟨rfl,fun i hi=>?_,fun u hu=>?_⟩
  ·have:i=0:=by simp at hi;exact hi
   subst this;simpa using h
  ·simp at hu;subst hu;exact e3
theorem i3{α:Type}:∀(ys l:List α) (k:Nat),(ic l k ys).length=l.length
 |[],l,k=>rfl
 |y::ys,l,k=>by simp[ic,i3 ys]
def CR(M:Mem)(β:Lo)(cs:List AV)(vs:Array Value):Prop:=vs.size=cs.length/\(∀i,i<cs.length->bo M β (cs.getD i .any) (vs.getD i undef))/\∀u,u∈vs->u.oneCell'=true
theorem CR.set{cs:List AV}{vs:Array Value}(h:CR M β cs vs){c:AV}{v:Value}(hr:bo M β c v)(ho:v.oneCell'=true)(k:Nat):CR M β (cs.set k c) (vs.setIfInBounds k v):=by
 obtain⟨h1,h2,h3⟩:=h
 refine⟨by simp[h1],fun i hi=>?_,fun u hu=>?_⟩
 ·have hi':i<cs.length:=by simpa using hi
  by_cases e:k=i
  ·subst e
   have h4:k<vs.size:=by omega
   simp[aa,hi',h4]
   exact hr
  ·have:=h2 i hi'
   simpa[aa,List.getElem?_set,e,Array.getElem?_setIfInBounds]using this
 ·rcases Array.mem_or_eq_of_mem_setIfInBounds hu with h|h
  ·exact h3 u h
  ·subst h;exact ho
theorem CR.ic{cs:List AV}{vs:Array Value}:∀(ys:List AV) (us:List Value) (k j:Nat) {cs:List AV} {vs:Array Value},CR M β cs vs->us.length=ys.length->(∀i,i<ys.length->bo M β (ys.getD i .any) (us.getD i undef))->(∀u,u∈us->u.oneCell'=true) ->
 CR M β (VL.ic cs (k+j) ys) ((us.zipIdx j).foldl (fun cs (c,j)=>cs.setIfInBounds (k+j) c) vs)
 |[],[],k,j,cs,vs,h,_,_,_=>h
 |[],_::_,_,_,_,_,_,h,_,_=>by simp at h
 |_::_,[],_,_,_,_,_,h,_,_=>by simp at h
 |
  y::ys,u::us,k,j,cs,vs,h,hl,hr,ho=>by
  have h1:=h.set (hr 0 (by simp)) (ho u ag) (k+j)
  have:=CR.ic (cs:=cs) (vs:=vs) ys us k (j+1) h1 (by simpa using hl) (fun i hi=>by simpa using hr (i+1) (by simpa using hi)) fun q hq=>ho q (ai _ hq)
  simpa[VL.ic,List.zipIdx_cons,Nat.add_assoc]using this
theorem tu{e:Operand->AV}{ρ:Operand->Value}(he:∀x,bo M β (e x) (ρ x))(place:Nat->Option (Nat×Nat))(offOf:Nat->Nat):∀(ps:List (Nat×Operand)) {cs:List AV} {vs:Array Value},CR M β cs vs ->
 (∀p,p∈ps->mV (e p.2)=true/\place p.1=some (offOf p.1,(flat (e p.2)).length)/\offOf p.1+(flat (e p.2)).length<=cs.length) ->
 ∃vs',Instr.fill place vs (ps.map fun p=>(p.1,ρ p.2))=some vs'/\CR M β (ps.foldl (fun cs p=>VL.ic cs (offOf p.1) (flat (e p.2))) cs) vs'
 |[],cs,vs,h,_=>⟨vs,rfl,h⟩
 |
  p::ps,cs,vs,h,hp=>by
  obtain⟨h1,h2,h3⟩:=hp p ag
  obtain⟨f1,f2,f3⟩:=mj (he p.2) h1
  have step:=CR.ic (cs:=cs) (vs:=vs) (flat (e p.2)) (ρ p.2).cells.toList (offOf p.1) 0 h (by simpa using f1) (fun i hi=>by
   have:=f2 i hi
   have hi':i<(ρ p.2).cells.size:=by omega
   simpa[aa,hi']using this) fun u hu=>f3 u (by simpa using hu)
  obtain⟨vs',q1,q2⟩:=tu he place offOf ps step fun q hq=>by
   obtain⟨r1,r2,r3⟩:=hp q (ai _ hq)
   exact⟨r1,r2,by simpa[i3]using r3⟩
  refine⟨vs',?_,by simpa using q2⟩
  rw[a6]
  unfold Instr.fill
  rw[h2]
  simp only
  rw[if_neg (by simp[f1,h.1];omega)]
  rw[<-q1]
  congr 1
  rw[<-Array.foldl_toList]
  simp[Array.toList_zipIdx]
end
end Go.VL
namespace Go.VL
open Go Go.RowKit
section
variable {P:Program} {M:Mem} {β:Lo} {w w':World} {n:Nat} {A:jP} {s:St} {a:Act}
def kill(k:Option Nat)(f:Nat->Option Ob):Nat->Option Ob:=match k with|some o=>cr f o none|none=>f
theorem cZ.fresh(g:cZ n A s a w M β){d:Nat}(hd:s.us d=false)(k:Option Nat)(hk:∀o,k=some o->∃x,s.ob o=some x/\x.live=true)
 (ho:w'.os=w.os) (ht:w'.tape=w.tape) (hp:w'.output=w.output) (hs:w.heap.size<=w'.heap.size) (hw:∀b,b<w.heap.size->(∀o,k=some o->dN β o≠some b)->w'.heap[b]?=w.heap[b]?)
 (l:Loc) (x:Ob) (hx:Own M (cr β d (some l)) w' d x) (hl:∀b,l.block=some b->w.heap.size<=b\/∃o,k=some o/\dN β o=some b) :
 cZ n A {s with ob:=cr (kill k s.ob) d (some x),us:=cr s.us d true} a w' M (cr β d (some l)):=by
 have hβ:Lo.le β (cr β d (some l)):=fun o q hq=>by
  by_cases ho:o=d
  ·subst ho;rw[(g.us o hd).1]at hq;cases hq
  ·rw[aW _ _ _ _ ho];exact hq
 have hbd:∀o b,o≠d->dN (cr β d (some l)) o=some b->dN β o=some b:=fun o b ho hb=>by
  unfold dN at hb |-;rw[aW _ _ _ _ ho]at hb;exact hb
 have hdd:dN (cr β d (some l)) d=l.block:=by unfold dN;rw[aL];rfl
 have hobs:∀o y,o≠d->cr (kill k s.ob) d (some x) o=some y->s.ob o=some y/\k≠some o:=fun o y hne hy=>by
  rw[aW _ _ _ _ hne]at hy
  cases k with
  |none=>exact⟨hy,by simp⟩
  |
   some o' =>
   by_cases e:o=o'
   ·subst e;simp only[kill]at hy;rw[aL]at hy;cases hy
   ·simp only[kill]at hy;rw[aW _ _ _ _ e]at hy;exact⟨hy,by simp;exact fun h=>e h.symm⟩
 have old:∀o y b,s.ob o=some y->y.live=true->dN β o=some b->k≠some o->w'.heap[b]?=w.heap[b]?:=fun o y b hy hl hb hne=>by
  refine hw b ((g.own o y hy).lt hl hb) fun o' ho' hb'=>?_
  obtain⟨x',hx',hl'⟩:=hk o' ho'
  exact g.apart o' o x' y b (fun e=>hne (by rw[<-e];exact ho')) hx' hl' hy hl hb' hb
 refine {size:=g.size,defs:=g.defs,tm:=fun t=>(g.tm t).mono (Mem.le.refl _) hβ,le:=g.le,new:=g.new,agree:=?_,own:=?_,place:=?_,apart:=?_,us:=?_,fix:=g.Mn hd fun o y hne hy=>⟨y,(hobs o y hne hy).1⟩,cB:=?_}
 ·refine g.agree.world fun b k' v hc=>hw b (g.agree.lt hc) fun o ho' hb'=>?_
  obtain⟨x',hx',hl'⟩:=hk o ho'
  rw[(g.own o x' hx').Aj hl' hb']at hc;cases hc
 ·intro o y hy
  by_cases ho:o=d
  ·subst ho
   have:x=y:=by simpa[aL]using hy
   subst this;exact hx
  ·obtain⟨hy',hne⟩:=hobs o y ho hy
   exact(g.own o y hy').mono (Mem.le.refl _) hβ fun b hlv hb=>⟨old o y b hy' hlv hb hne,(g.own o y hy').Aj hlv hb⟩
 ·intro o y b hy hlv hb
  by_cases ho:o=d
  ·subst ho
   rw[hdd]at hb
   rcases hl b hb with h|⟨o',ho',hb'⟩
   ·exact .inl (Nat.le_trans g.cB.size h)
   ·obtain⟨x',hx',hl'⟩:=hk o' ho'
    exact g.place o' x' b hx' hl' hb'
  ·exact g.place o y b (hobs o y ho hy).1 hlv (hbd o b ho hb)
 ·have dcase:∀o y b,o≠d->s.ob o=some y->y.live=true->k≠some o->dN β o=some b->l.block≠some b:=fun o y b ho hy hlv hne hb hb'=>by
   rcases hl b hb' with h|⟨o',ho',hb''⟩
   ·have:=(g.own o y hy).lt hlv hb;omega
   ·obtain⟨x',hx',hl'⟩:=hk o' ho'
    exact g.apart o' o x' y b (fun e=>hne (by rw[<-e];exact ho')) hx' hl' hy hlv hb'' hb
  intro o o' y y' b hne hy hlv hy' hlv' hb hb'
  by_cases ho:o=d
  ·subst ho
   have ho':o'≠o:=Ne.symm hne
   obtain⟨q1,q2⟩:=hobs o' y' ho' hy'
   rw[hdd]at hb
   exact dcase o' y' b ho' q1 hlv' q2 (hbd o' b ho' hb') hb
  ·obtain⟨p1,p2⟩:=hobs o y ho hy
   by_cases ho':o'=d
   ·subst ho'
    rw[hdd]at hb'
    exact dcase o y b ho p1 hlv p2 (hbd o b ho hb) hb'
   ·obtain⟨q1,q2⟩:=hobs o' y' ho' hy'
    exact g.apart o o' y y' b hne p1 hlv q1 hlv' (hbd o b ho hb) (hbd o' b ho' hb')
 ·intro o hu
  by_cases ho:o=d
  ·subst ho
   have:({s with ob:=cr (kill k s.ob) o (some x),us:=cr s.us o true}:St).us o=true:=aL _ _ _
   rw[this]at hu;cases hu
  ·have hu':s.us o=false:=by simpa[aW _ _ _ _ ho]using hu
   obtain⟨q1,q2⟩:=g.us o hu'
   refine⟨by rw[aW _ _ _ _ ho];exact q1,?_⟩
   show cr (kill k s.ob) d (some x) o=none
   rw[aW _ _ _ _ ho]
   cases k with
   |none=>exact q2
   |
    some o' =>
    by_cases e:o=o'
    ·subst e;exact aL _ _ _
    ·simp only[kill];rw[aW _ _ _ _ e];exact q2
 ·refine g.cB.jG ho ht hp hs fun b hlt hni=>hw b (cX hlt g.cB.size) fun o ho' hb'=>?_
  obtain⟨x',hx',hl'⟩:=hk o ho'
  rcases g.place o x' b hx' hl' hb' with h|h
  ·omega
  ·exact hni h
theorem qh{d:Nat}{dst:Option Nat}{de:De}(h:dB s n dst de=true)(hn:de.new=[d]):s.us d=false:=by
 unfold dB at h
 rw[hn]at h
 simp at h
 exact h.1.1
theorem ib.sU{t:Nat}{ti:TI}(h:ib P t ti):∃i z,P.info? t=some i/\i.size=ti.sz/\i.bytes=ti.bytes/\i.zero=some z/\CR M β (jh ti) z.cells/\z.cells.size=ti.sz:=by
 obtain⟨i,z,hi,hs,hb,hz,hc,_⟩:=h.info
 have hlen:z.cells.size=ti.lk.length:=by have:=sj hc;simpa using this.symm
 refine⟨i,z,hi,hs,hb,hz,⟨by simp[jh,hlen],fun j hj=>?_,fun u hu=>sQ hc u (by simpa using hu)⟩,hlen⟩
 have hj':j<ti.lk.length:=by simpa[jh]using hj
 have:=su (M:=M) (β:=β) hc j hj'
 have e:j<z.cells.size:=by omega
 simpa[jh,aa,e]using this
theorem CR.cells{cs:List AV}{vs:Array Value}(h:CR M β cs vs){d b:Nat}{e:TypeId}(hw:w.heap[b]?=some (.cells vs e (0,0)))(hM:∀k,M.c b k=none)(hb:β d=some (.cells b)):Own M β w d (.cells cs) :=
 ⟨b,vs,e,hb,hw,h.1,h.2.1,hM,h.2.2⟩
theorem CR.mono{M':Mem}{β':Lo}{cs:List AV}{vs:Array Value}(h:CR M β cs vs)(hM:M.le M')(hβ:Lo.le β β'):CR M' β' cs vs:=⟨h.1,fun i hi=>(h.2.1 i hi).mono hM hβ,h.2.2⟩
theorem yz(g:cZ n A s a w M β)(k:Nat):M.c w.heap.size k=none:=by
 cases e:M.c w.heap.size k with
 |none=>rfl
 |some v=>have:=g.agree.lt e;omega
theorem uN(g:cZ n A s a w M β){d:Nat}(hd:s.us d=false)(l:Loc):Lo.le β (cr β d (some l)):=fun o q hq=>by
 by_cases ho:o=d
 ·subst ho;rw[(g.us o hd).1]at hq;cases hq
 ·rw[aW _ _ _ _ ho];exact hq
theorem na(g:cZ n A s a w M β){o:Oper}{d:Nat}{cs:List AV}{vs:Array Value}{e:TypeId}(hcr:CR M β cs vs)
 (hr:(execOp a.eval o).run P w=.ok (.value (.pointer (some ⟨w.heap.size,0,none⟩))) (w.alloc (.cells vs e))) (hn:dB s n o.dst {val:=.ref d 0,cr:=[(d,some (.cells cs))],new:=[d]}=true) :
 Step P n A o a w (s.app o.dst {val:=.ref d 0,cr:=[(d,some (.cells cs))],new:=[d]}):=by
 have hd:=qh hn rfl
 have hle:=uN g hd (.cells w.heap.size)
 have g':=g.fresh hd none (fun o h=>by cases h) (w':=w.alloc (.cells vs e)) rfl rfl rfl (by simp) (fun b hb _=>heap_alloc_old w _ b hb) (.cells w.heap.size) (.cells cs)
  ((hcr.mono (Mem.le.refl _) hle).cells (heap_alloc_new w _) (yz g) (aL _ _ _)) (fun b hb=>.inl (by simp[Loc.block]at hb;omega))
 have g2:=cZ.put g' (x:=.ref d 0) (v:=.pointer (some ⟨w.heap.size,0,none⟩)) (.ref _ _ _ _ (aL _ _ _)) (fN hn)
 exact⟨_,_,M,cr β d (some (.cells w.heap.size)),.inl hr,g2⟩
theorem C8(g:cZ n A s a w M β){T:ep}(hT:cT P T)(o:Oper)(t:Nat)(ho:o.op=.alloc t) :
 (dI T (ev s) s.ob o).holds fun d=>dB s n o.dst d=true->Step P n A o a w (s.app o.dst d):=by
 unfold dI
 rw[ho]
 refine DR.aT fun hkn=>?_
 split
 ·rename_i d hd
  intro hn
  obtain⟨i,z,hi,hs,hb,hz,hcr,hsz⟩:=(hT t hkn).sU (M:=M) (β:=β)
  exact na (P:=P) g hcr (by simp[execOp,ho,Instr.alloc,zeroValue,typeInfo,hi,hz,newVar,newRow];rfl) hn
 ·trivial
theorem HS(g:cZ n A s a w M β){T:ep}(hT:cT P T)(o:Oper)(t:Nat)(x:Operand)(ho:o.op=.box t x) :
 (dI T (ev s) s.ob o).holds fun d=>dB s n o.dst d=true->Step P n A o a w (s.app o.dst d):=by
 unfold dI
 rw[ho]
 refine DR.aT fun hkn=>?_
 split
 ·rename_i d hd
  refine DR.aT fun hq=>?_
  rw[au]at hq
  intro hn
  obtain⟨f1,f2,f3⟩:=mj (g.ev x) hq.2
  exact na (P:=P) g (cs:=flat (ev s x)) (vs:=(a.eval x).cells) (e:=t) ⟨f1,f2,f3⟩ (by simp[execOp,ho,Instr.box,newVar,newRow]) hn
 ·trivial
end
end Go.VL
namespace Go.VL
open Go Go.RowKit
section
variable {P:Program} {M:Mem} {β:Lo} {w w':World} {n:Nat} {A:jP} {s:St} {a:Act}
theorem iV{α:Type}(l1 l2:List α)(i:Nat)(d:α):(l1++l2).getD i d=if i<l1.length then l1.getD i d else l2.getD (i-l1.length) d:=by
 simp only[aa,aY]
 split<;>rfl
def iA{α:Type}(l:List α)(k:Nat)(ys:List α):List α:=l.take k++ys++l.drop (k+ys.length)
theorem ke{α:Type}(l:List α)(k:Nat)(ys:List α)(h:k+ys.length<=l.length):(iA l k ys).length=l.length:=by
 simp[iA];omega
theorem j0{α:Type}(l:List α)(k:Nat)(ys:List α)(h:k+ys.length<=l.length)(i:Nat)(d:α):(iA l k ys).getD i d=if k<=i/\i<k+ys.length then ys.getD (i-k) d else l.getD i d:=by
 have ht:(l.take k).length=k:=by simp;omega
 unfold iA
 rw[iV,iV]
 simp only[ak,ht]
 by_cases h1:i<k
 ·rw[if_pos (by omega),if_pos h1,if_neg (by omega)]
  simp[aa,List.getElem?_take,h1]
 ·by_cases h2:i<k+ys.length
  ·rw[if_pos h2,if_neg h1,if_pos ⟨by omega,h2⟩]
  ·rw[if_neg h2,if_neg (by omega)]
   simp only[aa,cm]
   congr 2
   omega
theorem oY{α:Type}:∀(ys l:List α) (k i:Nat) (d:α),k+ys.length<=l.length->(ic l k ys).getD i d=if k<=i/\i<k+ys.length then ys.getD (i-k) d else l.getD i d
 |
  [],l,k,i,d,h=>by
  rw[if_neg (by simp only[aE];omega)];rfl
 |
  y::ys,l,k,i,d,h=>by
  simp only[aw]at h |-
  rw[ic,oY ys (l.set k y) (k+1) i d (by simp;omega)]
  by_cases h1:k+1<=i/\i<k+1+ys.length
  ·rw[if_pos h1,if_pos (by omega)]
   rw[show i-k=(i-(k+1))+1 by omega]
   rfl
  ·rw[if_neg h1]
   by_cases h2:i=k
   ·subst h2
    rw[if_pos (by omega)]
    have:i<l.length:=by omega
    simp[aa,this]
   ·rw[if_neg (by omega)]
    simp[aa,List.getElem?_set,Ne.symm h2]
theorem eC(vs:Array Value)(i:Nat):vs.toList.getD i undef=vs.getD i undef:=by simp[aa]
theorem lu(l:List Value)(i:Nat):l.toArray.getD i undef=l.getD i undef:=by simp[aa]
theorem nh{α:Type}{l:List α}{k:Nat}{ys:List α}{x:α}(h:x∈iA l k ys):x∈l\/x∈ys:=by
 unfold iA at h
 rcases aH.1 h with h|h
 ·rcases aH.1 h with h|h
  ·exact .inl (List.mem_of_mem_take h)
  ·exact .inr h
 ·exact .inl (List.mem_of_mem_drop h)
theorem CR.iA{cs ys:List AV}{vs us:Array Value}(h:CR M β cs vs)(h':CR M β ys us){k:Nat}(hk:k+ys.length<=cs.length):CR M β (VL.ic cs k ys) (VL.iA vs.toList k us.toList).toArray:=by
 have e1:us.toList.length=ys.length:=by simp[h'.1]
 have e2:vs.toList.length=cs.length:=by simp[h.1]
 refine⟨by rw[List.size_toArray,ke _ _ _ (by omega),i3,e2],fun i hi=>?_,fun u hu=>?_⟩
 ·rw[i3]at hi
  rw[oY _ _ _ _ _ hk,lu,j0 _ _ _ (by omega),e1]
  by_cases hc:k<=i/\i<k+ys.length
  ·rw[if_pos hc,if_pos hc,eC];exact h'.2.1 _ (by omega)
  ·rw[if_neg hc,if_neg hc,eC];exact h.2.1 i hi
 ·rcases nh (by simpa using hu)with hu|hu
  ·exact h.2.2 u (by simpa using hu)
  ·exact h'.2.2 u (by simpa using hu)
theorem nW{t b k:Nat}{T:ep}(hT:cT P T)(hkn:(T t).kn=true){v:Value}{vs:Array Value}{e:TypeId}(hw:w.heap[b]?=some (.cells vs e (0,0)))(hs:v.cells.size=(T t).sz)(hk:k+v.cells.size<=vs.size)
 (h1:∀u,u∈v.cells->u.oneCell'=true) :
 (Instr.storeAt t (.pointer (some ⟨b,k,none⟩)) v).run P w=.ok () (w.setRow b (iA vs.toList k v.cells.toList).toArray):=by
 have:=run_storeCells_at P b k e v.cells.toList 0 vs w hw (by simpa using hk) (fun u hu=>h1 u (by simpa using hu))
 simp only[bM]at this
 unfold Instr.storeAt
 simp only[Instr.sureAddr,Sem.run_bind,Sem.run_pure,Result.andThen_ok]
 unfold storeVar
 rw[Sem.run_bind,(hT t hkn).iY w]
 simp only[Result.andThen_ok]
 rw[if_neg (by simp[hs])]
 exact this
theorem Step.skip{o:Oper}{d:De}{M':Mem}{β':Lo}(hr:(execOp a.eval o).run P w=.ok .skip w')(hv:d.val=.any)(hn:dB s n o.dst d=true)(g:cZ n A {s with ob:=cx s.ob d.cr,us:=eM s.us d.new} a w' M' β'):Step P n A o a w (s.app o.dst d):=by
 refine⟨undef,w',M',β',.inr ⟨hr,rfl⟩,?_⟩
 have:=cZ.put g (x:=.any) (v:=undef) (.any _ _) (fN hn)
 rw[<-hv]at this
 exact this
theorem Step.val{o:Oper}{d:De}{M':Mem}{β':Lo}{v:Value}(hr:(execOp a.eval o).run P w=.ok (.value v) w')(hv:bo M' β' d.val v)(hn:dB s n o.dst d=true)(g:cZ n A {s with ob:=cx s.ob d.cr,us:=eM s.us d.new} a w' M' β'):Step P n A o a w (s.app o.dst d) :=
 ⟨v,w',M',β',.inl hr,cZ.put g hv (fN hn)⟩
theorem lG{o k:Nat}{v:Value}(h:bo M β (.ref o k) v):∃b,β o=some (.cells b)/\v=.pointer (some ⟨b,k,none⟩):=by
 cases h with|ref _ _ _ b hb=>exact⟨b,hb,rfl⟩
theorem Be{o k:Nat}{v:Value}(h:bo M β (.nw o k) v):∃b,β o=some (.cells b)/\v=.pointer (some ⟨b,k,none⟩):=by
 cases h with|nw _ _ _ b hb=>exact⟨b,hb,rfl⟩
theorem pJ(g:cZ n A s a w M β){T:ep}(hT:cT P T)(o:Oper)(t:Nat)(x y:Operand)(ho:o.op=.store t x y)(hkn:(T t).kn=true)(hl:(flat (ev s y)).length=(T t).sz)(h1:mV (ev s y)=true)
 {m k b:Nat} {cs:List AV} (hb:β m=some (.cells b)) (hv:a.eval x=.pointer (some ⟨b,k,none⟩)) (hm:s.ob m=some (.cells cs)) (hk:k+(flat (ev s y)).length<=cs.length)
 (hn:dB s n o.dst {val:=.any,cr:=[(m,some (.cells (ic cs k (flat (ev s y)))))]}=true):Step P n A o a w (s.app o.dst {val:=.any,cr:=[(m,some (.cells (ic cs k (flat (ev s y)))))]}):=by
 obtain⟨b',vs,e,q1,q2,q3,q4,q5,q6⟩:=g.own m _ hm
 rw[hb]at q1;cases q1
 have f:=mj (g.ev y) h1
 have hcr:CR M β cs vs:=⟨q3,q4,q6⟩
 have hcr':=hcr.iA (β:=β) (us:=(a.eval y).cells) f hk
 have hx':Own M β (w.setRow b (iA vs.toList k (a.eval y).cells.toList).toArray) m (.cells (ic cs k (flat (ev s y)))) :=
  CR.cells hcr' (setRow_heap w b vs _ e (0,0) q2) q5 hb
 refine Step.skip ?_ rfl hn (g.write hm rfl (by simp[dN,hb,Loc.block]) _ _ hx' rfl)
 have hr:=nW (P:=P) hT hkn (v:=a.eval y) (b:=b) (k:=k) q2 (by rw[f.1,hl]) (by rw[f.1,q3];exact hk) f.2.2
 simp[execOp,ho,hv,hr]
theorem yI(g:cZ n A s a w M β){T:ep}(hT:cT P T)(o:Oper)(t:Nat)(x y:Operand)(ho:o.op=.store t x y)(hkn:(T t).kn=true)(hl:(flat (ev s y)).length=(T t).sz)(h1:mV (ev s y)=true)
 {m i k sz:Nat} {es:List (List AV)} {xs:List AV} (hx:ev s x=.mn m i k) (hm:s.ob m=some (.vec sz es)) (hf:mF (VL.freeze s.ob eh) (flat (ev s y))=some (xs,[])) (hi:i<es.length) (hk:k+xs.length<=sz)
 (hn:dB s n o.dst {val:=.any,cr:=[(m,some (.vec sz (es.set i (ic (es.getD i []) k xs))))]}=true):Step P n A o a w (s.app o.dst {val:=.any,cr:=[(m,some (.vec sz (es.set i (ic (es.getD i []) k xs))))]}):=by
 have hrx:=g.ev x
 rw[hx]at hrx
 have:∃sz' b off n' c,β m=some (.vec (.slice (some ⟨b,off,none⟩) n' c) sz')/\a.eval x=.pointer (some ⟨b,off+i*sz'+k,none⟩):=by
  generalize a.eval x=v at hrx
  cases hrx with|mn _ _ _ _ sz' b off n' c hb=>exact⟨sz',b,off,n',c,hb,rfl⟩
 obtain⟨sz',b,off,n',c,hb,hv⟩:=this
 obtain⟨v',q1,q2,q3⟩:=g.own m _ hm
 rw[hb]at q1;cases q1
 rcases q3 with⟨q3,_⟩|⟨b',off',c',vs,e,q3,q4,q5,q6,q7,q8,q9,q10⟩
 ·cases q3
 ·injection q3 with e1 e2 e3
  injection e1 with e1
  injection e1 with e1 e4
  subst e1;subst e4;subst e2;subst e3
  have f:=mj (g.ev y) h1
  obtain⟨z1,z2⟩:=pE (M:=M) (β:=β) (w:=w) (ob:=s.ob) (fun c a' os v=>gA eh c a' os v) _ _ _ hf (fun o ho=>by cases ho)
  have hlt:i*sz+sz<=es.length*sz:=by rw[<-cR];exact aS _ hi
  have hcc:es.length*sz<=c*sz:=aS _ q4
  have hfit:off+i*sz+k+(a.eval y).cells.size<=vs.size:=by rw[f.1];omega
  have ul:(a.eval y).cells.toList.length=xs.length:=by simp[f.1,z1]
  have vl:off+i*sz+k+(a.eval y).cells.toList.length<=vs.toList.length:=by rw[ul];simp;rw[f.1]at hfit;omega
  have hx':Own M β (w.setRow b (iA vs.toList (off+i*sz+k) (a.eval y).cells.toList).toArray) m (.vec sz (es.set i (ic (es.getD i []) k xs))):=by
   refine⟨_,hb,fun j hj=>?_,.inr ⟨b,off,c,_,e,by simp,by simpa using q4,setRow_heap w b vs _ e (0,0) q5,?_,fun i' j hi' hj=>?_,q8,q9,fun u hu=>?_⟩⟩
   ·have hj':j<es.length:=by simpa using hj
    by_cases e:i=j
    ·subst e
     simp only[aa,List.getElem?_set,hi,if_true,Option.getD_some,i3]
     have:=q2 i hi
     simpa[aa]using this
    ·have:=q2 j hj'
     simpa[aa,List.getElem?_set,e]using this
   ·rw[List.size_toArray,ke _ _ _ vl];simpa using q6
   ·have hi'':i'<es.length:=by simpa using hi'
    rw[lu,j0 _ _ _ vl,ul]
    have old:=q7 i' j hi'' hj
    by_cases e:i=i'
    ·subst e
     have e2:(es.set i (ic (es.getD i []) k xs)).getD i []=ic (es.getD i []) k xs:=by simp[aa,hi]
     rw[e2,oY _ _ _ _ _ (by rw[q2 i hi];exact hk)]
     by_cases hc:k<=j/\j<k+xs.length
     ·rw[if_pos hc,if_pos (by omega)]
      have hq:=f.2.1 (j-k) (by omega)
      have:=z2 (j-k) _ (by omega) hq
      rw[eC]
      rw[show off+(i*sz+j)-(off+i*sz+k)=j-k by omega]
      exact this
     ·rw[if_neg hc,if_neg (by omega),eC];exact old
    ·have e2:(es.set i (ic (es.getD i []) k xs)).getD i' []=es.getD i' []:=by simp[aa,List.getElem?_set,e]
     rw[e2]
     have:¬(off+i*sz+k<=off+(i'*sz+j)/\off+(i'*sz+j)<off+i*sz+k+xs.length):=by
      intro⟨p1,p2⟩
      rcases Nat.lt_or_gt_of_ne e with h|h
      ·have:i*sz+sz<=i'*sz:=by rw[<-cR];exact aS _ h
       omega
      ·have:i'*sz+sz<=i*sz:=by rw[<-cR];exact aS _ h
       omega
     rw[if_neg this,eC];exact old
   ·rcases nh (by simpa using hu)with hu|hu
    ·exact q10 u (by simpa using hu)
    ·exact f.2.2 u (by simpa using hu)
  refine Step.skip ?_ rfl hn (g.write hm rfl (by simp[dN,hb,Loc.block]) _ _ hx' rfl)
  have hr:=nW (P:=P) hT hkn (v:=a.eval y) (b:=b) (k:=off+i*sz+k) q5 (by rw[f.1,hl]) hfit f.2.2
  simp[execOp,ho,hv,hr]
theorem Dt(g:cZ n A s a w M β){T:ep}(hT:cT P T)(o:Oper)(t:Nat)(x y:Operand)(ho:o.op=.store t x y) :
 (dI T (ev s) s.ob o).holds fun d=>dB s n o.dst d=true->Step P n A o a w (s.app o.dst d):=by
 unfold dI
 rw[ho]
 refine DR.aT fun hkn=>DR.aT fun hq=>?_
 rw[au]at hq
 have hl:=aC hq.1
 have hx:=g.ev x
 split
 ·rename_i m k e
  rw[e]at hx
  split
  ·rename_i cs hm
   refine DR.aT fun hk=>?_
   intro hn
   obtain⟨b,hb,hv⟩:=lG hx
   exact pJ g hT o t x y ho hkn hl hq.2 hb hv hm (aN hk) hn
  ·trivial
 ·rename_i m k e
  rw[e]at hx
  split
  ·rename_i cs hm
   intro hk hn
   obtain⟨b,hb,hv⟩:=Be hx
   exact pJ g hT o t x y ho hkn hl hq.2 hb hv hm hk hn
  ·trivial
 ·rename_i m i k e
  split
  ·rename_i sz es hm
   split
   ·rename_i xs hf
    intro⟨hi,hk⟩ hn
    exact yI g hT o t x y ho hkn hl hq.2 e hm hf hi hk hn
   ·trivial
  ·trivial
 ·trivial
end
end Go.VL
namespace Go.VL
open Go Go.RowKit
section
variable {P:Program} {M:Mem} {β:Lo} {w w':World} {n:Nat} {A:jP} {s:St} {a:Act}
theorem sw{T:ep}(hT:cT P T):∀(fl:List Field),(fl.map fun f=>(f.offset,f.type)).all (fun p=>(T p.2).kn)=true ->
 fl.mapM (fun f=>(P.info? f.type).map fun i=>(f.offset,i.size))=some (fl.map fun f=>(f.offset,(T f.type).sz))
 |[],_=>rfl
 |
  f::fl,h=>by
  simp only[a6,cO,au]at h
  obtain⟨i,z,hi,hs,_⟩:=(hT f.type h.1).info
  rw[List.mapM_cons,sw hT fl h.2,hi]
  simp[hs,TI.sz]
theorem sA{T:ep}{fs:List (Nat×Nat)}{m:Nat}{e:Operand->AV}:∀{ps:List (Nat×Operand)},qH T fs m e ps=true->∀p,p∈ps->∃off ft,fs[p.1]?=some (off,ft)/\(flat (e p.2)).length=(T ft).sz/\off+(flat (e p.2)).length<=m/\mV (e p.2)=true
 |[],_,p,hp=>by cases hp
 |
  q::ps,h,p,hp=>by
  simp only[qH,au]at h
  rcases aI.1 hp with rfl|hp
  ·obtain⟨⟨h1,h2⟩,_⟩:=h
   split at h1
   ·rename_i off ft hf
    simp only[au]at h1
    exact⟨off,ft,hf,aC h1.1,aN h1.2,h2⟩
   ·cases h1
  ·exact sA h.2 p hp
theorem tn{z m:Nat}{e:Operand->AV}:∀{ps:List (Nat×Operand)},qR z m e ps=true->∀p,p∈ps->(flat (e p.2)).length=z/\p.1*z+(flat (e p.2)).length<=m/\mV (e p.2)=true
 |[],_,p,hp=>by cases hp
 |
  q::ps,h,p,hp=>by
  simp only[qR,au]at h
  rcases aI.1 hp with rfl|hp
  ·exact⟨aC h.1.1.1,aN h.1.1.2,h.1.2⟩
  ·exact tn h.2 p hp
theorem CR.agg{cs:List AV}{vs:Array Value}(h:CR M β cs vs):bo M β (.agg cs) (.agg vs):=by
 have e:vs=vs.toList.toArray:=by simp
 rw[e]
 refine .agg _ _ _ (by simp[h.1]) (fun i hi=>?_) fun i hi=>?_
 ·rw[eC];exact kL h.2.2 i (by have:=h.1;omega)
 ·rw[eC];exact h.2.1 i hi
theorem Dp(g:cZ n A s a w M β){T:ep}(hT:cT P T)(o:Oper)(t:Nat)(ps:Array (Nat×Operand))(ho:o.op=.build t ps) :
 (dI T (ev s) s.ob o).holds (Quiet (qD P M β o a w)):=by
 unfold dI
 rw[ho]
 refine DR.aT fun hkn=>?_
 have el:(ps.map fun(i,x)=>(i,a.eval x)).toList=ps.toList.map fun p=>(p.1,a.eval p.2):=by simp
 obtain⟨i,z,hi,hs,hb,hz,hcr,hsz⟩:=(hT t hkn).sU (M:=M) (β:=β)
 have hzl:(jh (T t)).length=(T t).sz:=by simp[jh,TI.sz]
 split
 ·rename_i fs hk
  refine DR.aT fun hq=>?_
  rw[au]at hq
  obtain⟨fl,hu,hfl⟩:=(hT t hkn).struct hk
  have hp:=sw hT fl.toList (by rw[hfl];exact hq.1)
  obtain⟨vs',h1,h2⟩:=tu g.ev ((fl.toList.map fun f=>(f.offset,(T f.type).sz)).toArray[·]?) (fun i=>(fs.getD i (0,0)).1) ps.toList hcr (fun p hp=>by
   obtain⟨off,ft,f1,f2,f3,f4⟩:=sA hq.2 p hp
   have e1:fs.getD p.1 (0,0)=(off,ft):=by simp[aa,f1]
   refine⟨f4,?_,by rw[e1,hzl];exact f3⟩
   rw[e1,f2]
   rw[<-hfl]at f1
   simp only[List.getElem?_map]at f1
   cases e:fl.toList[p.1]? with
   |none=>rw[e]at f1;cases f1
   |
    some fi =>
    rw[e]at f1
    simp only[cy,Option.some.injEq,Prod.mk.injEq]at f1
    obtain⟨rfl,rfl⟩:=f1
    simp[e])
  refine⟨rfl,rfl,_,?_,h2.agg⟩
  have hbt:P.built t (ps.map fun(i,x)=>(i,a.eval x)).toList=some vs':=by
   rw[el]
   simp only[Program.built,hi,hu,hz,hp]
   exact h1
  simp[execOp,ho,run_build w t _ _ hbt]
 ·rename_i m el' hk
  refine DR.aT fun hq=>?_
  rw[au]at hq
  obtain⟨ie,ze,hie,hse,_⟩:=(hT el' hq.1).info
  obtain⟨vs',h1,h2⟩:=tu g.ev (fun i=>some (i*ie.size,ie.size)) (fun i=>i*(T el').sz) ps.toList hcr (fun p hp=>by
   obtain⟨f2,f3,f4⟩:=tn hq.2 p hp
   exact⟨f4,by rw[f2,hse];rfl,by rw[hzl];exact f3⟩)
  refine⟨rfl,rfl,_,?_,h2.agg⟩
  have hbt:P.built t (ps.map fun(i,x)=>(i,a.eval x)).toList=some vs':=by
   rw[el]
   simp only[Program.built,hi,(hT t hkn).array hk,hz,hie]
   exact h1
  simp[execOp,ho,run_build w t _ _ hbt]
 ·trivial
theorem foldl_set(k:Nat):∀(us:List Value) (j:Nat) (vs:Array Value),((us.zipIdx j).foldl (fun cs (c,j)=>cs.setIfInBounds (k+j) c) vs).size=vs.size /\
 (∀i,k+j+us.length<=vs.size->((us.zipIdx j).foldl (fun cs (c,j)=>cs.setIfInBounds (k+j) c) vs).getD i undef=if k+j<=i/\i<k+j+us.length then us.getD (i-(k+j)) undef else vs.getD i undef) /\
 ∀u,u∈(us.zipIdx j).foldl (fun cs (c,j)=>cs.setIfInBounds (k+j) c) vs->u∈vs\/u∈us
 |[],j,vs=>⟨rfl,fun i h=>by rw[if_neg (by simp only[aE];omega)];rfl,fun u hu=>.inl hu⟩
 |
  x::us,j,vs=>by
  obtain⟨h1,h2,h3⟩:=foldl_set k us (j+1) (vs.setIfInBounds (k+j) x)
  rw[List.zipIdx_cons,List.foldl_cons]
  refine⟨by rw[h1];simp,fun i h=>?_,fun u hu=>?_⟩
  ·simp only[aw]at h |-
   rw[h2 i (by simp;omega)]
   by_cases hc:k+(j+1)<=i/\i<k+(j+1)+us.length
   ·rw[if_pos hc,if_pos (by omega),show i-(k+j)=(i-(k+(j+1)))+1 by omega];rfl
   ·rw[if_neg hc]
    by_cases e:i=k+j
    ·subst e
     rw[if_pos (by omega)]
     have:k+j<vs.size:=by omega
     simp[this]
    ·rw[if_neg (by omega)]
     simp[Array.getElem?_setIfInBounds,Ne.symm e]
  ·rcases h3 u hu with h|h
   ·rcases Array.mem_or_eq_of_mem_setIfInBounds h with h|h
    ·exact .inl h
    ·exact .inr (by simp[h])
   ·exact .inr (ai _ h)
theorem uL(sz:Nat):∀(L:List (Nat×Value)) (k:Nat) (vs:Array Value),L.map (·.1)=List.range' k L.length->(∀p,p∈L->p.2.cells.size=sz)->(k+L.length)*sz<=vs.size ->
 ∃vs',Instr.fill (fun i=>some (i*sz,sz)) vs L=some vs'/\vs'.size=vs.size/\(∀i,i<k*sz->vs'.getD i undef=vs.getD i undef) /\
  (∀i j,i<L.length->j<sz->vs'.getD ((k+i)*sz+j) undef=(L.getD i (0,undef)).2.cells.getD j undef)/\∀u,u∈vs'->u∈vs\/∃p,p∈L/\u∈p.2.cells
 |[],k,vs,_,_,_=>⟨vs,rfl,rfl,fun _ _=>rfl,fun i j hi=>by simp at hi,fun u hu=>.inl hu⟩
 |
  p::L,k,vs,hr,hs,hl=>by
  simp only[a6,aw,List.range'_succ,List.cons.injEq]at hr
  have hp:=hs p ag
  have hle:k*sz+sz<=vs.size:=by
   have:(k+1)*sz<=(k+(L.length+1))*sz:=aS _ (by omega)
   rw[cR]at this
   simp only[aw]at hl
   omega
  obtain⟨f1,f2,f3⟩:=foldl_set (k*sz) p.2.cells.toList 0 vs
  have f2:=fun i=>f2 i (by simp[hp];omega)
  obtain⟨vs',g1,g2,g3,g4,g5⟩:=uL sz L (k+1) ((p.2.cells.toList.zipIdx 0).foldl (fun cs (c,j)=>cs.setIfInBounds (k*sz+j) c) vs) (by simpa using hr.2) (fun q hq=>hs q (ai _ hq)) (by rw[f1];simp only[aw]at hl;rw[show k+1+L.length=k+(L.length+1) by omega];exact hl)
  refine⟨vs',?_,by rw[g2,f1],fun i hi=>?_,fun i j hi hj=>?_,fun u hu=>?_⟩
  ·unfold Instr.fill
   rw[hr.1]
   simp only
   rw[if_neg (by simp[hp];omega),<-g1]
   congr 1
   rw[<-Array.foldl_toList]
   simp[Array.toList_zipIdx]
  ·rw[g3 i (by rw[cR];omega),f2,if_neg (by omega)]
  ·cases i with
   |
    zero =>
    rw[bM,g3 _ (by rw[cR];omega),f2,if_pos (by simp[hp];omega)]
    simp only[bh]
    rw[show k*sz+j-(k*sz+0)=j by omega,eC]
   |
    succ i =>
    have:=g4 i j (by simpa using hi) hj
    rw[show k+(i+1)=k+1+i by omega,this]
    rfl
  ·rcases g5 u hu with h|⟨q,hq,h⟩
   ·rcases f3 u h with h|h
    ·exact .inl h
    ·exact .inr ⟨p,ag,by simpa using h⟩
   ·exact .inr ⟨q,ai _ hq,h⟩
theorem yB{ob:Nat->Option Ob}{f:AV->Option (AV×List Nat)}:∀{xs:List AV} {asq:List (List AV)} {os:List Nat},tJ f xs=some (asq,os)->Fz M β w ob os ->
 asq.length=xs.length/\∀i,i<xs.length->∃os',mF f (flat (xs.getD i .any))=some (asq.getD i [],os')/\Fz M β w ob os'
 |
  [],asq,os,h,_=>by
  simp[tJ]at h
  obtain⟨rfl,rfl⟩:=h
  exact⟨rfl,fun i hi=>by simp at hi⟩
 |
  x::xs,asq,os,h,hz=>by
  unfold tJ at h
  split at h
  ·rename_i a1 o1 a2 o2 h1 h2
   cases h
   obtain⟨q1,q2⟩:=yB h2 hz.right
   refine⟨by simp[q1],fun i hi=>?_⟩
   cases i with
   |zero=>exact⟨o1,by simpa using h1,hz.left⟩
   |succ i=>simpa using q2 i (by simpa using hi)
  ·cases h
theorem Oe{sz i j:Nat}(hj:j<sz):(i*sz+j)%sz=j:=by rw[Nat.mul_comm,Nat.mul_add_mod,Nat.mod_eq_of_lt hj]
theorem j6(g:cZ n A s a w M β){o:Oper}{d sz c:Nat}{es:List (List AV)}{vs:Array Value}{e:TypeId}{w1:World}(hh:w1.heap=w.heap)(ho1:w1.os=w.os)(ht1:w1.tape=w.tape)(hp1:w1.output=w.output)(hc:es.length<=c)(hs:∀i,i<es.length->(es.getD i []).length=sz)(hv:c*sz<=vs.size)
 (hr':∀i j,i<es.length->j<sz->bo M dk ((es.getD i []).getD j .any) (vs.getD (i*sz+j) undef)) (h1:∀u,u∈vs->u.oneCell'=true)
 (hr:(execOp a.eval o).run P w=.ok (.value (.slice (some ⟨w.heap.size,0,none⟩) es.length c)) (w1.alloc (.cells vs e))) {u:List (Nat×Option Ob)} {rd:List Nat}
 (k:Option Nat) (hk:∀o,k=some o->∃x,s.ob o=some x/\x.live=true) (hu:cx s.ob u=cr (kill k s.ob) d (some (.vec sz es)))
 (hn:dB s n o.dst {val:=.vec d,cr:=u,rd:=rd,new:=[d]}=true) :
 Step P n A o a w (s.app o.dst {val:=.vec d,cr:=u,rd:=rd,new:=[d]}):=by
 have hd:=qh hn rfl
 have hle:=uN g hd (.vec (.slice (some ⟨w.heap.size,0,none⟩) es.length c) sz)
 have hnew:(w1.alloc (.cells vs e)).heap[w.heap.size]?=some (.cells vs e (0,0)):=by rw[<-hh];exact heap_alloc_new w1 _
 have g':=g.fresh hd k hk (w':=w1.alloc (.cells vs e)) ho1 ht1 hp1 (by simp[hh]) (fun b hb _=>by rw[<-hh];exact heap_alloc_old w1 _ b (by rw[hh];exact hb)) (.vec (.slice (some ⟨w.heap.size,0,none⟩) es.length c) sz) (.vec sz es)
  ⟨_,aL _ _ _,hs,.inr ⟨w.heap.size,0,c,vs,e,rfl,hc,hnew,by simpa using hv,fun i j hi hj=>by rw[aR];exact hr' i j hi hj,yz g,rfl,h1⟩⟩
  (fun b hb=>.inl (by simp[Loc.block]at hb;omega))
 refine Step.val (M':=M) (β':=cr β d (some (.vec (.slice (some ⟨w.heap.size,0,none⟩) es.length c) sz))) hr (.vec _ _ _ _ rfl (aL _ _ _)) hn ?_
 show cZ n A {s with ob:=cx s.ob u,us:=cr s.us d true} a _ M _
 rw[hu]
 exact g'
end
end Go.VL
namespace Go.VL
open Go Go.RowKit
section
variable {P:Program} {M:Mem} {β:Lo} {w w':World} {n:Nat} {A:jP} {s:St} {a:Act}
theorem j1(es:List (List AV))(i:Nat)(h:i<es.length):es.getD i []∈es:=by
 have:es.getD i []=es[i]:=by simp[aa,h]
 rw[this];exact bY h
theorem DI{sz:Nat}{asq:List (List AV)}(h:asq.all (fun a=>aF a.length sz)=true)(i:Nat)(hi:i<asq.length):(asq.getD i []).length=sz:=by
 rw[bH]at h
 exact aC (h _ (j1 asq i hi))
theorem ml(f:Nat->Option Ob):∀(l r:List (Nat×Option Ob)),cx f (l++r)=cx (cx f l) r
 |[],r=>rfl
 |(o,c)::l,r=>by show cx (cr f o c) (l++r)=_;rw[ml (cr f o c) l r];rfl
theorem uo(g:cZ n A s a w M β){T:ep}(hT:cT P T)(o:Oper)(t m:Nat)(ps:Array (Nat×Operand))(ho:o.op=.buildSlice t m ps) :
 (dI T (ev s) s.ob o).holds fun d=>dB s n o.dst d=true->Step P n A o a w (s.app o.dst d):=by
 unfold dI
 rw[ho]
 refine DR.aT fun hkn=>?_
 split
 ·rename_i el d hk hd
  refine DR.aT fun hel=>?_
  split
  ·rename_i asq os hf
   refine DR.aT fun hq=>?_
   simp only[au]at hq
   obtain⟨⟨⟨hq1,hq2⟩,hq3⟩,hq4⟩:=hq
   intro hn
   obtain⟨M',hM,g'⟩:=g.freeze os
   obtain⟨l1,l2⟩:=yB hf g'.fz
   have hlen:asq.length=ps.toList.length:=by rw[l1];simp
   have hps:ps.toList.map (·.1)=bc m:=by simpa using hq1
   have hm:ps.toList.length=m:=by have:=congrArg dX hps;simpa using this
   obtain⟨i,z,hi,hs,hb,hz,hcr,hsz⟩:=(hT el hel).sU (M:=M') (β:=dk)
   have hsl:=DI hq3
   have hpart:∀i,i<ps.toList.length->∃p∈ps.toList,ps.toList[i]?=some p/\(a.eval p.2).cells.size=(T el).sz/\(∀j,j<(T el).sz->bo M' dk ((asq.getD i []).getD j .any) ((a.eval p.2).cells.getD j undef))/\∀u,u∈(a.eval p.2).cells->u.oneCell'=true:=by
    intro i hi
    have hp:ps.toList[i]?=some ps.toList[i]:=aV hi
    refine⟨ps.toList[i],bY hi,hp,?_⟩
    obtain⟨os',z1,z2⟩:=l2 i (by simpa using hi)
    have e1:(List.map (fun p=>ev s p.2) ps.toList).getD i .any=ev s (ps.toList[i]).2:=by simp[aa,hi,hp]
    rw[e1]at z1
    have h1:mV (ev s (ps.toList[i]).2)=true:=(bH.1 hq4) _ (bY hi)
    have f:=mj ((g.ev (ps.toList[i]).2).mono hM (Lo.le.refl _)) h1
    obtain⟨y1,y2⟩:=pE (M:=M') (β:=β) (w:=w) (ob:=s.ob) (fun c a' os v=>gA eh c a' os v) _ _ _ z1 z2
    have hls:=hsl i (by omega)
    refine⟨by rw[f.1,<-y1,hls],fun j hj=>y2 j _ (by omega) (f.2.1 j (by omega)),f.2.2⟩
   have hL:(ps.toList.map fun p=>(p.1,a.eval p.2)).map (·.1)=List.range' 0 (ps.toList.map fun p=>(p.1,a.eval p.2)).length:=by
    rw[List.map_map,cg,hm,<-List.range_eq_range']
    exact hps
   have hsz':∀p,p∈(ps.toList.map fun p=>(p.1,a.eval p.2))->p.2.cells.size=(T el).sz:=by
    intro p hp
    obtain⟨q,hq,rfl⟩:=bD.1 hp
    obtain⟨i,hi,rfl⟩:=List.getElem_of_mem hq
    obtain⟨p',_,e,h,_⟩:=hpart i hi
    rw[aV hi]at e
    cases e;exact h
   have zsz:((Array.range (m*(T el).sz)).map (z.cells[· % z.cells.size]!)).size=m*(T el).sz:=by simp
   obtain⟨vs',f1,f2,f3,f4,f5⟩:=uL (T el).sz (ps.toList.map fun p=>(p.1,a.eval p.2)) 0 ((Array.range (m*(T el).sz)).map (z.cells[· % z.cells.size]!)) hL hsz' (by rw[zsz];simp[hm])
   have hrun:(Instr.buildSlice t m (ps.map fun(i,x)=>(i,a.eval x))).run P w=.ok (.slice (some ⟨w.heap.size,0,none⟩) m m) (w.alloc (.cells vs' el)):=by
    have e1:(ps.map fun(i,x)=>(i,a.eval x)).toList=ps.toList.map fun p=>(p.1,a.eval p.2):=by simp
    by_cases h0:m*i.size=0
    ·have h0':m*(T el).sz=0:=by rw[<-hs];exact h0
     have:(Array.range (m*(T el).sz)).map (z.cells[· % z.cells.size]!)=(Array.range 0).map (fun _=>default):=by
      rw[h0'];simp[Array.range_zero']
     rw[this]at f1
     simp only[<-hs]at f1
     simp[Instr.buildSlice,run_underlying ((hT t hkn).slice hk),sizeOf,typeInfo,hi,h0,e1,newRow]
     rw[f1]
     simp
    ·refine run_buildSlice w t el m _ vs' i z ((hT t hkn).slice hk) hi hz ?_ h0 ?_
     ·have:=aN hq2;rw[<-hs]at this;omega
     ·rw[e1,hs];exact f1
   have key:∀i j,i<asq.length->j<(T el).sz->bo M' dk ((asq.getD i []).getD j .any) (vs'.getD (i*(T el).sz+j) undef):=by
    intro i j hi hj
    obtain⟨p,_,e,_,h,_⟩:=hpart i (by omega)
    have:=f4 i j (by simp only[cg];omega) hj
    rw[aR]at this
    rw[this]
    have e2:(ps.toList.map fun p=>(p.1,a.eval p.2)).getD i (0,undef)=(p.1,a.eval p.2):=by simp[aa,e]
    rw[e2]
    exact h j hj
   have ones:∀u,u∈vs'->u.oneCell'=true:=by
    intro u hu
    rcases f5 u hu with h|⟨p,hp,h⟩
    ·simp only[Array.mem_map,Array.mem_range]at h
     obtain⟨j,hj,rfl⟩:=h
     by_cases h0:z.cells.size=0
     ·exfalso;rw[<-hs,show i.size=0 by rw[hs,<-hsz];exact h0]at hj;simp at hj
     ·have:j%z.cells.size<z.cells.size:=dR _ (by omega)
      rw[getElem!_pos z.cells _ this]
      exact hcr.2.2 _ (Array.getElem_mem this)
    ·obtain⟨q,hq,rfl⟩:=bD.1 hp
     obtain⟨i,hi,rfl⟩:=List.getElem_of_mem hq
     obtain⟨p',_,e,_,_,h'⟩:=hpart i hi
     rw[aV hi]at e
     cases e;exact h' u h
   have hn':dB {s with ob:=cx s.ob (fw s.ob os)} n o.dst {val:=.vec d,cr:=[(d,some (.vec (T el).sz asq))],rd:=[],new:=[d]}=true:=hn
   have hlm:asq.length=m:=by omega
   have st:=j6 (P:=P) (w1:=w) g' (d:=d) (sz:=(T el).sz) (c:=asq.length) (es:=asq) (vs:=vs') (e:=el) rfl rfl rfl rfl (aq _) hsl (by rw[f2,zsz,hlm];exact aq _) key ones (by
    rw[hlm]
    simp[execOp,ho,hrun]) (u:=[(d,some (.vec (T el).sz asq))]) (rd:=[]) none (fun o h=>by cases h) rfl hn'
   have e:s.app o.dst {val:=.vec d,cr:=fw s.ob os++[(d,some (.vec (T el).sz asq))],new:=[d]}=St.app {s with ob:=cx s.ob (fw s.ob os)} o.dst {val:=.vec d,cr:=[(d,some (.vec (T el).sz asq))],rd:=[],new:=[d]}:=by
    unfold St.app
    simp only[ml]
   rw[e]
   exact st
  ·trivial
 ·trivial
theorem uH(g:cZ n A s a w M β){T:ep}(hT:cT P T)(o:Oper)(t:Nat)(l c:Operand)(ho:o.op=.makeSlice t l c) :
 (dI T (ev s) s.ob o).holds fun d=>dB s n o.dst d=true->Step P n A o a w (s.app o.dst d):=by
 unfold dI
 rw[ho]
 refine DR.aT fun hkn=>?_
 have hl:=g.ev l
 split
 ·rename_i el d k m hk hd e
  rw[e]at hl
  have hlv:=dA hl
  refine DR.aT fun hel=>?_
  rw[au]at hel
  obtain⟨hel,hpos⟩:=hel
  have hpos:0<(T el).bytes:=aN hpos
  cases hsame:wy l c with
  |false=>simp only[cond_false];trivial
  |
   true =>
   simp only[cond_true]
   have hcv:∃k',a.eval c=.int k' m:=by
    unfold wy at hsame
    split at hsame
    ·have:=aC hsame
     subst this;exact⟨k,hlv⟩
    ·rename_i k1 p k2 q
     have:p=q:=by simpa using hsame
     subst this
     have:a.eval (.const (.int k1 p))=.int k1 p:=rfl
     rw[this]at hlv
     cases hlv;exact⟨k2,rfl⟩
    ·cases hsame
   obtain⟨k',hcv⟩:=hcv
   intro⟨h0,hb⟩ hn
   obtain⟨i,z,hi,hs,hby,hz,hcr,hsz⟩:=(hT el hel).sU (M:=M) (β:=dk)
   have hbytes:(i.bytes:Int)*m<=281474976710656:=by rw[hby,Int.mul_comm];omega
   have h63:m<=9223372036854775807:=by
    have:m*1<=m*((T el).bytes:Int):=Int.mul_le_mul_of_nonneg_left (by omega) h0
    omega
   have hr:=run_make (P:=P) w t el i z ((hT t hkn).slice hk) hi hz k k' m m h0 (Int.le_refl _) hbytes h63
   have hlen:(List.replicate m.toNat (jh (T el))).length=m.toNat:=by simp
   have hzl:(jh (T el)).length=(T el).sz:=by simp[jh,TI.sz]
   have hget:∀q,q<m.toNat->(List.replicate m.toNat (jh (T el))).getD q []=jh (T el):=fun q hq=>by simp[aa,hq]
   refine j6 (P:=P) (w1:=w) g (d:=d) (sz:=(T el).sz) (c:=m.toNat) (es:=List.replicate m.toNat (jh (T el))) (vs:=madeCells z.cells (m.toNat*i.size)) (e:=el) rfl rfl rfl rfl (by rw[hlen];exact aq _)
    (fun q hq=>by rw[hlen]at hq;rw[hget q hq,hzl]) (by rw[size_madeCells,hs];exact aq _) (fun q j hq hj=>?_) (fun u hu=>?_) (by rw[hlen];simp[execOp,ho,hlv,hcv,hr]) none (fun o h=>by cases h) rfl hn
   ·rw[hlen]at hq
    rw[hget q hq]
    have hlt:q*(T el).sz+j<m.toNat*i.size:=by
     have:q*(T el).sz+(T el).sz<=m.toNat*(T el).sz:=by rw[<-cR];exact aS _ hq
     rw[hs];omega
    have e:(madeCells z.cells (m.toNat*i.size)).getD (q*(T el).sz+j) undef=z.cells.getD j undef:=by
     have hj':j<z.cells.size:=by omega
     simp[madeCells,hlt,hsz,Oe hj]
     rw[getElem!_pos z.cells _ hj'];simp[hj']
    rw[e]
    exact hcr.2.1 j (by omega)
   ·simp only[madeCells,Array.mem_map,Array.mem_range]at hu
    obtain⟨j,hj,rfl⟩:=hu
    by_cases h0:z.cells.size=0
    ·exfalso;rw[hs,<-hsz,h0]at hj;simp at hj
    ·have:j%z.cells.size<z.cells.size:=dR _ (by omega)
     rw[getElem!_pos z.cells _ this]
     exact hcr.2.2 _ (Array.getElem_mem this)
 ·trivial
theorem BY{es fs:List (List AV)}{sz:Nat}{vs:Array Value}{old us:Nat->Value}(hs:∀i,i<es.length->(es.getD i []).length=sz)(hf:cI sz fs)
 (ho:∀i,i<es.length*sz->vs.getD i undef=old i) (hu:∀i,i<fs.length*sz->vs.getD (es.length*sz+i) undef=us i)
 (r1:∀i j,i<es.length->j<sz->bo M dk ((es.getD i []).getD j .any) (old (i*sz+j))) (r2:∀i j,i<fs.length->j<sz->bo M dk ((fs.getD i []).getD j .any) (us (i*sz+j))) :
 (∀i,i<(es++fs).length->((es++fs).getD i []).length=sz)/\∀i j,i<(es++fs).length->j<sz->bo M dk (((es++fs).getD i []).getD j .any) (vs.getD (i*sz+j) undef):=by
 have g1:∀i,i<es.length->(es++fs).getD i []=es.getD i []:=fun i hi=>by rw[iV,if_pos hi]
 have g2:∀i,¬i<es.length->(es++fs).getD i []=fs.getD (i-es.length) []:=fun i hi=>by rw[iV,if_neg hi]
 constructor
 ·intro i hi
  by_cases h:i<es.length
  ·rw[g1 i h];exact hs i h
  ·rw[g2 i h];exact hf _ (j1 fs _ (by simp at hi;omega))
 ·intro i j hi hj
  by_cases h:i<es.length
  ·rw[g1 i h,ho _ (cX (Nat.add_lt_add_left hj _) (by rw[<-cR];exact aS _ h))]
   exact r1 i j h hj
  ·have hi':i-es.length<fs.length:=by simp at hi;omega
   rw[g2 i h]
   have e:i*sz+j=es.length*sz+((i-es.length)*sz+j):=by
    rw[<-Nat.add_assoc,<-Nat.add_mul,show es.length+(i-es.length)=i by omega]
   rw[e,hu _ (cX (Nat.add_lt_add_left hj _) (by rw[<-cR];exact aS _ hi'))]
   exact r2 _ j hi' hj
theorem mZ{z:Value}(h:∀u,u∈z.cells->u.oneCell'=true)(k:Nat):∀u,u∈Builtin.zeroCells z.cells k->u.oneCell'=true:=by
 intro u hu
 simp only[Builtin.zeroCells,Array.mem_map,Array.mem_range]at hu
 obtain⟨j,hj,rfl⟩:=hu
 by_cases h0:z.cells.size=0
 ·exfalso;rw[h0]at hj;simp at hj
 ·have:j%z.cells.size<z.cells.size:=dR _ (by omega)
  rw[getElem!_pos z.cells _ this]
  exact h _ (Array.getElem_mem this)
theorem gL{o:Oper}{x y:Operand}{t:Nat}(ho:o.op=.call ⟨.builtin .append,#[x,y],#[t,t]⟩){v:Value}{w':World}(h:(Builtin.append_ #[t,t] o.type #[a.eval x,a.eval y]).run P w=.ok v w') :
 (execOp a.eval o).run P w=.ok (.value v) w':=by
 obtain⟨_,e⟩:=jm (P:=P) (a:=a) (w:=w) ho
 rw[e];simp[builtin,h]
theorem wh{fs:List (List AV)}{sz b off c:Nat}{us:Nat->Value}(h3:∀i,i<fs.length*sz->w.cell? ⟨b,off+i,none⟩=some (us i)) :
 ((bc (fs.length*sz)).map us).length=fs.length*sz/\∀j v,((bc (fs.length*sz)).map us)[j]?=some v->w.cell? ((⟨b,off,none⟩:Addr).add j)=some v:=by
 refine⟨by simp,fun j v h=>?_⟩
 rw[jI]
 simp only[List.getElem?_map]at h
 by_cases hj:j<fs.length*sz
 ·rw[List.getElem?_range hj]at h
  cases h;exact h3 j hj
 ·rw[List.getElem?_eq_none (by simp;omega)]at h;cases h
theorem tX{vs:List Value}{z:Array Value}{m:Nat}(i:Nat)(hi:i<vs.length):(vs.toArray++z).getD i undef=vs.getD i undef:=by
 simp[aa,Array.getElem?_append,hi]
theorem append_nil(g:cZ n A s a w M β){T:ep}(hT:cT P T)(o:Oper){x y:Operand}{t el d sz:Nat}(ho:o.op=.call ⟨.builtin .append,#[x,y],#[t,t]⟩)(hkn:(T t).kn=true)(hk:(T t).k=.slice el)(hel:(T el).kn=true)(hpos:0<(T el).bytes)(hz:sz=(T el).sz)
 {fs:List (List AV)} (hv:a.eval x=.slice none 0 0) (hy:Em w M fs (a.eval y)) (hf:cI sz fs) (hb:fs.length*(T el).bytes<=140737488355328)
 (k:Option Nat) (hkk:∀o,k=some o->∃x,s.ob o=some x/\x.live=true) {u:List (Nat×Option Ob)} {rd:List Nat} (hu:cx s.ob u=cr (kill k s.ob) d (some (.vec sz fs)))
 (hn:dB s n o.dst {val:=.vec d,cr:=u,rd:=rd,new:=[d]}=true):Step P n A o a w (s.app o.dst {val:=.vec d,cr:=u,rd:=rd,new:=[d]}):=by
 have hd:=qh hn rfl
 obtain⟨i,z,hi,hs,hby,hzz,hcr,hsz⟩:=(hT el hel).sU (M:=M) (β:=dk)
 have ht:=(hT t hkn).slice hk
 by_cases hne:fs.length=0
 ·
  have e0:fs=[]:=List.length_eq_zero_iff.1 hne
  subst e0
  have hr:(Builtin.append_ #[t,t] o.type #[a.eval x,a.eval y]).run P w=.ok (.slice none 0 0) w:=by
   rcases hy with⟨hy,_⟩|⟨b,off,c,sz',us,hy,_⟩
   ·simp[hv,hy,Builtin.append_,run_underlying ht,sizeOf,typeInfo,hi,Builtin.lenOf,Builtin.firstCells]
   ·have hl:=run_loadCells (P:=P) w ⟨b,off,none⟩ 0 us (fun j hj=>by omega)
    simp[hv,hy,Builtin.append_,run_underlying ht,sizeOf,typeInfo,hi,Builtin.lenOf,Builtin.firstCells,hl]
  have g':=g.fresh hd k hkk (w':=w) rfl rfl rfl (aq _) (fun b hb _=>rfl) (.vec (.slice none 0 0) sz) (.vec sz [])
   ⟨_,aL _ _ _,fun i hi=>by simp at hi,.inl ⟨rfl,rfl⟩⟩ (fun b hb=>by simp[Loc.block]at hb)
  refine Step.val (M':=M) (β':=cr β d (some (.vec (.slice none 0 0) sz))) (gL ho hr) (.vec _ _ _ _ rfl (aL _ _ _)) hn ?_
  show cZ n A {s with ob:=cx s.ob u,us:=cr s.us d true} a _ M _
  rw[hu];exact g'
 ·rcases hy with⟨hy,rfl⟩|⟨b,off,c,sz',us,hy,h1,h2,h3,h4,h5⟩
  ·simp at hne
  ·have hsz':sz'=sz:=by rw[<-h2 0 (by omega)];exact hf _ (j1 fs 0 (by omega))
   subst hsz'
   obtain⟨n1,n2⟩:=wh (c:=c) h3
   have hbb:fs.length<=fs.length*(T el).bytes:=Nat.le_mul_of_pos_right _ hpos
   have hr:=run_append_nil (P:=P) w t o.type el i z ht hi hzz ⟨b,off,none⟩ fs.length c _ (by rw[n1,hs,hz]) n2 (by omega) (by omega) (by rw[hby];omega)
   rw[<-hv,<-hy]at hr
   have hge:=grownCap_ge w fs.length 0 el
   refine j6 (P:=P) (w1:=w.drew) g (sz:=sz') (es:=fs) rfl rfl rfl rfl hge (fun i hi=>h2 i hi) ?_ (fun q j hq hj=>?_) (fun u hu=>?_) (gL ho hr) k hkk hu hn
   ·simp only[Array.size_append,List.size_toArray,n1,size_zeroCells,hsz,<-hz]
    rw[<-Nat.add_mul,show fs.length+(grownCap w fs.length 0 el-fs.length)=grownCap w fs.length 0 el by omega]
    exact aq _
   ·have hlt:q*sz'+j<fs.length*sz':=cX (Nat.add_lt_add_left hj _) (by rw[<-cR];exact aS _ hq)
    rw[tX (m:=0) _ (by rw[n1];exact hlt),dQ _ _ _ hlt]
    exact h4 q j hq hj
   ·rcases Array.mem_append.1 hu with hu|hu
    ·simp only[List.mem_toArray,bD,List.mem_range]at hu
     obtain⟨j,hj,rfl⟩:=hu
     exact h5 j hj
    ·exact mZ hcr.2.2 _ u hu
end
end Go.VL
namespace Go.VL
open Go Go.RowKit
section
variable {P:Program} {M:Mem} {β:Lo} {w w':World} {n:Nat} {A:jP} {s:St} {a:Act}
theorem rX(w:World)(t ty e e':TypeId)(i:TypeInfo)(ht:P.underlying t=some (.slice e))(hi:P.info? e=some i)
 (g sLen sCap:Nat) (cur:Array Value) (hg:w.heap[g]?=some (.cells cur e' (0,0)))
 (a:Addr) (m c:Nat) (news:List Value) (hl:news.length=m*i.size) (hnews:∀j u,news[j]?=some u->w.cell? (a.add j)=some u) (h1:∀u∈news,u.oneCell'=true)
 (hroom:sLen+m<=sCap) (hfit:sLen*i.size+news.length<=cur.size) :
 (Builtin.append_ #[t,t] ty #[.slice (some ⟨g,0,none⟩) sLen sCap,.slice (some a) m c]).run P w =
  .ok (.slice (some ⟨g,0,none⟩) (sLen+m) sCap) (w.setRow g (cur.toList.take (sLen*i.size)++news++cur.toList.drop (sLen*i.size+news.length)).toArray):=by
 have hf:=run_firstCells_some (P:=P) w i.size m a m c news hl hnews
 have hst:=run_storeCells_at P g (sLen*i.size) e' news 0 cur w hg (by simpa using hfit) h1
 simp only[bM]at hst
 simp[Builtin.append_,run_underlying ht,sizeOf,typeInfo,hi,Builtin.lenOf,hroom,hf,jI,hst]
theorem wS(g:cZ n A s a w M β){T:ep}(hT:cT P T)(o:Oper){x y:Operand}{t el d m sz:Nat}(ho:o.op=.call ⟨.builtin .append,#[x,y],#[t,t]⟩)(hkn:(T t).kn=true)(hk:(T t).k=.slice el)(hel:(T el).kn=true)(hpos:0<(T el).bytes)(hz:sz=(T el).sz)
 {es fs:List (List AV)} (hx:ev s x=.vec m) (hm:s.ob m=some (.vec sz es)) (hy:Em w M fs (a.eval y)) (hf:cI sz fs) (hb:(es.length+fs.length)*(T el).bytes<=140737488355328) {rd:List Nat}
 (hn:dB s n o.dst {val:=.vec d,cr:=[(m,none),(d,some (.vec sz (es++fs)))],rd:=rd,new:=[d]}=true):Step P n A o a w (s.app o.dst {val:=.vec d,cr:=[(m,none),(d,some (.vec sz (es++fs)))],rd:=rd,new:=[d]}):=by
 have hd:=qh hn rfl
 have hrx:=g.ev x
 rw[hx]at hrx
 obtain⟨v,q1,q2,q3⟩:=g.own m _ hm
 have hv:a.eval x=v:=by
  generalize a.eval x=v' at hrx
  cases hrx with|vec _ _ _ sz' hov hb=>rw[q1]at hb;cases hb;rfl
 have hkk:∀o,some m=some o->∃x,s.ob o=some x/\x.live=true:=fun o h=>by cases h;exact⟨_,hm,rfl⟩
 rcases q3 with⟨rfl,rfl⟩|⟨b,off,c,vs,e,rfl,q4,q5,q6,q7,q8,rfl,q10⟩
 ·exact append_nil g hT o ho hkn hk hel hpos hz hv hy hf (by simpa using hb) (some m) hkk rfl hn
 ·obtain⟨i,z,hi,hs,hby,hzz,hcr,hsz⟩:=(hT el hel).sU (M:=M) (β:=dk)
  have ht:=(hT t hkn).slice hk
  have hcc:es.length*sz<=c*sz:=aS _ q4
  have hbm:dN β m=some b:=by simp[dN,q1,Loc.block]
  have stay:∀(w':World) (vs':Array Value) (c':Nat) (us:Nat->Value),(w'=w/\vs'=vs\/w'=w.setRow b vs')->(execOp a.eval o).run P w=.ok (.value (.slice (some ⟨b,0,none⟩) (es++fs).length c')) w'->(es++fs).length<=c'->c'*sz<=vs'.size ->
   (∀i,i<es.length*sz->vs'.getD i undef=vs.getD (0+i) undef)->(∀i,i<fs.length*sz->vs'.getD (es.length*sz+i) undef=us i)->(∀i j,i<fs.length->j<sz->bo M dk ((fs.getD i []).getD j .any) (us (i*sz+j))) ->
   (∀u,u∈vs'->u.oneCell'=true)->Step P n A o a w (s.app o.dst {val:=.vec d,cr:=[(m,none),(d,some (.vec sz (es++fs)))],rd:=rd,new:=[d]}):=by
   intro w' vs' c' us hw hr hlc hcs hold hnew hus hone
   have hblk:w'.heap[b]?=some (.cells vs' e (0,0)):=by
    rcases hw with⟨rfl,rfl⟩|rfl
    ·exact q5
    ·exact setRow_heap w b vs vs' e (0,0) q5
   have hoth:∀b',b'≠b->w'.heap[b']?=w.heap[b']?:=by
    rcases hw with⟨rfl,rfl⟩|rfl
    ·exact fun _ _=>rfl
    ·exact fun b' hne=>setRow_other w b b' vs' hne
   have hsame:w'.os=w.os/\w'.tape=w.tape/\w'.output=w.output/\w.heap.size<=w'.heap.size:=by
    rcases hw with⟨rfl,rfl⟩|rfl
    ·exact⟨rfl,rfl,rfl,aq _⟩
    ·exact⟨rfl,rfl,rfl,by simp⟩
   obtain⟨v1,v2⟩:=BY (M:=M) (es:=es) (fs:=fs) (sz:=sz) (vs:=vs') (old:=fun i=>vs.getD (0+i) undef) (us:=us) q2 hf hold hnew (fun i j hi hj=>q7 i j hi hj) hus
   have g':=g.fresh hd (some m) hkk (w':=w') hsame.1 hsame.2.1 hsame.2.2.1 hsame.2.2.2 (fun b' _ h=>hoth b' fun e=>h m rfl (by rw[e];exact hbm)) (.vec (.slice (some ⟨b,0,none⟩) (es++fs).length c') sz) (.vec sz (es++fs))
    ⟨_,aL _ _ _,v1,.inr ⟨b,0,c',vs',e,rfl,hlc,hblk,by simpa using hcs,fun i j hi hj=>by rw[aR];exact v2 i j hi hj,q8,rfl,hone⟩⟩ (fun b' hb'=>.inr ⟨m,rfl,by simp[Loc.block]at hb';rw[<-hb'];exact hbm⟩)
   exact Step.val (M':=M) (β':=cr β d (some (.vec (.slice (some ⟨b,0,none⟩) (es++fs).length c') sz))) hr (.vec _ _ _ _ rfl (aL _ _ _)) hn g'
  rcases hy with⟨hy,rfl⟩|⟨b',off',c',sz',us,hy,h1,h2,h3,h4,h5⟩
  ·refine stay w vs c (fun _=>undef) (.inl ⟨rfl,rfl⟩) (gL ho ?_) (by simpa using q4) (by simpa using q6) (fun i _=>by rw[aR]) (fun i hi=>by simp at hi) (fun i j hi=>by simp at hi) q10
   simp[hv,hy,Builtin.append_,run_underlying ht,sizeOf,typeInfo,hi,Builtin.lenOf,Builtin.firstCells,q4,storeCells]
  ·by_cases hne:fs.length=0
   ·have e0:fs=[]:=List.length_eq_zero_iff.1 hne
    subst e0
    refine stay w vs c (fun _=>undef) (.inl ⟨rfl,rfl⟩) (gL ho ?_) (by simpa using q4) (by simpa using q6) (fun i _=>by rw[aR]) (fun i hi=>by simp at hi) (fun i j hi=>by simp at hi) q10
    have hl:=run_loadCells (P:=P) w ⟨b',off',none⟩ 0 us (fun j hj=>by omega)
    simp[hv,hy,Builtin.append_,run_underlying ht,sizeOf,typeInfo,hi,Builtin.lenOf,Builtin.firstCells,q4,hl,storeCells]
   ·have hsz':sz'=sz:=by rw[<-h2 0 (by omega)];exact hf _ (j1 fs 0 (by omega))
    subst hsz'
    obtain⟨n1,n2⟩:=wh (c:=c') h3
    have hbb:es.length+fs.length<=(es.length+fs.length)*(T el).bytes:=Nat.le_mul_of_pos_right _ hpos
    have h1c:∀u,u∈(bc (fs.length*sz')).map us->u.oneCell'=true:=fun u hu=>by
     simp only[bD,List.mem_range]at hu
     obtain⟨j,hj,rfl⟩:=hu
     exact h5 j hj
    by_cases hroom:es.length+fs.length<=c
    ·have hfit:es.length*sz'+fs.length*sz'<=vs.size:=by
      have:(es.length+fs.length)*sz'<=c*sz':=aS _ hroom
      rw[Nat.add_mul]at this;omega
     have hr:=rX (P:=P) w t o.type el e i ht hi b es.length c vs q5 ⟨b',off',none⟩ fs.length c' _ (by rw[n1,hs,hz]) n2 h1c hroom (by rw[n1,hs,<-hz];exact hfit)
     rw[<-hy,<-hv,hs,<-hz]at hr
     have vl:es.length*sz'+((bc (fs.length*sz')).map us).length<=vs.toList.length:=by rw[n1];simpa using hfit
     refine stay _ (iA vs.toList (es.length*sz') ((bc (fs.length*sz')).map us)).toArray c us (.inr rfl) (gL ho ?_) (by simpa using hroom) ?_ (fun i hi=>?_) (fun i hi=>?_) h4 (fun u hu=>?_)
     ·rw[hr,ak];rfl
     ·rw[List.size_toArray,ke _ _ _ vl];simpa using q6
     ·rw[lu,j0 _ _ _ vl,if_neg (by omega),eC,aR]
     ·rw[lu,j0 _ _ _ vl,if_pos (by rw[n1];omega),show es.length*sz'+i-es.length*sz'=i by omega,dQ _ _ _ hi]
     ·rcases nh (by simpa using hu)with hu|hu
      ·exact q10 u (by simpa using hu)
      ·exact h1c u hu
    ·
     have holdlen:∀i,i<es.length*sz'->w.cell? ⟨b,0+i,none⟩=some (vs.getD (0+i) undef):=fun i hi=>cell_of q5 _ (by omega)
     obtain⟨m1,m2⟩:=wh (c:=c) (fs:=es) (sz:=sz') (us:=fun i=>vs.getD (0+i) undef) holdlen
     have hr:=run_append_grow (P:=P) w t o.type el i z ht hi hzz ⟨b,0,none⟩ es.length c _ (by rw[m1,hs,hz]) m2 ⟨b',off',none⟩ fs.length c' _ (by rw[n1,hs,hz]) n2 (by omega) (by omega)
      (by rw[hby];exact growslice_fits (by omega) hb)
     rw[<-hy,<-hv,<-ak]at hr
     have hge:=grownCap_ge w (es++fs).length c el
     have hl1:((bc (es.length*sz')).map fun i=>vs.getD (0+i) undef).toArray++((bc (fs.length*sz')).map us).toArray=(((bc (es.length*sz')).map fun i=>vs.getD (0+i) undef)++(bc (fs.length*sz')).map us).toArray:=by simp
     rw[hl1]at hr
     have ln:(((bc (es.length*sz')).map fun i=>vs.getD (0+i) undef)++(bc (fs.length*sz')).map us).length=es.length*sz'+fs.length*sz':=by rw[ak,m1,n1]
     obtain⟨v1,v2⟩:=BY (M:=M) (es:=es) (fs:=fs) (sz:=sz') (vs:=(((bc (es.length*sz')).map fun i=>vs.getD (0+i) undef)++(bc (fs.length*sz')).map us).toArray++Builtin.zeroCells z.cells (grownCap w (es++fs).length c el-(es++fs).length)) (old:=fun i=>vs.getD (0+i) undef) (us:=us) q2 hf
      (fun i hi=>by rw[tX (m:=0) _ (by rw[ln];omega),iV,if_pos (by rw[m1];exact hi),dQ _ _ _ hi]) (fun i hi=>by rw[tX (m:=0) _ (by rw[ln];omega),iV,if_neg (by rw[m1];omega),m1,show es.length*sz'+i-es.length*sz'=i by omega,dQ _ _ _ hi])
      (fun i j hi hj=>q7 i j hi hj) h4
     refine j6 (P:=P) (w1:=w.drew) g (sz:=sz') (es:=es++fs) rfl rfl rfl rfl hge v1 ?_ v2 (fun u hu=>?_) (gL ho hr) (some m) hkk rfl hn
     ·simp only[Array.size_append,List.size_toArray,ln,size_zeroCells,hsz,<-hz]
      rw[<-Nat.add_mul,<-Nat.add_mul,<-ak,show (es++fs).length+(grownCap w (es++fs).length c el-(es++fs).length)=grownCap w (es++fs).length c el by omega]
      exact aq _
     ·rcases Array.mem_append.1 hu with hu|hu
      ·rw[List.mem_toArray]at hu
       rcases aH.1 hu with hu|hu
       ·simp only[bD,List.mem_range]at hu
        obtain⟨j,hj,rfl⟩:=hu
        exact kL q10 _ (by omega)
       ·exact h1c u hu
      ·exact mZ hcr.2.2 _ u hu
theorem AS(g:cZ n A s a w M β){T:ep}(hT:cT P T)(o:Oper)(xs:Array Operand)(ts:Array TypeId)(ho:o.op=.call ⟨.builtin .append,xs,ts⟩) :
 (dI T (ev s) s.ob o).holds fun d=>dB s n o.dst d=true->Step P n A o a w (s.app o.dst d):=by
 unfold dI
 rw[ho]
 simp only
 split
 ·rename_i x y t t' d hxs hts hd
  have ex:xs = #[x,y]:=by rw[<-Array.toArray_toList (xs:=xs),hxs]
  have et:ts = #[t,t']:=by rw[<-Array.toArray_toList (xs:=ts),hts]
  subst ex;subst et
  refine DR.aT fun hq=>?_
  rw[au]at hq
  obtain⟨hkn,htt⟩:=hq
  obtain rfl:=aC htt
  have hx:=g.ev x
  have hy:=g.ev y
  split
  ·rename_i el p fs os hk hes
   refine DR.aT fun hq=>?_
   rw[au]at hq
   obtain⟨hel,hpos⟩:=hq
   have hpos:0<(T el).bytes:=aN hpos
   split
   ·rename_i m e
    split
    ·rename_i sz es hm
     refine DR.aT fun hz=>DR.gr fun hp=>?_
     intro⟨hf,hb⟩ hn
     have hsl:=kW g.own g.agree hy hes hp
     have hz:=aC hz
     subst hz
     exact wS g hT o ho hkn hk hel hpos rfl e hm hsl hf hb hn
    ·trivial
   ·rename_i e
    rw[e]at hx
    refine DR.gr fun hp=>?_
    intro⟨hf,hb⟩ hn
    have hsl:=kW g.own g.agree hy hes hp
    exact append_nil g hT o ho hkn hk hel hpos rfl (dA hx) hsl hf hb none (fun o h=>by cases h) rfl hn
   ·trivial
  ·trivial
 ·trivial
end
end Go.VL
namespace Go.VL
open Go Go.RowKit
section
variable {P:Program} {M:Mem} {β:Lo} {w w':World} {n:Nat} {A:jP} {s:St} {a:Act}
theorem Fj(g:cZ n A s a w M β){T:ep}(hT:cT P T)(o:Oper) :
 (dI T (ev s) s.ob o).holds fun d=>dB s n o.dst d=true->Step P n A o a w (s.app o.dst d):=by
 have quiet:(dI T (ev s) s.ob o).holds (Quiet (qD P M β o a w))->(dI T (ev s) s.ob o).holds fun d=>dB s n o.dst d=true->Step P n A o a w (s.app o.dst d):=fun h=>la g h
 have conv:∀(r:DR),dI T (ev s) s.ob o=r->r.holds (Quiet (qD P M β o a w))->(dI T (ev s) s.ob o).holds (Quiet (qD P M β o a w)):=fun r e h=>by rw[e];exact h
 cases ho:o.op with
 |move x=>exact quiet (conv _ (by unfold dI;rw[ho];try rfl) (AT g o x (.inl ho)))
 |assign x=>exact quiet (conv _ (by unfold dI;rw[ho];try rfl) (AT g o x (.inr ho)))
 |pick c x y=>exact quiet (conv _ (by unfold dI;rw[ho];try rfl) (F8 g o c x y ho))
 |binOp op t x y t'=>exact quiet (conv _ (by unfold dI;rw[ho];try rfl) (KN g hT o op t t' x y ho))
 |
  unOp op t x =>
  cases op with
  |not=>exact quiet (conv _ (by unfold dI;rw[ho];try rfl) (Kr g o t x ho))
  |neg=>exact quiet (conv _ (by unfold dI;rw[ho];try rfl) (Jr g o t x ho))
  |_=>unfold dI;rw[ho];trivial
 |nilCheck x=>exact quiet (conv _ (by unfold dI;rw[ho];try rfl) (H3 g o x ho))
 |fieldAddr t x f=>exact quiet (conv _ (by unfold dI;rw[ho];try rfl) (vu g hT o t f x ho))
 |field t x f=>exact quiet (conv _ (by unfold dI;rw[ho];try rfl) (B6 g hT o t f x ho))
 |load t x=>exact quiet (conv _ (by unfold dI;rw[ho];try rfl) (Gr g hT o t x ho))
 |indexAddr t x i=>exact quiet (conv _ (by unfold dI;rw[ho];try rfl) (uI g hT o t x i ho))
 |index t x i=>exact quiet (conv _ (by unfold dI;rw[ho];try rfl) (DE g hT o t x i ho))
 |extract x i=>exact quiet (conv _ (by unfold dI;rw[ho];try rfl) (yL g o x i ho))
 |
  slice t x lo hi mx =>
  cases mx with
  |none=>exact CV g hT o t x lo hi ho
  |some m=>unfold dI;rw[ho];trivial
 |convert st dt x=>exact quiet (zC g hT o st dt x ho)
 |build t ps=>exact quiet (Dp g hT o t ps ho)
 |alloc t=>exact C8 g hT o t ho
 |box t x=>exact HS g hT o t x ho
 |store t x y=>exact Dt g hT o t x y ho
 |buildSlice t m ps=>exact uo g hT o t m ps ho
 |makeSlice t l c=>exact uH g hT o t l c ho
 |
  call c =>
  obtain⟨callee,xs,ts⟩:=c
  cases callee with
  |
   builtin b =>
   cases b with
   |len=>exact quiet (HL g hT o xs ts ho)
   |append=>exact AS g hT o xs ts ho
   |max=>exact quiet (KZ g o xs ts ho)
   |min=>exact quiet (HD g o xs ts ho)
   |_=>unfold dI;rw[ho];trivial
  |_=>unfold dI;rw[ho];trivial
 |
  makeFunc f fs cs =>
  cases f with
  |func f=>exact quiet (wA g o f fs cs ho)
  |_=>unfold dI;rw[ho];trivial
 |_=>unfold dI;rw[ho];trivial
end
end Go.VL
namespace Go.VL
open Go
abbrev yO:String:="internal/strconv.uint64pow10"
structure ru(P:Program)(M:Mem)(w:World):Prop where
 is:Lib.TabIs P w yO .u64 Lib.pow10Tab
 kn:∃g v,P.globalNamed yO=some g/\M.c g 0=some v
def lV(P:Program)(A:jP):Prop:=ru P A.M0 A.w0/\∀b k v,A.M0.c b k=some v->¬A.uA b
theorem lV.at{P:Program}{A:jP}{M:Mem}{w:World}(h:lV P A)(hk:zu A w)(hM:A.M0.le M):ru P M w:=by
 obtain⟨⟨his,g,v,hg,hc⟩,hI⟩:=h
 refine⟨?_,g,v,hg,hM.c _ _ _ hc⟩
 unfold Lib.TabIs World.var? at his |-
 rw[hg]at his |-
 simp only[Option.bind_some]at his |-
 have hlt:g<A.w0.heap.size:=by
  rcases Nat.lt_or_ge g A.w0.heap.size with h|h
  ·exact h
  ·rw[Array.getElem?_eq_none h]at his;cases his
 rw[hk.block g hlt (hI _ _ _ hc)];exact his
theorem lV.of{P:Program}{A:jP}(h:ru P A.M0 A.w0)(hI:∀b k v,A.M0.c b k=some v->¬A.uA b):lV P A:=⟨h,hI⟩
end Go.VL
namespace Go.VL
open Go Go.RowKit
structure Out(w:World)(M:Mem)(β:Lo)(m:Nat)(r:AV)(obs:List Ob)(v:Value)(w':World)(M':Mem)(β':Lo):Prop where
 le:M.le M'
 agree:gV M' w'
 rep:bo M' β' r v
 own:∀j,j<obs.length->Own M' β' w' j (obs.getD j .dead)
 same:∀j b,j<m->β j=some (.cells b)->β' j=some (.cells b)
 BR:∀j l sz es,j<m->β j=some l->obs.getD j .dead=.mC sz es->β' j=some l
 apart:∀i j b,i≠j->i<obs.length->j<obs.length->(obs.getD i .dead).live=true->(obs.getD j .dead).live=true->dN β' i=some b->dN β' j≠some b
 place:∀j b,j<obs.length->(obs.getD j .dead).live=true->dN β' j=some b->w.heap.size<=b\/∃i,i<m/\dN β i=some b
 new:∀b k v,M'.c b k=some v->M.c b k=some v\/w.heap.size<=b\/∃i,i<m/\dN β i=some b
 cB:zu ⟨w,M,fun b=>∃i,i<m/\dN β i=some b,fun _=>none⟩ w'
def Kj(P:Program)(f:Nat):Prop:=∃fn,P.funcs[f]?=some fn/\fn.body.isNone=false/\(fn.name=="runtime.NumGoroutine")=false
structure In(w:World)(M:Mem)(β:Lo)(asq:List AV)(ins:List Ob)(vs:List Value):Prop where
 len:vs.length=asq.length
 rep:∀i,i<asq.length->bo M β (asq.getD i .any) (vs.getD i undef)
 agree:gV M w
 own:∀j,j<ins.length->Own M β w j (ins.getD j .dead)
 none:∀j,ins.length<=j->β j=none
 apart:∀i j b,i≠j->i<ins.length->j<ins.length->(ins.getD i .dead).live=true->(ins.getD j .dead).live=true->dN β i=some b->dN β j≠some b
def aB(P:Program)(f:Nat)(asq:List AV)(ins:List Ob)(R:AV->List Ob->Prop):Prop :=
 Kj P f/\∀w M β vs,ru P M w->In w M β asq ins vs->Calls P f vs.toArray w fun e w'=>∃v r obs M' β',e=.returned v/\R r obs/\Out w M β ins.length r obs v w' M' β'
def E4(n:Nat)(A:jP)(h:Shape)(xs:List AV)(obs:List Ob)(a:Act)(w:World):Prop:=∃s M β,cZ n A s a w M β/\wT h s=some (xs,obs)
def nF(P:Program)(c:Code)(Q:Exit->Act->World->Prop)(a:Act)(w:World):Prop :=
 ∀X:Act->World->Prop,(∀a w,c.wp P (Exit.then X Q) a w->X a w)->X a w
theorem nF.E9{P:Program}{c:Code}{Q:Exit->Act->World->Prop}{a:Act}{w:World}(h:c.wp P (Exit.then (nF P c Q) Q) a w):nF P c Q a w:=by
 intro X hX
 refine hX a w (Code.wp_mono (fun e a w q=>?_) h)
 cases e<;>first|exact q|exact q X hX
theorem nF.wp{P:Program}{c:Code}{Q:Exit->Act->World->Prop}{a:Act}{w:World}(h:nF P c Q a w):(Code.loop c).wp P Q a w:=by
 intro b k cs
 have key:=h (fun a w=>∃e a' w',Q e a' w'/\Arrives P (lone (b.at a (.code c::.inLoop c::k)) cs w) b k cs e a' w') (by
  intro a w h
  obtain⟨e,a₁,w₁,hq,harr⟩:=h b (.inLoop c::k) cs
  cases e with
  |
   normal =>
   obtain⟨e₂,a₂,w₂,hq₂,harr₂⟩:=hq
   exact⟨e₂,a₂,w₂,hq₂,.of_steps (Steps.trans harr (.one step_inLoop)) harr₂⟩
  |exit id=>exact⟨_,a₁,w₁,hq,.pass (x:=.inLoop c) rfl (fun _ _=>.inl (by simp)) harr⟩
  |goto l=>exact⟨_,a₁,w₁,hq,.pass (x:=.inLoop c) rfl (fun _ _=>.inl (by simp)) harr⟩
  |ret=>exact⟨_,a₁,w₁,hq,.pass (x:=.inLoop c) rfl (fun _ _=>.inl (by simp)) harr⟩
  |panic ch=>exact⟨_,a₁,w₁,hq,.pass (x:=.inLoop c) rfl (fun _ _=>.inl (by simp)) harr⟩
  |outgrown=>exact⟨_,a₁,w₁,hq,.pass (x:=.inLoop c) rfl (fun _ _=>.inl (by simp)) harr⟩)
 obtain⟨e,a',w',hq,harr⟩:=key
 exact⟨e,a',w',hq,.of_steps (.one step_loop) harr⟩
def Bq(n:Nat)(A:jP)(li:LI)(R:Nat->List AV->List Ob->Prop):Exit->Act->World->Prop
 | .exit i,a,w=>i=li.ex/\∃ys o,R 1 ys o/\E4 n A li.xs ys o a w
 | .ret,a,w=>∃ys o,R 2 ys o/\E4 n A li.rt ys o a w
 |_,_,_=>False
def cW(P:Program)(n:Nat)(c:Code)(li:LI)(xs:List AV)(obs:List Ob)(R:Nat->List AV->List Ob->Prop):Prop :=
 ∀A a w,lV P A->(∀o b,A.fix o=some b->o∈li.fx)->E4 n A li.hd xs obs a w->nF P c (Bq n A li R) a w
def eH(P:Program)(n:Nat):Tree->(Nat->List AV->List Ob->Prop)->Prop
 | .fail,_=>False
 | .done tag xs obs,Q=>Q tag xs obs
 | .test b y t,Q=>(b=true->eH P n y Q)/\(b=false->eH P n t Q)
 | .al p t,Q=>p/\eH P n t Q
 | .call f asq ins k,Q=>∃R,aB P f asq ins R/\(∃r obs,R r obs)/\∀r obs,R r obs->eH P n (k r obs) Q
 | .loop c li xs obs kx kr,Q=>∃R,cW P n c li xs obs R/\(∀ys o,R 1 ys o->eH P n (kx ys o) Q)/\∀ys o,R 2 ys o->eH P n (kr ys o) Q
def gu:List Prop->Prop
 |[]=>True
 |p::ps=>p/\gu ps
theorem gD{P:Program}{n:Nat}{Q:Nat->List AV->List Ob->Prop}:∀{ps:List Prop} {t:Tree},eH P n (nU ps t) Q↔gu ps/\eH P n t Q
 |[],t=>by simp[nU,gu]
 |p::ps,t=>by simp[nU,gu,eH,gD (ps:=ps),and_assoc]
section
variable {P:Program} {M:Mem} {β:Lo} {w w':World} {n:Nat} {A:jP} {s:St} {a:Act}
theorem nR{T:ep}(t:Nat){r:AV}{v:Value}{M':Mem}{β0 β':Lo}(h:bo M' β0 r v)(hh:oO (T t) r):bo M' β' (l0 (T t) r) v:=by
 unfold oO at hh
 unfold l0
 cases ha:(T t).agg with
 |
  true =>
  simp only[ha,cond_true]at hh |-
  obtain⟨h1,h2,h3⟩:=hh
  rw[h1]at h
  obtain⟨vs,rfl,hl,hr,ho⟩:=fJ h
  have hk:(T t).lk.length=r.cs.length:=h2.symm
  have e:vs=(bc (T t).lk.length).map fun i=>vs.getD i undef:=by
   apply List.ext_getElem
   ·simp[hk,hl]
   ·intro i h1 h2
    simp[aa,h1]
  rw[e]
  exact pC h3 (fun i hi=>ho i (by omega)) fun i hi=>km (by simpa using hr i (by omega)) (kp _ _ _ _ h3 hi)
 |
  false =>
  simp only[ha,cond_false]at hh |-
  exact LK.gR (km h hh) hh
theorem yn{T:ep}{oa:List CK}{M':Mem}{β0 β':Lo}{vs:List Value}{r:AV}:∀(ts:List Nat) (i j:Nat) (obs:List Ob) (nm:Nat),gu (ec T [] oa r ts i j obs nm).1->(∀q,q<ts.length->bo M' β0 (r.comp (i+q)) (vs.getD (i+q) undef)) ->
 (ec T [] oa r ts i j obs nm).2.2=[]/\(ec T [] oa r ts i j obs nm).2.1.length=ts.length/\∀q,q<ts.length->bo M' β' ((ec T [] oa r ts i j obs nm).2.1.getD q .any) (vs.getD (i+q) undef)
 |[],i,j,obs,nm,_,_=>⟨rfl,rfl,fun q hq=>by simp at hq⟩
 |
  t::ts,i,j,obs,nm,hp,hr=>by
  simp only[ec,List.any_nil,cond_false]at hp |-
  obtain⟨hp1,hp2⟩:=hp
  obtain⟨q1,q2,q3⟩:=yn (vs:=vs) (β':=β') ts (i+1) j obs nm hp2 fun q hq=>by
   have:=hr (q+1) (by simpa using hq)
   rw[show i+(q+1)=i+1+q by omega]at this
   exact this
  refine⟨q1,by simp[q2],fun q hq=>?_⟩
  cases q with
  |zero=>simpa using nR (β':=β') t (hr 0 (by simp)) hp1
  |
   succ q =>
   have:=q3 q (by simpa using hq)
   rw[show i+(q+1)=i+1+q by omega]
   simpa using this
theorem Df{T:ep}{ow:List LK}{oa:List CK}{M':Mem}{β0 β':Lo}{v:Value}{r:AV}(t j:Nat)(obs:List Ob)(nm:Nat)(hp:gu (dH T [] ow oa t r j obs nm).1)(hr:bo M' β0 r v) :
 (dH T [] ow oa t r j obs nm).2.2=[]/\bo M' β' (dH T [] ow oa t r j obs nm).2.1 v:=by
 have plain:(∀ts,(T t).k≠.tuple ts)->(dH T [] ow oa t r j obs nm)=([oO (T t) r],l0 (T t) r,[]):=fun h=>by
  unfold dH
  cases hk:(T t).k<;>first|rfl|exact absurd hk (h _)
 by_cases htu:∃ts,(T t).k=.tuple ts
 ·obtain⟨ts,hk⟩:=htu
  cases ts with
  |
   nil =>
   have e:dH T [] ow oa t r j obs nm=([],.any,[]):=by unfold dH;rw[hk]
   rw[e];exact⟨rfl,.any _ _⟩
  |
   cons t1 tl =>
   have e:dH T [] ow oa t r j obs nm=(let q:=ec T [] oa r (t1::tl) 0 j obs nm;((r=.cP ((bc (t1::tl).length).map r.comp))::q.1,.cP q.2.1,q.2.2)):=by unfold dH;rw[hk]
   rw[e]at hp |-
   obtain⟨hp1,hp2⟩:=hp
   rw[hp1]at hr
   have:∃vs:List Value,v=.tuple vs.toArray/\((bc (t1::tl).length).map r.comp).length=vs.length/\∀i,i<((bc (t1::tl).length).map r.comp).length->bo M' β0 (((bc (t1::tl).length).map r.comp).getD i .any) (vs.getD i undef):=by
    cases hr with|cP _ _ vs hl h=>exact⟨vs,rfl,hl,h⟩
   obtain⟨vs,rfl,hl,h⟩:=this
   simp only[cg,List.length_range]at hl h
   obtain⟨q1,q2,q3⟩:=yn (T:=T) (β':=β') (vs:=vs) (t1::tl) 0 j obs nm hp2 fun q hq=>by
    have:=h q hq
    rw[aR]
    have hq':q<tl.length+1:=by simpa using hq
    simpa[aa,List.getElem?_range hq']using this
   exact⟨q1,.cP _ _ _ (by rw[q2];exact hl) fun i hi=>by have:=q3 i (by omega);rw[aR]at this;exact this⟩
 ·rw[plain fun ts h=>htu ⟨ts,h⟩]at hp |-
  exact⟨rfl,nR t hr hp.1⟩
end
end Go.VL
namespace Go.VL
open Go Go.RowKit
section
variable {ob ob':Nat->Option Ob} {tm:Nat->AV}
theorem uE{f f':AV->Option (AV×List Nat)}(hf:∀c a os,f c=some (a,os)->(∀m,m∈os->ob' m=ob m)->f' c=some (a,os)):∀{cs asq:List AV} {os:List Nat},mF f cs=some (asq,os)->(∀m,m∈os->ob' m=ob m)->mF f' cs=some (asq,os)
 |[],asq,os,h,_=>h
 |
  c::cs,asq,os,h,hm=>by
  unfold mF at h
  split at h
  ·rename_i a1 o1 a2 o2 h1 h2
   cases h
   have q1:=hf _ _ _ h1 fun m h=>hm m (aA _ h)
   have q2:=uE hf h2 fun m h=>hm m (az _ h)
   simp[mF,q1,q2]
  ·cases h
theorem mc:∀(k:Nat) (c a:AV) (os:List Nat),freeze ob k c=some (a,os)->(∀m,m∈os->ob' m=ob m)->freeze ob' k c=some (a,os)
 |0,c,a,os,h,_=>by simp[freeze]at h
 |
  k+1,c,a,os,h,hm=>by
  have ih:=fun c a os=>mc k c a os
  unfold freeze at h |-
  cases c<;>first|exact h|skip
  ·rename_i cs
   simp only at h |-
   cases e:mF (freeze ob k) cs with
   |none=>rw[e]at h;cases h
   |
    some r =>
    rw[e]at h
    simp only[cy,Option.some.injEq,Prod.mk.injEq]at h
    obtain⟨rfl,rfl⟩:=h
    rw[uE ih (by rw[e]) hm];rfl
  ·rename_i o j
   cases j with
   |succ j=>exact h
   |
    zero =>
    simp only at h |-
    have key:∀cs,(ob o=some (.cells cs)\/ob o=some (.gO cs))->((mF (freeze ob k) cs).map fun r=>(AV.ptr r.1,o::r.2))=some (a,os)->ob' o=ob o/\(mF (freeze ob' k) cs).map (fun r=>(AV.ptr r.1,o::r.2))=some (a,os):=by
     intro cs _ h
     cases e:mF (freeze ob k) cs with
     |none=>rw[e]at h;cases h
     |
      some r =>
      rw[e]at h
      simp only[cy,Option.some.injEq,Prod.mk.injEq]at h
      obtain⟨rfl,rfl⟩:=h
      refine⟨hm o ag,?_⟩
      rw[uE ih (by rw[e]) fun m h=>hm m (ai _ h)];rfl
    split at h
    ·rename_i cs ho
     obtain⟨q1,q2⟩:=key cs (.inl ho) h
     rw[q1,ho];exact q2
    ·rename_i cs ho
     obtain⟨q1,q2⟩:=key cs (.inr ho) h
     rw[q1,ho];exact q2
    ·cases h
  ·rename_i o
   simp only at h |-
   split at h
   ·rename_i sz es ho
    cases h
    rw[hm o ag,ho]
   ·rename_i es ho
    cases h
    rw[hm o ag,ho]
   ·cases h
theorem Ec{c a:AV}(h:ext ob c=some a):ext ob' c=some a:=by
 unfold ext at h |-
 split at h
 ·rename_i a' h1
  cases h
  rw[mc (ob:=ob) (ob':=ob') eh c a [] h1 fun m hm=>by cases hm]
 ·cases h
theorem kU:∀(ks:List CK) {cs asq:List AV} {obs:List Ob} {os:List Nat} {j:Nat},bN ob ks cs j=some (asq,obs,os)->(∀m,m∈os->ob' m=ob m)->bN ob' ks cs j=some (asq,obs,os)
 |
  [],cs,asq,obs,os,j,h,hm=>by
  cases cs with
  |nil=>exact h
  |cons c cs=>simp[bN]at h
 |
  .lk k::ks,cs,asq,obs,os,j,h,hm=>by
  cases cs with
  |nil=>simp[bN]at h
  |
   cons c cs =>
   simp only[bN]at h |-
   split at h
   ·rename_i h1 h2;cases h;rw[Ec h1,kU ks h2 hm]
   ·cases h
 |
  .vec hsz::ks,cs,asq,obs,os,j,h,hm=>by
  cases cs with
  |nil=>simp[bN]at h
  |
   cons c cs =>
   cases c<;>first|(simp[bN]at h;done)|skip
   ·rename_i x
    cases x<;>first|(simp[bN]at h;done)|skip
    rename_i ad ln cp
    cases ad<;>first|(simp[bN]at h;done)|skip
    cases ln<;>first|(simp[bN]at h;done)|skip
    cases cp<;>first|(simp[bN]at h;done)|skip
    simp only[bN]at h |-
    split at h
    ·rename_i h2;cases h;rw[kU ks h2 fun m hh=>hm m (ai _ hh)]
    ·cases h
   ·simp only[bN]at h |-
    split at h
    ·rename_i h1 h2;cases h;rw[hm _ ag,h1,kU ks h2 fun m hh=>hm m (ai _ hh)]
    ·cases h
theorem xp:∀(cM:List (Nat×List CK)) {obs:List Ob} {os:List Nat},pT ob cM=some (obs,os)->(∀m,m∈os->ob' m=ob m)->pT ob' cM=some (obs,os)
 |[],obs,os,h,hm=>h
 |
  (o,ks)::r,obs,os,h,hm=>by
  simp only[pT]at h |-
  split at h
  ·rename_i cs ho
   split at h
   ·rename_i h1 h2
    cases h
    rw[hm o (by simp),ho]
    simp only
    rw[kU ks h1 fun m hh=>hm m (by simp[hh]),xp r h2 fun m hh=>hm m (by simp[hh])]
   ·cases h
  ·cases h
theorem tE:∀(vs:List (Nat×Nat)) {obs:List Ob} {os:List Nat},kC ob tm vs=some (obs,os)->(∀m,m∈os->ob' m=ob m)->kC ob' tm vs=some (obs,os)
 |[],obs,os,h,hm=>h
 |
  (t,sz)::r,obs,os,h,hm=>by
  simp only[kC]at h |-
  split at h
  ·split at h
   ·rename_i h2
    cases h
    rw[tE r h2 fun m hh=>hm m (ai _ hh)]
   ·cases h
  ·split at h
   ·rename_i h1 h2
    cases h
    rw[hm _ ag,h1,tE r h2 fun m hh=>hm m (ai _ hh)]
   ·cases h
  ·cases h
theorem xz:∀(ags:List (Nat×List CK)) {xs:List AV} {obs:List Ob} {os:List Nat},pQ ob tm ags=some (xs,obs,os)->(∀m,m∈os->ob' m=ob m)->pQ ob' tm ags=some (xs,obs,os)
 |[],xs,obs,os,h,hm=>h
 |
  (t,ks)::r,xs,obs,os,h,hm=>by
  simp only[pQ]at h |-
  split at h
  ·split at h
   ·rename_i h1 h2
    cases h
    rw[kU ks h1 fun m hh=>hm m (aA _ hh),xz r h2 fun m hh=>hm m (az _ hh)]
   ·cases h
  ·cases h
theorem xX:∀(vs:List (Nat×Nat×Nat)) {obs:List Ob} {os:List Nat},qP ob tm vs=some (obs,os)->(∀m,m∈os->ob' m=ob m)->qP ob' tm vs=some (obs,os)
 |[],obs,os,h,hm=>h
 |
  (t,o,sz)::r,obs,os,h,hm=>by
  simp only[qP]at h |-
  split at h
  ·rename_i o' _
   split at h
   ·rename_i sz' es obs1 os1 h1 h2
    cases hb:(aF o' o&&aF sz' sz)with
    |false=>rw[hb]at h;cases h
    |
     true =>
     rw[hb]at h
     cases h
     rw[hm _ ag,h1,xX r h2 fun m hh=>hm m (ai _ hh)]
     simp only[hb,cond_true]
   ·cases h
  ·cases h
end
end Go.VL
namespace Go.VL
open Go Go.RowKit
section
variable {P:Program} {M:Mem} {β β2:Lo} {w w':World} {n:Nat} {A:jP} {s:St} {a:Act}
structure fX(s:St)(w:World)(M:Mem)(β:Lo)(U:List Nat)(f:Nat->Option Ob)(β2:Lo):Prop where
 own:∀m x,f m=some x->Own M β2 w m x
 LH:∀m,f m=none->β2 m=none
 src:∀m x b,f m=some x->x.live=true->dN β2 m=some b->∃o x0,o∈U/\s.ob o=some x0/\x0.live=true/\dN β o=some b
 apart:∀m m' x x' b,m≠m'->f m=some x->x.live=true->f m'=some x'->x'.live=true->dN β2 m=some b->dN β2 m'≠some b
theorem fX.nil:fX s w M β [] (fun _=>none) dk:=⟨fun m x h=>(by cases h),fun _ _=>rfl,fun m x b h=>(by cases h),fun m m' x x' b _ h=>(by cases h)⟩
theorem fX.le{U:List Nat}{f:Nat->Option Ob}(h:fX s w M β U f β2){m:Nat}(hm:f m=none)(l:Loc):Lo.le β2 (cr β2 m (some l)):=fun o q hq=>by
 by_cases ho:o=m
 ·subst ho;rw[h.LH o hm]at hq;cases hq
 ·rw[aW _ _ _ _ ho];exact hq
theorem fX.add(g:cZ n A s a w M β){U:List Nat}{f:Nat->Option Ob}(h:fX s w M β U f β2){m:Nat}(hm:f m=none){l:Loc}{x:Ob}(hx:Own M (cr β2 m (some l)) w m x)(o:Nat)(ho:o∉U)
 (hs:∀b,l.block=some b->∃x0,s.ob o=some x0/\x0.live=true/\dN β o=some b):fX s w M β (o::U) (cr f m (some x)) (cr β2 m (some l)):=by
 have hβ:=h.le hm l
 have hbd:∀q b,q≠m->dN (cr β2 m (some l)) q=some b->dN β2 q=some b:=fun q b hq hb=>by unfold dN at hb |-;rw[aW _ _ _ _ hq]at hb;exact hb
 have hdd:dN (cr β2 m (some l)) m=l.block:=by unfold dN;rw[aL];rfl
 have hf:∀q y,q≠m->cr f m (some x) q=some y->f q=some y:=fun q y hq hy=>by rw[aW _ _ _ _ hq]at hy;exact hy
 refine⟨fun q y hy=>?_,fun q hq=>?_,fun q y b hy hl hb=>?_,?_⟩
 ·by_cases e:q=m
  ·subst e;rw[aL]at hy;cases hy;exact hx
  ·exact(h.own q y (hf q y e hy)).mono (Mem.le.refl _) hβ fun b hl hb=>⟨rfl,(h.own q y (hf q y e hy)).Aj hl hb⟩
 ·by_cases e:q=m
  ·subst e;rw[aL]at hq;cases hq
  ·rw[aW _ _ _ _ e]at hq |-;exact h.LH q hq
 ·by_cases e:q=m
  ·subst e
   rw[hdd]at hb
   obtain⟨x0,h1,h2,h3⟩:=hs b hb
   exact⟨o,x0,ag,h1,h2,h3⟩
  ·obtain⟨o',x0,h1,h2⟩:=h.src q y b (hf q y e hy) hl (hbd q b e hb)
   exact⟨o',x0,ai _ h1,h2⟩
 ·have key:∀q y b,q≠m->f q=some y->y.live=true->dN β2 q=some b->l.block≠some b:=fun q y b hq hy hl hb hb'=>by
   obtain⟨o',x0,h1,h2,h3,h4⟩:=h.src q y b hy hl hb
   obtain⟨x1,h5,h6,h7⟩:=hs b hb'
   exact g.apart o o' x1 x0 b (fun e=>ho (by rw[e];exact h1)) h5 h6 h2 h3 h7 h4
  intro q q' y y' b hne hy hl hy' hl' hb hb'
  by_cases e:q=m
  ·subst e
   rw[hdd]at hb
   exact key q' y' b (Ne.symm hne) (hf q' y' (Ne.symm hne) hy') hl' (hbd q' b (Ne.symm hne) hb') hb
  ·by_cases e':q'=m
   ·subst e'
    rw[hdd]at hb'
    exact key q y b e (hf q y e hy) hl (hbd q b e hb) hb'
   ·exact h.apart q q' y y' b hne (hf q y e hy) hl (hf q' y' e' hy') hl' (hbd q b e hb) (hbd q' b e' hb')
theorem fX.OL(g:cZ n A s a w M β){U:List Nat}{f:Nat->Option Ob}(h:fX s w M β U f β2)(hfix:∀o b,A.fix o=some b->(f o).isSome=true/\β2 o=some b){tm:Nat->AV}(ht:∀t,bo M β2 (tm t) (a.tmps.getD t undef)) :
 cZ n A {tm:=tm,ob:=f,us:=fun x=>(f x).isSome} a w M β2 :=
 {
  size:=g.size,defs:=g.defs,tm:=ht,le:=g.le,new:=g.new,agree:=g.agree,own:=h.own,
  place:=fun o x b hx hl hb=>by obtain⟨o',x0,_,h2,h3,h4⟩:=h.src o x b hx hl hb;exact g.place o' x0 b h2 h3 h4
  apart:=h.apart
  us:=fun o hu=>by
   have:f o=none:=by simpa using hu
   exact⟨h.LH o this,this⟩
  fix:=fun o b hf=>⟨(hfix o b hf).1,fun _ _=>(hfix o b hf).2⟩
  cB:=g.cB}
theorem fX.vec(g:cZ n A s a w M β){U:List Nat}{f:Nat->Option Ob}(h:fX s w M β U f β2){m o sz:Nat}{es:List (List AV)}(hm:f m=none)(ho:o∉U)(hx:s.ob o=some (.vec sz es)) :
 ∃β3,fX s w M β (o::U) (cr f m (some (.vec sz es))) β3/\Lo.le β2 β3/\(∀v,bo M β (.vec o) v->bo M β3 (.vec m) v)/\β3 m=β o:=by
 obtain⟨v,h1,h2,h3⟩:=g.own o _ hx
 refine⟨cr β2 m (some (.vec v sz)),h.add g hm (l:=.vec v sz) (x:=.vec sz es) ⟨v,aL _ _ _,h2,h3⟩ o ho (fun b hb=>⟨_,hx,rfl,by simp[dN,h1];exact hb⟩),h.le hm _,fun u hu=>?_,by rw[aL,h1]⟩
 cases hu with
 |vec _ _ _ sz' hov hb=>rw[h1]at hb;cases hb;exact .vec _ _ _ _ hov (aL _ _ _)
theorem fX.obj(g:cZ n A s a w M β){U:List Nat}{f:Nat->Option Ob}(h:fX s w M β U f β2){m o:Nat}{cs asq:List AV}(hm:f m=none)(ho:o∉U)(hx:s.ob o=some (.cells cs))(hl:asq.length=cs.length)
 (hr:∀i v,i<cs.length->bo M β (cs.getD i .any) v->bo M dk (asq.getD i .any) v) :
 ∃β3,fX s w M β (o::U) (cr f m (some (.cells asq))) β3/\Lo.le β2 β3/\∀v,bo M β (.ref o 0) v->bo M β3 (.ref m 0) v:=by
 obtain⟨b,vs,e,h1,h2,h3,h4,h5,h6⟩:=g.own o _ hx
 refine⟨cr β2 m (some (.cells b)),h.add g hm (l:=.cells b) (x:=.cells asq) ⟨b,vs,e,aL _ _ _,h2,by omega,fun i hi=>(hr i _ (by omega) (h4 i (by omega))).up,h5,h6⟩ o ho (fun b' hb=>⟨_,hx,rfl,by simp[dN,h1];exact hb⟩),h.le hm _,fun u hu=>?_⟩
 cases hu with
 |ref _ _ _ b' hb=>rw[h1]at hb;cases hb;exact .ref _ _ _ _ (aL _ _ _)
theorem fX.uu(g:cZ n A s a w M β){U:List Nat}{f:Nat->Option Ob}(h:fX s w M β U f β2){m o sz:Nat}(hm:f m=none)(ho:o∉U) :
 ∃β3,fX s w M β (o::U) (cr f m (some (.vec sz []))) β3/\Lo.le β2 β3/\bo M β3 (.vec m) (.slice none 0 0) :=
 ⟨cr β2 m (some (.vec (.slice none 0 0) sz)),h.add g hm (l:=.vec (.slice none 0 0) sz) (x:=.vec sz []) ⟨_,aL _ _ _,fun i hi=>by simp at hi,.inl ⟨rfl,rfl⟩⟩ o ho (fun b hb=>by simp[Loc.block]at hb),h.le hm _,.vec _ _ _ _ rfl (aL _ _ _)⟩
theorem nodup_cons{x:Nat}{l:List Nat}(h:nodup (x::l)=true):x∉l/\nodup l=true:=by
 simp only[nodup,au,bR]at h
 refine⟨fun hx=>?_,h.2⟩
 have:=h.1
 rw[List.any_eq_false]at this
 exact this x hx (Nat.beq_refl x)
theorem er{l r:List Nat}(h:nodup (l++r)=true):nodup l=true/\nodup r=true/\∀x,x∈l->x∉r:=by
 induction l with
 |nil=>exact⟨rfl,h,fun x hx=>by cases hx⟩
 |
  cons y l ih =>
  obtain⟨h1,h2⟩:=nodup_cons h
  obtain⟨q1,q2,q3⟩:=ih h2
  refine⟨?_,q2,fun x hx=>?_⟩
  ·simp only[nodup,au,bR,List.any_eq_false]
   exact⟨fun z hz e=>h1 (aA _ (by rw[aC e];exact hz)),q1⟩
  ·rcases aI.1 hx with rfl|hx
   ·exact fun hr=>h1 (az _ hr)
   ·exact q3 x hx
theorem n7(g:cZ n A s a w M β):∀(ks:List CK) {cs asq:List AV} {obs:List Ob} {os:List Nat} {j:Nat},bN s.ob ks cs j=some (asq,obs,os) ->
 ∀{U:List Nat} {f:Nat->Option Ob} {β2:Lo} {full:List AV} {i nm:Nat} {rest:List Ob},fX s w M β U f β2->(∀q,q<ks.length->full.getD (i+q) .any=(fe ks asq).getD q .any)->ah ks full i (obs++rest)->(∀m,nm<=m->f m=none)->nodup os=true->(∀o,o∈os->o∉U) ->
 ∃β3 U',fX s w M β U' (cx f (bE ks full i (obs++rest) nm).2.1) β3/\Lo.le β2 β3/\(∀o,o∈U'->o∈os\/o∈U)/\(bE ks full i (obs++rest) nm).2.2=(rest,nm+bB ks)/\(bE ks full i (obs++rest) nm).1.length=cs.length /\
  (∀q v,q<cs.length->bo M β (cs.getD q .any) v->bo M β3 ((bE ks full i (obs++rest) nm).1.getD q .any) v)/\(∀m,nm+bB ks<=m->cx f (bE ks full i (obs++rest) nm).2.1 m=none)/\(∀m,m<nm->cx f (bE ks full i (obs++rest) nm).2.1 m=f m)/\full.length=i+ks.length/\ks.length=cs.length
 |
  [],cs,asq,obs,os,j,h,U,f,β2,full,i,nm,rest,hB,hfull,hk,hnm,hnd,hU=>by
  cases cs with
  |
   nil =>
   simp only[bN,Option.some.injEq,Prod.mk.injEq]at h
   obtain⟨rfl,rfl,rfl⟩:=h
   exact⟨β2,U,hB,Lo.le.refl _,fun o ho=>.inr ho,rfl,rfl,fun q v hq=>by simp at hq,fun m hm=>hnm m (by simpa[bB]using hm),fun m _=>rfl,hk,rfl⟩
  |cons c cs=>simp[bN]at h
 |
  .lk k::ks,cs,asq,obs,os,j,h,U,f,β2,full,i,nm,rest,hB,hfull,hk,hnm,hnd,hU=>by
  cases cs with
  |nil=>simp[bN]at h
  |
   cons c cs =>
   simp only[bN]at h
   split at h
   ·rename_i a1 as1 obs1 os1 h1 h2
    cases h
    obtain⟨hk1,hk2⟩:=hk
    have e0:full.getD i .any=a1:=by simpa[fe]using hfull 0 (by simp)
    obtain⟨β3,U',b1,b2,b3,b4,b5,b6,b7,b8,b9,b10⟩:=n7 g ks h2 (i:=i+1) (nm:=nm) (full:=full) hB (fun q hq=>by
     have:=hfull (q+1) (by simpa using hq)
     rw[show i+(q+1)=i+1+q by omega]at this
     simpa[fe]using this) hk2 hnm hnd hU
    refine⟨β3,U',b1,b2,b3,b4,by simp[bE,b5],fun q v hq hr=>?_,b7,b8,by simp;omega,by simp[b10]⟩
    cases q with
    |
     zero =>
     have hr':bo M dk a1 v:=vZ h1 (by simpa using hr)
     rw[e0]at hk1
     show bo M β3 ((k.cast (full.getD i .any)::_).getD 0 .any) v
     rw[bh,e0]
     exact LK.gR (β:=β3) hr' hk1
    |succ q=>simpa[bE]using b6 q v (by simpa using hq) (by simpa using hr)
   ·cases h
 |
  .vec hsz::ks,cs,asq,obs,os,j,h,U,f,β2,full,i,nm,rest,hB,hfull,hk,hnm,hnd,hU=>by
  cases cs with
  |nil=>simp[bN]at h
  |
   cons c cs =>
   have cont:∀(es:List (List AV)) (o:Nat) (as1:List AV) (obs1:List Ob) (os1:List Nat),bN s.ob ks cs (j+1)=some (as1,obs1,os1)->asq=.vec j::as1->obs=.vec hsz es::obs1->os=o::os1->(∃β3,fX s w M β (o::U) (cr f nm (some (.vec hsz es))) β3/\Lo.le β2 β3/\∀v,bo M β c v->bo M β3 (.vec nm) v) ->
    ∃β3 U',fX s w M β U' (cx f (bE (.vec hsz::ks) full i (obs++rest) nm).2.1) β3/\Lo.le β2 β3/\(∀o,o∈U'->o∈os\/o∈U)/\(bE (.vec hsz::ks) full i (obs++rest) nm).2.2=(rest,nm+bB (.vec hsz::ks))/\(bE (.vec hsz::ks) full i (obs++rest) nm).1.length=(c::cs).length /\
   (∀q v,q<(c::cs).length->bo M β ((c::cs).getD q .any) v->bo M β3 ((bE (.vec hsz::ks) full i (obs++rest) nm).1.getD q .any) v)/\(∀m,nm+bB (.vec hsz::ks)<=m->cx f (bE (.vec hsz::ks) full i (obs++rest) nm).2.1 m=none)/\(∀m,m<nm->cx f (bE (.vec hsz::ks) full i (obs++rest) nm).2.1 m=f m)/\full.length=i+(CK.vec hsz::ks).length/\(CK.vec hsz::ks).length=(c::cs).length:=by
    intro es o as1 obs1 os1 h2 ea eo eos ⟨β3,c1,c2,c3⟩
    subst ea;subst eo;subst eos
    obtain⟨n1,n2⟩:=nodup_cons hnd
    obtain⟨β4,U',b1,b2,b3,b4,b5,b6,b7,b8,b9,b10⟩:=n7 g ks h2 (i:=i+1) (nm:=nm+1) (full:=full) (rest:=rest) c1 (fun q hq=>by
     have:=hfull (q+1) (by simpa using hq)
     rw[show i+(q+1)=i+1+q by omega]at this
     simpa[fe]using this) hk.2 (fun m hm=>by rw[aW _ _ _ _ (by omega)];exact hnm m (by omega)) n2 (fun q hq=>by
      intro hh
      rcases aI.1 hh with rfl|hh
      ·exact n1 hq
      ·exact hU q (ai _ hq) hh)
    have eb:bE (.vec hsz::ks) full i ((.vec hsz es::obs1)++rest) nm=(.vec nm::(bE ks full (i+1) (obs1++rest) (nm+1)).1,(nm,some (.vec hsz es))::(bE ks full (i+1) (obs1++rest) (nm+1)).2.1,(bE ks full (i+1) (obs1++rest) (nm+1)).2.2):=rfl
    rw[eb]
    refine⟨β4,U',b1,fun o l hl=>b2 o l (c2 o l hl),fun q hq=>?_,?_,by simp[b5],fun q v hq hr=>?_,fun m hm=>?_,fun m hm=>?_,by simp;omega,by simp[b10]⟩
    ·rcases b3 q hq with h|h
     ·exact .inl (ai _ h)
     ·rcases aI.1 h with rfl|h
      ·exact .inl ag
      ·exact .inr h
    ·simp only[b4,bB];congr 1;omega
    ·cases q with
     |zero=>simpa using(c3 v (by simpa using hr)).mono (Mem.le.refl _) b2
     |succ q=>simpa using b6 q v (by simpa using hq) (by simpa using hr)
    ·exact b7 m (by simp only[bB]at hm;omega)
    ·have:=b8 m (by omega)
     rw[aW _ _ _ _ (by omega)]at this
     exact this
   cases c<;>first|(simp[bN]at h;done)|skip
   ·rename_i x
    cases x<;>first|(simp[bN]at h;done)|skip
    rename_i ad ln cp
    cases ad<;>first|(simp[bN]at h;done)|skip
    cases ln<;>first|(simp[bN]at h;done)|skip
    cases cp<;>first|(simp[bN]at h;done)|skip
    simp only[bN]at h
    split at h
    ·rename_i as1 obs1 os1 h2
     cases h
     obtain⟨β3,c1,c2,c3⟩:=fX.uu g hB (m:=nm) (o:=ez+j) (sz:=hsz) (hnm nm (aq _)) (hU _ ag)
     exact cont [] _ as1 obs1 os1 h2 rfl rfl rfl ⟨β3,c1,c2,fun v hv=>by rw[dA hv];exact c3⟩
    ·cases h
   ·rename_i o
    simp only[bN]at h
    split at h
    ·rename_i sz es as1 obs1 os1 h1 h2
     cases h
     have e1:sz=hsz:=by
      have:=hk.1
      simp only[bC,aM,Ob.vec.injEq]at this
      exact this.1
     subst e1
     obtain⟨β3,c1,c2,c3,c4⟩:=fX.vec g hB (m:=nm) (hnm nm (aq _)) (hU _ ag) h1
     exact cont es o as1 obs1 os1 h2 rfl rfl rfl ⟨β3,c1,c2,c3⟩
    ·cases h
end
end Go.VL
namespace Go.VL
open Go Go.RowKit
section
variable {P:Program} {M:Mem} {β β2:Lo} {w w':World} {n:Nat} {A:jP} {s:St} {a:Act}
theorem iI{ob:Nat->Option Ob}:∀(ks:List CK) {cs asq:List AV} {obs:List Ob} {os:List Nat} {j:Nat},bN ob ks cs j=some (asq,obs,os)->obs.length=bB ks
 |
  [],cs,asq,obs,os,j,h=>by
  cases cs with
  |nil=>simp only[bN,Option.some.injEq,Prod.mk.injEq]at h;obtain⟨rfl,rfl,rfl⟩:=h;rfl
  |cons c cs=>simp[bN]at h
 |
  .lk k::ks,cs,asq,obs,os,j,h=>by
  cases cs with
  |nil=>simp[bN]at h
  |
   cons c cs =>
   simp only[bN]at h
   split at h
   ·rename_i h1 h2;cases h;exact iI ks h2
   ·cases h
 |
  .vec hsz::ks,cs,asq,obs,os,j,h=>by
  cases cs with
  |nil=>simp[bN]at h
  |
   cons c cs =>
   cases c<;>first|(simp[bN]at h;done)|skip
   ·rename_i x
    cases x<;>first|(simp[bN]at h;done)|skip
    rename_i ad ln cp
    cases ad<;>first|(simp[bN]at h;done)|skip
    cases ln<;>first|(simp[bN]at h;done)|skip
    cases cp<;>first|(simp[bN]at h;done)|skip
    simp only[bN]at h
    split at h
    ·rename_i h2;cases h;simp[bB,iI ks h2]
    ·cases h
   ·simp only[bN]at h
    split at h
    ·rename_i h1 h2;cases h;simp[bB,iI ks h2]
    ·cases h
theorem xG(g:cZ n A s a w M β):∀(cM:List (Nat×List CK)) {obs:List Ob} {os:List Nat},pT s.ob cM=some (obs,os)->∀{U:List Nat} {f:Nat->Option Ob} {β2:Lo} {nm:Nat} {rest:List Ob},
 fX s w M β U f β2->gu (uc cM (obs++rest))->(∀m,nm<=m->f m=none)->(∀p,p∈cM->f p.1=none/\p.1<nm)->nodup (cM.map (·.1))=true->nodup os=true->(∀o,o∈os->o∉U) ->
 ∃β3 U',fX s w M β U' (rj cM (obs++rest) f nm).1 β3/\Lo.le β2 β3/\(∀o,o∈U'->o∈os\/o∈U)/\(rj cM (obs++rest) f nm).2=rest/\(∀p,p∈cM->∃b,β p.1=some (.cells b)/\β3 p.1=some (.cells b)/\(∃x,s.ob p.1=some x)/\((rj cM (obs++rest) f nm).1 p.1).isSome=true)/\(∀m,nm+lZ cM<=m->(rj cM (obs++rest) f nm).1 m=none)/\obs.length=BZ cM /\
  (∀m,(f m).isSome=true->((rj cM (obs++rest) f nm).1 m).isSome=true)
 |
  [],obs,os,h,U,f,β2,nm,rest,hB,hp,hnm,hf,hnd,hno,hU=>by
  simp only[pT,Option.some.injEq,Prod.mk.injEq]at h
  obtain⟨rfl,rfl⟩:=h
  exact⟨β2,U,hB,Lo.le.refl _,fun o ho=>.inr ho,rfl,fun p hp=>(by cases hp),fun m hm=>hnm m (by simpa[lZ]using hm),rfl,fun m hm=>hm⟩
 |
  (o,ks)::r,obs,os,h,U,f,β2,nm,rest,hB,hp,hnm,hf,hnd,hno,hU=>by
  simp only[pT]at h
  split at h
  ·rename_i cs ho
   split at h
   ·rename_i asq obs1 os1 obs' os' h1 h2
    cases h
    have hl1:=iI ks h1
    have eo:((.cells (fe ks asq)::obs1++obs')++rest:List Ob)=.cells (fe ks asq)::(obs1++(obs'++rest)):=by simp
    rw[eo]at hp |-
    obtain⟨_,hp2,hp3⟩:=hp
    simp only[aM,a8,Ob.cs]at hp2 hp3
    have hdrop:(obs1++(obs'++rest)).drop (bB ks)=obs'++rest:=by rw[<-hl1];simp
    rw[hdrop]at hp3
    have hno':nodup (o::(os1++os'))=true:=by simpa using hno
    obtain⟨n1,n2⟩:=nodup_cons hno'
    obtain⟨n3,n4,n5⟩:=er n2
    have hnd':nodup (o::r.map (·.1))=true:=hnd
    obtain⟨d1,d2⟩:=nodup_cons hnd'
    obtain⟨hfo,hlo⟩:=hf (o,ks) ag
    simp only at hfo hlo
    obtain⟨β3,U1,b1,b2,b3,b4,b5,b6,b7,b8,b9,b10⟩:=n7 g ks h1 (U:=U) (f:=f) (β2:=β2) (full:=fe ks asq) (i:=0) (nm:=nm) (rest:=obs'++rest) hB (fun q _=>by rw[aR]) hp2 hnm n3 (fun q hq=>hU q (by simp[hq]))
    obtain⟨b,vs,e,q1,q2,q3,q4,q5,q6⟩:=g.own o _ ho
    have hfo':cx f (bE ks (fe ks asq) 0 (obs1++(obs'++rest)) nm).2.1 o=none:=by rw[b8 o hlo];exact hfo
    have hB2:=b1.add g hfo' (l:=.cells b) (x:=.cells (bE ks (fe ks asq) 0 (obs1++(obs'++rest)) nm).1)
     ⟨b,vs,e,aL _ _ _,q2,by rw[q3,b5],fun i hi=>(b6 i _ (by omega) (q4 i (by omega))).mono (Mem.le.refl _) (b1.le hfo' _),q5,q6⟩ o
     (fun hh=>by
      rcases b3 o hh with h|h
      ·exact n1 (aA _ h)
      ·exact hU o (by simp) h)
     (fun b' hb'=>by
      simp only[Loc.block,Option.some.injEq]at hb'
      subst hb'
      exact⟨_,ho,rfl,by simp[dN,q1,Loc.block]⟩)
    obtain⟨β4,U2,c1,c2,c3,c4,c5,c6,c7,c8⟩:=xG g r h2 (rest:=rest) (nm:=nm+bB ks) hB2 hp3 (fun m hm=>by
     rw[aW _ _ _ _ (by omega)];exact b7 m hm) (fun p hp=>by
     obtain⟨r1,r2⟩:=hf p (ai _ hp)
     have hne:p.1≠o:=fun e=>d1 (by rw[<-e];exact bD.2 ⟨p,hp,rfl⟩)
     exact⟨by rw[aW _ _ _ _ hne,b8 _ r2];exact r1,by omega⟩) d2 n4 (fun q hq hh=>by
     rcases aI.1 hh with rfl|hh
     ·exact n1 (az _ hq)
     ·rcases b3 q hh with h|h
      ·exact n5 q h hq
      ·exact hU q (by simp[hq]) h)
    have em:rj ((o,ks)::r) (.cells (fe ks asq)::(obs1++(obs'++rest))) f nm=rj r (bE ks (fe ks asq) 0 (obs1++(obs'++rest)) nm).2.2.1 (cr (cx f (bE ks (fe ks asq) 0 (obs1++(obs'++rest)) nm).2.1) o (some (.cells (bE ks (fe ks asq) 0 (obs1++(obs'++rest)) nm).1))) (bE ks (fe ks asq) 0 (obs1++(obs'++rest)) nm).2.2.2:=rfl
    rw[em,b4]
    refine⟨β4,U2,c1,fun q l hl=>c2 q l (b1.le hfo' _ q l (b2 q l hl)),fun q hq=>?_,c4,fun p hp=>?_,fun m hm=>c6 m (by simp only[lZ]at hm;omega),by simp[BZ,hl1,c7];omega,fun m hm=>c8 m ?_⟩
    ·rcases c3 q hq with h|h
     ·exact .inl (by simp[h])
     ·rcases aI.1 h with rfl|h
      ·exact .inl (by simp)
      ·rcases b3 q h with h|h
       ·exact .inl (by simp[h])
       ·exact .inr h
    ·rcases aI.1 hp with rfl|hp
     ·exact⟨b,q1,c2 _ _ (aL _ _ _),⟨_,ho⟩,c8 _ (by rw[aL];rfl)⟩
     ·exact c5 p hp
    ·by_cases e:m=o
     ·subst e;rw[aL];rfl
     ·rw[aW _ _ _ _ e]
      have:m<nm:=by
       rcases Nat.lt_or_ge m nm with h|h
       ·exact h
       ·rw[hnm m h]at hm;cases hm
      rw[b8 m this];exact hm
   ·cases h
  ·cases h
theorem w7(g:cZ n A s a w M β):∀(eG:List (Nat×Nat)) {obs:List Ob} {os:List Nat},kC s.ob s.tm eG=some (obs,os)->∀{U:List Nat} {f:Nat->Option Ob} {β2:Lo} {nm:Nat} {tm:Nat->AV},
 fX s w M β U f β2->gu (nH eG obs)->(∀m,nm<=m->f m=none)->nodup os=true->(∀o,o∈os->o∉U)->(∀t,bo M β2 (tm t) (a.tmps.getD t undef)) ->
 ∀{rest:List Ob},∃β3 U',fX s w M β U' (p7 eG (obs++rest) tm f nm).2 β3/\(∀t,bo M β3 ((p7 eG (obs++rest) tm f nm).1 t) (a.tmps.getD t undef))/\Lo.le β2 β3/\(∀o,o∈U'->o∈os\/o∈U)/\(∀m,m<nm->(p7 eG (obs++rest) tm f nm).2 m=f m)/\(∀m,nm+eG.length<=m->(p7 eG (obs++rest) tm f nm).2 m=none)/\obs.length=eG.length
 |
  [],obs,os,h,U,f,β2,nm,tm,hB,hp,hnm,hno,hU,ht,rest=>by
  simp only[kC,Option.some.injEq,Prod.mk.injEq]at h
  obtain⟨rfl,rfl⟩:=h
  exact⟨β2,U,hB,ht,Lo.le.refl _,fun o ho=>.inr ho,fun m _=>rfl,fun m hm=>hnm m (by simpa using hm),rfl⟩
 |
  (t,sz)::r,obs,os,h,U,f,β2,nm,tm,hB,hp,hnm,hno,hU,ht,rest=>by
  have cont:∀(o:Nat) (es:List (List AV)) (obs1:List Ob) (os1:List Nat),kC s.ob s.tm r=some (obs1,os1)->obs=.vec sz es::obs1->os=o::os1->(∃β3,fX s w M β (o::U) (cr f nm (some (.vec sz es))) β3/\Lo.le β2 β3/\bo M β3 (.vec nm) (a.tmps.getD t undef)) ->
   ∃β3 U',fX s w M β U' (p7 ((t,sz)::r) (obs++rest) tm f nm).2 β3/\(∀q,bo M β3 ((p7 ((t,sz)::r) (obs++rest) tm f nm).1 q) (a.tmps.getD q undef))/\Lo.le β2 β3/\(∀o,o∈U'->o∈os\/o∈U)/\(∀m,m<nm->(p7 ((t,sz)::r) (obs++rest) tm f nm).2 m=f m)/\(∀m,nm+((t,sz)::r).length<=m->(p7 ((t,sz)::r) (obs++rest) tm f nm).2 m=none)/\obs.length=((t,sz)::r).length:=by
   intro o es obs1 os1 h2 eo eos ⟨β3,c1,c2,c3⟩
   subst eo;subst eos
   obtain⟨n1,n2⟩:=nodup_cons hno
   obtain⟨β4,U',d1,d2,d3,d4,d5,d6,d7⟩:=w7 g r h2 (nm:=nm+1) (tm:=cr tm t (.vec nm)) c1 hp.2 (fun m hm=>by rw[aW _ _ _ _ (by omega)];exact hnm m (by omega)) n2 (fun q hq hh=>by
    rcases aI.1 hh with rfl|hh
    ·exact n1 hq
    ·exact hU q (ai _ hq) hh) (fun q=>by
    by_cases e:q=t
    ·subst e;rw[aL];exact c3
    ·rw[aW _ _ _ _ e];exact(ht q).mono (Mem.le.refl _) c2) (rest:=rest)
   have ev:p7 ((t,sz)::r) ((.vec sz es::obs1)++rest) tm f nm=p7 r (obs1++rest) (cr tm t (.vec nm)) (cr f nm (some (.vec sz es))) (nm+1):=rfl
   rw[ev]
   refine⟨β4,U',d1,d2,fun q l hl=>d3 q l (c2 q l hl),fun q hq=>?_,fun m hm=>?_,fun m hm=>d6 m (by simp at hm;omega),by simp[d7]⟩
   ·rcases d4 q hq with hh|hh
    ·exact .inl (ai _ hh)
    ·rcases aI.1 hh with rfl|hh
     ·exact .inl ag
     ·exact .inr hh
   ·rw[d5 m (by omega),aW _ _ _ _ (by omega)]
  simp only[kC]at h
  split at h
  ·rename_i e
   split at h
   ·rename_i obs1 os1 h2
    cases h
    obtain⟨β3,c1,c2,c3⟩:=fX.uu g hB (m:=nm) (o:=2*ez+t) (sz:=sz) (hnm nm (aq _)) (hU _ ag)
    have hv:=g.tm t
    rw[e]at hv
    exact cont _ [] obs1 os1 h2 rfl rfl ⟨β3,c1,c2,by rw[dA hv];exact c3⟩
   ·cases h
  ·rename_i o e
   split at h
   ·rename_i sz' es obs1 os1 h1 h2
    cases h
    have e1:sz'=sz:=by
     have:=hp.1
     simp only[aM,Ob.vec.injEq]at this
     exact this.1
    subst e1
    obtain⟨β3,c1,c2,c3,c4⟩:=fX.vec g hB (m:=nm) (hnm nm (aq _)) (hU _ ag) h1
    have hv:=g.tm t
    rw[e]at hv
    exact cont o es obs1 os1 h2 rfl rfl ⟨β3,c1,c2,c3 _ hv⟩
   ·cases h
  ·cases h
theorem SK.gR{β0:Lo}{k:SK}{a:AV}{v:Value}(h:bo M dk a v)(hk:k.has a):bo M β0 (k.cast a) v:=by
 cases k with
 |k k=>exact LK.gR h hk
 |
  agg ks =>
  obtain⟨h1,h2,h3⟩:=hk
  rw[h1]at h
  obtain⟨vs,rfl,hl,hr,ho⟩:=fJ h
  have e:vs=(bc ks.length).map fun i=>vs.getD i undef:=by
   apply List.ext_getElem
   ·simp;omega
   ·intro i h1 h2
    simp[aa,h1]
  show bo M β0 (.agg (je ks a.cs 0)) (.agg vs.toArray)
  rw[e]
  exact pC h3 (fun i hi=>ho i (by omega)) fun i hi=>by simpa using hr i (by omega)
 |c u=>rw[hk]at h;rw[dA h];exact .v _ _
theorem yk{β0:Lo}(g:cZ n A s a w M β){ob0:Nat->Option Ob}:∀(sl:List (Nat×SK)) {xs:List AV} {fz:List Nat},s3 ob0 s.tm sl=some (xs,fz)->Fz M β w ob0 fz->gu (nu sl xs)->∀{tm:Nat->AV},(∀t,bo M β0 (tm t) (a.tmps.getD t undef))->∀t,bo M β0 (wF sl xs tm t) (a.tmps.getD t undef)
 |[],xs,fz,h,hz,hp,tm,ht=>ht
 |
  (t,k)::r,xs,fz,h,hz,hp,tm,ht=>by
  simp only[s3]at h
  split at h
  ·rename_i x f asq fs h1 h2
   cases h
   refine yk g r h2 hz.right hp.2 fun q=>?_
   by_cases e:q=t
   ·subst e;rw[aL];exact SK.gR (gA _ _ _ _ _ h1 hz.left (g.tm q)) hp.1
   ·rw[aW _ _ _ _ e];exact ht q
  ·cases h
theorem xn{β0:Lo}(g:cZ n A s a w M β):∀(rf:List (Nat×Nat)),uZ s.tm rf=true->(∀p,p∈rf->∀b,β p.2=some (.cells b)->β0 p.2=some (.cells b))->∀{tm:Nat->AV},(∀t,bo M β0 (tm t) (a.tmps.getD t undef))->∀t,bo M β0 (Cv rf tm t) (a.tmps.getD t undef)
 |[],h,hb,tm,ht=>ht
 |
  (t,o)::r,h,hb,tm,ht=>by
  simp only[uZ,au]at h
  refine xn g r h.2 (fun p hp=>hb p (ai _ hp)) fun q=>?_
  by_cases e:q=t
  ·subst e
   rw[aL]
   have h1:=h.1
   split at h1
   ·rename_i o' e'
    have:=aC h1
    subst this
    have hv:=g.tm q
    rw[e']at hv
    obtain⟨b,h2,h3⟩:=lG hv
    rw[h3]
    exact .ref _ _ _ _ (hb (q,o) ag b h2)
   ·cases h1
  ·rw[aW _ _ _ _ e];exact ht q
theorem qX:∀{l r:List (Option Nat)},E5 l r=true->l=r
 |[],[],_=>rfl
 |none::l,none::r,h=>by rw[qX (l:=l) (r:=r) h]
 |
  some x::l,some y::r,h=>by
  simp only[E5,au]at h
  rw[qX (l:=l) (r:=r) h.2,aC h.1]
 |[],_::_,h=>by cases h
 |none::_,[],h=>by cases h
 |some _::_,[],h=>by cases h
 |none::_,some _::_,h=>by cases h
 |some _::_,none::_,h=>by cases h
theorem DK{β0:Lo}{f:Nat}{js:List (Option Nat)}{v:Value}(h:bo M β (.eJ f js) v)(hb:∀o,some o∈js->∀b,β o=some (.cells b)->β0 o=some (.cells b)):bo M β0 (.eJ f js) v:=by
 cases h with
 |
  eJ _ _ _ b vs hc hl hs ho =>
  refine .eJ _ _ _ _ vs hc hl hs fun i o hi e=>?_
  obtain⟨b',q1,q2⟩:=ho i o hi e
  refine⟨b',hb o ?_ b' q1,q2⟩
  rw[<-e]
  simp[aa,hi]
theorem w5{β0:Lo}(g:cZ n A s a w M β):∀(cl:List (Nat×Nat×List (Option Nat))),vd s.tm cl=true->(∀p,p∈cl->∀o,some o∈p.2.2->∀b,β o=some (.cells b)->β0 o=some (.cells b))->∀{tm:Nat->AV},(∀t,bo M β0 (tm t) (a.tmps.getD t undef))->∀t,bo M β0 (Dj cl tm t) (a.tmps.getD t undef)
 |[],h,hb,tm,ht=>ht
 |
  (t,f,js)::r,h,hb,tm,ht=>by
  simp only[vd,au]at h
  refine w5 g r h.2 (fun p hp=>hb p (ai _ hp)) fun q=>?_
  by_cases e:q=t
  ·subst e
   rw[aL]
   have h1:=h.1
   split at h1
   ·rename_i f' js' e'
    simp only[au]at h1
    have e1:=aC h1.1
    have e2:=qX h1.2
    subst e1;subst e2
    have hv:=g.tm q
    rw[e']at hv
    exact DK hv (hb _ ag)
   ·cases h1
  ·rw[aW _ _ _ _ e];exact ht q
theorem tf{β0:Lo}:∀{caps:List AV} {js:List Nat} {vs:List Value},vg caps js=true->caps.length=vs.length->(∀i,i<caps.length->bo M β (caps.getD i .any) (vs.getD i undef))->(∀o,o∈js->∀b,β o=some (.cells b)->β0 o=some (.cells b)) ->
 js.length=vs.length/\∀i,i<js.length->bo M β0 ((js.map fun o=>AV.ref o 0).getD i .any) (vs.getD i undef)
 |
  caps,[],vs,h,hl,_,_=>by
  cases caps with
  |nil=>exact⟨hl,fun i hi=>by simp at hi⟩
  |
   cons c caps =>
   unfold vg at h
   split at h
   ·rename_i he _;cases he
   ·rename_i he;cases he
   ·cases h
 |
  caps,p::js,vs,h,hl,hr,hb=>by
  unfold vg at h
  split at h
  ·rename_i _ he;cases he
  ·rename_i o r p l he
   cases he
   simp only[au]at h
   have:=aC h.1
   subst this
   cases vs with
   |nil=>simp at hl
   |
    cons u vs =>
    obtain⟨q1,q2⟩:=tf (vs:=vs) h.2 (by simpa using hl) (fun i hi=>by simpa using hr (i+1) (by simpa using hi)) (fun o ho=>hb o (ai _ ho))
    refine⟨by simp[q1],fun i hi=>?_⟩
    cases i with
    |
     zero =>
     have:=hr 0 (by simp)
     simp only[bh]at this
     obtain⟨b,h2,h3⟩:=lG this
     simp only[a6,bh,h3]
     exact .ref _ _ _ _ (hb o ag b h2)
    |succ i=>simpa using q2 i (by simpa using hi)
  ·cases h
theorem xg{β0:Lo}(g:cZ n A s a w M β):∀(fl:List (Nat×Nat×List Nat)),vO s.tm fl=true->(∀p,p∈fl->∀o,o∈p.2.2->∀b,β o=some (.cells b)->β0 o=some (.cells b))->∀{tm:Nat->AV},(∀t,bo M β0 (tm t) (a.tmps.getD t undef))->∀t,bo M β0 (DA fl tm t) (a.tmps.getD t undef)
 |[],h,hb,tm,ht=>ht
 |
  (t,f,js)::r,h,hb,tm,ht=>by
  simp only[vO,au]at h
  refine xg g r h.2 (fun p hp=>hb p (ai _ hp)) fun q=>?_
  by_cases e:q=t
  ·subst e
   rw[aL]
   have h1:=h.1
   split at h1
   ·rename_i f' caps e'
    simp only[au]at h1
    have e1:=aC h1.1
    subst e1
    have hv:=g.tm q
    rw[e']at hv
    generalize a.tmps.getD q undef=v at hv |-
    cases hv with
    |
     fn _ _ _ vs hl hr =>
     obtain⟨q1,q2⟩:=tf h1.2 hl hr (hb _ ag)
     exact .fn _ _ _ vs (by simpa using q1) fun i hi=>q2 i (by simpa using hi)
   ·cases h1
  ·rw[aW _ _ _ _ e];exact ht q
theorem xe(g:cZ n A s a w M β):∀(ags:List (Nat×List CK)) {xs:List AV} {obs:List Ob} {os:List Nat},pQ s.ob s.tm ags=some (xs,obs,os)->∀{U:List Nat} {f:Nat->Option Ob} {β2:Lo} {nm:Nat} {tm:Nat->AV},
 fX s w M β U f β2->∀{rest:List Ob},gu (tR ags xs (obs++rest))->(∀m,nm<=m->f m=none)->nodup os=true->(∀o,o∈os->o∉U)->(∀t,bo M β2 (tm t) (a.tmps.getD t undef)) ->
 ∃β3 U',fX s w M β U' (wz ags xs (obs++rest) tm f nm).2 β3/\(∀t,bo M β3 ((wz ags xs (obs++rest) tm f nm).1 t) (a.tmps.getD t undef))/\Lo.le β2 β3/\(∀m,m<nm->(wz ags xs (obs++rest) tm f nm).2 m=f m)/\(∀o,o∈U'->o∈os\/o∈U)/\obs.length=lZ ags
 |
  [],xs,obs,os,h,U,f,β2,nm,tm,hB,rest,hp,hnm,hno,hU,ht=>by
  simp only[pQ,Option.some.injEq,Prod.mk.injEq]at h
  obtain⟨rfl,rfl,rfl⟩:=h
  exact⟨β2,U,hB,ht,Lo.le.refl _,fun m _=>rfl,fun o ho=>.inr ho,rfl⟩
 |
  (t,ks)::r,xs,obs,os,h,U,f,β2,nm,tm,hB,rest,hp,hnm,hno,hU,ht=>by
  simp only[pQ]at h
  split at h
  ·rename_i cs ecs
   split at h
   ·rename_i asq obs1 os1 xs' obs' os' h1 h2
    cases h
    have hl1:=iI ks h1
    rw[bq]at hp |-
    obtain⟨_,hp2,hp3⟩:=hp
    simp only[aM,a8,AV.cs]at hp2 hp3
    have hdrop:(obs1++(obs'++rest)).drop (bB ks)=obs'++rest:=by rw[<-hl1];simp
    rw[hdrop]at hp3
    obtain⟨n3,n4,n5⟩:=er hno
    obtain⟨β3,U1,b1,b2,b3,b4,b5,b6,b7,b8,b9,b10⟩:=n7 g ks h1 (U:=U) (f:=f) (β2:=β2) (full:=fe ks asq) (i:=0) (nm:=nm) (rest:=obs'++rest) hB (fun q _=>by rw[aR]) hp2 hnm n3 (fun q hq=>hU q (aA _ hq))
    have hrep:=g.tm t
    rw[ecs]at hrep
    obtain⟨vs,ev,hl,hr,ho⟩:=fJ hrep
    obtain⟨β4,U2,c1,c2,c3,c4,c5,c6⟩:=xe g r h2 (nm:=nm+bB ks) (tm:=cr tm t (.agg (bE ks (fe ks asq) 0 (obs1++(obs'++rest)) nm).1)) b1 (rest:=rest) hp3 b7 n4 (fun q hq hh=>by
     rcases b3 q hh with h|h
     ·exact n5 q h hq
     ·exact hU q (az _ hq) h) (fun q=>by
     by_cases e:q=t
     ·subst e
      rw[aL,ev]
      refine .agg _ _ _ (by omega) (fun i hi=>ho i (by omega)) fun i hi=>b6 i _ (by omega) ?_
      simpa using hr i (by omega)
     ·rw[aW _ _ _ _ e];exact(ht q).mono (Mem.le.refl _) b2)
    have em:wz ((t,ks)::r) (.agg (fe ks asq)::xs') (obs1++(obs'++rest)) tm f nm=wz r xs' (bE ks (fe ks asq) 0 (obs1++(obs'++rest)) nm).2.2.1 (cr tm t (.agg (bE ks (fe ks asq) 0 (obs1++(obs'++rest)) nm).1)) (cx f (bE ks (fe ks asq) 0 (obs1++(obs'++rest)) nm).2.1) (bE ks (fe ks asq) 0 (obs1++(obs'++rest)) nm).2.2.2:=rfl
    rw[em,b4]
    exact⟨β4,U2,c1,c2,fun q l hl=>c3 q l (b2 q l hl),fun m hm=>by rw[c4 m (by omega),b8 m hm],fun q hq=>(by
     rcases c5 q hq with h|h
     ·exact .inl (az _ h)
     ·rcases b3 q h with h|h
      ·exact .inl (aA _ h)
      ·exact .inr h),by simp[lZ,hl1,c6]⟩
   ·cases h
  ·cases h
theorem ri:∀(ks:List CK) (cs:List AV) (i:Nat) (obs:List Ob) (nm:Nat),(∀p,p∈(bE ks cs i obs nm).2.1->nm<=p.1)/\nm<=(bE ks cs i obs nm).2.2.2
 |[],cs,i,obs,nm=>⟨fun p hp=>(by cases hp),aq _⟩
 | .lk k::ks,cs,i,obs,nm=>ri ks cs (i+1) obs nm
 |
  .vec h::ks,cs,i,obs,nm=>by
  obtain⟨h1,h2⟩:=ri ks cs (i+1) obs.tail (nm+1)
  refine⟨fun p hp=>?_,Nat.le_of_succ_le h2⟩
  rcases aI.1 hp with rfl|hp
  ·exact aq _
  ·exact Nat.le_of_succ_le (h1 p hp)
theorem yd:∀(l:List (Nat×Option Ob)) (f:Nat->Option Ob) (m:Nat),(∀p,p∈l->p.1≠m)->cx f l m=f m
 |[],f,m,h=>rfl
 |
  (q,c)::l,f,m,h=>by
  show cx (cr f q c) l m=f m
  rw[yd l _ m fun p hp=>h p (ai _ hp),aW _ _ _ _ (Ne.symm (h (q,c) ag))]
theorem yo:∀(cM:List (Nat×List CK)) (obs:List Ob) (f:Nat->Option Ob) (nm m:Nat),m<nm->(∀p,p∈cM->p.1≠m)->(rj cM obs f nm).1 m=f m
 |[],obs,f,nm,m,hm,h=>rfl
 |
  (o,ks)::r,obs,f,nm,m,hm,h=>by
  obtain⟨h1,h2⟩:=ri ks (obs.headD .dead).cs 0 obs.tail nm
  show (rj r _ (cr (cx f (bE ks (obs.headD .dead).cs 0 obs.tail nm).2.1) o _) (bE ks (obs.headD .dead).cs 0 obs.tail nm).2.2.2).1 m=f m
  rw[yo r _ _ _ m (by omega) fun p hp=>h p (ai _ hp),aW _ _ _ _ (Ne.symm (h (o,ks) ag)),yd _ _ _ fun p hp=>(by have:=h1 p hp;omega)]
theorem xR(g:cZ n A s a w M β):∀(kv:List (Nat×Nat×Nat)) {obs:List Ob} {os:List Nat},qP s.ob s.tm kv=some (obs,os)->∀{U:List Nat} {f:Nat->Option Ob} {β2:Lo} {tm:Nat->AV},
 fX s w M β U f β2->(∀p,p∈kv->f p.2.1=none)->nodup (kv.map (·.2.1))=true->nodup os=true->(∀o,o∈os->o∉U)->(∀t,bo M β2 (tm t) (a.tmps.getD t undef)) ->
 ∃β3 U',fX s w M β U' (vk kv obs tm f).2 β3/\(∀t,bo M β3 ((vk kv obs tm f).1 t) (a.tmps.getD t undef))/\Lo.le β2 β3/\(∀m,(∀p,p∈kv->p.2.1≠m)->(vk kv obs tm f).2 m=f m)/\∀p,p∈kv->β3 p.2.1=β p.2.1/\((vk kv obs tm f).2 p.2.1).isSome=true/\∃x,s.ob p.2.1=some x
 |[],obs,os,h,U,f,β2,tm,hB,hf,hnd,hno,hU,ht=>⟨β2,U,hB,ht,Lo.le.refl _,fun m _=>rfl,fun p hp=>(by cases hp)⟩
 |
  (t,o,sz)::r,obs,os,h,U,f,β2,tm,hB,hf,hnd,hno,hU,ht=>by
  simp only[qP]at h
  split at h
  ·rename_i o' e
   split at h
   ·rename_i sz' es obs1 os1 h1 h2
    cases hb:(aF o' o&&aF sz' sz)with
    |false=>rw[hb]at h;cases h
    |
     true =>
     rw[hb]at h
     simp only[au]at hb
     obtain⟨hb1,hb2⟩:=hb
     have e1:=aC hb1
     have e2:=aC hb2
     subst e1;subst e2
     cases h
     obtain⟨n1,n2⟩:=nodup_cons hno
     have hnd':nodup (o'::r.map (·.2.1))=true:=hnd
     obtain⟨d1,d2⟩:=nodup_cons hnd'
     have hne:∀p,p∈r->p.2.1≠o':=fun p hp e=>d1 (by rw[<-e];exact bD.2 ⟨p,hp,rfl⟩)
     obtain⟨β3,c1,c2,c3,c4⟩:=fX.vec g hB (m:=o') (hf _ ag) (hU _ ag) h1
     have hv:=g.tm t
     rw[e]at hv
     obtain⟨β4,U',b1,b2,b3,b4,b5⟩:=xR g r h2 (tm:=cr tm t (.vec o')) c1 (fun p hp=>by rw[aW _ _ _ _ (hne p hp)];exact hf p (ai _ hp)) d2 n2 (fun q hq hh=>by
      rcases aI.1 hh with rfl|hh
      ·exact n1 hq
      ·exact hU q (ai _ hq) hh) (fun q=>by
      by_cases e:q=t
      ·subst e;rw[aL];exact c3 _ hv
      ·rw[aW _ _ _ _ e];exact(ht q).mono (Mem.le.refl _) c2)
     refine⟨β4,U',b1,b2,fun q l hl=>b3 q l (c2 q l hl),fun m hm=>?_,fun p hp=>?_⟩
     ·show (vk r obs1 (cr tm t (.vec o')) (cr f o' (some (.vec sz' es)))).2 m=f m
      rw[b4 m fun p hp=>hm p (ai _ hp),aW _ _ _ _ (Ne.symm (hm _ ag))]
     ·rcases aI.1 hp with rfl|hp
      ·obtain⟨l,hl⟩:=(g.own _ _ h1).Gj (by intro e;cases e)
       refine⟨?_,?_,_,h1⟩
       ·show β4 o'=β o'
        rw[hl];rw[hl]at c4;exact b3 _ _ c4
       ·show ((vk r obs1 (cr tm t (.vec o')) (cr f o' (some (.vec sz' es)))).2 o').isSome=true
        rw[b4 o' hne,aL];rfl
      ·exact b5 p hp
   ·cases h
  ·cases h
theorem sy{ob:Nat->Option Ob}{tm:Nat->AV}:∀(sl:List (Nat×SK)) {xs:List AV} {fz:List Nat},s3 ob tm sl=some (xs,fz)->xs.length=sl.length
 |[],xs,fz,h=>by cases h;rfl
 |
  (t,k)::r,xs,fz,h=>by
  simp only[s3]at h
  split at h
  ·rename_i h1 h2;cases h;simp[sy r h2]
  ·cases h
theorem vS:∀(sl:List (Nat×SK)) (xs ys:List AV) (f:Nat->AV),xs.length=sl.length->wF sl (xs++ys) f=wF sl xs f
 |[],[],ys,f,h=>rfl
 |
  (t,k)::r,x::xs,ys,f,h=>by
  simp only[bC,wF,a8,aM]
  exact vS r xs ys _ (by simpa using h)
 |[],_::_,_,_,h=>by cases h
 |_::_,[],_,_,h=>by cases h
theorem qz:∀(sl:List (Nat×SK)) (xs ys:List AV),xs.length=sl.length->nu sl (xs++ys)=nu sl xs
 |[],[],ys,h=>rfl
 |
  (t,k)::r,x::xs,ys,h=>by
  simp only[bC,nu,a8,aM]
  rw[qz r xs ys (by simpa using h)]
 |[],_::_,_,h=>by cases h
 |_::_,[],_,h=>by cases h
theorem qI:∀(vs:List (Nat×Nat)) (o r:List Ob),o.length=vs.length->nH vs (o++r)=nH vs o
 |[],[],r,h=>rfl
 |
  (t,k)::vs,x::o,r,h=>by
  simp only[bC,nH,a8,aM]
  rw[qI vs o r (by simpa using h)]
 |[],_::_,_,h=>by cases h
 |_::_,[],_,h=>by cases h
theorem pn{ob:Nat->Option Ob}{tm:Nat->AV}:∀(vs:List (Nat×Nat)) {o:List Ob} {os:List Nat},kC ob tm vs=some (o,os)->o.length=vs.length
 |
  [],o,os,h=>by
  simp only[kC,Option.some.injEq,Prod.mk.injEq]at h
  rw[<-h.1];rfl
 |
  (t,sz)::r,o,os,h=>by
  simp only[kC]at h
  split at h
  ·split at h
   ·rename_i h2;cases h;simp[pn r h2]
   ·cases h
  ·split at h
   ·rename_i h1 h2;cases h;simp[pn r h2]
   ·cases h
  ·cases h
theorem ja:∀{l r:List Prop},gu (l++r)->gu l/\gu r
 |[],r,h=>⟨trivial,h⟩
 |p::l,r,h=>by obtain⟨h1,h2⟩:=h;obtain⟨h3,h4⟩:=ja h2;exact⟨⟨h1,h3⟩,h4⟩
theorem Aa{fx:List Nat}{h:Shape}(hf:uk fx h=true){o:Nat}(ho:o∈fx):(∃q,q∈h.cM/\q.1=o)\/∃q,q∈h.kv/\q.2.1=o:=by
 unfold uk at hf
 rw[bH]at hf
 have:=hf o ho
 rw[bn]at this
 rcases this with this|this
 ·rw[bT]at this
  obtain⟨q,hq,e⟩:=this
  exact .inl ⟨q,hq,aC e⟩
 ·rw[bT]at this
  obtain⟨q,hq,e⟩:=this
  exact .inr ⟨q,hq,aC e⟩
theorem pI(ob0:Nat->Option Ob):∀(os:List Nat) (f:Nat->Option Ob) (o:Nat),o∉os->cx f (fw ob0 os) o=f o
 |[],f,o,h=>rfl
 |
  q::os,f,o,h=>by
  show cx (cr f q (cz (ob0 q))) (fw ob0 os) o=_
  rw[pI ob0 os _ o (fun hh=>h (ai _ hh)),aW _ _ _ _ (fun e=>h (by rw[e];exact ag))]
theorem wc(g:cZ n A s a w M β){h:Shape}{xs:List AV}{obs:List Ob}{fx:List Nat}(hfx:uk fx h=true)(hA:∀o b,A.fix o=some b->o∈fx)(hc:wT h s=some (xs,obs))(hp:gu (xU h xs obs)):fV n A (KM h xs obs) a w:=by
 unfold wT at hc
 split at hc
 ·rename_i xs' fz o1 n1 o2 n2 ys o3 n3 o4 n4 h1 h2 h3 h4 h5
  cases hq:(((uZ s.tm h.refs&&(vd s.tm h.yY&&vO s.tm h.fns))&&!((n1++(n2++(n3++n4))).any (fT fz)))&&(nodup (n1++(n2++(n3++n4)))&&tQ h))with
  |false=>rw[hq]at hc;cases hc
  |
   true =>
   rw[hq]at hc
   simp only[cond_true,Option.some.injEq,Prod.mk.injEq]at hc
   obtain⟨rfl,rfl⟩:=hc
   simp only[au,tQ]at hq
   obtain⟨⟨⟨q1,q1c,q1f⟩,q0⟩,q2,⟨q3,q3k⟩,q4k,q5,q7,q6,q6c,q6f⟩:=hq
   obtain⟨q4,q4v,q4x⟩:=er q4k
   have hdj:∀m,m∈n1++(n2++(n3++n4))->m∉fz:=fun m hm hf=>by
    rw[bR,List.any_eq_false]at q0
    exact q0 m hm (by unfold fT;exact bT.2 ⟨m,hf,Nat.beq_refl m⟩)
   obtain⟨M1,hM,g1⟩:=g.freeze fz
   have hsame:∀m,m∈n1++(n2++(n3++n4))->cx s.ob (fw s.ob fz) m=s.ob m:=fun m hm=>pI s.ob fz s.ob m (hdj m hm)
   replace h2:=xp (ob':=cx s.ob (fw s.ob fz)) h.cM h2 fun m hm=>hsame m (aA _ hm)
   replace h3:=tE (ob':=cx s.ob (fw s.ob fz)) h.eG h3 fun m hm=>hsame m (az _ (aA _ hm))
   replace h4:=xz (ob':=cx s.ob (fw s.ob fz)) h.sa h4 fun m hm=>hsame m (az _ (az _ (aA _ hm)))
   replace h5:=xX (ob':=cx s.ob (fw s.ob fz)) h.kv h5 fun m hm=>hsame m (az _ (az _ (az _ hm)))
   have gfz:=g1.fz
   obtain⟨m1,m23,m3⟩:=er q2
   obtain⟨m2,m45,m5⟩:=er m23
   obtain⟨m4,m6,m7⟩:=er m45
   have lx:=sy h.ck h1
   have lv:=pn h.eG h3
   have hp':gu (nu h.ck (xs'++ys)++(uc h.cM (o1++(o2++(o3++o4)))++(nH h.eG ((o1++(o2++(o3++o4))).drop (BZ h.cM))++(tR h.sa ((xs'++ys).drop h.ck.length) (((o1++(o2++(o3++o4))).drop (BZ h.cM)).drop h.eG.length)++wv h.kv ((((o1++(o2++(o3++o4))).drop (BZ h.cM)).drop h.eG.length).drop (lZ h.sa)))))):=hp
   obtain⟨p1,p23⟩:=ja hp'
   obtain⟨p2,p34⟩:=ja p23
   obtain⟨p3,p45⟩:=ja p34
   obtain⟨p4,_⟩:=ja p45
   rw[qz _ _ _ lx]at p1
   rw[bH]at q3 q3k q6 q6c q6f
   obtain⟨β3,U,b1,b2,b3,b4,b5,b6,b7,b8⟩:=xG g1 h.cM h2 (nm:=iZ) (rest:=o2++(o3++o4)) fX.nil p2 (fun _ _=>rfl) (fun p hp=>⟨rfl,aN (q3 p hp)⟩) q4 m1 (fun _ _ hh=>by cases hh)
   have hdrop:(o1++(o2++(o3++o4))).drop (BZ h.cM)=o2++(o3++o4):=by rw[<-b7];simp
   have hdrop2:(o2++(o3++o4)).drop h.eG.length=o3++o4:=by rw[<-lv];simp
   have hdrop3:(xs'++ys).drop h.ck.length=ys:=by rw[<-lx];simp
   rw[hdrop,qI _ _ _ lv]at p3
   rw[hdrop,hdrop2,hdrop3]at p4
   have htm:∀t,bo M1 β3 (DA h.fns (Dj h.yY (Cv h.refs (wF h.ck xs' (fun _=>.any)))) t) (a.tmps.getD t undef) :=
    xg g1 h.fns q1f (fun p hp o ho b hb=>by
     have:=q6f p hp
     rw[bH]at this
     have:=this _ ho
     simp only[LC]at this
     rw[bT]at this
     obtain⟨q,hq,he⟩:=this
     have he:=aC he
     obtain⟨b',c1,c2,_⟩:=b5 q hq
     rw[he]at c1 c2
     rw[hb]at c1;cases c1;exact c2) <|
    w5 g1 h.yY q1c (fun p hp o ho b hb=>by
     have:=q6c p hp
     rw[bH]at this
     have:=this _ ho
     simp only[LC]at this
     rw[bT]at this
     obtain⟨q,hq,he⟩:=this
     have he:=aC he
     obtain⟨b',c1,c2,_⟩:=b5 q hq
     rw[he]at c1 c2
     rw[hb]at c1;cases c1;exact c2) <|
    xn g1 h.refs q1 (fun p hp b hb=>by
     have:=q6 p hp
     rw[bT]at this
     obtain⟨q,hq,he⟩:=this
     have he:=aC he
     obtain⟨b',c1,c2,_⟩:=b5 q hq
     rw[he]at c1 c2
     rw[hb]at c1;cases c1;exact c2) (yk g1 h.ck h1 gfz p1 fun t=>.any _ _)
   have hle:=aN q5
   have hle2:=aN q7
   obtain⟨β4,U',c1,c2,c3,c4,c5,c6,c7⟩:=w7 g1 h.eG h3 (nm:=mR) b1 p3 (fun m hm=>b6 m (by omega)) m2 (fun o ho hh=>by
    rcases b3 o hh with hh|hh
    ·exact m3 o hh (aA _ ho)
    ·cases hh) htm (rest:=o3++o4)
   obtain⟨β5,U3,d1,d2,d3,d4,d5,d6⟩:=xe g1 h.sa h4 (nm:=oJ) c1 (rest:=o4) p4 (fun m hm=>c6 m (by omega)) m4 (fun o ho hh=>by
    rcases c4 o hh with hh|hh
    ·exact m5 o hh (aA _ ho)
    ·rcases b3 o hh with hh|hh
     ·exact m3 o hh (az _ (aA _ ho))
     ·cases hh) c2
   have e1:iZ<mR:=by decide
   have e2:mR<oJ:=by decide
   have hkn:∀p,p∈h.kv->p.2.1<iZ:=fun p hp=>aN (q3k p hp)
   obtain⟨β6,U4,k1,k2,k3,k4,k5⟩:=xR g1 h.kv h5 d1 (fun p hp=>by
    have hn:=hkn p hp
    rw[d4 _ (by omega),c5 _ (by omega),yo _ _ _ _ _ hn]
    intro q hq e
    exact q4x q.1 (bD.2 ⟨q,hq,rfl⟩) (bD.2 ⟨p,hp,e.symm⟩)) q4v m6 (fun o ho hh=>by
    rcases d5 o hh with hh|hh
    ·exact m7 o hh ho
    ·rcases c4 o hh with hh|hh
     ·exact m5 o hh (az _ ho)
     ·rcases b3 o hh with hh|hh
      ·exact m3 o hh (az _ (az _ ho))
      ·cases hh) d2
   have hdrop4:(o3++o4).drop (lZ h.sa)=o4:=by rw[<-d6];simp
   refine⟨M1,β6,?_⟩
   have:=k1.OL g1 (fun o b hf=>by
    rcases Aa hfx (hA o b hf)with⟨q,hq,e⟩|⟨q,hq,e⟩
    rotate_left
    ·obtain⟨r1,r2,x,r3⟩:=k5 q hq
     rw[e]at r1 r2 r3
     exact⟨r2,by rw[r1];exact(g1.fix o b hf).2 x r3⟩
    obtain⟨b',r1,r2,⟨x,r3⟩,r4⟩:=b5 q hq
    rw[e]at r1 r2 r3 r4
    have hb:=(g1.fix o b hf).2 x r3
    rw[r1]at hb;cases hb
    have ho:o<iZ:=by have:=aN (q3 q hq);rw[e]at this;exact this
    refine⟨?_,k3 _ _ (d3 _ _ (c3 _ _ r2))⟩
    rw[k4 o (fun p hp e'=>q4x q.1 (bD.2 ⟨q,hq,rfl⟩) (bD.2 ⟨p,hp,e'.trans e.symm⟩)),d4 o (by omega),c5 o (by omega)];exact r4) k2
   unfold KM
   simp only
   rw[b4,vS _ _ _ _ lx,hdrop2,hdrop3,hdrop4]
   exact this
 ·cases hc
end
end Go.VL
