/-
  Part of a proof: Go functions read by values, trees of functions, their contracts.
-/
import Derived.Orders
import Derived.Below
import Derived.KernelRfl
import Derived.Laws.Cells
import Derived.Laws.Rows
import Derived.Laws.OwnMore
import Derived.Laws.StructEq
import Derived.LaidEql
import Derived.Laws.Strings
import Derived.Laws.BytesArg
import Derived.Great.BuildSlice
import Derived.Lib.LaidTab
import Derived.Lib.ItoaNum
set_option linter.unusedVariables false
set_option linter.unusedSimpArgs false
open Bool renaming and_eq_true→aA,eq_iff_iff→cK,not_eq_true'→cy,or_eq_true→bH
open List renaming all_cons→dj,all_eq_true→cd,any_eq_true→cA,append_assoc→a6,cons_append→bf,getD_cons_zero→bF,getD_eq_getElem?_getD→aa,getElem?_append→bw,getElem?_drop→dc,getElem?_eq_getElem→bp,getElem_mem→bn,headD_cons→aK,length_append→an,length_cons→aw,length_drop→cD,length_map→cr,length_nil→aE,map_cons→bo,mem_append→aO,mem_append_left→aD,mem_append_right→aB,mem_cons→aI,mem_cons_of_mem→al,mem_cons_self→ak,mem_map→bM,range→bA,tail_cons→bB
open Nat renaming add_zero→cw,beq→aN,blt→cQ,eq_of_beq_eq_true→aG,le_of_ble_eq_true→aZ,le_refl→au,mul_le_mul_right→bg,succ_mul→du,zero_add→a8
open Option renaming bind_some→aR,getD_some→cE,map_some→cq
open UInt8 renaming ofNat→bu
namespace Go.VL
open Go Go.RowKit
inductive AV where
 |any
 |v (x:Value)
 |agg (cs:List AV)
 |cm (cs:List AV)
 |ptr (cs:List AV)
 |pid (b:Nat) (cs:List AV)
 |sl (es:List (List AV))
 |x (a:AV)
 |b (t:Bool)
 |ref (o k:Nat)
 |oY (o k:Nat)
 |vec (o:Nat)
 |nw (o i k:Nat)
 |fn (f:Nat) (cap:List AV)
 |ik (f:Nat) (js:List (Option Nat))
 deriving Inhabited
inductive Ob where
 |cells (cs:List AV)
 |vec (sz:Nat) (es:List (List AV))
 |i7 (cs:List AV)
 |nR (es:List (List AV))
 |dead
 |ns (sz:Nat) (es:List (List AV))
 deriving Inhabited
def AV.toInt:AV->Int| .v (.int _ n)=>n|_=>0
def AV.toStr:AV->ByteArray| .v (.string s)=>s|_=>⟨#[]⟩
def AV.toBool:AV->Bool| .v (.bool q)=>q| .b q=>q|_=>false
def AV.cs:AV->List AV| .agg cs=>cs|_=>[]
def AV.comp(a:AV)(i:Nat):AV:=match a with| .cm cs=>cs.getD i .any|_=>.any
def AV.deref:AV->List AV| .ptr cs=>cs| .pid _ cs=>cs|_=>[]
def AV.elems:AV->List (List AV)| .sl es=>es|_=>[]
def AV.isNil:AV->Bool| .v (.pointer none)=>true|_=>false
def AV.tD:AV->Prop| .v (.pointer none)=>True| .pid _ _=>True|_=>False
def AV.DG:AV->AV->Bool
 | .v (.pointer none),.v (.pointer none)=>true
 | .pid m _,.pid m' _=>aN m m'
 |_,_=>false
def AV.cap:AV->List AV| .fn _ c=>c|_=>[]
def Ob.cs:Ob->List AV| .cells cs=>cs| .i7 cs=>cs|_=>[]
def Ob.es:Ob->List (List AV)| .vec _ es=>es| .nR es=>es| .ns _ es=>es|_=>[]
def CH:AV->Bool
 | .any| .cm _| .agg _=>false
 | .v x=>x.oneCell'
 |_=>true
def CC:AV->Bool
 | .v x=>x.oneCell'
 | .x _=>true
 |_=>false
inductive LK where
 |int (k:IntKind)|bool|str|ptr|sl|lM
 deriving DecidableEq,Inhabited
def LK.has:LK->AV->Prop
 | .int k,a=>∃n,a=.v (.int k n)
 | .bool,a=>∃b,a=.v (.bool b)
 | .str,a=>∃s,a=.v (.string s)
 | .ptr,a=>a=.v (.pointer none)\/(∃cs,a=.ptr cs)\/∃b cs,a=.pid b cs
 | .sl,a=>a=.v (.slice none 0 0)\/∃es,a=.sl es
 | .lM,a=>CC a=true
def LK.cast:LK->AV->AV
 | .int k,a=>.v (.int k a.toInt)
 | .bool,a=>.b a.toBool
 | .str,a=>.v (.string a.toStr)
 | .ptr,a=>.x a
 | .sl,a=>.x a
 | .lM,a=>.x a
def LK.zero:LK->AV
 | .int k=>.v (.int k 0)
 | .bool=>.v (.bool false)
 | .str=>.v (.string ⟨#[]⟩)
 | .ptr=>.v (.pointer none)
 | .sl=>.v (.slice none 0 0)
 | .lM=>.x .any
def LK.kn:LK->Bool| .lM=>false|_=>true
def LK.plain:LK->Bool| .int _| .bool| .str=>true|_=>false
def bC:List LK->List AV->Nat->Prop
 |[],_,_=>True
 |k::ks,cs,i=>k.has (cs.getD i .any)/\bC ks cs (i+1)
def j9:List LK->List AV->Nat->List AV
 |[],_,_=>[]
 |k::ks,cs,i=>k.cast (cs.getD i .any)::j9 ks cs (i+1)
inductive TK where
 |str|slice (e:Nat)|array (n e:Nat)|struct (fs:List (Nat×Nat))|tuple (ts:List Nat)|pt|bl|num (k:IntKind)|other
 deriving Inhabited
structure TI where
 kn:Bool
 lk:List LK
 agg:Bool
 bytes:Nat
 k:TK
 nz:Bool
 deriving Inhabited
def TI.sz(t:TI):Nat:=t.lk.length
abbrev fh:=Nat->TI
structure St where
 tm:Nat->AV
 ob:Nat->Option Ob
 us:Nat->Bool
def cO{α:Type}(f:Nat->α)(i:Nat)(a:α):Nat->α:=fun j=>bif aN j i then a else f j
def St.set(s:St)(t:Nat)(a:AV):St:={s with tm:=cO s.tm t a}
def cS:(Nat->Option Ob)->List (Nat×Option Ob)->Nat->Option Ob
 |f,[]=>f
 |f,(o,c)::r=>cS (cO f o c) r
def fM:(Nat->Bool)->List Nat->Nat->Bool
 |f,[]=>f
 |f,o::r=>fM (cO f o true) r
def ev(s:St):Operand->AV
 | .tmp t=>s.tm t
 | .const v=>.v v
 | .global g=>.v (.pointer (some ⟨g,0,none⟩))
 | .func f=>.v (.func (.func f) #[] #[])
structure De where
 val:AV
 cO:List (Nat×Option Ob):=[]
 rd:List Nat:=[]
 new:List Nat:=[]
inductive DR where
 |no
 |yes (d:De)
 |ok (p:Prop) (d:De)
def dO(q:Bool)(r:DR):DR:=bif q then r else .no
def ty(T:fh)(t:Nat):TI:=T t
def C8(t:TI):LK:=t.lk.headD .lM
def uO(t:TI)(cs:List AV):AV:=bif t.agg then .agg (j9 t.lk cs 0)else(C8 t).cast (cs.headD .any)
def Bf(t:TI)(cs:List AV):Prop:=bif t.agg then bC t.lk cs 0 else(C8 t).has (cs.headD .any)
def flat:AV->List AV| .agg cs=>cs|a=>[a]
def ov:AV->Bool
 | .agg _=>true
 |a=>CH a
def jn{α:Type}:List α->Nat->List α->List α
 |l,_,[]=>l
 |l,n,c::cs=>jn (l.set n c) (n+1) cs
def ka(t:TI):List AV:=t.lk.map LK.zero
def bytesOf:List (List AV)->List UInt8
 |[]=>[]
 |e::es=>bu (e.headD .any).toInt.toNat::bytesOf es
def j8:List (List AV)->Prop
 |[]=>True
 |e::es=>e.length=1/\(LK.int .u8).has (e.headD .any)/\j8 es
def ck(z:Nat)(es:List (List AV)):Prop:=∀c,c∈es->c.length=z
def CX(k:IntKind)(a b:Int):Int:=k.wrap ((BitVec.ofInt k.bits a ^^^ BitVec.ofInt k.bits b).toNat:Int)
def Ia(op:BinOp)(k:IntKind)(a b:Int):DR :=
 match op with
 | .add=>.yes {val:=.v (.int k (k.wrap (a+b)))}
 | .sub=>.yes {val:=.v (.int k (k.wrap (a-b)))}
 | .mul=>.yes {val:=.v (.int k (k.wrap (a*b)))}
 | .quo=>.ok (¬b=0) {val:=.v (.int k (k.wrap (a.tdiv b)))}
 | .rem=>.ok (¬b=0) {val:=.v (.int k (a.tmod b))}
 | .xor=>.yes {val:=.v (.int k (CX k a b))}
 | .eql=>.yes {val:=.b (a==b)}
 | .neq=>.yes {val:=.b (a != b)}
 | .lss=>.yes {val:=.b (decide (a<b))}
 | .leq=>.yes {val:=.b (decide (a<=b))}
 | .gtr=>.yes {val:=.b (decide (a>b))}
 | .geq=>.yes {val:=.b (decide (a≥b))}
 |_=>.no
def HX(op:BinOp)(a b:ByteArray):DR :=
 match op with
 | .add=>.ok (a.size+b.size<=9223372036854775807) {val:=.v (.string (a++b))}
 | .eql=>.yes {val:=.b (a.toList==b.toList)}
 | .neq=>.yes {val:=.b (!(a.toList==b.toList))}
 | .lss=>.yes {val:=.b (Op.bytesLess a.toList b.toList)}
 |_=>.no
def nt(op:BinOp)(b:Bool):Option Bool:=match op with| .eql=>some b| .neq=>some (!b)|_=>none
def C5(t:TI)(op:BinOp)(p:Option Prop)(q:Bool):DR :=
 dO t.kn<|match t.k,nt op q with
 | .pt,some c=>match p with|some p=>.ok p {val:=.b c}|none=>.yes {val:=.b c}
 |_,_=>.no
def cmpL(t:TI)(op:BinOp)(q:Bool):DR :=
 dO t.kn<|match t.k,nt op q with
 | .pt,some c=>.yes {val:=.v (.bool c)}
 |_,_=>.no
def wZ(t:TI)(op:BinOp)(q:Bool):DR :=
 dO t.kn<|match t.k,nt op q with
 | .bl,some c=>.yes {val:=.b c}
 |_,_=>.no
def Rr:LK->AV->AV->Option Bool
 | .str,.v (.string a),.v (.string b)=>some (a.toList==b.toList)
 | .int k,.v (.int k1 a),.v (.int k2 b)=>if k=k1 then(if k=k2 then some (a==b)else none)else none
 |_,_,_=>none
def EU:List LK->List AV->List AV->Option Bool
 |[],[],[]=>some true
 |
  l::ls,c::cs,d::ds=>match Rr l c d,EU ls cs ds with
  |some p,some q=>some (p&&q)
  |_,_=>none
 |_,_,_=>none
def H6(t:TI)(op:BinOp)(cs ds:List AV):DR :=
 dO (t.kn&&t.nz)<|match t.k with
 |
  .struct _=>(match EU t.lk cs ds with
  |some q=>(match nt op q with|some c=>.yes {val:=.b c}|none=>.no)
  |none=>.no)
 |_=>.no
def bin(t:TI)(op:BinOp)(x y:AV):DR :=
 match x,y with
 | .v (.int k a),.v (.int k' b)=>if k=k' then Ia op k a b else .no
 | .v (.string a),.v (.string b)=>HX op a b
 | .x a,.v (.pointer none)=>C5 t op (some (LK.ptr.has a)) a.isNil
 | .x a,.x c=>bif t.nz then C5 t op (some (a.tD/\c.tD)) (a.DG c)else .no
 | .v (.pointer none),.v (.pointer none)=>cmpL t op true
 | .ptr _,.v (.pointer none)=>cmpL t op false
 | .pid _ _,.v (.pointer none)=>cmpL t op false
 | .ref _ _,.v (.pointer none)=>cmpL t op false
 | .v (.bool a),.v (.bool b)=>wZ t op (a==b)
 | .v (.bool a),.b b=>wZ t op (a==b)
 | .b a,.v (.bool b)=>wZ t op (a==b)
 | .b a,.b b=>wZ t op (a==b)
 | .agg cs,.agg ds=>H6 t op cs ds
 |_,_=>.no
def rX(x:AV)(off:Nat):DR :=
 match x with
 | .ref o k=>.yes {val:=.ref o (k+off)}
 | .oY o k=>.yes {val:=.oY o (k+off)}
 | .nw o i k=>.yes {val:=.nw o i (k+off)}
 | .ptr cs=>.yes {val:=.ptr (cs.drop off)}
 | .pid _ cs=>.yes {val:=.ptr (cs.drop off)}
 | .x a=>.ok (LK.ptr.has a/\a.isNil=false) {val:=.ptr (a.deref.drop off)}
 |_=>.no
def ph(t:TI)(cs:List AV)(k:Nat):DR :=
 dO t.kn<|bif t.agg then(bif Nat.ble (k+t.sz) cs.length then .yes {val:=.agg ((cs.drop k).take t.sz)}else .no)
 else(bif cQ k cs.length then .yes {val:=cs.getD k .any}else .no)
def kg(t:TI)(cs:List AV)(k:Nat):DR :=
 dO (t.kn&&t.lk.all LK.kn)<|bif t.agg then .ok (k+t.sz<=cs.length/\bC t.lk cs k) {val:=.agg (j9 t.lk cs k)}
 else .ok (k<cs.length/\(C8 t).has (cs.getD k .any)) {val:=(C8 t).cast (cs.getD k .any)}
def DR.reads(r:DR)(o:Nat):DR:=match r with| .ok p d=>.ok p {d with rd:=o::d.rd}| .yes d=>.yes {d with rd:=o::d.rd}| .no=>.no
def DR.DC(r:DR)(q:Prop):DR:=match r with| .ok p d=>.ok (q/\p) d| .yes d=>.ok q d| .no=>.no
def DR.when(q:Option Prop)(r:DR):DR:=match q with|none=>r|some p=>r.DC p
def Sz(f:Nat)(js:List (Option Nat)):Option Nat->AV
 |none=>.ik f js
 |some o=>.ref o 0
def loadAt(ob:Nat->Option Ob)(t:TI)(x:AV):DR :=
 match x with
 |
  .ref o k=>match ob o with
  |some (.cells cs)|some (.i7 cs)=>(ph t cs k).reads o
  |_=>.no
 |
  .oY o k=>match ob o with
  |some (.cells cs)|some (.i7 cs)=>(kg t cs k).reads o
  |_=>.no
 |
  .nw o i k=>match ob o with
  |some (.vec _ es)|some (.nR es)=>((kg t (es.getD i []) k).DC (i<es.length)).reads o
  |_=>.no
 | .ptr cs=>dO t.kn<|.ok (Bf t cs/\t.sz<=cs.length) {val:=uO t cs}
 | .pid _ cs=>dO t.kn<|.ok (Bf t cs/\t.sz<=cs.length) {val:=uO t cs}
 | .x a=>dO t.kn<|.ok (LK.ptr.has a/\a.isNil=false/\Bf t a.deref/\t.sz<=a.deref.length) {val:=uO t a.deref}
 | .ik f js=>dO (t.kn&&!t.agg)<|.yes {val:=.fn f (js.map (Sz f js))}
 |_=>.no
def fU(ob:Nat->Option Ob)(x:AV):Option (Option Prop×List (List AV)×List Nat) :=
 match x with
 | .sl es=>some (none,es,[])
 | .x a=>some (some (LK.sl.has a),a.elems,[])
 | .v (.slice none 0 0)=>some (none,[],[])
 |
  .vec o=>match ob o with
  |some (.vec _ es)|some (.nR es)=>some (none,es,[o])
  |_=>none
 |_=>none
def indexAt(T:fh)(ob:Nat->Option Ob)(t:TI)(x:AV)(i:Int):DR :=
 match t.k,x with
 | .array n e,.ref o k=>dO (T e).kn<|.ok (0<=i/\i<n) {val:=.oY o (k+i.toNat*(T e).sz)}
 |
  .slice e,.vec o=>dO (T e).kn<|match ob o with
  |some (.vec sz es)=>dO (aN sz (T e).sz)<|.ok (0<=i/\i<es.length) {val:=.nw o i.toNat 0,rd:=[o]}
  |some (.nR es)=>.ok (0<=i/\i<es.length/\(es.getD i.toNat []).length=(T e).sz) {val:=.nw o i.toNat 0,rd:=[o]}
  |_=>.no
 | .slice e,.sl es=>dO (T e).kn<|.ok (0<=i/\i<es.length/\(es.getD i.toNat []).length=(T e).sz) {val:=.ptr (es.getD i.toNat [])}
 | .slice e,.x a=>dO (T e).kn<|.ok (LK.sl.has a/\0<=i/\i<a.elems.length/\(a.elems.getD i.toNat []).length=(T e).sz) {val:=.ptr (a.elems.getD i.toNat [])}
 |_,_=>.no
def bt(s:ByteArray)(i:Int):Int:=if h:i.toNat<s.size then((s[i.toNat]'h).toNat:Int)else 0
def jq(e:Operand->AV):Option Operand->Option Int
 |none=>some 0
 |some x=>match e x with| .v (.int _ n)=>some n|_=>none
def iq(e:Operand->AV)(n:Nat):Option Operand->Option Int
 |none=>some n
 |some x=>match e x with| .v (.int _ n)=>some n|_=>none
def nV(g:AV->Option (AV×List Nat)):List AV->Option (List AV×List Nat)
 |[]=>some ([],[])
 |
  c::cs=>match g c,nV g cs with
  |some (a,os),some (asq,os')=>some (a::asq,os++os')
  |_,_=>none
def wo(g:AV->Option (AV×List Nat)):List AV->Option (List (List AV)×List Nat)
 |[]=>some ([],[])
 |
  c::cs=>match nV g (flat c),wo g cs with
  |some (a,os),some (asq,os')=>some (a::asq,os++os')
  |_,_=>none
def freeze(ob:Nat->Option Ob):Nat->AV->Option (AV×List Nat)
 |0,_=>none
 |
  n+1,a=>match a with
  |
   .ref o 0=>match ob o with
   |some (.cells cs)|some (.i7 cs)=>(nV (freeze ob n) cs).map fun r=>(.ptr r.1,o::r.2)
   |_=>none
  |
   .vec o=>match ob o with
   |some (.vec _ es)|some (.nR es)=>some (.sl es,[o])
   |_=>none
  | .x a=>some (a,[])
  | .agg cs=>(nV (freeze ob n) cs).map fun r=>(.agg r.1,r.2)
  | .any=>some (.any,[])
  | .b t=>some (.v (.bool t),[])
  | .v x=>some (.v x,[])
  | .ptr cs=>some (.ptr cs,[])
  | .pid b cs=>some (.pid b cs,[])
  | .sl es=>some (.sl es,[])
  |_=>none
def eY:Nat:=12
def cV:Option Ob->Option Ob
 |some (.cells cs)=>some (.i7 cs)
 |some (.vec _ es)=>some (.nR es)
 |some (.ns _ es)=>some (.nR es)
 |o=>o
def gp(ob:Nat->Option Ob)(os:List Nat):List (Nat×Option Ob):=os.map fun o=>(o,cV (ob o))
def tA(T:fh)(fs:List (Nat×Nat))(m:Nat)(e:Operand->AV):List (Nat×Operand)->Bool
 |[]=>true
 |p::r=>((match fs[p.1]? with|some (off,ft)=>aN (flat (e p.2)).length (T ft).sz&&Nat.ble (off+(flat (e p.2)).length) m|none=>false)&&ov (e p.2))&&tA T fs m e r
def s7(z m:Nat)(e:Operand->AV):List (Nat×Operand)->Bool
 |[]=>true
 |p::r=>(aN (flat (e p.2)).length z&&Nat.ble (p.1*z+(flat (e p.2)).length) m&&ov (e p.2))&&s7 z m e r
def yC(l c:Operand):Bool:=match l,c with| .tmp i,.tmp j=>aN i j| .const (.int _ p),.const (.int _ q)=>decide (p=q)|_,_=>false
def eu(T:fh)(e:Operand->AV)(ob:Nat->Option Ob)(o:Oper):DR :=
 match o.op with
 | .move x| .assign x=>.yes {val:=e x}
 | .pick c a b=>match e c with| .v (.bool true)=>.yes {val:=e a}| .v (.bool false)=>.yes {val:=e b}|_=>.no
 | .binOp op t x y _=>bin (T t) op (e x) (e y)
 | .unOp .not _ x=>match e x with| .v (.bool b)=>.yes {val:=.v (.bool !b)}| .b b=>.yes {val:=.b (!b)}|_=>.no
 | .unOp .neg _ x=>match e x with| .v (.int k n)=>.yes {val:=.v (.int k (k.wrap (0-n)))}|_=>.no
 |
  .nilCheck x=>match e x with
  | .x a=>.ok (LK.ptr.has a/\a.isNil=false) {val:=.x a}
  | .ptr cs=>.yes {val:=.ptr cs}
  | .pid b cs=>.yes {val:=.pid b cs}
  | .ref o k=>.yes {val:=.ref o k}
  |_=>.no
 |
  .fieldAddr t x f=>dO (T t).kn<|match (T t).k with
  |
   .struct fs=>match fs[f]? with
   |some (off,ft)=>dO ((T ft).kn&&cQ 0 (T ft).sz)<|rX (e x) off
   |none=>.no
  |_=>.no
 |
  .field t x f=>dO (T t).kn<|match (T t).k,e x with
  |
   .struct fs,.agg cs=>match fs[f]? with
   |some (off,ft)=>ph (T ft) cs off
   |none=>.no
  |_,_=>.no
 | .load t x=>loadAt ob (T t) (e x)
 | .indexAddr t x i=>dO (T t).kn<|match e i with| .v (.int _ n)=>indexAt T ob (T t) (e x) n|_=>.no
 |
  .index t x i=>dO (T t).kn<|match (T t).k,e x,e i with
  | .str,.v (.string s),.v (.int _ n)=>.ok (0<=n/\n<s.size) {val:=.v (.int .u8 (bt s n))}
  | .array m el,.agg cs,.v (.int _ n)=>((kg (T el) cs (n.toNat*(T el).sz))).DC (0<=n/\n<m)
  |_,_,_=>.no
 |
  .slice t x lo hi none=>dO (T t).kn<|match (T t).k,e x with
  |
   .str,.v (.string s)=>match jq e lo,iq e s.size hi with
   |some l,some h=>.ok (0<=l/\l<=h/\h<=s.size) {val:=.v (.string (s.extract l.toNat h.toNat))}
   |_,_=>.no
  |
   .slice el,.vec o=>dO (T el).kn<|match ob o with
   |
    some (.vec sz es)=>dO (aN sz (T el).sz)<|match jq e lo,iq e es.length hi with
    |some l,some h=>.ok (0<=l/\l<=h/\h<=es.length) {val:=.sl ((es.take h.toNat).drop l.toNat),cO:=[(o,some (.nR es))]}
    |_,_=>.no
   |
    some (.nR es)=>match jq e lo,iq e es.length hi with
    |some l,some h=>DR.when (lo.map fun _=>ck (T el).sz es)<|.ok (0<=l/\l<=h/\h<=es.length) {val:=.sl ((es.take h.toNat).drop l.toNat),rd:=[o]}
    |_,_=>.no
   |_=>.no
  |
   .slice el,x=>dO (T el).kn<|match fU ob x with
   |
    some (p,es,os)=>match jq e lo,iq e es.length hi with
    |some l,some h=>.when p<|DR.when (lo.map fun _=>ck (T el).sz es)<|.ok (0<=l/\l<=h/\h<=es.length) {val:=.sl ((es.take h.toNat).drop l.toNat),rd:=os}
    |_,_=>.no
   |none=>.no
  |_,_=>.no
 | .extract t i=>match e t with| .cm cs=>dO (cQ i cs.length)<|.yes {val:=cs.getD i .any}|_=>.no
 |
  .convert s d x=>dO ((T s).kn&&(T d).kn)<|match (T s).k,(T d).k,e x with
  |
   .slice el,.str,y=>dO ((T el).kn&&(match (T el).k with| .num .u8=>true|_=>false))<|match fU ob y with
   |some (p,es,os)=>.when p<|.ok (j8 es) {val:=.v (.string ⟨(bytesOf es).toArray⟩),rd:=os}
   |none=>.no
  | .num _,.num k,.v (.int _ n)=>.yes {val:=.v (.int k (k.wrap n))}
  |_,_,_=>.no
 |
  .build t ps=>dO (T t).kn<|match (T t).k with
  | .struct fs=>dO (fs.all (fun p=>(T p.2).kn)&&tA T fs (T t).sz e ps.toList)<|.yes {val:=.agg (ps.toList.foldl (fun cs p=>jn cs (fs.getD p.1 (0,0)).1 (flat (e p.2))) (ka (T t)))}
  | .array n el=>dO ((T el).kn&&s7 (T el).sz (T t).sz e ps.toList)<|.yes {val:=.agg (ps.toList.foldl (fun cs p=>jn cs (p.1*(T el).sz) (flat (e p.2))) (ka (T t)))}
  |_=>.no
 |
  .alloc t=>dO (T t).kn<|match o.dst with
  |some d=>.yes {val:=.ref d 0,cO:=[(d,some (.cells (ka (T t))))],new:=[d]}
  |none=>.no
 |
  .box t x=>dO (T t).kn<|match o.dst with
  |some d=>dO (aN (flat (e x)).length (T t).sz&&ov (e x))<|.yes {val:=.ref d 0,cO:=[(d,some (.cells (flat (e x))))],new:=[d]}
  |none=>.no
 |
  .store t a x=>dO (T t).kn<|dO (aN (flat (e x)).length (T t).sz&&ov (e x))<|match e a with
  |
   .ref n k=>match ob n with
   |some (.cells cs)=>dO (Nat.ble (k+(flat (e x)).length) cs.length)<|.yes {val:=.any,cO:=[(n,some (.cells (jn cs k (flat (e x)))))]}
   |_=>.no
  |
   .oY n k=>match ob n with
   |some (.cells cs)=>.ok (k+(flat (e x)).length<=cs.length) {val:=.any,cO:=[(n,some (.cells (jn cs k (flat (e x)))))]}
   |_=>.no
  |
   .nw n i k=>match ob n with
   |
    some (.vec sz es)=>match nV (freeze ob eY) (flat (e x))with
    |some (xs,[])=>.ok (i<es.length/\k+xs.length<=sz) {val:=.any,cO:=[(n,some (.vec sz (es.set i (jn (es.getD i []) k xs))))]}
    |_=>.no
   |_=>.no
  |_=>.no
 |
  .buildSlice t n ps=>dO (T t).kn<|match (T t).k,o.dst with
  |
   .slice el,some d=>dO (T el).kn<|match wo (freeze ob eY) (ps.toList.map fun p=>e p.2)with
   |some (asq,os)=>dO (ps.toList.map (·.1)==bA n&&Nat.ble (n*(T el).sz) 16777216&&asq.all (fun a=>aN a.length (T el).sz)&&ps.toList.all fun p=>ov (e p.2))<|.yes {val:=.vec d,cO:=gp ob os++[(d,some (.vec (T el).sz asq))],new:=[d]}
   |none=>.no
  |_,_=>.no
 |
  .makeSlice t l c=>dO (T t).kn<|match (T t).k,o.dst,e l with
  | .slice el,some d,.v (.int _ n)=>dO ((T el).kn&&cQ 0 (T el).bytes)<|bif yC l c then
   .ok (0<=n/\n*(T el).bytes<=140737488355328) {val:=.vec d,cO:=[(d,some (.vec (T el).sz (List.replicate n.toNat (ka (T el)))))],new:=[d]}else .no
  |_,_,_=>.no
 |
  .call ⟨.builtin .len,xs,ts⟩=>match xs.toList,ts.toList with
  |
   [x],[t]=>dO (T t).kn<|match (T t).k,e x with
   | .str,.v (.string s)=>.yes {val:=.v (.int .i64 s.size)}
   | .array n _,_=>.yes {val:=.v (.int .i64 n)}
   |
    .slice _,y=>match fU ob y with
    |some (p,es,os)=>.when p<|.yes {val:=.v (.int .i64 es.length),rd:=os}
    |none=>.no
   |_,_=>.no
  |_,_=>.no
 |
  .call ⟨.builtin .append,xs,ts⟩=>match xs.toList,ts.toList,o.dst with
  |
   [x,y],[t,t'],some d=>dO ((T t).kn&&aN t t')<|match (T t).k,fU ob (e y)with
   |
    .slice el,some (p,fs,os)=>dO ((T el).kn&&cQ 0 (T el).bytes)<|match e x with
    |
     .vec n=>match ob n with
     |some (.vec sz es)=>dO (aN sz (T el).sz)<|.when p<|.ok (ck (T el).sz fs/\(es.length+fs.length)*(T el).bytes<=140737488355328) {val:=.vec d,cO:=[(n,none),(d,some (.vec (T el).sz (es++fs)))],rd:=os,new:=[d]}
     |_=>.no
    | .v (.slice none 0 0)=>.when p<|.ok (ck (T el).sz fs/\fs.length*(T el).bytes<=140737488355328) {val:=.vec d,cO:=[(d,some (.vec (T el).sz fs))],rd:=os,new:=[d]}
    |_=>.no
   |_,_=>.no
  |_,_,_=>.no
 |
  .call ⟨.builtin .max,xs,_⟩=>match xs.toList with
  |
   [x,y]=>match e x,e y with
   | .v (.int k a),.v (.int k' b)=>if k=k' then .yes {val:=.v (.int k (if b>a then b else a))}else .no
   |_,_=>.no
  |_=>.no
 |
  .call ⟨.builtin .min,xs,_⟩=>match xs.toList with
  |
   [x,y]=>match e x,e y with
   | .v (.int k a),.v (.int k' b)=>if k=k' then .yes {val:=.v (.int k (if b<a then b else a))}else .no
   |_,_=>.no
  |_=>.no
 | .makeFunc (.func f) fs cs=>bif aN fs.size 0 then .yes {val:=.fn f (cs.toList.map e)}else .no
 |_=>.no
inductive CK where
 |lk (k:LK)|vec (h:Nat)
 deriving Inhabited
inductive MK where
 |obj (cs:List CK)|vec
 |cU (g:Bool) (ks:List CK)
 |vq (ks:List CK)
 deriving Inhabited
inductive PK where
 |one (m:MK)|fn (ms:List (Option MK))|qM (f:Nat) (js:List (Option Nat))
 deriving Inhabited
structure FC where
 mu:List (Nat×PK):=[]
 own:List Nat:=[]
 ow:List LK:=[]
 oa:List CK:=[]
 deriving Inhabited
inductive SK where
 |k (l:LK)|agg (ks:List LK)|c (v:Value)
 deriving Inhabited
def SK.has:SK->AV->Prop
 | .k l,a=>l.has a
 | .agg ks,a=>a=.agg a.cs/\a.cs.length=ks.length/\bC ks a.cs 0
 | .c v,a=>a=.v v
def SK.cast:SK->AV->AV
 | .k l,a=>l.cast a
 | .agg ks,a=>.agg (j9 ks a.cs 0)
 | .c v,_=>.v v
structure Shape where
 bQ:List (Nat×SK):=[]
 refs:List (Nat×Nat):=[]
 cv:List (Nat×List CK):=[]
 eV:List (Nat×Nat):=[]
 tV:List (Nat×List CK):=[]
 wP:List (Nat×Nat×List (Option Nat)):=[]
 fns:List (Nat×Nat×List Nat):=[]
 kv:List (Nat×Nat×Nat):=[]
 deriving Inhabited
structure LI where
 hd:Shape
 xs:Shape
 rt:Shape
 ex:Nat
 fx:List Nat:=[]
 deriving Inhabited
inductive Tree where
 |fail
 |done (tag:Nat) (xs:List AV) (obs:List Ob)
 |test (b:Bool) (y n:Tree)
 |ai (p:Prop) (t:Tree)
 |call (f:Nat) (args:List AV) (ins:List Ob) (k:AV->List Ob->Tree)
 |loop (c:Code) (li:LI) (xs:List AV) (obs:List Ob) (kx kr:List AV->List Ob->Tree)
def qi:List Prop->Tree->Tree
 |[],t=>t
 |p::ps,t=>.ai p (qi ps t)
def nodup:List Nat->Bool
 |[]=>true
 |a::l=>!(l.any (aN a))&&nodup l
def ext(ob:Nat->Option Ob)(a:AV):Option AV:=match freeze ob eY a with|some (a,[])=>some a|_=>none
def fm:Nat:=3000000
def cj(ob:Nat->Option Ob):List CK->List AV->Nat->Option (List AV×List Ob×List Nat)
 |[],[],_=>some ([],[],[])
 |
  .lk _::ks,c::cs,j=>match ext ob c,cj ob ks cs j with
  |some a,some (asq,obs,os)=>some (a::asq,obs,os)
  |_,_=>none
 |
  .vec _::ks,.vec o::cs,j=>match ob o,cj ob ks cs (j+1)with
  |some (.vec sz es),some (asq,obs,os)=>some (.vec j::asq,.vec sz es::obs,o::os)
  |_,_=>none
 |
  .vec h::ks,.v (.slice none 0 0)::cs,j=>match cj ob ks cs (j+1)with
  |some (asq,obs,os)=>some (.vec j::asq,.vec h []::obs,(fm+j)::os)
  |none=>none
 |_,_,_=>none
def fX:List CK->List AV->List AV
 | .vec _::ks,_::cs=>.any::fX ks cs
 | .lk _::ks,c::cs=>c::fX ks cs
 |_,_=>[]
def mY:List CK->Nat
 | .vec h::_=>h
 |_::ks=>mY ks
 |[]=>0
def qa(ob:Nat->Option Ob)(ks:List CK)(cs:List AV)(j:Nat):Option (List AV×List Ob×List Nat):=match cj ob ks cs j with
 |
  some (asq,[.vec sz es],[o])=>match ob o with
  |some (.vec _ _)=>bif aN sz (mY ks)then some (asq,[.vec sz es],[o])else none
  |_=>none
 |_=>none
def pL(ob:Nat->Option Ob):MK->AV->Nat->Option (AV×List Ob×List Nat)
 |
  .vec,.vec o,j=>match ob o with
  |some (.vec sz es)=>some (.vec j,[.vec sz es],[o])
  |_=>none
 |
  .cU false ks,.vec o,j=>match ob o with
  |some (.vec sz es)=>bif aN sz (mY ks)then some (.vec j,[.vec sz es],[o])else none
  |_=>none
 |
  .cU true ks,.agg cs,j=>match qa ob ks cs j with
  |some (asq,obs,os)=>some (.agg asq,obs,os)
  |none=>none
 |
  .obj ks,.ref o 0,j=>match ob o with
  |
   some (.cells cs)=>match cj ob ks cs (j+1)with
   |some (asq,obs,os)=>some (.ref j 0,.cells asq::obs,o::os)
   |none=>none
  |_=>none
 |
  .vq ks,.agg cs,j=>match qa ob ks cs j with
  |some (asq,obs,os)=>some (.agg asq,obs,os)
  |none=>none
 |_,_,_=>none
def gm(ob:Nat->Option Ob):List (Option MK)->List AV->Nat->Option (List AV×List Ob×List Nat)
 |[],[],_=>some ([],[],[])
 |
  none::ms,c::cs,j=>match ext ob c,gm ob ms cs j with
  |some a,some (asq,obs,os)=>some (a::asq,obs,os)
  |_,_=>none
 |
  some m::ms,c::cs,j=>match pL ob m c j with
  |
   some (a,obs,os)=>match gm ob ms cs (j+obs.length)with
   |some (asq,obs',os')=>some (a::asq,obs++obs',os++os')
   |none=>none
  |none=>none
 |_,_,_=>none
def rp(ob:Nat->Option Ob):PK->AV->Nat->Option (AV×List Ob×List Nat)
 | .one m,a,j=>pL ob m a j
 |
  .fn ms,.fn f cap,j=>match gm ob ms cap j with
  |some (asq,obs,os)=>some (.fn f asq,obs,os)
  |none=>none
 |_,_,_=>none
def p5(o:Nat):List AV->Option (List (Option Nat))
 |[]=>some []
 | .ref p 0::r=>(p5 o r).map fun l=>(bif aN p o then none else some p)::l
 |_=>none
def iR(ob:Nat->Option Ob)(f:Nat):AV->Option (List (Option Nat)×List Nat)
 | .ik f' js=>bif aN f' f then some (js,[])else none
 |
  .ref o 0=>match ob o with
  |some (.cells [.fn f' caps])|some (.i7 [.fn f' caps])=>bif aN f' f then(p5 o caps).map fun l=>(l,[o])else none
  |_=>none
 |_=>none
def KG:List (Option Nat)->List (Option Nat)->Bool
 |[],[]=>true
 |none::a,none::b=>KG a b
 |some x::a,some y::b=>aN x y&&KG a b
 |_,_=>false
def Ob.se:Ob->Bool| .cells _=>true|_=>false
def zd:List (Nat×PK)->Nat->Option PK
 |[],_=>none
 |(j,m)::r,i=>bif aN j i then some m else zd r i
def Rm(os:List Nat):Option Nat->Option Nat
 |none=>none
 |some j=>some (os.getD j 0)
def Sd(ins:List Ob):Option Nat->Bool
 |none=>true
 |some j=>cQ j ins.length&&(ins.getD j .dead).se
def m8(ob:Nat->Option Ob)(mu:List (Nat×PK))(os:List Nat)(ins:List Ob):List AV->Nat->Bool
 |[],_=>true
 |
  a::asq,i=>(match zd mu i with
  |
   some (.qM f js)=>(match iR ob f a with
   |some (l,_)=>KG l (js.map (Rm os))&&js.all (Sd ins)
   |none=>false)
  |_=>true)&&m8 ob mu os ins asq (i+1)
def k8(mu:List (Nat×PK)):List AV->Nat->List AV
 |[],_=>[]
 |a::asq,i=>(match zd mu i with|some (.qM f js)=>.ik f js|_=>a)::k8 mu asq (i+1)
def dU:List (Nat×PK)->List MK
 |[]=>[]
 |(_,.qM _ _)::r=>dU r
 |(_,.one m)::r=>m::dU r
 |(_,.fn ms)::r=>ms.filterMap id++dU r
def jo(ob:Nat->Option Ob)(mu:List (Nat×PK)):List AV->Nat->Nat->Option (List AV×List Ob×List Nat×List Nat)
 |[],_,_=>some ([],[],[],[])
 |
  a::asq,i,j=>match zd mu i with
  |
   some (.qM f _)=>match iR ob f a,jo ob mu asq (i+1) j with
   |some (_,f),some (as',obs',os',fz)=>some (.any::as',obs',os',f++fz)
   |_,_=>none
  |
   some m=>match rp ob m a j with
   |
    some (a',obs,os)=>match jo ob mu asq (i+1) (j+obs.length)with
    |some (as',obs',os',fz)=>some (a'::as',obs++obs',os++os',fz)
    |none=>none
   |none=>none
  |
   none=>match freeze ob eY a,jo ob mu asq (i+1) j with
   |some (a',f),some (as',obs',os',fz)=>some (a'::as',obs',os',f++fz)
   |_,_=>none
def bZ:List CK->List AV->Nat->List Ob->Nat->List AV×List (Nat×Option Ob)×List Ob×Nat
 |[],_,_,obs,nm=>([],[],obs,nm)
 | .lk k::ks,cs,i,obs,nm=>let r:=bZ ks cs (i+1) obs nm;(k.cast (cs.getD i .any)::r.1,r.2)
 | .vec h::ks,cs,i,obs,nm=>let r:=bZ ks cs (i+1) obs.tail (nm+1);(.vec nm::r.1,(nm,some (.vec h (obs.headD .dead).es))::r.2.1,r.2.2)
def aH:List CK->List AV->Nat->Nat->List Ob->Prop
 |[],cs,i,_,_=>cs.length=i
 | .lk k::ks,cs,i,j,obs=>k.has (cs.getD i .any)/\aH ks cs (i+1) j obs
 | .vec h::ks,cs,i,j,obs=>cs.getD i .any=.vec j/\obs.headD .dead=.vec h (obs.headD .dead).es/\aH ks cs (i+1) (j+1) obs.tail
def bV:List CK->Nat
 |[]=>0
 | .lk _::ks=>bV ks
 | .vec _::ks=>bV ks+1
def Ob.Nl:Ob->Bool| .vec _ _=>true|_=>false
def eD:List MK->List Ob->Bool
 |[],[]=>true
 | .vec::ms,.vec _ _::obs=>eD ms obs
 | .cU _ ks::ms,.vec sz _::obs=>aN sz (mY ks)&&eD ms obs
 | .vq _::ms,.vec _ _::obs=>eD ms obs
 | .obj ks::ms,.cells _::obs=>(Nat.ble (bV ks) obs.length&&(obs.take (bV ks)).all Ob.Nl)&&eD ms (obs.drop (bV ks))
 |_,_=>false
def qQ:List MK->Nat->List Nat
 |[],_=>[]
 | .vec::ms,j=>qQ ms (j+1)
 | .cU _ _::ms,j=>j::qQ ms (j+1)
 | .vq _::ms,j=>qQ ms (j+1)
 | .obj ks::ms,j=>j::qQ ms (j+1+bV ks)
def sK(ms:List MK)(os:List Nat)(ins:List Ob):Bool:=(qQ ms 0).all fun q=>(ins.getD q .dead).se||cQ (os.getD q 0) fm
def runN:Nat->Nat->List Nat
 |_,0=>[]
 |nm,k+1=>nm::runN (nm+1) k
def u7:List MK->Nat->List Nat
 |[],_=>[]
 | .vec::ms,nm=>u7 ms nm
 | .cU _ _::ms,nm=>u7 ms nm
 | .vq _::ms,nm=>u7 ms nm
 | .obj ks::ms,nm=>runN nm (bV ks)++u7 ms (nm+bV ks)
def dM:List MK->List Nat->List Ob->Nat->Nat->List Prop×List (Nat×Option Ob)×List Ob×Nat
 |[],_,obs,_,nm=>([],[],obs,nm)
 | .vec::ms,os,obs,j,nm=>dM ms os.tail obs.tail (j+1) nm
 | .vq _::ms,os,obs,j,nm=>dM ms os.tail obs.tail (j+1) nm
 |
  .cU _ ks::ms,os,obs,j,nm =>
  let r:=dM ms os.tail obs.tail (j+1) nm
  ((obs.headD .dead=.ns (mY ks) (obs.headD .dead).es)::r.1,(os.headD 0,some (.vec (mY ks) (obs.headD .dead).es))::r.2.1,r.2.2)
 |
  .obj ks::ms,os,obs,j,nm =>
  let c:=bZ ks (obs.headD .dead).cs 0 obs.tail nm
  let r:=dM ms (os.drop (bV ks+1)) c.2.2.1 (j+1+bV ks) c.2.2.2
  ((obs.headD .dead=.cells (obs.headD .dead).cs)::aH ks (obs.headD .dead).cs 0 (j+1) obs.tail::r.1,c.2.1++(os.headD 0,some (.cells c.1))::r.2.1,r.2.2)
def p9(t:TI)(a:AV):Prop:=bif t.agg then(a=.agg a.cs/\a.cs.length=t.sz/\bC t.lk a.cs 0)else(C8 t).has a
def nG(t:TI)(a:AV):AV:=bif t.agg then .agg (j9 t.lk a.cs 0)else(C8 t).cast a
def rW(T:fh)(t:Nat):Nat:=match (T t).k with| .slice el=>(T el).sz|_=>0
def eT(T:fh)(own:List Nat)(oa:List CK)(r:AV):List Nat->Nat->Nat->List Ob->Nat->List Prop×List AV×List (Nat×Option Ob)
 |[],_,_,_,_=>([],[],[])
 |
  t::ts,i,j,obs,nm =>
  bif own.any (aN i)then(bif (T t).agg then let c:=bZ oa (r.comp i).cs 0 obs nm;let q:=eT T own oa r ts (i+1) (j+bV oa) c.2.2.1 c.2.2.2;((r.comp i=.agg (r.comp i).cs/\aH oa (r.comp i).cs 0 j obs)::q.1,.agg c.1::q.2.1,c.2.1++q.2.2)
  else let q:=eT T own oa r ts (i+1) (j+1) obs.tail (nm+1);((r.comp i=.vec j/\obs.headD .dead=.vec (rW T t) (obs.headD .dead).es)::q.1,.vec nm::q.2.1,(nm,some (.vec (rW T t) (obs.headD .dead).es))::q.2.2))
  else let q:=eT T own oa r ts (i+1) j obs nm;(p9 (T t) (r.comp i)::q.1,nG (T t) (r.comp i)::q.2.1,q.2.2)
def ep(T:fh)(own:List Nat)(ow:List LK)(oa:List CK)(t:Nat)(r:AV)(j:Nat)(obs:List Ob)(nm:Nat):List Prop×AV×List (Nat×Option Ob) :=
 match (T t).k with
 | .tuple []=>([],.any,[])
 | .tuple ts=>let q:=eT T own oa r ts 0 j obs nm;((r=.cm ((bA ts.length).map r.comp))::q.1,.cm q.2.1,q.2.2)
 |
  .pt=>bif own.any (aN 0)then([r=.ref j 0/\obs.headD .dead=.cells (obs.headD .dead).cs/\(obs.headD .dead).cs.length=ow.length/\bC ow (obs.headD .dead).cs 0],.ref nm 0,[(nm,some (.cells (j9 ow (obs.headD .dead).cs 0)))])
  else([p9 (T t) r],nG (T t) r,[])
 |
  _=>bif own.any (aN 0)then(bif (T t).agg then let c:=bZ oa r.cs 0 obs nm;([r=.agg r.cs/\aH oa r.cs 0 j obs],.agg c.1,c.2.1)else([r=.vec j/\obs.headD .dead=.vec (rW T t) (obs.headD .dead).es],.vec nm,[(nm,some (.vec (rW T t) (obs.headD .dead).es))]))
  else([p9 (T t) r],nG (T t) r,[])
def newName(d:Option Nat):Nat:=match d with|some d=>(d+1)*1000|none=>999000
def nr(d:De):List Nat:=d.cO.map (·.1)
def kL(o:Oper):List Nat:=o.op.operands.toList.filterMap fun| .tmp t=>some t|_=>none
def dx(o:Oper)(ops:List Oper):List Nat:=match o.guard with|some (g,_)=>(match (ops[g]?).map (·.dst)with|some (some t)=>[t]|_=>[])|none=>[]
def gN(l:List Nat)(a:Nat):Bool:=l.any (aN a)
def jb(o:Oper):List Nat:=match o.dst with|some d=>[d]|none=>[]
def rN(a b:List Nat):Bool:=!(a.any (gN b))
def Dw(ops:List Oper)(x y:Oper):Bool :=
 rN (jb x) (kL y)&&(rN (jb x) (dx y ops)&&(rN (jb x) (jb y)&&(rN (jb y) (kL x)&&(rN (jb y) (dx x ops)&&(rN (dx x ops) (kL y)&&rN (dx y ops) (kL x))))))
def ji(o:Oper):Bool:=match o.op with| .call ⟨.value _,_,_⟩=>true|_=>false
structure HE where
 i:Nat
 o:Oper
 rd:List Nat
 wr:List Nat
 wy:List Nat
def dL(o:Oper):List Nat:=o.after.toList.filterMap fun e=>match e.ground with| .textOnly _| .gcOnly _=>none|_=>some e.on
def jk(o:Oper)(hist:List HE):List Nat:=dL o++(hist.filter fun h=>gN (dL o) h.i).flatMap (·.wy)
def yc(ops:List Oper)(p o:Oper)(rq wq rd wr:List Nat):Bool :=
 !(ji p&&ji o)&&(Dw ops p o&&(rN wr wq&&(rN wr rq&&rN rd wq)))
def kW(ops:List Oper)(o:Oper)(rd wr:List Nat)(hist:List HE)(wy:List Nat):Bool :=
 hist.all fun h=>gN wy h.i||yc ops h.o o h.rd h.wr rd wr
def St.app(s:St)(dst:Option Nat)(d:De):St :=
 {tm:=match dst with|some t=>cO s.tm t d.val|none=>s.tm,ob:=cS s.ob d.cO,us:=fM s.us d.new}
def dW(s:St)(n:Nat)(dst:Option Nat)(d:De):Bool :=
 (d.new.all fun o=>!(s.us o))&&nodup d.new&&(match dst with|some t=>cQ t n|none=>true)
section
variable (T:fh) (cfg:Nat->FC) (n:Nat)
inductive B3 where
 |no
 |d (p:Option Prop) (d:De)
 |c (f:Nat) (asq:List AV) (ins:List Ob) (wr:List Nat) (k:AV->List Ob->List Prop×De)
def keyOf(f:Nat):List AV->Nat
 |[]=>f
 | .fn g _::_=>f+100000*(g+1)
 |_::r=>keyOf f r
def C7(t:TI):Bool:=!t.agg&&(C8 t).plain
def KK(T:fh)(t:Nat):Bool:=match (T t).k with| .tuple ts=>ts.all fun u=>C7 (T u)|_=>C7 (T t)
def Iv:List CK->Bool
 |[]=>true
 | .lk k::r=>k.plain&&Iv r
 | .vec _::r=>Iv r
def LC(T:fh)(own:List Nat)(oa:List CK)(i t:Nat):Bool:=bif own.any (aN i)then(bif (T t).agg then Iv oa else true)else C7 (T t)
def Od(T:fh)(own:List Nat)(oa:List CK):List Nat->Nat->Bool
 |[],_=>true
 |t::ts,i=>LC T own oa i t&&Od T own oa ts (i+1)
def Kk(T:fh)(own:List Nat)(oa:List CK)(t:Nat):Bool:=match (T t).k with
 | .tuple []=>false
 | .tuple ts=>Od T own oa ts 0
 | .pt=>!(own.any (aN 0))&&C7 (T t)
 |_=>LC T own oa 0 t
def wW(T:fh)(own:List Nat)(oa:List CK)(ins:List Ob)(t:Nat):Bool:=(match ins with|[]=>true|_=>false)&&(match own with|[]=>KK T t|_=>Kk T own oa t)
def dI:Ob->Prop
 | .vec _ es=>∀e,e∈es->∀c,c∈e->∃x,c=.v x
 |_=>False
def xC(T:fh)(own:List Nat)(oa:List CK)(ins:List Ob)(t:Nat)(obs:List Ob):List Prop:=match own with
 |[]=>[]
 |_=>bif wW T own oa ins t then [∀x,x∈obs->dI x]else []
def rn(os:List Nat):List (Nat×Option Ob):=os.map fun o=>(o,none)
def gK(e:Operand->AV)(ob:Nat->Option Ob)(o:Oper)(f:Nat)(asq:List AV):B3 :=
 let c:=cfg (keyOf f asq)
 match jo ob c.mu asq 0 0 with
 |
  some (as',ins,os,fz)=>bif nodup os&&(!(os.any (gN fz))&&(eD (dU c.mu) ins&&(m8 ob c.mu os ins asq 0&&sK (dU c.mu) os ins)))then
   .c f (k8 c.mu as' 0) ins (let b:=dM (dU c.mu) os [] 0 (newName o.dst);fz++(os++(b.2.1++(ep T c.own c.ow c.oa o.type .any ins.length b.2.2.1 b.2.2.2).2.2).map (·.1))) fun r obs =>
    let b:=dM (dU c.mu) os obs 0 (newName o.dst)
    let v:=ep T c.own c.ow c.oa o.type r ins.length b.2.2.1 b.2.2.2
    (b.1++(v.1++xC T c.own c.oa ins o.type obs),{val:=v.2.1,cO:=(bif wW T c.own c.oa ins o.type then []else gp ob fz)++(rn os++(b.2.1++v.2.2)),new:=u7 (dU c.mu) (newName o.dst)++v.2.2.map (·.1)})
  else .no
 |none=>.no
def kN(e:Operand->AV)(ob:Nat->Option Ob)(o:Oper):B3 :=
 match o.op with
 |
  .call ⟨.value g,xs,_⟩ =>
  match e g with
  | .v (.func (.func f) fi cap)=>bif aN fi.size 0&&aN cap.size 0 then gK T cfg e ob o f (xs.toList.map e)else .no
  | .fn f cap=>gK T cfg e ob o f (xs.toList.map e++cap)
  |_=>.no
 |
  _=>match eu T e ob o with
  | .ok p d=>.d (some p) d
  | .yes d=>.d none d
  | .no=>.no
def yM(o:Oper)(s:St)(K:List Nat->List Nat->St->Tree):Tree :=
 match kN T cfg (ev s) s.ob o with
 | .no=>.fail
 | .d p d=>bif dW s n o.dst d then(match p with|none=>K d.rd (nr d) (s.app o.dst d)|some p=>.ai p (K d.rd (nr d) (s.app o.dst d)))else .fail
 | .c f asq ins wr k=>.call f asq ins fun r obs=>qi (k r obs).1 (bif dW s n o.dst (k r obs).2 then K [] wr (s.app o.dst (k r obs).2)else .fail)
def lY(draw:Bool)(all:List Oper):List Oper->List HE->St->(St->Tree)->Tree
 |[],_,s,K=>K s
 |
  o::rest,hist,s,K =>
  let run (s:St):Tree:=yM T cfg n o s fun rd wr s'=>bif !draw||((dL o).all (fun j=>cQ j hist.length)&&kW all o rd wr hist (jk o hist))then lY draw all rest (hist++[⟨hist.length,o,rd,wr,jk o hist⟩]) s' K else .fail
  let skip (s:St):Tree:=bif (match o.dst with|some t=>cQ t n|none=>true)&&(!draw||((dL o).all (fun j=>cQ j hist.length)&&kW all o [] [] hist (jk o hist)))then lY draw all rest (hist++[⟨hist.length,o,[],[],jk o hist⟩]) (match o.dst with|some t=>s.set t (.v (.tuple #[]))|none=>s) K else .fail
  match o.guard with
  |none=>run s
  |
   some (g,want)=>match (all[g]?).map (·.dst)with
   |
    some (some t)=>match s.tm t with
    | .v (.bool true)=>bif want then run s else skip s
    | .v (.bool false)=>bif want then skip s else run s
    | .v (.tuple _)=>skip s
    | .b b=>.test b (bif want then run (s.set t (.v (.bool true)))else skip (s.set t (.v (.bool true)))) (bif want then skip (s.set t (.v (.bool false)))else run (s.set t (.v (.bool false))))
    |_=>.fail
   |_=>.fail
inductive Ex where
 |normal|exit (id:Nat)|ret
def um(ob:Nat->Option Ob)(tm:Nat->AV):List (Nat×SK)->Option (List AV×List Nat)
 |[]=>some ([],[])
 |
  (t,_)::r=>match freeze ob eY (tm t),um ob tm r with
  |some (a,f),some (asq,fs)=>some (a::asq,f++fs)
  |_,_=>none
def xl(tm:Nat->AV):List (Nat×Nat)->Bool
 |[]=>true
 |(t,o)::r=>(match tm t with| .ref o' 0=>aN o o'|_=>false)&&xl tm r
def wO(tm:Nat->AV):List (Nat×Nat×List (Option Nat))->Bool
 |[]=>true
 |(t,f,js)::r=>(match tm t with| .ik f' js'=>aN f' f&&KG js' js|_=>false)&&wO tm r
def wQ:List AV->List Nat->Bool
 |[],[]=>true
 | .ref o 0::r,p::l=>aN o p&&wQ r l
 |_,_=>false
def xB(tm:Nat->AV):List (Nat×Nat×List Nat)->Bool
 |[]=>true
 |(t,f,js)::r=>(match tm t with| .fn f' caps=>aN f' f&&wQ caps js|_=>false)&&xB tm r
def rI(ob:Nat->Option Ob):List (Nat×List CK)->Option (List Ob×List Nat)
 |[]=>some ([],[])
 |
  (o,ks)::r=>match ob o with
  |
   some (.cells cs)=>match cj ob ks cs (100*o),rI ob r with
   |some (asq,obs,os),some (obs',os')=>some (.cells (fX ks asq)::obs++obs',o::os++os')
   |_,_=>none
  |_=>none
def lR(ob:Nat->Option Ob)(tm:Nat->AV):List (Nat×Nat)->Option (List Ob×List Nat)
 |[]=>some ([],[])
 |
  (t,sz)::r=>match tm t with
  |
   .v (.slice none 0 0)=>match lR ob tm r with
   |some (obs,os)=>some (.vec sz []::obs,(2*fm+t)::os)
   |none=>none
  |
   .vec o=>match ob o,lR ob tm r with
   |some (.vec sz es),some (obs,os)=>some (.vec sz es::obs,o::os)
   |_,_=>none
  |_=>none
def jW:Nat:=1000000
def n6:Nat:=2000000
def pV:Nat:=4000000
def nP:List (Nat×List CK)->Nat
 |[]=>0
 |(_,ks)::r=>bV ks+nP r
def rC(ob:Nat->Option Ob)(tm:Nat->AV):List (Nat×List CK)->Option (List AV×List Ob×List Nat)
 |[]=>some ([],[],[])
 |
  (t,ks)::r=>match tm t with
  |
   .agg cs=>match cj ob ks cs (pV+100*t),rC ob tm r with
   |some (asq,obs,os),some (xs,obs',os')=>some (.agg (fX ks asq)::xs,obs++obs',os++os')
   |_,_=>none
  |_=>none
def s5(ob:Nat->Option Ob)(tm:Nat->AV):List (Nat×Nat×Nat)->Option (List Ob×List Nat)
 |[]=>some ([],[])
 |
  (t,o,sz)::r=>match tm t with
  |
   .vec o'=>match ob o,s5 ob tm r with
   |some (.vec sz' es),some (obs,os)=>bif aN o' o&&aN sz' sz then some (.vec sz es::obs,o::os)else none
   |_,_=>none
  |_=>none
def Rt(cv:List (Nat×List CK)):Option Nat->Bool
 |none=>true
 |some o=>cv.any fun q=>aN q.1 o
def vW(h:Shape):Bool:=(h.cv.all (fun p=>cQ p.1 jW)&&h.kv.all (fun p=>cQ p.2.1 jW))&&(nodup (h.cv.map (·.1)++h.kv.map (·.2.1))&&(Nat.ble (jW+nP h.cv) n6&&(Nat.ble (n6+h.eV.length) pV&&(h.refs.all (fun p=>h.cv.any fun q=>aN q.1 p.2)&&(h.wP.all (fun p=>p.2.2.all (Rt h.cv))&&h.fns.all (fun p=>p.2.2.all fun o=>Rt h.cv (some o)))))))
def yf(h:Shape)(s:St):Option (List AV×List Ob) :=
 match um s.ob s.tm h.bQ,rI s.ob h.cv,lR s.ob s.tm h.eV,rC s.ob s.tm h.tV,s5 s.ob s.tm h.kv with
 |some (xs,fz),some (o1,n1),some (o2,n2),some (ys,o3,n3),some (o4,n4)=>bif ((xl s.tm h.refs&&(wO s.tm h.wP&&xB s.tm h.fns))&&!((n1++(n2++(n3++n4))).any (gN fz)))&&(nodup (n1++(n2++(n3++n4)))&&vW h)then some (xs++ys,o1++(o2++(o3++o4)))else none
 |_,_,_,_,_=>none
def yD:List (Nat×SK)->List AV->(Nat->AV)->Nat->AV
 |[],_,f=>f
 |(t,k)::r,xs,f=>yD r xs.tail (cO f t (k.cast (xs.headD .any)))
def ER:List (Nat×Nat)->(Nat->AV)->Nat->AV
 |[],f=>f
 |(t,o)::r,f=>ER r (cO f t (.ref o 0))
def Gj:List (Nat×Nat×List (Option Nat))->(Nat->AV)->Nat->AV
 |[],f=>f
 |(t,k,js)::r,f=>Gj r (cO f t (.ik k js))
def Fw:List (Nat×Nat×List Nat)->(Nat->AV)->Nat->AV
 |[],f=>f
 |(t,k,js)::r,f=>Fw r (cO f t (.fn k (js.map fun o=>.ref o 0)))
def sP:List (Nat×List CK)->List Ob->(Nat->Option Ob)->Nat->(Nat->Option Ob)×List Ob
 |[],obs,f,_=>(f,obs)
 |
  (o,ks)::r,obs,f,nm =>
  let c:=bZ ks (obs.headD .dead).cs 0 obs.tail nm
  sP r c.2.2.1 (cO (cS f c.2.1) o (some (.cells c.1))) c.2.2.2
def rU:List (Nat×Nat)->List Ob->(Nat->AV)->(Nat->Option Ob)->Nat->(Nat->AV)×(Nat->Option Ob)
 |[],_,f,g,_=>(f,g)
 |(t,sz)::r,obs,f,g,nm=>rU r obs.tail (cO f t (.vec nm)) (cO g nm (some (.vec sz (obs.headD .dead).es))) (nm+1)
def yz:List (Nat×List CK)->List AV->List Ob->(Nat->AV)->(Nat->Option Ob)->Nat->(Nat->AV)×(Nat->Option Ob)
 |[],_,_,f,g,_=>(f,g)
 |
  (t,ks)::r,xs,obs,f,g,nm =>
  let c:=bZ ks (xs.headD .any).cs 0 obs nm
  yz r xs.tail c.2.2.1 (cO f t (.agg c.1)) (cS g c.2.1) c.2.2.2
def wU:List (Nat×Nat×Nat)->List Ob->(Nat->AV)->(Nat->Option Ob)->(Nat->AV)×(Nat->Option Ob)
 |[],_,f,g=>(f,g)
 |(t,o,sz)::r,obs,f,g=>wU r obs.tail (cO f t (.vec o)) (cO g o (some (.vec sz (obs.headD .dead).es)))
def Pb(h:Shape)(xs:List AV)(obs:List Ob):St :=
 let o:=sP h.cv obs (fun _=>none) jW
 let v:=rU h.eV o.2 (Fw h.fns (Gj h.wP (ER h.refs (yD h.bQ xs (fun _=>.any))))) o.1 n6
 let u:=yz h.tV (xs.drop h.bQ.length) (o.2.drop h.eV.length) v.1 v.2 pV
 let k:=wU h.kv ((o.2.drop h.eV.length).drop (nP h.tV)) u.1 u.2
 {tm:=k.1,ob:=k.2,us:=fun x=>(k.2 x).isSome}
def pn:List (Nat×SK)->List AV->List Prop
 |[],_=>[]
 |(_,k)::r,xs=>k.has (xs.headD .any)::pn r xs.tail
def ae:List CK->List AV->Nat->List Ob->Prop
 |[],cs,i,_=>cs.length=i
 | .lk k::ks,cs,i,obs=>k.has (cs.getD i .any)/\ae ks cs (i+1) obs
 | .vec h::ks,cs,i,obs=>obs.headD .dead=.vec h (obs.headD .dead).es/\ae ks cs (i+1) obs.tail
def vB:List (Nat×List CK)->List Ob->List Prop
 |[],_=>[]
 |(_,ks)::r,obs=>(obs.headD .dead=.cells (obs.headD .dead).cs)::ae ks (obs.headD .dead).cs 0 obs.tail::vB r (obs.tail.drop (bV ks))
def oL:List (Nat×Nat)->List Ob->List Prop
 |[],_=>[]
 |(_,sz)::r,obs=>(obs.headD .dead=.vec sz (obs.headD .dead).es)::oL r obs.tail
def Ep:List (Nat×List CK)->Nat
 |[]=>0
 |(_,ks)::r=>1+bV ks+Ep r
def wt:List (Nat×List CK)->List AV->List Ob->List Prop
 |[],_,_=>[]
 |(_,ks)::r,xs,obs=>(xs.headD .any=.agg (xs.headD .any).cs)::ae ks (xs.headD .any).cs 0 obs::wt r xs.tail (obs.drop (bV ks))
def yH:List (Nat×Nat×Nat)->List Ob->List Prop
 |[],_=>[]
 |(_,_,sz)::r,obs=>(obs.headD .dead=.vec sz (obs.headD .dead).es)::yH r obs.tail
def An(h:Shape)(xs:List AV)(obs:List Ob):List Prop:=pn h.bQ xs++(vB h.cv obs++(oL h.eV (obs.drop (Ep h.cv))++(wt h.tV (xs.drop h.bQ.length) ((obs.drop (Ep h.cv)).drop h.eV.length)++yH h.kv (((obs.drop (Ep h.cv)).drop h.eV.length).drop (nP h.tV)))))
def kI:Code->Option Nat
 | .region i _ _=>some i
 | .seq a b=>match kI a with|some i=>some i|none=>kI b
 | .cond _ a b=>match kI a with|some i=>some i|none=>kI b
 | .block _ c| .loop c| .scope c=>kI c
 |_=>none
def DP:List (Nat×LI)->Nat->Option LI
 |[],_=>none
 |(j,m)::r,i=>bif aN j i then some m else DP r i
def KN:List Nat->List Nat->Bool
 |[],[]=>true
 |a::l,b::r=>aN a b&&KN l r
 |_,_=>false
def vn(fx:List Nat)(h:Shape):Bool:=fx.all fun o=>(h.cv.any fun q=>aN q.1 o)||h.kv.any fun q=>aN q.2.1 o
def go(lis:List (Nat×LI))(fx:List Nat):Code->St->(Ex->St->Tree)->Tree
 | .skip,s,K=>K .normal s
 | .region _ ops draw,s,K=>lY T cfg n draw ops.toList ops.toList [] s (K .normal)
 | .seq a b,s,K=>go lis fx a s fun e s'=>match e with| .normal=>go lis fx b s' K| .exit i=>K (.exit i) s'| .ret=>K .ret s'
 |
  .cond c a b,s,K=>match c with
  |
   .tmp t=>match s.tm t with
   | .v (.bool true)=>go lis fx a s K
   | .v (.bool false)=>go lis fx b s K
   | .b x=>.test x (go lis fx a (s.set t (.v (.bool true))) K) (go lis fx b (s.set t (.v (.bool false))) K)
   |_=>.fail
  | .const (.bool true)=>go lis fx a s K
  | .const (.bool false)=>go lis fx b s K
  |_=>.fail
 | .block id c,s,K=>go lis fx c s fun e s'=>match e with| .exit i=>bif aN i id then K .normal s' else K (.exit i) s'| .normal=>K .normal s'| .ret=>K .ret s'
 |
  .loop c,s,K=>match (kI c).bind (DP lis)with
  |
   some li=>bif KN fx li.fx&&(vn fx li.xs&&vn fx li.rt)then(match yf li.hd s with
   |some (xs,obs)=>.loop c li xs obs (fun ys obs'=>qi (An li.xs ys obs') (K (.exit li.ex) (Pb li.xs ys obs'))) (fun ys obs'=>qi (An li.rt ys obs') (K .ret (Pb li.rt ys obs')))
   |none=>.fail)else .fail
  |none=>.fail
 | .exit i,s,K=>K (.exit i) s
 | .label _,s,K=>K .normal s
 | .ret,s,K=>K .ret s
 |_,_,_=>.fail
def round(lis:List (Nat×LI))(c:Code)(li:LI)(xs:List AV)(obs:List Ob):Tree :=
 bif !(vn li.fx li.hd)then .fail else qi (An li.hd xs obs)<|go T cfg n lis li.fx c (Pb li.hd xs obs) fun e s=>match e with
  | .normal=>match yf li.hd s with|some (ys,o)=>.done 0 ys o|none=>.fail
  | .exit i=>bif aN i li.ex then(match yf li.xs s with|some (ys,o)=>.done 1 ys o|none=>.fail)else .fail
  | .ret=>match yf li.rt s with|some (ys,o)=>.done 2 ys o|none=>.fail
end
def nY(T:fh)(s:St):List ResultVar->Option (List Prop×List AV)
 |[]=>some ([],[])
 | .tmp t::r=>(nY T s r).map fun q=>(q.1,s.tm t::q.2)
 |
  .cell t ty::r=>match loadAt s.ob (T ty) (s.tm t),nY T s r with
  | .ok p d,some q=>some (p::q.1,d.val::q.2)
  | .yes d,some q=>some (q.1,d.val::q.2)
  |_,_=>none
def tX(T:fh)(s:St)(own:List Nat)(oa:List CK):List Nat->List AV->Nat->Nat->Option (List AV×List Ob×List Nat×List Nat)
 |_,[],_,_=>some ([],[],[],[])
 |
  ts,a::asq,i,k=>bif own.any (aN i)then
   match a with
   |
    .vec o=>match s.ob o,tX T s own oa ts.tail asq (i+1) (k+1)with
    |some (.vec sz es),some (xs,obs,os,fz)=>some (.vec k::xs,.vec sz es::obs,o::os,fz)
    |_,_=>none
   |
    .ref o 0=>match s.ob o with
    |
     some (.cells cs)=>match nV (freeze s.ob eY) cs,tX T s own oa ts.tail asq (i+1) (k+1)with
     |some (as',[]),some (xs,obs,os,fz)=>some (.ref k 0::xs,.cells as'::obs,o::os,fz)
     |_,_=>none
    |_=>none
   |
    .v (.slice none 0 0)=>match tX T s own oa ts.tail asq (i+1) (k+1)with
    |some (xs,obs,os,fz)=>some (.vec k::xs,.vec (rW T (ts.headD 0)) []::obs,(4*fm+k)::os,fz)
    |none=>none
   |
    .agg cs=>match cj s.ob oa cs k,tX T s own oa ts.tail asq (i+1) (k+bV oa)with
    |some (as',ob',os'),some (xs,obs,os,fz)=>some (.agg as'::xs,ob'++obs,os'++os,fz)
    |_,_=>none
   |_=>none
  else match freeze s.ob eY a,tX T s own oa ts.tail asq (i+1) k with
   |some (x,f),some (xs,obs,os,fz)=>some (x::xs,obs,os,f++fz)
   |_,_=>none
def nv(ob:Nat->Option Ob):List MK->Nat->Option (List Ob×List Nat)
 |[],_=>some ([],[])
 |
  .vec::ms,j=>match nv ob ms (j+1)with
  |some (obs,os)=>some (.dead::obs,(5*fm+j)::os)
  |none=>none
 |
  .vq _::ms,j=>match nv ob ms (j+1)with
  |some (obs,os)=>some (.dead::obs,(5*fm+j)::os)
  |none=>none
 |
  .cU _ ks::ms,j=>match ob j with
  |
   some (.vec sz es)=>bif aN sz (mY ks)then(match nv ob ms (j+1)with
   |some (obs,os)=>some (.ns sz es::obs,j::os)
   |none=>none)else none
  |_=>none
 |
  .obj ks::ms,j=>match ob j with
  |
   some (.cells cs)=>match cj ob ks cs (j+1)with
   |
    some (asq,obs,os)=>match nv ob ms (j+1+bV ks)with
    |some (obs',os')=>some (.cells asq::obs++obs',j::os++os')
    |none=>none
   |none=>none
  |_=>none
def finish(T:fh)(fc:FC)(rv:List ResultVar)(ts:List Nat)(s:St):Tree :=
 match nY T s rv with
 |
  some (p,asq)=>match nv s.ob (dU fc.mu) 0 with
  |some (obs',os')=>match tX T s fc.own fc.oa ts asq 0 obs'.length with
   |some (xs,obs,os,fz)=>bif nodup (os'++os)&&!((os'++os).any (gN fz))then qi p (.done 0 [match xs with|[]=>.any|[x]=>x|xs=>.cm xs] (obs'++obs))else .fail
   |none=>.fail
  |none=>.fail
 |none=>.fail
def setArgs:List AV->Nat->(Nat->AV)->Nat->AV
 |[],_,f=>f
 |a::asq,i,f=>setArgs asq (i+1) (cO f i a)
def sB:List Ob->Nat->(Nat->Option Ob)->Nat->Option Ob
 |[],_,f=>f
 |a::asq,i,f=>sB asq (i+1) (cO f i (some a))
def enter(args:List AV)(ins:List Ob):St :=
 {tm:=setArgs args 0 fun _=>.any,ob:=sB ins 0 fun _=>none,us:=fun j=>cQ j ins.length}
def main(T:fh)(cfg:Nat->FC)(lis:List (Nat×LI))(fc:FC)(f:Func)(args:List AV)(ins:List Ob):Tree :=
 match f.body with
 |
  some c=>bif Nat.ble args.length f.ntmps&&eD (dU fc.mu) ins then go T cfg f.ntmps lis (qQ (dU fc.mu) 0) c (enter args ins) fun e s=>match e with
  | .normal| .ret=>finish T fc f.results.toList f.resultTypes.toList s
  | .exit _=>.fail else .fail
 |none=>.fail
def cG(f:Func):Code:=match f.body with|some c=>c|none=>.skip
def iW:Code->Nat->Option Code
 |
  .loop c,i=>match kI c with
  |some j=>bif aN j i then some c else iW c i
  |none=>iW c i
 | .seq a b,i=>match iW a i with|some c=>some c|none=>iW b i
 | .cond _ a b,i=>match iW a i with|some c=>some c|none=>iW b i
 | .block _ c,i=>iW c i
 | .scope c,i=>iW c i
 |_,_=>none
def cL(c:Code)(i:Nat):Code:=match iW c i with|some d=>d|none=>.skip
def zC:List (Nat×TI)->Nat->TI
 |[],_=>⟨false,[],false,0,.other,false⟩
 |(j,m)::r,i=>bif aN j i then m else zC r i
def Dz:List (Nat×FC)->Nat->FC
 |[],_=>{}
 |(j,m)::r,i=>bif aN j i then m else Dz r i
end Go.VL
namespace Go.VL
open Go Go.RowKit
structure Mem where
 c:Nat->Nat->Option Value
 one:∀b k v,c b k=some v->v.oneCell'=true
 p:Nat->Prop
 pc:∀b,p b->∃k v,c b k=some v
structure Mem.le(M M':Mem):Prop where
 c:∀b k v,M.c b k=some v->M'.c b k=some v
 p:∀b,M.p b->M'.p b
theorem Mem.le.refl(M:Mem):M.le M:=⟨fun _ _ _ h=>h,fun _ h=>h⟩
theorem Mem.le.trans{M M' M'':Mem}(h:M.le M')(k:M'.le M''):M.le M'':=⟨fun b i v e=>k.c _ _ _ (h.c _ _ _ e),fun b e=>k.p _ (h.p _ e)⟩
inductive Loc where
 |cells (b:Nat)
 |vec (v:Value) (sz:Nat)
abbrev Lo:=Nat->Option Loc
def dG:Lo:=fun _=>none
def Lo.le(β β':Lo):Prop:=∀o l,β o=some l->β' o=some l
theorem Lo.le.refl(β:Lo):Lo.le β β:=fun _ _ h=>h
theorem FV(β:Lo):Lo.le dG β:=fun _ _ h=>by cases h
def Loc.block:Loc->Option Nat
 | .cells b=>some b
 | .vec (.slice (some a) _ _) _=>some a.block
 |_=>none
inductive bJ(M:Mem):Lo->AV->Value->Prop
 |any (β x):bJ M β .any x
 |v (β x):bJ M β (.v x) x
 |b (β t):bJ M β (.b t) (.bool t)
 |agg (β cs) (vs:List Value) (hl:cs.length=vs.length) (ho:∀i,i<cs.length->(vs.getD i undef).oneCell'=true) (h:∀i,i<cs.length->bJ M β (cs.getD i .any) (vs.getD i undef)):bJ M β (.agg cs) (.agg vs.toArray)
 |cm (β cs) (vs:List Value) (hl:cs.length=vs.length) (h:∀i,i<cs.length->bJ M β (cs.getD i .any) (vs.getD i undef)):bJ M β (.cm cs) (.tuple vs.toArray)
 |ptr (β) (cs:List AV) (b off:Nat) (us:Nat->Value) (h:∀i,i<cs.length->M.c b (off+i)=some (us i)) (h':∀i,i<cs.length->bJ M dG (cs.getD i .any) (us i)) :
  bJ M β (.ptr cs) (.pointer (some ⟨b,off,none⟩))
 |pid (β) (cs:List AV) (b:Nat) (us:Nat->Value) (hp:M.p b) (h:∀i,i<cs.length->M.c b i=some (us i)) (h':∀i,i<cs.length->bJ M dG (cs.getD i .any) (us i)) :
  bJ M β (.pid b cs) (.pointer (some ⟨b,0,none⟩))
 |slnil (β):bJ M β (.sl []) (.slice none 0 0)
 |sl (β) (es:List (List AV)) (b off c sz:Nat) (us:Nat->Value) (hc:es.length<=c) (hs:∀i,i<es.length->(es.getD i []).length=sz)
  (h:∀i,i<es.length*sz->M.c b (off+i)=some (us i)) (h':∀i j,i<es.length->j<sz->bJ M dG ((es.getD i []).getD j .any) (us (i*sz+j))) :
  bJ M β (.sl es) (.slice (some ⟨b,off,none⟩) es.length c)
 |x (β a v) (ho:v.oneCell'=true) (h:bJ M dG a v):bJ M β (.x a) v
 |ref (β:Lo) (o k b) (h:β o=some (.cells b)):bJ M β (.ref o k) (.pointer (some ⟨b,k,none⟩))
 |oY (β:Lo) (o k b) (h:β o=some (.cells b)):bJ M β (.oY o k) (.pointer (some ⟨b,k,none⟩))
 |vec (β:Lo) (o v sz) (ho:v.oneCell'=true) (h:β o=some (.vec v sz)):bJ M β (.vec o) v
 |nw (β:Lo) (o i k sz b off n c) (h:β o=some (.vec (.slice (some ⟨b,off,none⟩) n c) sz)):bJ M β (.nw o i k) (.pointer (some ⟨b,off+i*sz+k,none⟩))
 |ik (β:Lo) (f js b) (vs:List Value) (h:M.c b 0=some (.func (.func f) #[] vs.toArray)) (hl:js.length=vs.length) (hs:∀i,i<js.length->js.getD i none=none->vs.getD i undef=.pointer (some ⟨b,0,none⟩)) (ho:∀i o,i<js.length->js.getD i none=some o->∃b',β o=some (.cells b')/\vs.getD i undef=.pointer (some ⟨b',0,none⟩)) :
  bJ M β (.ik f js) (.pointer (some ⟨b,0,none⟩))
 |fn (β f cs) (vs:List Value) (hl:cs.length=vs.length) (h:∀i,i<cs.length->bJ M β (cs.getD i .any) (vs.getD i undef)):bJ M β (.fn f cs) (.func (.func f) #[] vs.toArray)
theorem bJ.mono{M M':Mem}(hM:M.le M'){β:Lo}{a:AV}{v:Value}(h:bJ M β a v):∀{β':Lo},Lo.le β β'->bJ M' β' a v:=by
 induction h with
 |any β x=>intro β' hβ;exact .any _ _
 |v β x=>intro β' hβ;exact .v _ _
 |b β t=>intro β' hβ;exact .b _ _
 |agg β cs vs hl ho h ih=>intro β' hβ;exact .agg _ _ _ hl ho fun i hi=>ih i hi hβ
 |cm β cs vs hl h ih=>intro β' hβ;exact .cm _ _ _ hl fun i hi=>ih i hi hβ
 |ptr β cs b off us h h' ih=>intro β' hβ;exact .ptr _ _ _ _ us (fun i hi=>hM.c _ _ _ (h i hi)) fun i hi=>ih i hi (Lo.le.refl _)
 |pid β cs b us hp h h' ih=>intro β' hβ;exact .pid _ _ _ us (hM.p _ hp) (fun i hi=>hM.c _ _ _ (h i hi)) fun i hi=>ih i hi (Lo.le.refl _)
 |slnil β=>intro β' hβ;exact .slnil _
 |sl β es b off c sz us hc hs h h' ih=>intro β' hβ;exact .sl _ _ _ _ _ sz us hc hs (fun i hi=>hM.c _ _ _ (h i hi)) fun i j hi hj=>ih i j hi hj (Lo.le.refl _)
 |x β a v ho h ih=>intro β' hβ;exact .x _ _ _ ho (ih (Lo.le.refl _))
 |ref β o k b h=>intro β' hβ;exact .ref _ _ _ _ (hβ _ _ h)
 |oY β o k b h=>intro β' hβ;exact .oY _ _ _ _ (hβ _ _ h)
 |vec β o v sz ho h=>intro β' hβ;exact .vec _ _ _ sz ho (hβ _ _ h)
 |nw β o i k sz b off n c h=>intro β' hβ;exact .nw _ _ _ _ sz _ _ n c (hβ _ _ h)
 |ik β f js b vs h hl hs ho=>intro β' hβ;exact .ik _ _ _ _ vs (hM.c _ _ _ h) hl hs fun i o hi e=>let ⟨b',h1,h2⟩:=ho i o hi e;⟨b',hβ _ _ h1,h2⟩
 |fn β f cs vs hl h ih=>intro β' hβ;exact .fn _ _ _ _ hl fun i hi=>ih i hi hβ
theorem bJ.up{M:Mem}{β:Lo}{a:AV}{v:Value}(h:bJ M dG a v):bJ M β a v:=h.mono (Mem.le.refl M) (FV β)
theorem AA{M:Mem}{β:Lo}{a:AV}{v:Value}(h:bJ M β a v)(hk:LK.ptr.has a):v.oneCell'=true:=by
 rcases hk with rfl|⟨cs,rfl⟩|⟨b,cs,rfl⟩<;>cases h<;>rfl
theorem Ca{M:Mem}{β:Lo}{a:AV}{v:Value}(h:bJ M β a v)(hk:CH a=true):v.oneCell'=true:=by
 cases h<;>first|rfl|(simp[CH]at hk;done)|skip
 ·exact hk
 all_goals assumption
theorem Gu{M:Mem}{β:Lo}{a:AV}{v:Value}(h:bJ M β a v)(hk:LK.lM.has a):v.oneCell'=true:=by
 have hk:CC a=true:=hk
 cases h<;>first|(simp[CC]at hk;done)|skip
 ·exact hk
 ·assumption
theorem lP{M:Mem}{β:Lo}{k:LK}{a:AV}{v:Value}(h:bJ M β a v)(hk:k.has a):bJ M dG a v:=by
 cases k with
 |int k=>obtain⟨n,rfl⟩:=hk;cases h;exact .v _ _
 |bool=>obtain⟨n,rfl⟩:=hk;cases h;exact .v _ _
 |str=>obtain⟨n,rfl⟩:=hk;cases h;exact .v _ _
 |
  ptr =>
  rcases hk with rfl|⟨cs,rfl⟩|⟨b,cs,rfl⟩
  ·cases h;exact .v _ _
  ·cases h with|ptr _ _ _ _ us h h'=>exact .ptr _ _ _ _ us h h'
  ·cases h with|pid _ _ _ us hp h h'=>exact .pid _ _ _ us hp h h'
 |
  sl =>
  rcases hk with rfl|⟨es,rfl⟩
  ·cases h;exact .v _ _
  ·cases h with
   |slnil=>exact .slnil _
   |sl _ _ _ _ _ sz us hc hs h h'=>exact .sl _ _ _ _ _ sz us hc hs h h'
 |
  lM =>
  have hk:CC a=true:=hk
  cases h<;>first|(simp[CC]at hk;done)|skip
  ·exact .v _ _
  ·rename_i ho h;exact .x _ _ _ ho h
theorem CB{M:Mem}{β:Lo}{a:AV}{v:Value}(h:bJ M β a v)(hk:LK.sl.has a):v.oneCell'=true:=by
 rcases hk with rfl|⟨cs,rfl⟩<;>cases h<;>rfl
theorem LK.iZ{M:Mem}{β:Lo}{k:LK}{a:AV}{v:Value}(h:bJ M dG a v)(hk:k.has a):bJ M β (k.cast a) v:=by
 cases k with
 |int k=>obtain⟨n,rfl⟩:=hk;exact h.up
 |bool=>obtain⟨n,rfl⟩:=hk;cases h;exact .b _ _
 |str=>obtain⟨n,rfl⟩:=hk;exact h.up
 |ptr=>exact .x _ _ _ (AA h hk) h
 |sl=>exact .x _ _ _ (CB h hk) h
 |lM=>exact .x _ _ _ (Gu h hk) h
theorem l9:∀(ks:List LK) (cs:List AV) (s i:Nat) (h:bC ks cs s) (hi:i<ks.length),(ks.getD i .lM).has (cs.getD (s+i) .any)
 |k::ks,cs,s,0,h,hi=>by simpa using h.1
 |
  k::ks,cs,s,i+1,h,hi=>by
  have:=l9 ks cs (s+1) i h.2 (by simpa using hi)
  simpa[Nat.add_comm,Nat.add_left_comm]using this
theorem dJ:∀(ks:List LK) (cs:List AV) (s:Nat),(j9 ks cs s).length=ks.length
 |[],_,_=>rfl
 |_::ks,cs,s=>by simp[j9,dJ ks cs (s+1)]
theorem lZ:∀(ks:List LK) (cs:List AV) (s i:Nat),i<ks.length->(j9 ks cs s).getD i .any=(ks.getD i .lM).cast (cs.getD (s+i) .any)
 |k::ks,cs,s,0,h=>by simp[j9]
 |
  k::ks,cs,s,i+1,h=>by
  have:=lZ ks cs (s+1) i (by simpa using h)
  simp only[j9,List.getD_cons_succ]
  rw[this]
  congr 2
  omega
theorem qF{M:Mem}{β:Lo}{ks:List LK}{cs:List AV}{s:Nat}{us:Nat->Value}(h:bC ks cs s)(ho:∀i,i<ks.length->(us i).oneCell'=true)(hr:∀i,i<ks.length->bJ M dG (cs.getD (s+i) .any) (us i)) :
 bJ M β (.agg (j9 ks cs s)) (.agg ((bA ks.length).map us).toArray):=by
 refine .agg _ _ _ (by simp[dJ]) (fun i hi=>by rw[dJ]at hi;simpa[aa,hi]using ho i hi) fun i hi=>?_
 rw[dJ]at hi
 rw[lZ ks cs s i hi]
 have e:((bA ks.length).map us).getD i undef=us i:=by simp[aa,hi]
 rw[e]
 exact LK.iZ (hr i hi) (l9 ks cs s i h hi)
structure iU(M:Mem)(w:World):Prop where
 c:∀b k v,M.c b k=some v->w.cell? ⟨b,k,none⟩=some v
 p:∀b,M.p b->∃vs e,w.heap[b]?=some (.cells vs e (0,0))/\vs.size≠0
instance (M:Mem) (w:World):CoeFun (iU M w) (fun _=>∀b k v,M.c b k=some v->w.cell? ⟨b,k,none⟩=some v):=⟨iU.c⟩
def Ob.live:Ob->Bool
 | .cells _| .vec _ _| .ns _ _=>true
 |_=>false
def Own(M:Mem)(β:Lo)(w:World)(o:Nat):Ob->Prop
 | .cells cs=>∃b vs e,β o=some (.cells b)/\w.heap[b]?=some (.cells vs e (0,0))/\vs.size=cs.length/\(∀i,i<cs.length->bJ M β (cs.getD i .any) (vs.getD i undef))/\(∀k,M.c b k=none)/\∀v,v∈vs->v.oneCell'=true
 | .vec sz es=>∃v,β o=some (.vec v sz)/\(∀i,i<es.length->(es.getD i []).length=sz) /\
  ((
   v=.slice none 0 0/\es=[])\/∃b off c vs e,v=.slice (some ⟨b,off,none⟩) es.length c/\es.length<=c/\w.heap[b]?=some (.cells vs e (0,0))/\off+c*sz<=vs.size /\
   (∀i j,i<es.length->j<sz->bJ M dG ((es.getD i []).getD j .any) (vs.getD (off+(i*sz+j)) undef))/\(∀k,M.c b k=none)/\off=0/\∀v,v∈vs->v.oneCell'=true)
 | .i7 cs=>∃(b:Nat) (us:Nat->Value),β o=some (.cells b)/\(∀i,i<cs.length->M.c b i=some (us i)/\bJ M β (cs.getD i .any) (us i))
 | .nR es=>∃v sz,β o=some (.vec v sz)/\(∀i,i<es.length->(es.getD i []).length=sz) /\
  ((
   v=.slice none 0 0/\es=[])\/∃(b off c:Nat) (us:Nat->Value),v=.slice (some ⟨b,off,none⟩) es.length c/\es.length<=c/\(∀i,i<es.length*sz->M.c b (off+i)=some (us i)) /\
   (∀i j,i<es.length->j<sz->bJ M dG ((es.getD i []).getD j .any) (us (i*sz+j))))
 | .ns sz es=>∃v,β o=some (.vec v sz)/\(∀i,i<es.length->(es.getD i []).length=sz) /\
  ((
   v=.slice none 0 0/\es=[])\/∃b off c vs e,v=.slice (some ⟨b,off,none⟩) es.length c/\es.length<=c/\w.heap[b]?=some (.cells vs e (0,0))/\off+c*sz<=vs.size /\
   (∀i j,i<es.length->j<sz->bJ M dG ((es.getD i []).getD j .any) (vs.getD (off+(i*sz+j)) undef))/\(∀k,M.c b k=none)/\off=0/\∀v,v∈vs->v.oneCell'=true)
 | .dead=>True
def eE(β:Lo)(o:Nat):Option Nat:=(β o).bind Loc.block
structure kJ where
 w0:World
 M0:Mem
 wD:Nat->Prop
 fix:Nat->Option Loc
structure BF(A:kJ)(w:World):Prop where
 os:w.os=A.w0.os
 tape:w.tape=A.w0.tape
 output:w.output=A.w0.output
 size:A.w0.heap.size<=w.heap.size
 block:∀b,b<A.w0.heap.size->¬A.wD b->w.heap[b]?=A.w0.heap[b]?
structure dz(n:Nat)(A:kJ)(s:St)(a:Act)(w:World)(M:Mem)(β:Lo):Prop where
 size:a.tmps.size=n
 defs:a.defers=[]
 tm:∀t,bJ M β (s.tm t) (a.tmps.getD t undef)
 le:A.M0.le M
 new:∀b k v,M.c b k=some v->A.M0.c b k=some v\/A.w0.heap.size<=b\/A.wD b
 agree:iU M w
 own:∀o x,s.ob o=some x->Own M β w o x
 place:∀o x b,s.ob o=some x->x.live=true->eE β o=some b->A.w0.heap.size<=b\/A.wD b
 apart:∀o o' x x' b,o≠o'->s.ob o=some x->x.live=true->s.ob o'=some x'->x'.live=true->eE β o=some b->eE β o'≠some b
 us:∀o,s.us o=false->β o=none/\s.ob o=none
 fix:∀o b,A.fix o=some b->s.us o=true/\∀x,s.ob o=some x->β o=some b
 cU:BF A w
def gP(n:Nat)(A:kJ)(s:St)(a:Act)(w:World):Prop:=∃M β,dz n A s a w M β
theorem aV{α:Type}(f:Nat->α)(i:Nat)(a:α):cO f i a i=a:=by simp[cO,Nat.beq_refl]
theorem bh{α:Type}(f:Nat->α)(i j:Nat)(a:α)(h:j≠i):cO f i a j=f j:=by
 have:aN j i=false:=by
  cases e:aN j i with
  |false=>rfl
  |true=>exact absurd (aG e) h
 simp[cO,this]
theorem dz.RJ{n:Nat}{A:kJ}{s:St}{a:Act}{w:World}{M:Mem}{β:Lo}(g:dz n A s a w M β){d:Nat}(hd:s.us d=false){ob':Nat->Option Ob}(ho:∀o y,o≠d->ob' o=some y->∃z,s.ob o=some z){l:Loc} :
 ∀o b,A.fix o=some b->cO s.us d true o=true/\∀y,ob' o=some y->cO β d (some l) o=some b:=fun o b hf=>by
 obtain⟨h1,h2⟩:=g.fix o b hf
 have hne:o≠d:=fun e=>by subst e;rw[hd]at h1;cases h1
 refine⟨by rw[bh _ _ _ _ hne];exact h1,fun y hy=>?_⟩
 obtain⟨z,hz⟩:=ho o y hne hy
 rw[bh _ _ _ _ hne];exact h2 z hz
theorem dz.II{n:Nat}{A:kJ}{s:St}{a:Act}{w:World}{M:Mem}{β:Lo}(g:dz n A s a w M β){ob':Nat->Option Ob}(ho:∀o y,ob' o=some y->∃z,s.ob o=some z) :
 ∀o b,A.fix o=some b->s.us o=true/\∀y,ob' o=some y->β o=some b:=fun o b hf=>by
 obtain⟨h1,h2⟩:=g.fix o b hf
 exact⟨h1,fun y hy=>by obtain⟨z,hz⟩:=ho o y hy;exact h2 z hz⟩
theorem dz.ev{n:Nat}{A:kJ}{s:St}{a:Act}{w:World}{M:Mem}{β:Lo}(g:dz n A s a w M β)(x:Operand):bJ M β (VL.ev s x) (a.eval x):=by
 cases x with
 |tmp t=>exact g.tm t
 |const v=>exact .v _ _
 |global g=>exact .v _ _
 |func f=>exact .v _ _
end Go.VL
namespace Go.VL
open Go Go.RowKit
def AY:TypeDesc->Bool
 | .struct _| .array _ _=>true
 |_=>false
def ub:TK->TypeDesc->Bool
 | .str,.string=>true
 | .slice e,.slice e'=>aN e e'
 | .array n e,.array n' e'=>aN n n'&&aN e e'
 | .struct fs,.struct fl=>fl.toList.map (fun f=>(f.offset,f.type))==fs
 | .pt,.pointer _=>true
 | .bl,.bool=>true
 | .num k,.int k'=>k==k'
 | .other,_=>true
 |_,_=>false
def qX:LK->Value->Bool
 | .int k,.int k' n=>k==k'&&n==0
 | .bool,.bool q=>!q
 | .str,.string s=>s.data.toList==[]
 | .ptr,.pointer none=>true
 | .sl,.slice none 0 0=>true
 | .lM,v=>v.oneCell'
 |_,_=>false
def kb:List LK->List Value->Bool
 |[],[]=>true
 |k::ks,v::vs=>qX k v&&kb ks vs
 |_,_=>false
def Ru:LK->Option TypeDesc->Bool
 | .str,some .string=>true
 | .int k,some (.int k')=>k==k'
 |_,_=>false
def oX(P:Program):List Field->List LK->Nat->Bool
 |[],[],_=>true
 |f::fs,l::ls,i=>f.name != "_"&&aN f.offset i&&Ru l (P.underlying f.type)&&oX P fs ls (i+1)
 |_,_,_=>false
def TI.oD(P:Program)(t:Nat)(ti:TI):Bool :=
 match P.info? t,P.underlying t with
 |some i,some d=>aN i.size ti.lk.length&&aN i.bytes ti.bytes&&(AY d==ti.agg)&&ub ti.k d&&(match i.zero with|some z=>kb ti.lk z.cells.toList&&(match z with| .agg _=>ti.agg|_=>!ti.agg)|none=>false)&&(ti.agg||aN ti.lk.length 1)&&(!ti.nz||(match d with| .pointer e=>(match P.info? e with|some i=>!(aN i.size 0)|none=>false)| .struct ds=>!(P.stoodInHeld t)&&!(P.eqGuardType P.depth t)&&oX P ds.toList ti.lk 0|_=>false))
 |_,_=>false
structure jl(P:Program)(t:Nat)(ti:TI):Prop where
 info:∃i z,P.info? t=some i/\i.size=ti.lk.length/\i.bytes=ti.bytes/\i.zero=some z/\kb ti.lk z.cells.toList=true/\(ti.agg=true↔∃cs,z=.agg cs)
 GY:∃d,P.underlying t=some d/\AY d=ti.agg/\ub ti.k d=true
 one:ti.agg=false->ti.lk.length=1
 nz:ti.nz=true->ti.k=.pt->∃e i,P.underlying t=some (.pointer e)/\P.info? e=some i/\i.size≠0
 sq:ti.nz=true->∀fs,ti.k=.struct fs->∃ds,P.underlying t=some (.struct ds)/\P.stoodInHeld t=false/\P.eqGuardType P.depth t=false/\oX P ds.toList ti.lk 0=true
def dw(P:Program)(T:fh):Prop:=∀t,(T t).kn=true->jl P t (T t)
theorem I7{P:Program}{t:Nat}{ti:TI}(h:ti.oD P t=true):jl P t ti:=by
 unfold TI.oD at h
 split at h
 ·rename_i i d hi hd
  simp only[aA,bH]at h
  obtain⟨⟨⟨⟨⟨⟨h1,h2⟩,h3⟩,h4⟩,h5⟩,h6⟩,h9⟩:=h
  have e1:=aG h1
  have e2:=aG h2
  have e3:AY d=ti.agg:=by simpa using h3
  split at h5
  ·rename_i z hz
   simp only[aA]at h5
   refine⟨⟨i,z,hi,e1,e2,hz,h5.1,?_⟩,⟨d,hd,e3,h4⟩,fun ha=>?_,fun hnz hpt=>?_,fun hnz fs hst=>?_⟩
   ·have h7:=h5.2
    split at h7
    ·simp[h7]
    ·rename_i hne
     constructor
     ·intro hh;simp[hh]at h7
     ·rintro⟨cs,rfl⟩;exact absurd rfl (hne cs)
   ·rcases h6 with h6|h6
    ·rw[ha]at h6;cases h6
    ·exact aG h6
   ·rcases h9 with h9|h9
    ·rw[hnz]at h9;cases h9
    ·split at h9
     ·rename_i e _ _
      split at h9
      ·rename_i i' hi'
       exact⟨_,i',hd,hi',fun e0=>by rw[e0]at h9;cases h9⟩
      ·cases h9
     ·rw[hpt]at h4;cases h4
     ·cases h9
   ·rcases h9 with h9|h9
    ·rw[hnz]at h9;cases h9
    ·rw[hst]at h4
     cases d<;>first
      |(simp[ub]at h4;done)
      |(
       simp only[aA,cy]at h9
       exact⟨_,hd,h9.1.1,h9.1.2,h9.2⟩)
  ·cases h5
 ·cases h
section
variable {P:Program} {t:Nat} {ti:TI}
theorem jl.uR(h:jl P t ti)(w:World):(isAgg t).run P w=.ok ti.agg w:=by
 obtain⟨d,hd,ha,_⟩:=h.GY
 unfold isAgg
 rw[Sem.run_bind,run_underlying hd w]
 rw[<-ha]
 cases d<;>rfl
theorem jl.j1(h:jl P t ti)(w:World):(sizeOf t).run P w=.ok ti.sz w:=by
 obtain⟨i,z,hi,hs,_⟩:=h.info
 simp[sizeOf,typeInfo,hi,hs,TI.sz]
end
theorem Ci{M:Mem}{β:Lo}:∀{k:LK} {v:Value},qX k v=true->bJ M β k.zero v
 |
  .int k,v,h=>by
  cases v<;>simp[qX]at h
  obtain⟨rfl,rfl⟩:=h
  exact .v _ _
 |
  .bool,v,h=>by
  cases v<;>simp[qX]at h
  subst h;exact .v _ _
 |
  .str,v,h=>by
  cases v<;>simp[qX]at h
  rename_i s
  obtain⟨d⟩:=s
  simp at h
  subst h;exact .v _ _
 |
  .ptr,v,h=>by
  cases v<;>simp[qX]at h
  rename_i a
  cases a<;>simp at h
  exact .v _ _
 |
  .sl,v,h=>by
  unfold qX at h
  split at h<;>first|cases h|skip
  all_goals first|exact .v _ _|(exfalso;simp_all)
 | .lM,v,h=>.x _ _ _ h (.any _ _)
theorem CM:∀{k:LK} {v:Value},qX k v=true->v.oneCell'=true
 | .lM,v,h=>h
 | .int k,v,h=>by cases v<;>first|rfl|simp[qX]at h
 | .bool,v,h=>by cases v<;>first|rfl|simp[qX]at h
 | .str,v,h=>by cases v<;>first|rfl|simp[qX]at h
 | .ptr,v,h=>by cases v<;>first|rfl|simp[qX]at h
 | .sl,v,h=>by cases v<;>first|rfl|simp[qX]at h
theorem uA:∀{ks:List LK} {vs:List Value},kb ks vs=true->∀v,v∈vs->v.oneCell'=true
 |[],[],_,v,hv=>by cases hv
 |[],_::_,h,_,_=>by simp[kb]at h
 |_::_,[],h,_,_=>by simp[kb]at h
 |
  k::ks,v::vs,h,u,hu=>by
  simp only[kb,aA]at h
  rcases aI.1 hu with rfl|hu
  ·exact CM h.1
  ·exact uA h.2 u hu
theorem uI:∀{ks:List LK} {vs:List Value},kb ks vs=true->ks.length=vs.length
 |[],[],_=>rfl
 |[],_::_,h=>by simp[kb]at h
 |_::_,[],h=>by simp[kb]at h
 |k::ks,v::vs,h=>by simp[kb]at h;simp[uI h.2]
theorem uS{M:Mem}{β:Lo}:∀{ks:List LK} {vs:List Value},kb ks vs=true->∀i,i<ks.length->bJ M β ((ks.map LK.zero).getD i .any) (vs.getD i undef)
 |[],[],_,i,hi=>by simp at hi
 |[],_::_,h,_,_=>by simp[kb]at h
 |_::_,[],h,_,_=>by simp[kb]at h
 |k::ks,v::vs,h,0,_=>by simp[kb]at h;simpa using Ci h.1
 |
  k::ks,v::vs,h,i+1,hi=>by
  simp[kb]at h
  simpa using uS h.2 i (by simpa using hi)
def DR.holds(r:DR)(X:De->Prop):Prop :=
 match r with
 | .no=>True
 | .yes d=>X d
 | .ok p d=>p->X d
theorem DR.bc{q:Bool}{r:DR}{X:De->Prop}(h:q=true->r.holds X):(dO q r).holds X:=by
 cases q
 ·trivial
 ·exact h rfl
theorem DR.my{r:DR}{q:Prop}{X:De->Prop}(h:q->r.holds X):(r.DC q).holds X:=by
 cases r with
 |no=>trivial
 |yes d=>exact h
 |ok p d=>exact fun hh=>h hh.1 hh.2
theorem DR.im{r:DR}{q:Option Prop}{X:De->Prop}(h:(∀p,q=some p->p)->r.holds X):(r.when q).holds X:=by
 cases q with
 |none=>exact h (fun _ hh=>by cases hh)
 |some p=>exact DR.my fun hp=>h (fun p' hh=>by cases hh;exact hp)
theorem DR.ij{r:DR}{X Y:De->Prop}(h:r.holds X)(hxy:∀d,X d->Y d):r.holds Y:=by
 cases r with
 |no=>trivial
 |yes d=>exact hxy _ h
 |ok p d=>exact fun hp=>hxy _ (h hp)
theorem DR.wS{r:DR}{o:Nat}{X:De->Prop}(h:r.holds fun d=>X {d with rd:=o::d.rd}):(r.reads o).holds X:=by
 cases r with
 |no=>trivial
 |yes d=>exact h
 |ok p d=>exact h
def kC(P:Program)(M:Mem)(β:Lo)(s:Sem Value)(w:World)(x:AV):Prop:=∃v,s.run P w=.ok v w/\bJ M β x v
def Quiet(X:AV->Prop)(d:De):Prop:=d.cO=[]/\d.new=[]/\X d.val
end Go.VL
namespace Go.VL
open Go Go.RowKit
section
variable {P:Program} {M:Mem} {β:Lo} {w:World}
theorem kQ(b o i:Nat):(⟨b,o,none⟩:Addr).add i=⟨b,o+i,none⟩:=by
 unfold Addr.add
 split
 ·subst_vars;rfl
 ·rfl
theorem rL(op:BinOp)(t:Nat)(x y:Operand)(k k':IntKind)(a b:Int):(eqGuard op t x y (.int k a) (.int k' b)).run P w=.ok () w:=by
 unfold eqGuard;split<;>rfl
theorem rP(op:BinOp)(t:Nat)(x y:Operand)(a b:ByteArray):(eqGuard op t x y (.string a) (.string b)).run P w=.ok () w:=by
 unfold eqGuard;split<;>rfl
theorem qC(op:BinOp)(t:Nat)(x y:Operand)(a b:Bool):(eqGuard op t x y (.bool a) (.bool b)).run P w=.ok () w:=by
 unfold eqGuard;split<;>rfl
theorem nh(op:BinOp)(t:Nat)(x y:Operand)(a b:Option Addr):(eqGuard op t x y (.pointer a) (.pointer b)).run P w=.ok () w:=by
 unfold eqGuard;split<;>rfl
theorem FN(op:BinOp)(t:Nat)(x y:Operand)(k:IntKind)(a b:Int) :
 (Ia op k a b).holds (Quiet fun r=>kC P M β (do eqGuard op t x y (.int k a) (.int k b);binOp op t (.int k a) (.int k b)) w r):=by
 have e:=rL (P:=P) (w:=w) op t x y k k a b
 cases op<;>simp only[Ia,DR.holds]<;>first
  |trivial
  |(
   intro hb
   refine⟨rfl,rfl,?_⟩
   refine⟨_,?_,.v _ _⟩
   simp only[Sem.run_bind,e,Result.andThen_ok,binOp,Op.intDiv,ne_eq,not_true_eq_false,if_false]
   rw[if_neg hb]
   rfl)
  |(
   refine⟨rfl,rfl,?_⟩
   refine⟨_,?_,by first|exact .v _ _|exact .b _ _⟩
   simp[Sem.run_bind,e,binOp,Op.intArith,Op.intCmp,Op.intBits,CX])
theorem EX(op:BinOp)(t:Nat)(x y:Operand)(a b:ByteArray) :
 (HX op a b).holds (Quiet fun r=>kC P M β (do eqGuard op t x y (.string a) (.string b);binOp op t (.string a) (.string b)) w r):=by
 have e:=rP (P:=P) (w:=w) op t x y a b
 cases op<;>simp only[HX,DR.holds]<;>(try trivial)<;>(try intro hb)<;>refine⟨rfl,rfl,?_⟩
 ·refine⟨.string (a++b),?_,.v _ _⟩
  have:¬(((a.size+b.size:Nat):Int)>IntKind.i64.max):=by
   have:IntKind.i64.max=9223372036854775807:=by decide
   omega
  simp only[Sem.run_bind,e,Result.andThen_ok,binOp,Op.stringOp]
  rw[if_neg this];rfl
 all_goals (refine⟨_,?_,.b _ _⟩;simp[Sem.run_bind,e,binOp,Op.stringOp])
theorem pQ{t:Nat}{ti:TI}(h:jl P t ti)(hk:ti.k=.pt)(a:Option Addr):(Op.equal t (.pointer a) (.pointer none)).run P w=.ok a.isNone w:=by
 obtain⟨d,hd,_,hc⟩:=h.GY
 rw[hk]at hc
 cases d<;>simp[ub]at hc
 show (Op.equalIn (9999+1) t (.pointer a) (.pointer none)).run P w=_
 unfold Op.equalIn
 rw[Sem.run_bind,run_underlying hd w]
 cases a<;>rfl
theorem run_equal_bool{t:Nat}{ti:TI}(h:jl P t ti)(hk:ti.k=.bl)(a b:Bool):(Op.equal t (.bool a) (.bool b)).run P w=.ok (a==b) w:=by
 obtain⟨d,hd,_,hc⟩:=h.GY
 rw[hk]at hc
 cases d<;>simp[ub]at hc
 show (Op.equalIn (9999+1) t (.bool a) (.bool b)).run P w=_
 unfold Op.equalIn
 rw[Sem.run_bind,run_underlying hd w]
 rfl
theorem qx{t:Nat}{ti:TI}(h:jl P t ti)(hk:ti.k=.pt)(op:BinOp)(x y:Operand)(a:Option Addr)(c:Bool)(hc:nt op a.isNone=some c) :
 (do eqGuard op t x y (.pointer a) (.pointer none);binOp op t (.pointer a) (.pointer none):Sem Value).run P w=.ok (.bool c) w:=by
 have e:=nh (P:=P) (w:=w) op t x y a none
 have q:=pQ (P:=P) (w:=w) h hk a
 cases op<;>simp only[nt]at hc<;>cases hc<;>simp[Sem.run_bind,e,binOp,q]
theorem CO{t:Nat}(op:BinOp)(x y:Operand)(a b:Option Addr)(c:Bool)(hc:nt op (decide (a=b))=some c)(q:(Op.equal t (.pointer a) (.pointer b)).run P w=.ok (decide (a=b)) w) :
 (do eqGuard op t x y (.pointer a) (.pointer b);binOp op t (.pointer a) (.pointer b):Sem Value).run P w=.ok (.bool c) w:=by
 have e:=nh (P:=P) (w:=w) op t x y a b
 cases op<;>simp only[nt]at hc<;>cases hc<;>simp[Sem.run_bind,e,binOp,q]
theorem sO{t:Nat}{ti:TI}(h:jl P t ti)(hk:ti.nz=true)(hpt:ti.k=.pt)(a b:Option Addr)(ha:∀x,a=some x->∃vs e,w.heap[x.block]?=some (.cells vs e (0,0)))(hb:∀x,b=some x->∃vs e,w.heap[x.block]?=some (.cells vs e (0,0))) :
 (Op.equal t (.pointer a) (.pointer b)).run P w=.ok (decide (a=b)) w:=by
 obtain⟨e,i,hd,hi,hs⟩:=h.nz hk hpt
 show (Op.equalIn (9999+1) t (.pointer a) (.pointer b)).run P w=_
 unfold Op.equalIn
 rw[Sem.run_bind,run_underlying hd w]
 cases a with
 |none=>cases b<;>rfl
 |
  some a =>
  cases b with
  |none=>rfl
  |
   some b =>
   have hsz:(sizeOf e).run P w=.ok i.size w:=by simp[sizeOf,typeInfo,hi]
   by_cases hab:a=b
   ·subst hab
    simp[Result.andThen,Sem.run_bind,hsz,hs,run_sameAddr_same]
   ·obtain⟨va,ea,ha'⟩:=ha a rfl
    obtain⟨vb,eb,hb'⟩:=hb b rfl
    simp[Result.andThen,Sem.run_bind,hsz,hs,hab]
    exact run_sameAddr_other w hab ha' hb'
theorem Dp{t:Nat}{ti:TI}(h:jl P t ti)(hk:ti.k=.bl)(op:BinOp)(x y:Operand)(a b c:Bool)(hc:nt op (a==b)=some c) :
 (do eqGuard op t x y (.bool a) (.bool b);binOp op t (.bool a) (.bool b):Sem Value).run P w=.ok (.bool c) w:=by
 have e:=qC (P:=P) (w:=w) op t x y a b
 have q:=run_equal_bool (P:=P) (w:=w) h hk a b
 cases op<;>simp only[nt]at hc<;>cases hc<;>simp[Sem.run_bind,e,binOp,q]
theorem zl{a:AV}{v:Value}(h:bJ M dG a v)(hk:LK.ptr.has a):∃q,v=.pointer q/\a.isNil=q.isNone:=by
 rcases hk with rfl|⟨cs,rfl⟩|⟨b,cs,rfl⟩
 ·cases h;exact⟨none,rfl,rfl⟩
 ·cases h;exact⟨_,rfl,rfl⟩
 ·cases h;exact⟨_,rfl,rfl⟩
theorem Jb(hA:iU M w){a b:AV}{v u:Value}(h:bJ M dG a v)(h':bJ M dG b u)(hk:a.tD)(hk':b.tD):∃p q,v=.pointer p/\u=.pointer q/\a.DG b=decide (p=q) /\
 (∀x,p=some x->∃vs e,w.heap[x.block]?=some (.cells vs e (0,0)))/\(∀x,q=some x->∃vs e,w.heap[x.block]?=some (.cells vs e (0,0))):=by
 have key:∀{a:AV} {v:Value},bJ M dG a v->a.tD->(a=.v (.pointer none)/\v=.pointer none)\/∃b cs,a=.pid b cs/\v=.pointer (some ⟨b,0,none⟩)/\∃vs e,w.heap[b]?=some (.cells vs e (0,0)):=by
  intro a v h hk
  unfold AV.tD at hk
  split at hk
  ·cases h;exact .inl ⟨rfl,rfl⟩
  ·cases h with
   |
    pid _ _ _ us hp _ _ =>
    obtain⟨vs,e,h1,_⟩:=hA.p _ hp
    exact .inr ⟨_,_,rfl,rfl,vs,e,h1⟩
  ·exact absurd hk id
 have none1:∀x:Addr,(none:Option Addr)=some x->∃vs e,w.heap[x.block]?=some (.cells vs e (0,0)):=fun x h=>by cases h
 rcases key h hk with⟨rfl,rfl⟩|⟨b1,c1,rfl,rfl,p1⟩<;>rcases key h' hk' with⟨rfl,rfl⟩|⟨b2,c2,rfl,rfl,p2⟩
 ·exact⟨_,_,rfl,rfl,rfl,none1,none1⟩
 ·exact⟨_,_,rfl,rfl,rfl,none1,fun x h=>by cases h;exact p2⟩
 ·exact⟨_,_,rfl,rfl,rfl,fun x h=>by cases h;exact p1,none1⟩
 ·refine⟨_,_,rfl,rfl,?_,fun x h=>by cases h;exact p1,fun x h=>by cases h;exact p2⟩
  show aN b1 b2=_
  rw[cK]
  simp[Nat.beq_eq]
theorem vr{y v:Value}(h:bJ M β (.v y) v):v=y:=by cases h;rfl
theorem uz{t off:Nat}{vs:List Value}{d:TypeDesc}(hu:P.underlying t=some d)(hd:AY d=false)(hl:off<vs.length):(part t vs.toArray off).run P w=.ok (vs.getD off undef) w:=by
 have e:vs.toArray[off]?=some (vs.getD off undef):=by simp[aa,hl]
 cases d<;>first|(simp[AY]at hd;done)|simp[part,isAgg,run_underlying hu,e]
theorem FW{l:LK}{c d:AV}{q:Bool}(h:Rr l c d=some q):(∃a b,l=.str/\c=.v (.string a)/\d=.v (.string b)/\q=(a.toList==b.toList))\/∃k a b,l=.int k/\c=.v (.int k a)/\d=.v (.int k b)/\q=(a==b):=by
 unfold Rr at h
 split at h
 ·cases h;exact .inl ⟨_,_,rfl,rfl,rfl,rfl⟩
 ·split at h
  ·split at h
   ·subst_vars;cases h;exact .inr ⟨_,_,_,rfl,rfl,rfl,rfl⟩
   ·cases h
  ·cases h
 ·cases h
theorem FR{t:Nat}{l:LK}{c d:AV}{x y:Value}{q:Bool}(h:Rr l c d=some q)(hk:Ru l (P.underlying t)=true)(hx:bJ M β c x)(hy:bJ M β d y) :
 (∃e,P.underlying t=some e/\AY e=false)/\(Op.equalIn 9999 t x y).run P w=.ok q w:=by
 rcases FW h with⟨a,b,rfl,rfl,rfl,rfl⟩|⟨k,a,b,rfl,rfl,rfl,rfl⟩
 ·cases hu:P.underlying t with
  |none=>rw[hu]at hk;cases hk
  |
   some e =>
   rw[hu]at hk
   cases e<;>first
    |(simp[Ru]at hk;done)
    |(
     rw[vr hx,vr hy]
     exact⟨⟨_,rfl,rfl⟩,run_equalIn_string w 9998 t _ _ hu⟩)
 ·cases hu:P.underlying t with
  |none=>rw[hu]at hk;cases hk
  |
   some e =>
   rw[hu]at hk
   cases e<;>first
    |(simp[Ru]at hk;done)
    |(
     rw[vr hx,vr hy]
     exact⟨⟨_,rfl,rfl⟩,run_equalIn_int w 9998 t _ _ _ _ hu⟩)
theorem qu:∀(fs:List Field) (ls:List LK) (i:Nat) (cs ds:List AV) (xs ys:List Value) (q:Bool),oX P fs ls i=true->EU ls cs ds=some q->i+cs.length<=xs.length->i+ds.length<=ys.length ->
 (∀j,j<cs.length->bJ M β (cs.getD j .any) (xs.getD (i+j) undef))->(∀j,j<ds.length->bJ M β (ds.getD j .any) (ys.getD (i+j) undef))->(Op.eqFields 9999 xs.toArray ys.toArray fs).run P w=.ok q w
 |[],[],i,[],[],xs,ys,q,hf,hq,hx,hy,rx,ry=>by simp only[EU]at hq;cases hq;simp[Op.eqFields]
 |[],[],i,_::_,ds,xs,ys,q,hf,hq,hx,hy,rx,ry=>by simp[EU]at hq
 |[],[],i,[],_::_,xs,ys,q,hf,hq,hx,hy,rx,ry=>by simp[EU]at hq
 |[],l::ls,i,cs,ds,xs,ys,q,hf,hq,hx,hy,rx,ry=>by simp[oX]at hf
 |f::fs,[],i,cs,ds,xs,ys,q,hf,hq,hx,hy,rx,ry=>by simp[oX]at hf
 |f::fs,l::ls,i,[],ds,xs,ys,q,hf,hq,hx,hy,rx,ry=>by simp[EU]at hq
 |f::fs,l::ls,i,_::_,[],xs,ys,q,hf,hq,hx,hy,rx,ry=>by simp[EU]at hq
 |
  f::fs,l::ls,i,c::cs,d::ds,xs,ys,q,hf,hq,hx,hy,rx,ry=>by
  simp only[oX,aA,bne_iff_ne]at hf
  obtain⟨⟨⟨hn,ho⟩,hk⟩,hr⟩:=hf
  have ho:=aG ho
  simp only[EU]at hq
  split at hq
  ·rename_i q1 q2 e1 e2
   cases hq
   simp only[aw]at hx hy
   obtain⟨⟨e,hu,hd⟩,hrun⟩:=FR (P:=P) (t:=f.type) (w:=w) e1 hk (x:=xs.getD i undef) (y:=ys.getD i undef) (by simpa using rx 0 (by simp)) (by simpa using ry 0 (by simp))
   have hrest:=qu fs ls (i+1) cs ds xs ys q2 hr e2 (by omega) (by omega) (fun j hj=>by
    have:=rx (j+1) (by simpa using hj)
    rw[show i+(j+1)=i+1+j by omega]at this
    simpa using this) (fun j hj=>by
    have:=ry (j+1) (by simpa using hj)
    rw[show i+(j+1)=i+1+j by omega]at this
    simpa using this)
   unfold Op.eqFields
   rw[if_pos hn,ho]
   simp only[Sem.run_bind,uz hu hd (show i<xs.length by omega),uz hu hd (show i<ys.length by omega),Result.andThen_ok,hrun]
   cases q1
   ·simp
   ·simp[hrest]
  ·cases hq
theorem Fc{T:fh}(hT:dw P T)(op:BinOp)(t:Nat)(x y:Operand){cs ds:List AV}{xv yv:Value}(hx:bJ M β (.agg cs) xv)(hy:bJ M β (.agg ds) yv) :
 (H6 (T t) op cs ds).holds (Quiet fun r=>kC P M β (do eqGuard op t x y xv yv;binOp op t xv yv) w r):=by
 unfold H6
 refine DR.bc fun hb=>?_
 simp only[aA]at hb
 have ok:=hT t hb.1
 split
 ·rename_i fs hk
  split
  ·rename_i q hq
   split
   ·rename_i c hc
    obtain⟨dd,hu,hs,hg,hf⟩:=ok.sq hb.2 fs hk
    obtain⟨xs,rfl,hl1,hr1⟩:∃vs:List Value,xv=.agg vs.toArray/\cs.length=vs.length/\∀i,i<cs.length->bJ M β (cs.getD i .any) (vs.getD i undef):=by cases hx with|agg _ _ vs hl ho h=>exact⟨vs,rfl,hl,h⟩
    obtain⟨ys,rfl,hl2,hr2⟩:∃vs:List Value,yv=.agg vs.toArray/\ds.length=vs.length/\∀i,i<ds.length->bJ M β (ds.getD i .any) (vs.getD i undef):=by cases hy with|agg _ _ vs hl ho h=>exact⟨vs,rfl,hl,h⟩
    have hfo:P.fieldsOf t=dd:=by unfold Program.fieldsOf;rw[hu]
    have hrun:(Op.equalIn 10000 t (.agg xs.toArray) (.agg ys.toArray)).run P w=.ok q w:=by
     rw[run_equalIn_struct w 9999 t xs.toArray ys.toArray (by rw[hfo];exact hu) hs,hfo]
     exact qu dd.toList _ 0 cs ds xs ys q hf hq (by omega) (by omega) (fun j hj=>by rw[a8];exact hr1 j hj) (fun j hj=>by rw[a8];exact hr2 j hj)
    have hgd:=run_eqGuard_agg (P:=P) w op t x y xs.toArray ys.toArray hg
    refine⟨rfl,rfl,.bool c,?_,.b _ _⟩
    cases op<;>simp only[nt]at hc<;>cases hc
    ·rw[Sem.run_bind,hgd,Result.andThen_ok,run_eql_struct,hrun,Result.andThen_ok]
    ·rw[Sem.run_bind,hgd,Result.andThen_ok,run_neq_struct,hrun,Result.andThen_ok]
   ·trivial
  ·trivial
 ·trivial
theorem J4{T:fh}(hT:dw P T)(hA:iU M w)(op:BinOp)(t:Nat)(x y:Operand){xa ya:AV}{xv yv:Value}(hx:bJ M β xa xv)(hy:bJ M β ya yv) :
 (bin (T t) op xa ya).holds (Quiet fun r=>kC P M β (do eqGuard op t x y xv yv;binOp op t xv yv) w r):=by
 unfold bin
 split
 ·cases hx;cases hy
  split
  ·subst_vars;exact FN op t x y _ _ _
  ·trivial
 ·cases hx;cases hy
  exact EX op t x y _ _
 ·rename_i a
  cases hy
  obtain⟨_,_,_,hx'⟩:∃_:True,∃_:True,∃_:True,bJ M dG a xv:=by cases hx;exact⟨trivial,trivial,trivial,‹_›⟩
  unfold C5
  refine DR.bc fun hkn=>?_
  split
  ·rename_i c hk hc
   simp only[DR.holds]
   intro hp
   obtain⟨q,rfl,hq⟩:=zl hx' hp
   rw[hq]at hc
   exact⟨rfl,rfl,_,qx (hT t hkn) hk op x y q c hc,.b _ _⟩
  ·trivial
 ·rename_i a b
  obtain⟨_,hx'⟩:∃_:True,bJ M dG a xv:=by cases hx;exact⟨trivial,‹_›⟩
  obtain⟨_,hy'⟩:∃_:True,bJ M dG b yv:=by cases hy;exact⟨trivial,‹_›⟩
  cases hnz:(T t).nz with
  |false=>trivial
  |
   true =>
   show (C5 (T t) op (some (a.tD/\b.tD)) (a.DG b)).holds _
   unfold C5
   refine DR.bc fun hkn=>?_
   split
   ·rename_i c hk hc
    simp only[DR.holds]
    rintro⟨h1,h2⟩
    obtain⟨p,q,rfl,rfl,he,g1,g2⟩:=Jb hA hx' hy' h1 h2
    rw[he]at hc
    exact⟨rfl,rfl,_,CO op x y p q c hc (sO (hT t hkn) hnz hk p q g1 g2),.b _ _⟩
   ·trivial
 ·cases hx;cases hy
  unfold cmpL
  refine DR.bc fun hkn=>?_
  split
  ·rename_i c hk hc
   exact⟨rfl,rfl,_,qx (hT t hkn) hk op x y none c hc,.v _ _⟩
  ·trivial
 ·cases hx;cases hy
  unfold cmpL
  refine DR.bc fun hkn=>?_
  split
  ·rename_i c hk hc
   exact⟨rfl,rfl,_,qx (hT t hkn) hk op x y (some _) c hc,.v _ _⟩
  ·trivial
 ·cases hx;cases hy
  unfold cmpL
  refine DR.bc fun hkn=>?_
  split
  ·rename_i c hk hc
   exact⟨rfl,rfl,_,qx (hT t hkn) hk op x y (some _) c hc,.v _ _⟩
  ·trivial
 ·cases hx;cases hy
  unfold cmpL
  refine DR.bc fun hkn=>?_
  split
  ·rename_i c hk hc
   exact⟨rfl,rfl,_,qx (hT t hkn) hk op x y (some _) c hc,.v _ _⟩
  ·trivial
 all_goals first
  |trivial
  |exact Fc hT op t x y hx hy
  |(
   cases hx;cases hy
   unfold wZ
   refine DR.bc fun hkn=>?_
   split
   ·rename_i c hk hc
    exact⟨rfl,rfl,_,Dp (hT t hkn) hk op x y _ _ c hc,.b _ _⟩
   ·trivial)
theorem AQ(cs:List AV)(n i:Nat):(cs.drop n).getD i .any=cs.getD (n+i) .any:=by
 simp[aa,dc]
theorem uD{a:AV}{v:Value}(h:bJ M dG a v)(hk:LK.ptr.has a)(hn:a.isNil=false):bJ M β (.ptr a.deref) v:=by
 rcases hk with rfl|⟨cs,rfl⟩|⟨b,cs,rfl⟩
 ·cases hn
 ·exact h.up
 ·cases h with
  |pid _ _ _ us hp h h'=>exact .ptr _ _ _ _ us (fun i hi=>by simpa using h i hi) h'
theorem tI{cs:List AV}{b o:Nat}(h:bJ M β (.ptr cs) (.pointer (some ⟨b,o,none⟩)))(n:Nat):bJ M β (.ptr (cs.drop n)) (.pointer (some ⟨b,o+n,none⟩)):=by
 cases h with
 |
  ptr _ _ _ _ us h h' =>
  refine .ptr _ _ _ _ (fun i=>us (n+i)) (fun i hi=>?_) (fun i hi=>?_)
  ·have:=h (n+i) (by simp at hi;omega)
   rwa[<-Nat.add_assoc]at this
  ·rw[AQ];exact h' (n+i) (by simp at hi;omega)
theorem l4{cs:List AV}{v:Value}(h:bJ M β (.ptr cs) v):∃b o,v=.pointer (some ⟨b,o,none⟩):=by
 cases h;exact⟨_,_,rfl⟩
theorem yi{x:AV}{v:Value}(h:bJ M β x v)(off:Nat) :
 (rX x off).holds (Quiet fun r=>∃b o,v=.pointer (some ⟨b,o,none⟩)/\bJ M β r (.pointer (some ⟨b,o+off,none⟩))):=by
 unfold rX
 split
 ·cases h with|ref _ _ _ b hb=>exact⟨rfl,rfl,_,_,rfl,.ref _ _ _ _ hb⟩
 ·cases h with|oY _ _ _ b hb=>exact⟨rfl,rfl,_,_,rfl,.oY _ _ _ _ hb⟩
 ·cases h with|nw _ _ _ _ sz b o n c hb=>exact⟨rfl,rfl,_,_,rfl,by rw[Nat.add_assoc];exact .nw _ _ _ _ _ _ _ _ _ hb⟩
 ·obtain⟨b,o,rfl⟩:=l4 h
  exact⟨rfl,rfl,b,o,rfl,tI h off⟩
 ·cases h with
  |
   pid _ _ _ us hp h h' =>
   exact⟨rfl,rfl,_,_,rfl,tI (.ptr β _ _ _ us (fun i hi=>by simpa using h i hi) h') off⟩
 ·simp only[DR.holds]
  intro⟨hk,hn⟩
  cases h with
  |
   x _ _ _ ho h =>
   have q:=uD (β:=β) h hk hn
   obtain⟨b,o,rfl⟩:=l4 q
   exact⟨rfl,rfl,b,o,rfl,tI q off⟩
 ·trivial
end
end Go.VL
namespace Go.VL
open Go Go.RowKit
section
variable {P:Program} {M:Mem} {β:Lo} {w:World}
theorem LK.mR{k:LK}{a:AV}{v:Value}(h:bJ M β a v)(hk:k.has a)(hq:k.kn=true):bJ M β (k.cast a) v:=by
 cases k with
 |int k=>obtain⟨n,rfl⟩:=hk;exact h
 |bool=>obtain⟨n,rfl⟩:=hk;cases h;exact .b _ _
 |str=>obtain⟨n,rfl⟩:=hk;exact h
 |
  ptr =>
  rcases hk with rfl|⟨cs,rfl⟩|⟨b,cs,rfl⟩
  ·cases h;exact .x _ _ _ rfl (.v _ _)
  ·cases h with|ptr _ _ _ _ us h h'=>exact .x _ _ _ rfl (.ptr _ _ _ _ us h h')
  ·cases h with|pid _ _ _ us hp h h'=>exact .x _ _ _ rfl (.pid _ _ _ us hp h h')
 |
  sl =>
  rcases hk with rfl|⟨es,rfl⟩
  ·cases h;exact .x _ _ _ rfl (.v _ _)
  ·cases h with
   |slnil=>exact .x _ _ _ rfl (.slnil _)
   |sl _ _ _ _ _ sz us hc hs h h'=>exact .x _ _ _ rfl (.sl _ _ _ _ _ sz us hc hs h h')
 |lM=>cases hq
theorem fK{t:Nat}{ti:TI}(h:jl P t ti)(b o:Nat)(us:Nat->Value)(hc:∀i,i<ti.sz->w.cell? ⟨b,o+i,none⟩=some (us i)) :
 (loadVar t ⟨b,o,none⟩).run P w=.ok (if ti.agg then .agg ((bA ti.sz).map us).toArray else us 0) w:=by
 unfold loadVar
 rw[Sem.run_bind,h.uR w]
 simp only[Result.andThen_ok]
 cases ha:ti.agg with
 |
  true =>
  simp only[if_true]
  rw[Sem.run_bind,h.j1 w]
  simp only[Result.andThen_ok]
  rw[Sem.run_bind,run_loadCells w ⟨b,o,none⟩ ti.sz us (fun j hj=>by rw[kQ];exact hc j hj)]
  rfl
 |
  false =>
  have h1:ti.sz=1:=h.one ha
  have:=hc 0 (by omega)
  simp only[cw]at this
  simp[run_load,this]
theorem l8{vs:Array Value}(h:∀v,v∈vs->v.oneCell'=true)(i:Nat)(hi:i<vs.size):(vs.getD i undef).oneCell'=true:=by
 have:vs.getD i undef=vs[i]:=by simp[hi]
 rw[this];exact h _ (Array.getElem_mem hi)
theorem vY{ks:List LK}(h:ks.all LK.kn=true)(i:Nat)(hi:i<ks.length):(ks.getD i .lM).kn=true:=by
 rw[cd]at h
 have:ks.getD i .lM=ks[i]:=by simp[aa,hi]
 rw[this];exact h _ (bn hi)
theorem eI(n:Nat)(us:Nat->Value)(i:Nat)(h:i<n):((bA n).map us).getD i undef=us i:=by
 simp[aa,h]
theorem oO(l:List AV):l.headD .any=l.getD 0 .any:=by cases l<;>rfl
theorem xt(t:TI):C8 t=t.lk.getD 0 .lM:=by unfold C8;cases t.lk<;>rfl
theorem Bg{t:Nat}{ti:TI}(h:jl P t ti){cs:List AV}{us:Nat->Value}(hh:Bf ti cs)(ho:∀i,i<ti.sz->(us i).oneCell'=true)(hr:∀i,i<ti.sz->bJ M dG (cs.getD i .any) (us i)) :
 bJ M β (uO ti cs) (if ti.agg then .agg ((bA ti.sz).map us).toArray else us 0):=by
 unfold uO
 unfold Bf at hh
 cases ha:ti.agg with
 |
  true =>
  simp only[ha,cond_true]at hh |-
  exact qF hh ho (fun i hi=>by simpa using hr i hi)
 |
  false =>
  simp only[ha,cond_false]at hh |-
  have h1:ti.sz=1:=h.one ha
  rw[oO]at hh |-
  exact LK.iZ (hr 0 (by omega)) hh
theorem uJ{t:Nat}{T:fh}(hT:dw P T){cs:List AV}{b o k:Nat}{us:Nat->Value}(hk:o=k)(hc:∀i,i<cs.length->w.cell? ⟨b,i,none⟩=some (us i))(ho:∀i,i<cs.length->(us i).oneCell'=true)(hr:∀i,i<cs.length->bJ M β (cs.getD i .any) (us i)) :
 (ph (T t) cs k).holds (Quiet fun r=>kC P M β (loadVar t ⟨b,o,none⟩) w r):=by
 subst hk
 unfold ph
 refine DR.bc fun hkn=>?_
 have h:=hT t hkn
 cases ha:(T t).agg with
 |
  true =>
  simp only[cond_true]
  cases hb:Nat.ble (o+(T t).sz) cs.length with
  |false=>simp only[cond_false];trivial
  |
   true =>
   have hle:=aZ hb
   simp only[cond_true]
   refine⟨rfl,rfl,_,fK h b o (fun i=>us (o+i)) (fun i hi=>hc (o+i) (by omega)),?_⟩
   rw[if_pos ha]
   refine .agg _ _ _ (by simp;omega) (fun i hi=>by simp only[List.length_take,cD]at hi;rw[eI _ _ _ (by omega)];exact ho _ (by omega)) fun i hi=>?_
   simp only[List.length_take,cD]at hi
   rw[eI _ _ _ (by omega)]
   have e:((cs.drop o).take (T t).sz).getD i .any=cs.getD (o+i) .any:=by
    simp[aa,List.getElem?_take,dc,show i<(T t).sz by omega]
   rw[e]
   exact hr (o+i) (by omega)
 |
  false =>
  simp only[cond_false]
  cases hb:cQ o cs.length with
  |false=>simp only[cond_false];trivial
  |
   true =>
   have hlt:o<cs.length:=by have:=aZ hb;omega
   have h1:(T t).sz=1:=h.one ha
   simp only[cond_true]
   refine⟨rfl,rfl,_,fK h b o (fun i=>us (o+i)) (fun i hi=>hc (o+i) (by omega)),?_⟩
   simp only[ha,Bool.false_eq_true,if_false,cw]
   exact hr o hlt
theorem mP{t:Nat}{T:fh}(hT:dw P T){cs:List AV}{b o k:Nat}{us:Nat->Value}(hc:∀i,k+i<cs.length->w.cell? ⟨b,o+i,none⟩=some (us (k+i)))(ho:∀i,i<cs.length->(us i).oneCell'=true)(hr:∀i,i<cs.length->bJ M β (cs.getD i .any) (us i)) :
 (kg (T t) cs k).holds (Quiet fun r=>kC P M β (loadVar t ⟨b,o,none⟩) w r):=by
 unfold kg
 refine DR.bc fun hkq=>?_
 rw[aA]at hkq
 obtain⟨hkn,hq⟩:=hkq
 have h:=hT t hkn
 cases ha:(T t).agg with
 |
  true =>
  simp only[cond_true,DR.holds]
  intro⟨hle,hh⟩
  refine⟨rfl,rfl,_,fK h b o (fun i=>us (k+i)) (fun i hi=>hc i (by omega)),?_⟩
  rw[if_pos ha]
  refine .agg _ _ _ (by simp[dJ,TI.sz]) (fun i hi=>by rw[dJ]at hi;rw[eI _ _ _ (show i<(T t).sz from hi)];exact ho _ (by unfold TI.sz at hle;omega)) fun i hi=>?_
  rw[dJ]at hi
  rw[eI _ _ _ (show i<(T t).sz from hi),lZ _ _ _ _ hi]
  exact LK.mR (hr (k+i) (by unfold TI.sz at hle;omega)) (l9 _ _ _ _ hh hi) (vY hq i hi)
 |
  false =>
  simp only[cond_false,DR.holds]
  intro⟨hlt,hh⟩
  have h1:(T t).sz=1:=h.one ha
  refine⟨rfl,rfl,_,fK h b o (fun i=>us (k+i)) (fun i hi=>hc i (by omega)),?_⟩
  simp only[ha,Bool.false_eq_true,if_false,cw]
  exact LK.mR (hr k hlt) hh (by rw[xt];exact vY hq 0 (by unfold TI.sz at h1;omega))
theorem Quiet.reads{X:AV->Prop}{r:DR}{o:Nat}(h:r.holds (Quiet X)):(r.reads o).holds (Quiet X):=DR.wS (DR.ij h fun d hd=>hd)
theorem cell_of{b:Nat}{vs:Array Value}{e:TypeId}{fr:Nat×Nat}(h:w.heap[b]?=some (.cells vs e fr))(i:Nat)(hi:i<vs.size):w.cell? ⟨b,i,none⟩=some (vs.getD i undef):=by
 rw[cell_of_row w b i vs e fr h]
 simp[hi]
theorem uW{T:fh}(hT:dw P T){ob:Nat->Option Ob}(hob:∀o x,ob o=some x->Own M β w o x)(hA:iU M w){t:Nat}{x:AV}{v:Value}(h:bJ M β x v) :
 (loadAt ob (T t) x).holds (Quiet fun r=>kC P M β (Instr.loadAt t v) w r):=by
 have sure:∀b o,(Instr.loadAt t (.pointer (some ⟨b,o,none⟩))).run P w=(loadVar t ⟨b,o,none⟩).run P w:=fun b o=>by
  simp[Instr.loadAt,Instr.sureAddr,Sem.run_bind]
 have tr:∀(r:DR) b o,r.holds (Quiet fun q=>kC P M β (loadVar t ⟨b,o,none⟩) w q)->r.holds (Quiet fun q=>kC P M β (Instr.loadAt t (.pointer (some ⟨b,o,none⟩))) w q):=fun r b o hr =>
  DR.ij hr fun d hd=>⟨hd.1,hd.2.1,by obtain⟨q,h1,h2⟩:=hd.2.2;exact⟨q,by rw[sure];exact h1,h2⟩⟩
 have ptrL:∀(cs:List AV) b o,bJ M β (.ptr cs) (.pointer (some ⟨b,o,none⟩))->(T t).kn=true->Bf (T t) cs->(T t).sz<=cs.length ->
  kC P M β (Instr.loadAt t (.pointer (some ⟨b,o,none⟩))) w (uO (T t) cs):=fun cs b o hr hkn hh hl=>by
  cases hr with
  |
   ptr _ _ _ _ us h h' =>
   refine⟨_,(sure b o).trans (fK (hT t hkn) b o us fun i hi=>hA _ _ _ (h i (by omega))),Bg (hT t hkn) hh (fun i hi=>M.one _ _ _ (h i (by omega))) fun i hi=>h' i (by omega)⟩
 unfold loadAt
 split
 ·rename_i o k
  cases h with
  |
   ref _ _ _ b hb =>
   split
   ·rename_i cs hcs
    obtain⟨b',vs,e,h1,h2,h3,h4,_,h5⟩:=hob _ _ hcs
    rw[hb]at h1;cases h1
    exact tr _ _ _ (Quiet.reads (uJ hT rfl (us:=fun i=>vs.getD i undef) (fun i hi=>cell_of h2 i (by omega)) (fun i hi=>l8 h5 i (by omega)) h4))
   ·rename_i cs hcs
    obtain⟨b',us,h1,h2⟩:=hob _ _ hcs
    rw[hb]at h1;cases h1
    exact tr _ _ _ (Quiet.reads (uJ hT rfl (fun i hi=>hA _ _ _ (h2 i hi).1) (fun i hi=>M.one _ _ _ (h2 i hi).1) fun i hi=>(h2 i hi).2))
   ·trivial
 ·rename_i o k
  cases h with
  |
   oY _ _ _ b hb =>
   split
   ·rename_i cs hcs
    obtain⟨b',vs,e,h1,h2,h3,h4,_,h5⟩:=hob _ _ hcs
    rw[hb]at h1;cases h1
    exact tr _ _ _ (Quiet.reads (mP hT (us:=fun i=>vs.getD i undef) (fun i hi=>cell_of h2 (k+i) (by omega)) (fun i hi=>l8 h5 i (by omega)) h4))
   ·rename_i cs hcs
    obtain⟨b',us,h1,h2⟩:=hob _ _ hcs
    rw[hb]at h1;cases h1
    exact tr _ _ _ (Quiet.reads (mP hT (fun i hi=>hA _ _ _ (h2 (k+i) hi).1) (fun i hi=>M.one _ _ _ (h2 i hi).1) fun i hi=>(h2 i hi).2))
   ·trivial
 ·rename_i o i k
  cases h with
  |
   nw _ _ _ _ sz b off n c hb =>
   split
   ·rename_i sz' es hes
    obtain⟨v',h1,h2,h3⟩:=hob _ _ hes
    rw[hb]at h1;cases h1
    refine Quiet.reads (DR.my fun hi=>?_)
    rcases h3 with⟨h3,_⟩|⟨b',off',c',vs,e,h3,h4,h5,h6,h7,_,_,h9'⟩
    ·cases h3
    ·injection h3 with h3 h3' h3''
     injection h3 with h3
     injection h3 with h3 h8 h9
     subst h3;subst h8
     refine tr _ _ _ (mP hT (us:=fun j=>vs.getD (off+(i*sz+j)) undef) (fun j hj=>?_) (fun j hj=>l8 h9' _ (by
      rw[h2 i hi]at hj
      have hlt:i*sz+sz<=es.length*sz:=by rw[<-du];exact bg _ hi
      have hcc:es.length*sz<=c'*sz:=bg _ h4
      omega)) fun j hj=>(h7 i j hi (by rw[h2 i hi]at hj;exact hj)).up)
     rw[h2 i hi]at hj
     have hlt:i*sz+sz<=es.length*sz:=by rw[<-du];exact bg _ hi
     have hcc:es.length*sz<=c'*sz:=bg _ h4
     have:=cell_of h5 (off+(i*sz+(k+j))) (by omega)
     rw[show off+i*sz+k+j=off+(i*sz+(k+j)) by omega]
     exact this
   ·rename_i es hes
    obtain⟨v',sz',h1,h2,h3⟩:=hob _ _ hes
    rw[hb]at h1;cases h1
    refine Quiet.reads (DR.my fun hi=>?_)
    rcases h3 with⟨h3,_⟩|⟨b',off',c',us,h3,h4,h5,h7⟩
    ·cases h3
    ·injection h3 with h3 h3' h3''
     injection h3 with h3
     injection h3 with h3 h8 h9
     subst h3;subst h8
     refine tr _ _ _ (mP hT (us:=fun j=>us (i*sz+j)) (fun j hj=>?_) (fun j hj=>M.one _ _ _ (h5 (i*sz+j) (by
      rw[h2 i hi]at hj
      have hlt:i*sz+sz<=es.length*sz:=by rw[<-du];exact bg _ hi
      omega))) fun j hj=>(h7 i j hi (by rw[h2 i hi]at hj;exact hj)).up)
     rw[h2 i hi]at hj
     have hlt:i*sz+sz<=es.length*sz:=by rw[<-du];exact bg _ hi
     have:=hA _ _ _ (h5 (i*sz+(k+j)) (by omega))
     rw[show off+i*sz+k+j=off+(i*sz+(k+j)) by omega]
     exact this
   ·trivial
 ·obtain⟨b,o,rfl⟩:=l4 h
  refine DR.bc fun hkn=>?_
  simp only[DR.holds]
  intro⟨hh,hl⟩
  exact⟨rfl,rfl,ptrL _ b o h hkn hh hl⟩
 ·cases h with
  |
   pid _ _ _ us hp h h' =>
   refine DR.bc fun hkn=>?_
   simp only[DR.holds]
   intro⟨hh,hl⟩
   exact⟨rfl,rfl,ptrL _ _ 0 (.ptr β _ _ _ us (fun i hi=>by simpa using h i hi) h') hkn hh hl⟩
 ·cases h with
  |
   x _ _ _ ho h =>
   refine DR.bc fun hkn=>?_
   simp only[DR.holds]
   intro⟨hk,hn,hh,hl⟩
   have q:=uD (β:=β) h hk hn
   obtain⟨b,o,rfl⟩:=l4 q
   exact⟨rfl,rfl,ptrL _ b o q hkn hh hl⟩
 ·rename_i f js
  have hq:=h
  cases h with
  |
   ik _ _ _ b vs hc hl hs ho =>
   refine DR.bc fun hkq=>?_
   rw[aA,cy]at hkq
   obtain⟨hkn,ha⟩:=hkq
   have h1:(T t).sz=1:=(hT t hkn).one ha
   refine⟨rfl,rfl,_,(sure b 0).trans (fK (hT t hkn) b 0 (fun _=>.func (.func f) #[] vs.toArray) fun i hi=>by
    have:i=0:=by omega
    subst this;exact hA _ _ _ hc),?_⟩
   simp only[ha,Bool.false_eq_true,if_false]
   refine .fn _ _ _ vs (by simp[hl]) fun i hi=>?_
   have hi':i<js.length:=by simpa using hi
   have e:(js.map (Sz f js)).getD i .any=Sz f js (js.getD i none):=by
    simp[aa,hi']
   rw[e]
   cases e2:js.getD i none with
   |none=>rw[hs i hi' e2];exact hq
   |
    some o =>
    obtain⟨b',q1,q2⟩:=ho i o hi' e2
    rw[q2];exact .ref _ _ _ _ q1
 ·trivial
end
end Go.VL
namespace Go.VL
open Go Go.RowKit
section
variable {P:Program} {M:Mem} {β:Lo} {w:World}
theorem dT{y v:Value}(h:bJ M β (.v y) v):v=y:=by cases h;rfl
def G4(w:World)(M:Mem)(es:List (List AV))(v:Value):Prop :=
 (v=.slice none 0 0/\es=[])\/∃(b off c sz:Nat) (us:Nat->Value),v=.slice (some ⟨b,off,none⟩) es.length c/\es.length<=c/\(∀i,i<es.length->(es.getD i []).length=sz) /\
  (∀i,i<es.length*sz->w.cell? ⟨b,off+i,none⟩=some (us i))/\(∀i j,i<es.length->j<sz->bJ M dG ((es.getD i []).getD j .any) (us (i*sz+j)))/\∀i,i<es.length*sz->(us i).oneCell'=true
theorem AL(hA:iU M w){es:List (List AV)}{v:Value}(h:bJ M β (.sl es) v):G4 w M es v:=by
 cases h with
 |slnil=>exact .inl ⟨rfl,rfl⟩
 |sl _ _ b off c sz us hc hs h h'=>exact .inr ⟨b,off,c,sz,us,rfl,hc,hs,fun i hi=>hA _ _ _ (h i hi),h',fun i hi=>M.one _ _ _ (h i hi)⟩
theorem OF(hA:iU M w){a:AV}{v:Value}(h:bJ M dG a v)(hk:LK.sl.has a):G4 w M a.elems v:=by
 rcases hk with rfl|⟨es,rfl⟩
 ·cases h;exact .inl ⟨rfl,rfl⟩
 ·exact AL hA h
theorem F2{o sz:Nat}{es:List (List AV)}{v:Value}(h:bJ M β (.vec o) v)(hw:Own M β w o (.vec sz es)):G4 w M es v:=by
 cases h with
 |
  vec _ _ _ sz' hov hb =>
  obtain⟨v',h1,h2,h3⟩:=hw
  rw[hb]at h1;cases h1
  rcases h3 with⟨rfl,rfl⟩|⟨b,off,c,vs,e,rfl,h4,h5,h6,h7,_,_,h8⟩
  ·exact .inl ⟨rfl,rfl⟩
  ·have lt:∀i,i<es.length*sz->off+i<vs.size:=fun i hi=>Nat.lt_of_lt_of_le (Nat.add_lt_add_left (Nat.lt_of_lt_of_le hi (bg _ h4)) _) h6
   exact .inr ⟨b,off,c,_,fun i=>vs.getD (off+i) undef,rfl,h4,h2,fun i hi=>cell_of h5 _ (lt i hi),h7,fun i hi=>l8 h8 _ (lt i hi)⟩
theorem CP(hA:iU M w){o:Nat}{es:List (List AV)}{v:Value}(h:bJ M β (.vec o) v)(hw:Own M β w o (.nR es)):G4 w M es v:=by
 cases h with
 |
  vec _ _ _ sz' hov hb =>
  obtain⟨v',sz,h1,h2,h3⟩:=hw
  rw[hb]at h1;cases h1
  rcases h3 with⟨rfl,rfl⟩|⟨b,off,c,us,rfl,h4,h5,h7⟩
  ·exact .inl ⟨rfl,rfl⟩
  ·exact .inr ⟨b,off,c,_,us,rfl,h4,h2,fun i hi=>hA _ _ _ (h5 i hi),h7,fun i hi=>M.one _ _ _ (h5 i hi)⟩
theorem mE{ob:Nat->Option Ob}(hob:∀o x,ob o=some x->Own M β w o x)(hA:iU M w){x:AV}{v:Value}(h:bJ M β x v){p:Option Prop}{es:List (List AV)}{os:List Nat}
 (he:fU ob x=some (p,es,os)) (hp:∀q,p=some q->q):G4 w M es v:=by
 unfold fU at he
 split at he
 ·cases he;exact AL hA h
 ·cases he
  cases h with|x _ _ _ ho h=>exact OF hA h (hp _ rfl)
 ·cases he;cases h;exact .inl ⟨rfl,rfl⟩
 ·split at he
  ·rename_i hes;cases he;exact F2 h (hob _ _ hes)
  ·rename_i hes;cases he;exact CP hA h (hob _ _ hes)
  ·cases he
 ·cases he
theorem jl.slice{t e:Nat}{ti:TI}(h:jl P t ti)(hk:ti.k=.slice e):P.underlying t=some (.slice e):=by
 obtain⟨d,hd,_,hc⟩:=h.GY
 rw[hk]at hc
 cases d<;>simp[ub]at hc
 subst hc;exact hd
theorem jl.array{t n e:Nat}{ti:TI}(h:jl P t ti)(hk:ti.k=.array n e):P.underlying t=some (.array n e):=by
 obtain⟨d,hd,_,hc⟩:=h.GY
 rw[hk]at hc
 cases d<;>simp[ub]at hc
 obtain⟨rfl,rfl⟩:=hc;exact hd
theorem jl.str{t:Nat}{ti:TI}(h:jl P t ti)(hk:ti.k=.str):P.underlying t=some .string:=by
 obtain⟨d,hd,_,hc⟩:=h.GY
 rw[hk]at hc
 cases d<;>simp[ub]at hc
 exact hd
theorem jl.num{t:Nat}{k:IntKind}{ti:TI}(h:jl P t ti)(hk:ti.k=.num k):P.underlying t=some (.int k):=by
 obtain⟨d,hd,_,hc⟩:=h.GY
 rw[hk]at hc
 cases d<;>simp[ub]at hc
 subst hc;exact hd
theorem jl.struct{t:Nat}{fs:List (Nat×Nat)}{ti:TI}(h:jl P t ti)(hk:ti.k=.struct fs):∃fl,P.underlying t=some (.struct fl)/\fl.toList.map (fun f=>(f.offset,f.type))=fs:=by
 obtain⟨d,hd,_,hc⟩:=h.GY
 rw[hk]at hc
 cases d<;>simp[ub]at hc
 exact⟨_,hd,hc⟩
theorem run_indexAt_slice{t e:Nat}(hu:P.underlying t=some (.slice e)){te:TI}(he:jl P e te)(b off n c:Nat)(k:IntKind)(i:Int)(h0:0<=i)(h1:i<n) :
 (Instr.indexAt t (.slice (some ⟨b,off,none⟩) n c) (.int k i)).run P w=.ok (.pointer (some ⟨b,off+i.toNat*te.sz,none⟩)) w:=by
 unfold Instr.indexAt
 simp only[asIntOf,Sem.run_bind,Sem.run_pure,Result.andThen_ok,run_underlying hu w]
 rw[if_pos ⟨h0,h1⟩]
 simp only[Sem.run_bind,he.j1 w,Result.andThen_ok,Sem.run_pure,kQ]
theorem run_indexAt_array{t m e:Nat}(hu:P.underlying t=some (.array m e)){te:TI}(he:jl P e te)(b off:Nat)(k:IntKind)(i:Int)(h0:0<=i)(h1:i<m) :
 (Instr.indexAt t (.pointer (some ⟨b,off,none⟩)) (.int k i)).run P w=.ok (.pointer (some ⟨b,off+i.toNat*te.sz,none⟩)) w:=by
 unfold Instr.indexAt
 simp only[asIntOf,Sem.run_bind,Sem.run_pure,Result.andThen_ok,run_underlying hu w,Instr.sureAddr]
 rw[if_pos ⟨h0,h1⟩]
 simp only[Sem.run_bind,he.j1 w,Result.andThen_ok,Sem.run_pure,kQ]
theorem Iu{es:List (List AV)}{b off c i z:Nat}(h:bJ M β (.sl es) (.slice (some ⟨b,off,none⟩) es.length c))(hi:i<es.length)(hz:(es.getD i []).length=z) :
 bJ M β (.ptr (es.getD i [])) (.pointer (some ⟨b,off+i*z,none⟩)):=by
 cases h with
 |
  sl _ _ _ _ _ sz us hc hs h h' =>
  have e:sz=z:=(hs i hi).symm.trans hz
  subst e
  have hle:i*sz+sz<=es.length*sz:=by rw[<-du];exact bg _ hi
  refine .ptr _ _ _ _ (fun j=>us (i*sz+j)) (fun j hj=>?_) (fun j hj=>h' i j hi (by omega))
  rw[hz]at hj
  rw[Nat.add_assoc]
  exact h _ (by omega)
theorem EM{es:List (List AV)}{v:Value}(h:bJ M β (.sl es) v)(hi:0<es.length):∃b off c,v=.slice (some ⟨b,off,none⟩) es.length c:=by
 cases h with
 |slnil=>simp at hi
 |sl=>exact⟨_,_,_,rfl⟩
theorem Vf{a:AV}{v:Value}(h:bJ M dG a v)(hk:LK.sl.has a):bJ M β (.sl a.elems) v:=by
 rcases hk with rfl|⟨es,rfl⟩
 ·cases h;exact .slnil _
 ·exact h.up
theorem xW{T:fh}(hT:dw P T){ob:Nat->Option Ob}(hob:∀o x,ob o=some x->Own M β w o x){t:Nat}(ht:(T t).kn=true){x:AV}{v:Value}(h:bJ M β x v)(k:IntKind)(i:Int) :
 (indexAt T ob (T t) x i).holds (Quiet fun r=>kC P M β (Instr.indexAt t v (.int k i)) w r):=by
 have slC:∀(es:List (List AV)) e,(T t).k=.slice e->(T e).kn=true->bJ M β (.sl es) v->0<=i->i<es.length->(es.getD i.toNat []).length=(T e).sz ->
  kC P M β (Instr.indexAt t v (.int k i)) w (.ptr (es.getD i.toNat [])):=fun es e hk hkn hr h0 h1 hz=>by
  obtain⟨b,off,c,rfl⟩:=EM hr (by omega)
  exact⟨_,run_indexAt_slice ((hT t ht).slice hk) (hT e hkn) b off _ c k i h0 h1,Iu hr (by omega) hz⟩
 unfold indexAt
 split
 ·rename_i m e o q hk
  cases h with
  |
   ref _ _ _ b hb =>
   refine DR.bc fun hkn=>?_
   intro⟨h0,h1⟩
   exact⟨rfl,rfl,_,run_indexAt_array ((hT t ht).array hk) (hT e hkn) b q k i h0 h1,.oY _ _ _ _ hb⟩
 ·rename_i e o hk
  refine DR.bc fun hkn=>?_
  cases h with
  |
   vec _ _ _ sz hov hb =>
   split
   ·rename_i sz' es hes
    refine DR.bc fun hz=>?_
    intro⟨h0,h1⟩
    obtain⟨v',h3,h4,h5⟩:=hob _ _ hes
    rw[hb]at h3;cases h3
    have hz:=aG hz
    rcases h5 with⟨_,rfl⟩|⟨b,off,c,vs,e',rfl,h6,_⟩
    ·simp at h1;omega
    ·refine⟨rfl,rfl,_,run_indexAt_slice ((hT t ht).slice hk) (hT e hkn) b off _ c k i h0 h1,?_⟩
     rw[<-hz]
     exact .nw β o i.toNat 0 _ b off es.length c hb
   ·rename_i es hes
    intro⟨h0,h1,h2⟩
    obtain⟨v',sz',h3,h4,h5⟩:=hob _ _ hes
    rw[hb]at h3;cases h3
    rcases h5 with⟨_,rfl⟩|⟨b,off,c,us,rfl,h6,_⟩
    ·simp at h1;omega
    ·refine⟨rfl,rfl,_,run_indexAt_slice ((hT t ht).slice hk) (hT e hkn) b off _ c k i h0 h1,?_⟩
     have hz:sz=(T e).sz:=(h4 i.toNat (by omega)).symm.trans h2
     rw[<-hz]
     exact .nw β o i.toNat 0 _ b off es.length c hb
   ·trivial
 ·rename_i e es hk
  refine DR.bc fun hkn=>?_
  intro⟨h0,h1,h2⟩
  exact⟨rfl,rfl,slC es e hk hkn h h0 h1 h2⟩
 ·rename_i e a hk
  refine DR.bc fun hkn=>?_
  intro⟨hs,h0,h1,h2⟩
  cases h with
  |x _ _ _ ho h=>exact⟨rfl,rfl,slC a.elems e hk hkn (Vf h hs) h0 h1 h2⟩
 ·trivial
theorem tW{t:Nat}(hu:P.underlying t=some .string)(s:ByteArray)(k:IntKind)(n:Int)(h0:0<=n)(h1:n<s.size):(Instr.index t (.string s) (.int k n)).run P w=.ok (.int .u8 (bt s n)) w:=by
 have hlt:n.toNat<s.size:=by omega
 unfold Instr.index
 simp only[asIntOf,Sem.run_bind,Sem.run_pure,Result.andThen_ok,run_underlying hu w]
 have e:(if 0<=n then s[n.toNat]? else none)=some (s[n.toNat]'hlt):=by rw[if_pos h0];simp[hlt]
 rw[e]
 simp[bt,hlt]
theorem tK{e:Operand->AV}{ρ:Operand->Value}(he:∀x,bJ M β (e x) (ρ x))(isS:Bool)(len cap:Nat)(lo hi:Option Operand)(l h:Int)(hl:jq e lo=some l)(hh:iq e len hi=some h)
 (h0:0<=l) (h1:l<=h) (h2:h<=len) (hc:len<=cap) :
 (Instr.sliceBounds isS len cap (lo.map ρ) (hi.map ρ) none).run P w=.ok (l.toNat,h.toNat,cap) w:=by
 have b1:∀(x:Operand) (n:Int) (y:Nat) (code:BoundsCode),(∃k,e x=.v (.int k n))->0<=n->n<=y->(Instr.sliceBound (ρ x) y code).run P w=.ok n.toNat w:=by
  intro x n y code ⟨k,hx⟩ hn0 hn1
  have q:=he x
  rw[hx]at q
  rw[dT q]
  simp[Instr.sliceBound,asIntOf,hn0,hn1]
 have low:∀(x:Operand),jq e (some x)=some l->∃k,e x=.v (.int k l):=fun x hx=>by
  simp only[jq]at hx
  split at hx
  ·rename_i k n hq;cases hx;exact⟨k,hq⟩
  ·cases hx
 have high:∀(x:Operand),iq e len (some x)=some h->∃k,e x=.v (.int k h):=fun x hx=>by
  simp only[iq]at hx
  split at hx
  ·rename_i k n hq;cases hx;exact⟨k,hq⟩
  ·cases hx
 unfold Instr.sliceBounds
 cases hi with
 |
  none =>
  simp only[iq,Option.some.injEq]at hh
  subst hh
  cases lo with
  |
   none =>
   simp only[jq,Option.some.injEq]at hl
   subst hl
   simp[Sem.run_bind]
  |some x=>simp[Sem.run_bind,b1 x l len _ (low x hl) h0 (by omega)]
 |
  some y =>
  have c1:=b1 y h cap (if isS=true then .sliceAcap else .sliceAlen) (high y hh) (by omega) (by omega)
  cases lo with
  |
   none =>
   simp only[jq,Option.some.injEq]at hl
   subst hl
   simp[Sem.run_bind,c1]
  |some x=>simp[Sem.run_bind,c1,b1 x l h.toNat _ (low x hl) h0 (by omega)]
end
end Go.VL
namespace Go.VL
open Go Go.RowKit
section
variable {P:Program} {M:Mem} {β:Lo} {w:World}
def ou(tm:Nat->AV)(dst:Option Nat)(x:AV):Nat->AV:=match dst with|some t=>cO tm t x|none=>tm
theorem xx(a:Act)(dst:Option Nat)(v:Value):(a.put dst v).tmps.size=a.tmps.size/\(a.put dst v).defers=a.defers:=by
 cases dst<;>simp[Act.put]
theorem Fy{a:Act}{tm:Nat->AV}{n:Nat}(hs:a.tmps.size=n)(h:∀t,bJ M β (tm t) (a.tmps.getD t undef)){dst:Option Nat}{x:AV}{v:Value}(hr:bJ M β x v)(hd:∀t,dst=some t->t<n) :
 ∀t,bJ M β (ou tm dst x t) ((a.put dst v).tmps.getD t undef):=by
 intro t
 cases dst with
 |none=>exact h t
 |
  some d =>
  have hlt:=hd d rfl
  simp only[ou,Act.put]
  by_cases e:t=d
  ·subst e
   rw[aV]
   have:(a.tmps.setIfInBounds t v).getD t undef=v:=by simp[hs,hlt]
   rw[this];exact hr
  ·rw[bh _ _ _ _ e]
   have:(a.tmps.setIfInBounds d v).getD t undef=a.tmps.getD t undef:=by
    simp[Array.getElem?_setIfInBounds_ne (Ne.symm e)]
   rw[this];exact h t
theorem dz.put{n:Nat}{A:kJ}{s:St}{a:Act}(g:dz n A s a w M β){dst:Option Nat}{x:AV}{v:Value}(hr:bJ M β x v)(hd:∀t,dst=some t->t<n) :
 dz n A {s with tm:=ou s.tm dst x} (a.put dst v) w M β :=
 {size:=(xx a dst v).1.trans g.size,defs:=(xx a dst v).2.trans g.defs,tm:=Fy g.size g.tm hr hd,le:=g.le,new:=g.new,agree:=g.agree,own:=g.own,place:=g.place,apart:=g.apart,us:=g.us,fix:=g.fix,cU:=g.cU}
theorem Bp(s:St)(dst:Option Nat)(d:De)(hu:d.cO=[])(hn:d.new=[]):s.app dst d = {s with tm:=ou s.tm dst d.val}:=by
 unfold St.app
 rw[hu,hn]
 cases dst<;>rfl
theorem gG{s:St}{n:Nat}{dst:Option Nat}{d:De}(h:dW s n dst d=true):∀t,dst=some t->t<n:=by
 intro t ht
 unfold dW at h
 simp only[ht,aA]at h
 have:=aZ h.2
 omega
def sV(P:Program)(M:Mem)(β:Lo)(o:Oper)(a:Act)(w:World)(r:AV):Prop:=∃v,(execOp a.eval o).run P w=Result.ok (.value v) w/\bJ M β r v
def Tn(P:Program)(o:Oper)(a:Act)(w:World)(v:Value)(w':World):Prop:=(execOp a.eval o).run P w=.ok (.value v) w'\/((execOp a.eval o).run P w=.ok .skip w'/\v=undef)
def Step(P:Program)(n:Nat)(A:kJ)(o:Oper)(a:Act)(w:World)(s':St):Prop:=∃v w' M' β',Tn P o a w v w'/\dz n A s' (a.put o.dst v) w' M' β'
theorem Step.wp{n:Nat}{A:kJ}{o:Oper}{a:Act}{s':St}(h:Step P n A o a w s'){K:Act->World->Prop}{Q:Exit->Act->World->Prop}(hk:∀a' w',gP n A s' a' w'->K a' w'):o.wp P a w K Q:=by
 obtain⟨v,w',M',β',hr,g⟩:=h
 unfold Oper.wp
 rcases hr with hr|⟨hr,rfl⟩
 ·rw[hr];exact hk _ _ ⟨M',β',g⟩
 ·rw[hr];exact hk _ _ ⟨M',β',g⟩
theorem mI{n:Nat}{A:kJ}{s:St}{a:Act}(g:dz n A s a w M β){o:Oper}{r:DR}(h:r.holds (Quiet (sV P M β o a w))) :
 r.holds fun d=>dW s n o.dst d=true->Step P n A o a w (s.app o.dst d) :=
 DR.ij h fun d hd hn=>by
  obtain⟨v,hv,hr⟩:=hd.2.2
  exact⟨v,w,M,β,.inl hv,by rw[Bp s o.dst d hd.1 hd.2.1];exact g.put hr (gG hn)⟩
theorem qT{o:Oper}{a:Act}{r:DR}{sv:Sem Value}(he:execOp a.eval o=(do pure (.value (<-sv))))(h:r.holds (Quiet fun x=>kC P M β sv w x)) :
 r.holds (Quiet (sV P M β o a w)) :=
 DR.ij h fun d hd=>⟨hd.1,hd.2.1,by
  obtain⟨v,h1,h2⟩:=hd.2.2
  exact⟨v,by rw[he];simp[Sem.run_bind,h1],h2⟩⟩
variable {n:Nat} {A:kJ} {s:St} {a:Act}
theorem Cc(g:dz n A s a w M β)(o:Oper)(x:Operand)(ho:o.op=.move x\/o.op=.assign x) :
 (DR.yes {val:=ev s x}).holds (Quiet (sV P M β o a w)):=by
 refine⟨rfl,rfl,a.eval x,?_,g.ev x⟩
 rcases ho with ho|ho<;>simp[execOp,ho]
theorem Jz(g:dz n A s a w M β)(o:Oper)(c x y:Operand)(ho:o.op=.pick c x y) :
 (match ev s c with| .v (.bool true)=>DR.yes {val:=ev s x}| .v (.bool false)=>DR.yes {val:=ev s y}|_=>DR.no).holds (Quiet (sV P M β o a w)):=by
 have hc:=g.ev c
 split
 ·rename_i e
  rw[e]at hc
  exact⟨rfl,rfl,a.eval x,by simp[execOp,ho,dT hc,asBool],g.ev x⟩
 ·rename_i e
  rw[e]at hc
  exact⟨rfl,rfl,a.eval y,by simp[execOp,ho,dT hc,asBool],g.ev y⟩
 ·trivial
theorem LD(g:dz n A s a w M β){T:fh}(hT:dw P T)(o:Oper)(op:BinOp)(t t':Nat)(x y:Operand)(ho:o.op=.binOp op t x y t') :
 (bin (T t) op (ev s x) (ev s y)).holds (Quiet (sV P M β o a w)) :=
 qT (sv:=do eqGuard op t x y (a.eval x) (a.eval y);binOp op t (a.eval x) (a.eval y)) (by simp[execOp,ho]) (J4 hT g.agree op t x y (g.ev x) (g.ev y))
theorem Gy{t:Bool}{v:Value}(h:bJ M β (.b t) v):v=.bool t:=by cases h;rfl
theorem N8(g:dz n A s a w M β)(o:Oper)(t:Nat)(x:Operand)(ho:o.op=.unOp .not t x) :
 (match ev s x with| .v (.bool b)=>DR.yes {val:=.v (.bool !b)}| .b b=>DR.yes {val:=.b (!b)}|_=>DR.no).holds (Quiet (sV P M β o a w)):=by
 have hc:=g.ev x
 split
 ·rename_i e
  rw[e]at hc
  exact⟨rfl,rfl,_,by simp[execOp,ho,dT hc,Op.unary],.v _ _⟩
 ·rename_i e
  rw[e]at hc
  exact⟨rfl,rfl,_,by simp[execOp,ho,Gy hc,Op.unary],.b _ _⟩
 ·trivial
theorem Mu(g:dz n A s a w M β)(o:Oper)(t:Nat)(x:Operand)(ho:o.op=.unOp .neg t x) :
 (match ev s x with| .v (.int k m)=>DR.yes {val:=.v (.int k (k.wrap (0-m)))}|_=>DR.no).holds (Quiet (sV P M β o a w)):=by
 have hc:=g.ev x
 split
 ·rename_i e
  rw[e]at hc
  exact⟨rfl,rfl,_,by simp[execOp,ho,dT hc,Op.unary,Op.intArith],.v _ _⟩
 ·trivial
theorem M9(g:dz n A s a w M β)(o:Oper)(x:Operand)(ho:o.op=.nilCheck x) :
 (match ev s x with
 | .x a=>DR.ok (LK.ptr.has a/\a.isNil=false) {val:=.x a}
 | .ptr cs=>.yes {val:=.ptr cs}
 | .pid b cs=>.yes {val:=.pid b cs}
 | .ref o k=>.yes {val:=.ref o k}
 |_=>.no).holds (Quiet (sV P M β o a w)):=by
 have hc:=g.ev x
 have run:∀ad,a.eval x=.pointer (some ad)->(execOp a.eval o).run P w=.ok (.value (a.eval x)) w:=fun ad e=>by
  simp[execOp,ho,e]
 split
 ·rename_i y e
  rw[e]at hc
  intro⟨hk,hn⟩
  cases hc with
  |
   x _ _ _ ho h =>
   obtain⟨q,hq,hq'⟩:=zl h hk
   rw[hn]at hq'
   cases q with
   |none=>cases hq'
   |some ad=>exact⟨rfl,rfl,_,run ad hq,.x _ _ _ ho h⟩
 ·rename_i cs e
  rw[e]at hc
  obtain⟨b,o',hq⟩:=l4 hc
  exact⟨rfl,rfl,_,run _ hq,hc⟩
 ·rename_i b cs e
  rw[e]at hc
  have:∃ad,a.eval x=.pointer (some ad):=by generalize a.eval x=v at hc;cases hc;exact⟨_,rfl⟩
  obtain⟨ad,hq⟩:=this
  exact⟨rfl,rfl,_,run _ hq,hc⟩
 ·rename_i o' k e
  rw[e]at hc
  have:∃ad,a.eval x=.pointer (some ad):=by generalize a.eval x=v at hc;cases hc;exact⟨_,rfl⟩
  obtain⟨ad,hq⟩:=this
  exact⟨rfl,rfl,_,run _ hq,hc⟩
 ·trivial
theorem wN(g:dz n A s a w M β){T:fh}(hT:dw P T)(o:Oper)(t f:Nat)(x:Operand)(ho:o.op=.fieldAddr t x f) :
 (dO (T t).kn<|match (T t).k with
 |
  .struct fs=>match fs[f]? with
  |some (off,ft)=>dO ((T ft).kn&&cQ 0 (T ft).sz)<|rX (ev s x) off
  |none=>.no
 |_=>.no).holds (Quiet (sV P M β o a w)):=by
 refine DR.bc fun hkn=>?_
 split
 ·rename_i fs hk
  obtain⟨fl,hu,hfl⟩:=(hT t hkn).struct hk
  split
  ·rename_i off ft hf
   refine DR.bc fun hq=>?_
   simp only[aA]at hq
   have hsz:0<(T ft).sz:=by have:=aZ hq.2;omega
   have hf':∃fi,fl[f]?=some fi/\fi.offset=off/\fi.type=ft:=by
    rw[<-hfl,List.getElem?_map]at hf
    cases hq':fl.toList[f]? with
    |none=>rw[hq']at hf;cases hf
    |
     some fi =>
     rw[hq']at hf
     simp only[cq,Option.some.injEq,Prod.mk.injEq]at hf
     exact⟨fi,by simpa using hq',hf.1,hf.2⟩
   obtain⟨fi,h1,rfl,rfl⟩:=hf'
   refine DR.ij (yi (g.ev x) fi.offset) fun d hd=>⟨hd.1,hd.2.1,?_⟩
   obtain⟨b,q,hv,hr⟩:=hd.2.2
   refine⟨_,?_,hr⟩
   have hz:=(hT fi.type hq.1).j1 w
   simp only[execOp,ho,Instr.fieldAt,Sem.run_bind,run_underlying hu w,Result.andThen_ok,h1,hv,Instr.sureAddr,Sem.run_pure,fieldPlace,hz]
   rw[if_neg (by omega)]
   simp[kQ]
  ·trivial
 ·trivial
theorem IC(g:dz n A s a w M β){T:fh}(hT:dw P T)(o:Oper)(t:Nat)(x:Operand)(ho:o.op=.load t x) :
 (loadAt s.ob (T t) (ev s x)).holds (Quiet (sV P M β o a w)) :=
 qT (sv:=Instr.loadAt t (a.eval x)) (by simp[execOp,ho]) (uW hT g.own g.agree (g.ev x))
theorem w8(g:dz n A s a w M β){T:fh}(hT:dw P T)(o:Oper)(t:Nat)(x i:Operand)(ho:o.op=.indexAddr t x i) :
 (dO (T t).kn<|match ev s i with| .v (.int _ m)=>indexAt T s.ob (T t) (ev s x) m|_=>.no).holds (Quiet (sV P M β o a w)):=by
 refine DR.bc fun hkn=>?_
 have hi:=g.ev i
 split
 ·rename_i k m e
  rw[e]at hi
  exact qT (sv:=Instr.indexAt t (a.eval x) (a.eval i)) (by simp[execOp,ho]) (by rw[dT hi];exact xW hT g.own hkn (g.ev x) k m)
 ·trivial
theorem gF{cs:List AV}{v:Value}(h:bJ M β (.agg cs) v):∃vs:List Value,v=.agg vs.toArray/\cs.length=vs.length/\(∀i,i<cs.length->bJ M β (cs.getD i .any) (vs.getD i undef))/\∀i,i<cs.length->(vs.getD i undef).oneCell'=true:=by
 cases h with|agg _ _ vs hl ho h=>exact⟨vs,rfl,hl,h,ho⟩
theorem pB{t:Nat}{ti:TI}(h:jl P t ti)(vs:List Value)(off:Nat)(hl:off+ti.sz<=vs.length) :
 (part t vs.toArray off).run P w=.ok (if ti.agg then .agg ((bA ti.sz).map fun i=>vs.getD (off+i) undef).toArray else vs.getD off undef) w:=by
 unfold part
 rw[Sem.run_bind,h.uR w]
 simp only[Result.andThen_ok]
 cases ha:ti.agg with
 |
  true =>
  simp only[if_true,Sem.run_bind,h.j1 w,Result.andThen_ok,Sem.run_pure]
  congr 2
  apply Array.ext'
  simp only[Array.toList_extract,List.extract_eq_take_drop]
  apply List.ext_getElem
  ·simp;omega
  ·intro i h1 h2
   simp at h1 h2
   simp[aa,show off+i<vs.length by omega]
 |
  false =>
  have h1:ti.sz=1:=h.one ha
  have hlt:off<vs.length:=by omega
  simp[hlt,aa]
theorem FD{T:fh}(hT:dw P T){t:Nat}{cs:List AV}{vs:List Value}(hl:cs.length=vs.length)(hr:∀i,i<cs.length->bJ M β (cs.getD i .any) (vs.getD i undef))(ho:∀i,i<cs.length->(vs.getD i undef).oneCell'=true)(off:Nat) :
 (ph (T t) cs off).holds (Quiet fun r=>kC P M β (part t vs.toArray off) w r):=by
 unfold ph
 refine DR.bc fun hkn=>?_
 have h:=hT t hkn
 cases ha:(T t).agg with
 |
  true =>
  simp only[cond_true]
  cases hb:Nat.ble (off+(T t).sz) cs.length with
  |false=>simp only[cond_false];trivial
  |
   true =>
   have hle:=aZ hb
   simp only[cond_true]
   refine⟨rfl,rfl,_,pB h vs off (by omega),?_⟩
   rw[if_pos ha]
   refine .agg _ _ _ (by simp;omega) (fun i hi=>by simp only[List.length_take,cD]at hi;rw[eI _ _ _ (by omega)];exact ho _ (by omega)) fun i hi=>?_
   simp only[List.length_take,cD]at hi
   rw[eI _ _ _ (by omega)]
   have e:((cs.drop off).take (T t).sz).getD i .any=cs.getD (off+i) .any:=by
    simp[aa,List.getElem?_take,dc,show i<(T t).sz by omega]
   rw[e]
   exact hr (off+i) (by omega)
 |
  false =>
  simp only[cond_false]
  cases hb:cQ off cs.length with
  |false=>simp only[cond_false];trivial
  |
   true =>
   have hlt:off<cs.length:=by have:=aZ hb;omega
   have h1:(T t).sz=1:=h.one ha
   simp only[cond_true]
   refine⟨rfl,rfl,_,pB h vs off (by omega),?_⟩
   simp only[ha,Bool.false_eq_true,if_false]
   exact hr off hlt
theorem Dl{T:fh}(hT:dw P T){t:Nat}{cs:List AV}{vs:List Value}(hl:cs.length=vs.length)(hr:∀i,i<cs.length->bJ M β (cs.getD i .any) (vs.getD i undef))(ho:∀i,i<cs.length->(vs.getD i undef).oneCell'=true)(off:Nat) :
 (kg (T t) cs off).holds (Quiet fun r=>kC P M β (part t vs.toArray off) w r):=by
 unfold kg
 refine DR.bc fun hkq=>?_
 rw[aA]at hkq
 obtain⟨hkn,hq⟩:=hkq
 have h:=hT t hkn
 cases ha:(T t).agg with
 |
  true =>
  simp only[cond_true,DR.holds]
  intro⟨hle,hh⟩
  refine⟨rfl,rfl,_,pB h vs off (by omega),?_⟩
  rw[if_pos ha]
  refine .agg _ _ _ (by simp[dJ,TI.sz]) (fun i hi=>by rw[dJ]at hi;rw[eI _ _ _ (show i<(T t).sz from hi)];exact ho _ (by unfold TI.sz at hle;omega)) fun i hi=>?_
  rw[dJ]at hi
  rw[eI _ _ _ (show i<(T t).sz from hi),lZ _ _ _ _ hi]
  exact LK.mR (hr (off+i) (by unfold TI.sz at hle;omega)) (l9 _ _ _ _ hh hi) (vY hq i hi)
 |
  false =>
  simp only[cond_false,DR.holds]
  intro⟨hlt,hh⟩
  have h1:(T t).sz=1:=h.one ha
  refine⟨rfl,rfl,_,pB h vs off (by omega),?_⟩
  simp only[ha,Bool.false_eq_true,if_false]
  exact LK.mR (hr off hlt) hh (by rw[xt];exact vY hq 0 (by unfold TI.sz at h1;omega))
theorem EP(g:dz n A s a w M β){T:fh}(hT:dw P T)(o:Oper)(t f:Nat)(x:Operand)(ho:o.op=.field t x f) :
 (dO (T t).kn<|match (T t).k,ev s x with
 |
  .struct fs,.agg cs=>match fs[f]? with
  |some (off,ft)=>ph (T ft) cs off
  |none=>.no
 |_,_=>.no).holds (Quiet (sV P M β o a w)):=by
 refine DR.bc fun hkn=>?_
 have hx:=g.ev x
 split
 ·rename_i fs cs hk e
  rw[e]at hx
  obtain⟨vs,hv,hl,hr,hone⟩:=gF hx
  obtain⟨fl,hu,hfl⟩:=(hT t hkn).struct hk
  split
  ·rename_i off ft hf
   have hf':∃fi,fl[f]?=some fi/\fi.offset=off/\fi.type=ft:=by
    rw[<-hfl,List.getElem?_map]at hf
    cases hq':fl.toList[f]? with
    |none=>rw[hq']at hf;cases hf
    |
     some fi =>
     rw[hq']at hf
     simp only[cq,Option.some.injEq,Prod.mk.injEq]at hf
     exact⟨fi,by simpa using hq',hf.1,hf.2⟩
   obtain⟨fi,h1,rfl,rfl⟩:=hf'
   refine DR.ij (FD (P:=P) (w:=w) hT hl hr hone fi.offset) fun d hd=>⟨hd.1,hd.2.1,?_⟩
   obtain⟨v,q1,q2⟩:=hd.2.2
   exact⟨v,by simp[execOp,ho,Instr.field,Sem.run_bind,run_underlying hu w,h1,hv,asAgg,q1],q2⟩
  ·trivial
 ·trivial
theorem Fj(g:dz n A s a w M β){T:fh}(hT:dw P T)(o:Oper)(t:Nat)(x i:Operand)(ho:o.op=.index t x i) :
 (dO (T t).kn<|match (T t).k,ev s x,ev s i with
 | .str,.v (.string q),.v (.int _ m)=>.ok (0<=m/\m<q.size) {val:=.v (.int .u8 (bt q m))}
 | .array l el,.agg cs,.v (.int _ m)=>((kg (T el) cs (m.toNat*(T el).sz))).DC (0<=m/\m<l)
 |_,_,_=>.no).holds (Quiet (sV P M β o a w)):=by
 refine DR.bc fun hkn=>?_
 have hx:=g.ev x
 have hi:=g.ev i
 split
 ·rename_i q k m hk e e'
  rw[e]at hx;rw[e']at hi
  intro⟨h0,h1⟩
  refine⟨rfl,rfl,_,?_,.v _ _⟩
  simp[execOp,ho,dT hx,dT hi,Sem.run_bind,tW ((hT t hkn).str hk) q k m h0 h1]
 ·rename_i l el cs k m hk e e'
  rw[e]at hx;rw[e']at hi
  obtain⟨vs,hv,hl,hr,hone⟩:=gF hx
  refine DR.my fun⟨h0,h1⟩=>?_
  by_cases hel:(T el).kn=true
  ·refine DR.ij (Dl (P:=P) (w:=w) hT hl hr hone _) fun d hd=>⟨hd.1,hd.2.1,?_⟩
   obtain⟨v,q1,q2⟩:=hd.2.2
   refine⟨v,?_,q2⟩
   simp only[execOp,ho,Instr.index,dT hi,hv,asIntOf,Sem.run_bind,Sem.run_pure,Result.andThen_ok,run_underlying ((hT t hkn).array hk) w]
   rw[if_pos ⟨h0,h1⟩]
   simp[Sem.run_bind,(hT el hel).j1 w,q1]
  ·unfold kg
   exact DR.bc fun h=>absurd (aA _ _ |>.mp h).1 hel
 ·trivial
theorem AW(g:dz n A s a w M β)(o:Oper)(x:Operand)(i:Nat)(ho:o.op=.extract x i) :
 (match ev s x with| .cm cs=>dO (cQ i cs.length)<|DR.yes {val:=cs.getD i .any}|_=>.no).holds (Quiet (sV P M β o a w)):=by
 have hx:=g.ev x
 split
 ·rename_i cs e
  rw[e]at hx
  have:∃vs:List Value,a.eval x=.tuple vs.toArray/\cs.length=vs.length/\∀i,i<cs.length->bJ M β (cs.getD i .any) (vs.getD i undef):=by
   generalize a.eval x=v at hx
   cases hx with|cm _ _ vs hl h=>exact⟨vs,rfl,hl,h⟩
  obtain⟨vs,hv,hl,hr⟩:=this
  refine DR.bc fun hq=>?_
  have hi:i<cs.length:=by have:=aZ hq;omega
  refine⟨rfl,rfl,_,?_,hr i hi⟩
  have:i<vs.length:=by omega
  simp[execOp,ho,hv,Instr.extract,this,aa]
 ·trivial
end
end Go.VL
namespace Go.VL
open Go Go.RowKit
section
variable {P:Program} {M M':Mem} {β β':Lo} {w w':World}
theorem Own.Ib{o:Nat}{x:Ob}(h:Own M β w o x)(hx:x≠.dead):∃l,β o=some l:=by
 cases x with
 |cells cs=>obtain⟨b,_,_,h1,_⟩:=h;exact⟨_,h1⟩
 |vec sz es=>obtain⟨v,h1,_⟩:=h;exact⟨_,h1⟩
 |ns sz es=>obtain⟨v,h1,_⟩:=h;exact⟨_,h1⟩
 |i7 cs=>obtain⟨b,_,h1,_⟩:=h;exact⟨_,h1⟩
 |nR es=>obtain⟨v,_,h1,_⟩:=h;exact⟨_,h1⟩
 |dead=>exact absurd rfl hx
theorem Own.mono{o:Nat}{x:Ob}(h:Own M β w o x)(hM:M.le M')(hβ:Lo.le β β')(hw:∀b,x.live=true->eE β o=some b->w'.heap[b]?=w.heap[b]?/\∀k,M'.c b k=none):Own M' β' w' o x:=by
 cases x with
 |
  cells cs =>
  obtain⟨b,vs,e,h1,h2,h3,h4,h5,h6⟩:=h
  obtain⟨q1,q2⟩:=hw b rfl (by simp[eE,h1,Loc.block])
  exact⟨b,vs,e,hβ _ _ h1,q1.trans h2,h3,fun i hi=>(h4 i hi).mono hM hβ,q2,h6⟩
 |
  vec sz es =>
  obtain⟨v,h1,h2,h3⟩:=h
  refine⟨v,hβ _ _ h1,h2,?_⟩
  rcases h3 with h3|⟨b,off,c,vs,e,rfl,h4,h5,h6,h7,h8,h9⟩
  ·exact .inl h3
  ·obtain⟨q1,q2⟩:=hw b rfl (by simp[eE,h1,Loc.block])
   exact .inr ⟨b,off,c,vs,e,rfl,h4,q1.trans h5,h6,fun i j hi hj=>(h7 i j hi hj).mono hM (Lo.le.refl _),q2,h9⟩
 |
  ns sz es =>
  obtain⟨v,h1,h2,h3⟩:=h
  refine⟨v,hβ _ _ h1,h2,?_⟩
  rcases h3 with h3|⟨b,off,c,vs,e,rfl,h4,h5,h6,h7,h8,h9⟩
  ·exact .inl h3
  ·obtain⟨q1,q2⟩:=hw b rfl (by simp[eE,h1,Loc.block])
   exact .inr ⟨b,off,c,vs,e,rfl,h4,q1.trans h5,h6,fun i j hi hj=>(h7 i j hi hj).mono hM (Lo.le.refl _),q2,h9⟩
 |
  i7 cs =>
  obtain⟨b,us,h1,h2⟩:=h
  exact⟨b,us,hβ _ _ h1,fun i hi=>⟨hM.c _ _ _ (h2 i hi).1,(h2 i hi).2.mono hM hβ⟩⟩
 |
  nR es =>
  obtain⟨v,sz,h1,h2,h3⟩:=h
  refine⟨v,sz,hβ _ _ h1,h2,?_⟩
  rcases h3 with h3|⟨b,off,c,us,rfl,h4,h5,h7⟩
  ·exact .inl h3
  ·exact .inr ⟨b,off,c,us,rfl,h4,fun i hi=>hM.c _ _ _ (h5 i hi),fun i j hi hj=>(h7 i j hi hj).mono hM (Lo.le.refl _)⟩
 |dead=>trivial
theorem Own.lt{o:Nat}{x:Ob}(h:Own M β w o x)(hx:x.live=true){b:Nat}(hb:eE β o=some b):b<w.heap.size:=by
 have key:∀(b':Nat) (ob:Go.Obj),w.heap[b']?=some ob->b'<w.heap.size:=fun b' ob hh=>(Array.getElem?_eq_some_iff.1 hh).1
 cases x with
 |
  cells cs =>
  obtain⟨b',vs,e,h1,h2,_⟩:=h
  simp[eE,h1,Loc.block]at hb
  subst hb;exact key _ _ h2
 |
  vec sz es =>
  obtain⟨v,h1,h2,h3⟩:=h
  rcases h3 with⟨rfl,_⟩|⟨b',off,c,vs,e,rfl,h4,h5,_⟩
  ·simp[eE,h1,Loc.block]at hb
  ·simp[eE,h1,Loc.block]at hb
   subst hb;exact key _ _ h5
 |
  ns sz es =>
  obtain⟨v,h1,h2,h3⟩:=h
  rcases h3 with⟨rfl,_⟩|⟨b',off,c,vs,e,rfl,h4,h5,_⟩
  ·simp[eE,h1,Loc.block]at hb
  ·simp[eE,h1,Loc.block]at hb
   subst hb;exact key _ _ h5
 |_=>cases hx
theorem Own.DL{o:Nat}{x:Ob}(h:Own M β w o x)(hx:x.live=true){b:Nat}(hb:eE β o=some b):∀k,M.c b k=none:=by
 cases x with
 |
  cells cs =>
  obtain⟨b',vs,e,h1,_,_,_,h5,_⟩:=h
  simp[eE,h1,Loc.block]at hb
  subst hb;exact h5
 |
  vec sz es =>
  obtain⟨v,h1,h2,h3⟩:=h
  rcases h3 with⟨rfl,_⟩|⟨b',off,c,vs,e,rfl,h4,h5,_,_,h6,_⟩
  ·simp[eE,h1,Loc.block]at hb
  ·simp[eE,h1,Loc.block]at hb
   subst hb;exact h6
 |
  ns sz es =>
  obtain⟨v,h1,h2,h3⟩:=h
  rcases h3 with⟨rfl,_⟩|⟨b',off,c,vs,e,rfl,h4,h5,_,_,h6,_⟩
  ·simp[eE,h1,Loc.block]at hb
  ·simp[eE,h1,Loc.block]at hb
   subst hb;exact h6
 |_=>cases hx
theorem iU.lt(h:iU M w){b k:Nat}{v:Value}(hc:M.c b k=some v):b<w.heap.size:=World.block_lt_of_cell? w _ (h b k v hc)
theorem iU.world(h:iU M w)(hw:∀b k v,M.c b k=some v->w'.heap[b]?=w.heap[b]?):iU M w':=⟨fun b k v hc =>
 (World.cell?_of_block (w:=w) (a:=⟨b,k,none⟩) (hw b k v hc)).trans (h b k v hc),fun b hb=>by
  obtain⟨k,v,hc⟩:=M.pc b hb
  rw[hw b k v hc];exact h.p b hb⟩
theorem BF.kH{A:kJ}(h:BF A w)(ho:w'.os=w.os)(ht:w'.tape=w.tape)(hp:w'.output=w.output)(hs:w.heap.size<=w'.heap.size)(hb:∀b,b<A.w0.heap.size->¬A.wD b->w'.heap[b]?=w.heap[b]?):BF A w' :=
 ⟨ho.trans h.os,ht.trans h.tape,hp.trans h.output,Nat.le_trans h.size hs,fun b hlt hn=>(hb b hlt hn).trans (h.block b hlt hn)⟩
variable {n:Nat} {A:kJ} {s:St} {a:Act}
theorem dz.write(g:dz n A s a w M β){o b:Nat}{x:Ob}(hx:s.ob o=some x)(hlv:x.live=true)(hb:eE β o=some b)(vs:Array Value)(x':Ob)(hx':Own M β (w.setRow b vs) o x')(hlv':x'.live=true) :
 dz n A {s with ob:=cO s.ob o (some x')} a (w.setRow b vs) M β:=by
 have other:∀b',b'≠b->(w.setRow b vs).heap[b']?=w.heap[b']?:=fun b' hne=>setRow_other w b b' vs hne
 refine {size:=g.size,defs:=g.defs,tm:=g.tm,le:=g.le,new:=g.new,agree:=?_,own:=?_,place:=?_,apart:=?_,us:=?_,fix:=g.II fun o' y hy=>(by
  by_cases e:o'=o
  ·subst e;exact⟨x,hx⟩
  ·exact⟨y,by rw[<-hy];exact(bh _ _ _ _ e).symm⟩),cU:=?_}
 ·have hM:=(g.own o x hx).DL hlv hb
  refine g.agree.world fun b' k v hc=>other b' fun e=>?_
  subst e;rw[hM k]at hc;cases hc
 ·intro o' y hy
  by_cases ho:o'=o
  ·subst ho
   rw[show ({s with ob:=cO s.ob o' (some x')}:St).ob o'=some x' from aV _ _ _]at hy
   cases hy;exact hx'
  ·have hy':s.ob o'=some y:=by simpa[bh _ _ _ _ ho]using hy
   refine(g.own o' y hy').mono (Mem.le.refl _) (Lo.le.refl _) fun b' hl hb'=>⟨other b' fun e=>?_,(g.own o' y hy').DL hl hb'⟩
   subst e
   exact g.apart o o' x y b' (Ne.symm ho) hx hlv hy' hl hb hb'
 ·intro o' y b' hy hl hb'
  by_cases ho:o'=o
  ·subst ho;exact g.place o' x b' hx hlv hb'
  ·have hy':s.ob o'=some y:=by simpa[bh _ _ _ _ ho]using hy
   exact g.place o' y b' hy' hl hb'
 ·intro o1 o2 y1 y2 b' hne h1 l1 h2 l2 hb1 hb2
  have back:∀o' y,({s with ob:=cO s.ob o (some x')}:St).ob o'=some y->y.live=true->∃z,s.ob o'=some z/\z.live=true:=fun o' y hy hl=>by
   by_cases ho:o'=o
   ·subst ho;exact⟨x,hx,hlv⟩
   ·exact⟨y,by simpa[bh _ _ _ _ ho]using hy,hl⟩
  obtain⟨z1,q1,r1⟩:=back o1 y1 h1 l1
  obtain⟨z2,q2,r2⟩:=back o2 y2 h2 l2
  exact g.apart o1 o2 z1 z2 b' hne q1 r1 q2 r2 hb1 hb2
 ·intro o' hu
  obtain⟨q1,q2⟩:=g.us o' hu
  refine⟨q1,?_⟩
  have ho:o'≠o:=fun e=>by subst e;rw[q2]at hx;cases hx
  show cO s.ob o (some x') o'=none
  rw[bh _ _ _ _ ho];exact q2
 ·refine g.cU.kH rfl rfl rfl (by simp) fun b' hlt hni=>other b' fun e=>?_
  subst e
  rcases g.place o x b' hx hlv hb with h|h
  ·omega
  ·exact hni h
end
end Go.VL
namespace Go.VL
open Go Go.RowKit
section
variable {P:Program} {M M':Mem} {β β':Lo} {w w':World} {n:Nat} {A:kJ} {s:St} {a:Act}
def Mem.add(M:Mem)(b:Nat)(vs:Array Value)(h1:∀v,v∈vs->v.oneCell'=true)(hb:∀k,M.c b k=none):Mem where
 c b' k:=if b'=b then vs[k]? else M.c b' k
 one b' k v h:=by
  by_cases e:b'=b
  ·rw[if_pos e]at h;exact h1 v (Array.mem_of_getElem? h)
  ·rw[if_neg e]at h;exact M.one _ _ _ h
 p b':=M.p b'\/(b'=b/\vs.size≠0)
 pc b' h:=by
  rcases h with h|⟨rfl,h⟩
  ·obtain⟨k,v,hc⟩:=M.pc b' h
   have:b'≠b:=fun e=>by subst e;rw[hb k]at hc;cases hc
   exact⟨k,v,by rw[if_neg this];exact hc⟩
  ·exact⟨0,vs[0]'(by omega),by rw[if_pos rfl];simp⟩
theorem Mem.yn{M:Mem}{b:Nat}{vs:Array Value}{h1:∀v,v∈vs->v.oneCell'=true}(h:∀k,M.c b k=none):M.le (M.add b vs h1 h):=by
 refine⟨fun b' k v hc=>?_,fun b' hb=>.inl hb⟩
 have:b'≠b:=fun e=>by subst e;rw[h k]at hc;cases hc
 simp[Mem.add,this,hc]
theorem B9{w:World}{b k:Nat}{vs:Array Value}{e:TypeId}(h:w.heap[b]?=some (.cells vs e (0,0))):w.cell? ⟨b,k,none⟩=vs[k]?:=by
 simp[World.cell?,h]
theorem dz.u4(g:dz n A s a w M β){o:Nat}{x:Ob}(hx:s.ob o=some x)(hlv:x.live=true) :
 ∃M',M.le M'/\dz n A {s with ob:=cO s.ob o (cV (some x))} a w M' β/\∀cs b,x=.cells cs->cs≠[]->β o=some (.cells b)->M'.p b:=by
 have hown:=g.own o x hx
 have key:(∀b,eE β o≠some b)/\(∀M',M.le M'->∀y,cV (some x)=some y->Own M' β w o y) ∨
  ∃b vs e,eE β o=some b/\w.heap[b]?=some (.cells vs e (0,0))/\(∀k,M.c b k=none)/\(∀v,v∈vs->v.oneCell'=true)/\(∀M',M.le M'->(∀k,M'.c b k=vs[k]?)->∀y,cV (some x)=some y->Own M' β w o y)/\∀cs,x=.cells cs->vs.size=cs.length:=by
  cases x with
  |
   cells cs =>
   obtain⟨b,vs,e,h1,h2,h3,h4,h5,h6⟩:=hown
   refine .inr ⟨b,vs,e,by simp[eE,h1,Loc.block],h2,h5,h6,fun M' hM hk y hy=>?_,fun cs' e'=>by cases e';exact h3⟩
   cases hy
   refine⟨b,fun i=>vs.getD i undef,h1,fun i hi=>⟨?_,(h4 i hi).mono hM (Lo.le.refl _)⟩⟩
   rw[hk i]
   have:i<vs.size:=by omega
   simp[this]
  |
   vec sz es =>
   obtain⟨v,h1,h2,h3⟩:=hown
   rcases h3 with⟨rfl,rfl⟩|⟨b,off,c,vs,e,rfl,h4,h5,h6,h7,h8,h9,h10⟩
   ·refine .inl ⟨fun b hb=>by simp[eE,h1,Loc.block]at hb,fun M' hM y hy=>?_⟩
    cases hy
    exact⟨_,sz,h1,h2,.inl ⟨rfl,rfl⟩⟩
   ·refine .inr ⟨b,vs,e,by simp[eE,h1,Loc.block],h5,h8,h10,fun M' hM hk y hy=>?_,fun cs' e'=>by cases e'⟩
    cases hy
    refine⟨_,sz,h1,h2,.inr ⟨b,off,c,fun i=>vs.getD (off+i) undef,rfl,h4,fun i hi=>?_,fun i j hi hj=>(h7 i j hi hj).mono hM (Lo.le.refl _)⟩⟩
    rw[hk]
    have:es.length*sz<=c*sz:=bg _ h4
    have:off+i<vs.size:=by omega
    simp[this]
  |
   ns sz es =>
   obtain⟨v,h1,h2,h3⟩:=hown
   rcases h3 with⟨rfl,rfl⟩|⟨b,off,c,vs,e,rfl,h4,h5,h6,h7,h8,h9,h10⟩
   ·refine .inl ⟨fun b hb=>by simp[eE,h1,Loc.block]at hb,fun M' hM y hy=>?_⟩
    cases hy
    exact⟨_,sz,h1,h2,.inl ⟨rfl,rfl⟩⟩
   ·refine .inr ⟨b,vs,e,by simp[eE,h1,Loc.block],h5,h8,h10,fun M' hM hk y hy=>?_,fun cs' e'=>by cases e'⟩
    cases hy
    refine⟨_,sz,h1,h2,.inr ⟨b,off,c,fun i=>vs.getD (off+i) undef,rfl,h4,fun i hi=>?_,fun i j hi hj=>(h7 i j hi hj).mono hM (Lo.le.refl _)⟩⟩
    rw[hk]
    have:es.length*sz<=c*sz:=bg _ h4
    have:off+i<vs.size:=by omega
    simp[this]
  |_=>cases hlv
 have fr:∀y,cV (some x)=some y->y.live=false:=by
  intro y hy
  cases x<;>simp[cV,Ob.live]at hy hlv
  all_goals subst hy;rfl
 have build:∀M',M.le M'->(∀b k v,M'.c b k=some v->M.c b k=some v\/eE β o=some b)->iU M' w->(∀b,eE β o≠some b->∀k,M'.c b k=M.c b k)->(∀y,cV (some x)=some y->Own M' β w o y) ->
  dz n A {s with ob:=cO s.ob o (cV (some x))} a w M' β:=by
  intro M' hM hnew hag hoth hfz
  refine {size:=g.size,defs:=g.defs,tm:=fun t=>(g.tm t).mono hM (Lo.le.refl _),le:=g.le.trans hM,new:=?_,agree:=hag,own:=?_,place:=?_,apart:=?_,us:=?_,fix:=g.II fun o' y hy=>(by
   by_cases e:o'=o
   ·subst e;exact⟨x,hx⟩
   ·exact⟨y,by rw[<-hy];exact(bh _ _ _ _ e).symm⟩),cU:=g.cU}
  ·intro b k v hc
   rcases hnew b k v hc with h|h
   ·exact g.new b k v h
   ·exact .inr (g.place o x b hx hlv h)
  ·intro o' y hy
   by_cases ho:o'=o
   ·subst ho
    have hy':cV (some x)=some y:=by simpa[aV]using hy
    exact hfz y hy'
   ·have hy':s.ob o'=some y:=by simpa[bh _ _ _ _ ho]using hy
    refine(g.own o' y hy').mono hM (Lo.le.refl _) fun b hl hb=>⟨rfl,fun k=>?_⟩
    rw[hoth b fun hb'=>g.apart o o' x y b (Ne.symm ho) hx hlv hy' hl hb' hb]
    exact(g.own o' y hy').DL hl hb k
  ·intro o' y b hy hl hb
   by_cases ho:o'=o
   ·subst ho
    have hy':cV (some x)=some y:=by simpa[aV]using hy
    rw[fr y hy']at hl;cases hl
   ·have hy':s.ob o'=some y:=by simpa[bh _ _ _ _ ho]using hy
    exact g.place o' y b hy' hl hb
  ·intro o1 o2 y1 y2 b hne h1 l1 h2 l2
   have back:∀o' y,({s with ob:=cO s.ob o (cV (some x))}:St).ob o'=some y->y.live=true->s.ob o'=some y:=fun o' y hy hl=>by
    by_cases ho:o'=o
    ·subst ho
     have hy':cV (some x)=some y:=by simpa[aV]using hy
     rw[fr y hy']at hl;cases hl
    ·simpa[bh _ _ _ _ ho]using hy
   exact g.apart o1 o2 y1 y2 b hne (back o1 y1 h1 l1) l1 (back o2 y2 h2 l2) l2
  ·intro o' hu
   obtain⟨q1,q2⟩:=g.us o' hu
   refine⟨q1,?_⟩
   have ho:o'≠o:=fun e=>by subst e;rw[q2]at hx;cases hx
   show cO s.ob o (cV (some x)) o'=none
   rw[bh _ _ _ _ ho];exact q2
 rcases key with⟨h1,h2⟩|⟨b,vs,e,h1,h2,h3,hone,h4,h5⟩
 ·exact⟨M,Mem.le.refl M,build M (Mem.le.refl M) (fun b k v h=>.inl h) g.agree (fun _ _ _=>rfl) (h2 M (Mem.le.refl M)),fun cs b _ _ hb=>absurd (by simp[eE,hb,Loc.block]) (h1 b)⟩
 ·refine⟨M.add b vs hone h3,Mem.yn h3,build _ (Mem.yn h3) (fun b' k v hc=>?_) ⟨fun b' k v hc=>?_,fun b' hb=>?_⟩ (fun b' hne k=>?_) (h4 _ (Mem.yn h3) fun k=>by simp[Mem.add]),fun cs b' hc hne hb=>?_⟩
  rotate_right
  ·have e1:eE β o=some b':=by simp[eE,hb,Loc.block]
   rw[h1]at e1;cases e1
   exact .inr ⟨rfl,by rw[h5 cs hc];cases cs<;>simp at hne |-⟩
  ·by_cases hb:b'=b
   ·subst hb;exact .inr h1
   ·left;simpa[Mem.add,hb]using hc
  ·by_cases hb:b'=b
   ·subst hb
    rw[B9 h2]
    simpa[Mem.add]using hc
   ·exact g.agree b' k v (by simpa[Mem.add,hb]using hc)
  ·rcases hb with hb|⟨rfl,hb⟩
   ·exact g.agree.p b' hb
   ·exact⟨vs,e,h2,hb⟩
  ·have hb:b'≠b:=fun e=>by subst e;exact hne h1
   simp[Mem.add,hb]
theorem yo{α:Type}(f:Nat->α)(o:Nat):cO f o (f o)=f:=by
 funext j
 by_cases h:j=o
 ·subst h;rw[aV]
 ·rw[bh _ _ _ _ h]
theorem rT{x:Ob}(h:x.live=false):cV (some x)=some x:=by cases x<;>simp[Ob.live]at h<;>rfl
theorem dz.AI(ob0:Nat->Option Ob):∀(os:List Nat) {s:St} {M:Mem},dz n A s a w M β->(∀o,s.ob o=ob0 o\/s.ob o=cV (ob0 o)) ->
 ∃M',M.le M'/\dz n A {s with ob:=cS s.ob (gp ob0 os)} a w M' β/\∀o,o∈os->∀cs b,s.ob o=some (.cells cs)->s.ob o=ob0 o->cs≠[]->β o=some (.cells b)->M'.p b
 |[],s,M,g,_=>⟨M,Mem.le.refl M,g,fun o ho=>by cases ho⟩
 |
  o::os,s,M,g,h=>by
  have step:∃M',M.le M'/\dz n A {s with ob:=cO s.ob o (cV (ob0 o))} a w M' β/\∀cs b,s.ob o=some (.cells cs)->s.ob o=ob0 o->cs≠[]->β o=some (.cells b)->M'.p b:=by
   rcases h o with ho|ho
   ·cases e:ob0 o with
    |none=>exact⟨M,Mem.le.refl M,by rw[show cV none=s.ob o by rw[ho,e];rfl,yo];exact g,fun cs b hc _=>by rw[ho,e]at hc;cases hc⟩
    |
     some x =>
     cases hl:x.live with
     |
      true =>
      obtain⟨M',q1,q2,q3⟩:=g.u4 (x:=x) (by rw[ho,e]) hl
      exact⟨M',q1,q2,fun cs b hc _=>q3 cs b (by rw[ho,e]at hc;cases hc;rfl)⟩
     |false=>exact⟨M,Mem.le.refl M,by rw[rT hl,show some x=s.ob o by rw[ho,e],yo];exact g,fun cs b hc _=>by rw[ho,e]at hc;cases hc;cases hl⟩
   ·refine⟨M,Mem.le.refl M,by rw[<-ho,yo];exact g,fun cs b hc he=>?_⟩
    rw[he]at hc
    rw[he,hc]at ho
    cases ho
  obtain⟨M1,hM1,g1,p1⟩:=step
  obtain⟨M2,hM2,g2,p2⟩:=dz.AI ob0 os g1 (fun o'=>by
   by_cases ho:o'=o
   ·subst ho;right;exact aV _ _ _
   ·rcases h o' with h|h
    ·left;exact(bh _ _ _ _ ho).trans h
    ·right;exact(bh _ _ _ _ ho).trans h)
  refine⟨M2,hM1.trans hM2,g2,fun o' ho' cs b hc he hne hb=>?_⟩
  by_cases e:o'=o
  ·subst e;exact hM2.p _ (p1 cs b hc he hne hb)
  ·rcases aI.1 ho' with h'|h'
   ·exact absurd h' e
   ·exact p2 o' h' cs b ((bh _ _ _ _ e).trans hc) ((bh _ _ _ _ e).trans he) hne hb
theorem dz.AE(g:dz n A s a w M β)(os:List Nat):∃M',M.le M'/\dz n A {s with ob:=cS s.ob (gp s.ob os)} a w M' β/\∀o,o∈os->∀cs b,s.ob o=some (.cells cs)->cs≠[]->β o=some (.cells b)->M'.p b:=by
 obtain⟨M',h1,h2,h3⟩:=g.AI s.ob os fun _=>.inl rfl
 exact⟨M',h1,h2,fun o ho cs b hc=>h3 o ho cs b hc rfl⟩
theorem dz.freeze(g:dz n A s a w M β)(os:List Nat):∃M',M.le M'/\dz n A {s with ob:=cS s.ob (gp s.ob os)} a w M' β:=by
 obtain⟨M',h1,h2,_⟩:=g.AE os
 exact⟨M',h1,h2⟩
theorem pW(ob0:Nat->Option Ob):∀(os:List Nat) (f:Nat->Option Ob) (o:Nat),(o∈os\/f o=cV (ob0 o))->cS f (gp ob0 os) o=cV (ob0 o)
 |[],f,o,h=>by rcases h with h|h;cases h;exact h
 |
  q::os,f,o,h=>by
  show cS (cO f q (cV (ob0 q))) (gp ob0 os) o=_
  refine pW ob0 os _ o ?_
  by_cases e:o=q
  ·subst e;right;exact aV _ _ _
  ·rcases h with h|h
   ·left;rcases aI.1 h with h|h
    ·exact absurd h e
    ·exact h
   ·right;rw[bh _ _ _ _ e];exact h
def Fz(M:Mem)(β:Lo)(w:World)(ob:Nat->Option Ob)(os:List Nat):Prop:=∀o,o∈os->∀x,cV (ob o)=some x->Own M β w o x
theorem dz.fz{ob:Nat->Option Ob}{os:List Nat}(g:dz n A {s with ob:=cS ob (gp ob os)} a w M β):Fz M β w ob os:=fun o ho x hx=>g.own o x ((pW ob os ob o (.inl ho)).trans hx)
theorem Fz.left{ob:Nat->Option Ob}{p q:List Nat}(h:Fz M β w ob (p++q)):Fz M β w ob p:=fun o ho=>h o (aD _ ho)
theorem Fz.right{ob:Nat->Option Ob}{p q:List Nat}(h:Fz M β w ob (p++q)):Fz M β w ob q:=fun o ho=>h o (aB _ ho)
theorem qH{ob:Nat->Option Ob}{f:AV->Option (AV×List Nat)}(hf:∀c a' os v,f c=some (a',os)->Fz M β w ob os->bJ M β c v->bJ M dG a' v) :
 ∀(cs:List AV) (asq:List AV) (os:List Nat),nV f cs=some (asq,os)->Fz M β w ob os->asq.length=cs.length/\∀i v,i<cs.length->bJ M β (cs.getD i .any) v->bJ M dG (asq.getD i .any) v
 |
  [],asq,os,h,_=>by
  simp[nV]at h
  obtain⟨rfl,rfl⟩:=h
  exact⟨rfl,fun i v hi=>by simp at hi⟩
 |
  c::cs,asq,os,h,hz=>by
  unfold nV at h
  split at h
  ·rename_i a1 os1 as2 os2 h1 h2
   cases h
   obtain⟨q1,q2⟩:=qH hf cs _ _ h2 hz.right
   refine⟨by simp[q1],fun i v hi hr=>?_⟩
   cases i with
   |zero=>simpa using hf _ _ _ _ h1 hz.left (by simpa using hr)
   |succ i=>simpa using q2 i v (by simpa using hi) (by simpa using hr)
  ·cases h
theorem pX{o:Nat}{es:List (List AV)}{v:Value}(h:Own M β w o (.nR es))(hr:bJ M β (.vec o) v):bJ M dG (.sl es) v:=by
 obtain⟨v',sz,h1,h2,h3⟩:=h
 have hv:v=v':=by
  cases hr with
  |vec _ _ _ sz' ho h=>rw[h1]at h;cases h;rfl
 subst hv
 rcases h3 with⟨rfl,rfl⟩|⟨b,off,c,us,rfl,h4,h5,h6⟩
 ·exact .slnil _
 ·exact .sl _ _ _ _ _ sz us h4 h2 h5 h6
theorem iE{ob:Nat->Option Ob}:∀(k:Nat) (c a':AV) (os:List Nat) (v:Value),VL.freeze ob k c=some (a',os)->Fz M β w ob os->bJ M β c v->bJ M dG a' v
 |0,c,a',os,v,h,_,_=>by simp[VL.freeze]at h
 |
  k+1,c,a',os,v,h,hz,hr=>by
  have ih:∀c a' os v,VL.freeze ob k c=some (a',os)->Fz M β w ob os->bJ M β c v->bJ M dG a' v:=fun c a' os v=>iE k c a' os v
  have ptrCase:∀o cs r,(ob o=some (.cells cs)\/ob o=some (.i7 cs))->nV (VL.freeze ob k) cs=some r->a'=.ptr r.1->os=o::r.2->bJ M β (.ref o 0) v->bJ M dG a' v:=by
   intro o cs r ho hfz ea eo hr
   subst ea;subst eo
   obtain⟨asq,os'⟩:=r
   have hfr:cV (ob o)=some (.i7 cs):=by rcases ho with ho|ho<;>rw[ho]<;>rfl
   obtain⟨b,us,h1,h2⟩:=hz o ak _ hfr
   obtain⟨q1,q2⟩:=qH ih cs _ _ hfz (fun o' ho'=>hz o' (al _ ho'))
   cases hr with
   |
    ref _ _ _ b' hb =>
    rw[h1]at hb;cases hb
    simp only at q1 q2 |-
    exact .ptr _ _ _ _ us (fun i hi=>by simpa using(h2 i (by omega)).1) fun i hi=>q2 i _ (by omega) (h2 i (by omega)).2
  unfold VL.freeze at h
  split at h
  ·rename_i o
   split at h
   ·rename_i cs ho
    cases e:nV (VL.freeze ob k) cs with
    |none=>rw[e]at h;cases h
    |some r=>rw[e]at h;cases h;exact ptrCase o cs r (.inl ho) e rfl rfl hr
   ·rename_i cs ho
    cases e:nV (VL.freeze ob k) cs with
    |none=>rw[e]at h;cases h
    |some r=>rw[e]at h;cases h;exact ptrCase o cs r (.inr ho) e rfl rfl hr
   ·cases h
  ·rename_i o
   split at h
   ·rename_i sz es ho
    cases h
    exact pX (hz o ak _ (by rw[ho];rfl)) hr
   ·rename_i es ho
    cases h
    exact pX (hz o ak _ (by rw[ho];rfl)) hr
   ·cases h
  ·cases h;cases hr with|x _ _ _ ho h=>exact h
  ·rename_i cs
   cases e:nV (VL.freeze ob k) cs with
   |none=>rw[e]at h;cases h
   |
    some r =>
    rw[e]at h;cases h
    obtain⟨q1,q2⟩:=qH ih cs _ _ (by rw[e]) hz
    cases hr with
    |
     agg _ _ vs hl ho h =>
     exact .agg _ _ _ (q1.trans hl) (fun i hi=>ho i (by omega)) fun i hi=>q2 i _ (by omega) (h i (by omega))
  ·cases h;exact .any _ _
  ·cases h;cases hr;exact .v _ _
  ·cases h;cases hr;exact .v _ _
  ·cases h;cases hr with|ptr _ _ b off us h h'=>exact .ptr _ _ _ _ us h h'
  ·cases h;cases hr with|pid _ _ b us hp h h'=>exact .pid _ _ _ us hp h h'
  ·cases h;cases hr with
   |slnil=>exact .slnil _
   |sl _ _ b off c sz us hc hs h h'=>exact .sl _ _ _ _ _ sz us hc hs h h'
  ·cases h
theorem yj{ob:Nat->Option Ob}{c a':AV}{v:Value}(h:ext ob c=some a')(hr:bJ M β c v):bJ M dG a' v:=by
 unfold ext at h
 split at h
 ·rename_i a1 e
  cases h
  exact iE (w:=default) _ _ _ _ _ e (fun o ho=>by cases ho) hr
 ·cases h
end
end Go.VL
namespace Go.VL
open Go Go.RowKit
section
variable {P:Program} {M:Mem} {β:Lo} {w:World} {n:Nat} {A:kJ} {s:St} {a:Act}
theorem xA(es:List (List AV))(l h i:Nat)(hi:i<h-l):((es.take h).drop l).getD i []=es.getD (l+i) []:=by
 simp[aa,dc,List.getElem?_take,show l+i<h by omega]
theorem vN{es:List (List AV)}{v:Value}(hv:bJ M dG (.sl es) v){l h size:Nat}(h1:l<=h)(h2:h<=es.length)(hz:l=0\/∀c,c∈es->c.length=size) :
 ∃ad len cap,v=.slice ad len cap/\len=es.length/\es.length<=cap /\
 bJ M β (.sl ((es.take h).drop l)) (.slice (if cap=l then ad else ad.map (·.add (l*size))) (h-l) (cap-l)):=by
 cases hv with
 |
  slnil =>
  refine⟨none,0,0,rfl,rfl,au _,?_⟩
  simp at h2
  subst h2
  have:l=0:=by omega
  subst this
  exact .slnil _
 |
  sl _ _ b off c sz us hc hs hh h' =>
  refine⟨_,_,c,rfl,rfl,hc,?_⟩
  have hlen:((es.take h).drop l).length=h-l:=by simp;omega
  by_cases hcl:c=l
  ·rw[if_pos hcl]
   have e0:(es.take h).drop l=[]:=List.length_eq_zero_iff.1 (by rw[hlen];omega)
   rw[e0,show h-l=([]:List (List AV)).length by simp;omega]
   exact .sl _ _ _ _ _ sz us (by simp) (fun i hi=>by simp at hi) (fun i hi=>by simp at hi) (fun i j hi=>by simp at hi)
  ·rw[if_neg hcl]
   have e1:Option.map (·.add (l*size)) (some (⟨b,off,none⟩:Addr))=some ⟨b,off+l*size,none⟩:=by simp[kQ]
   rw[e1]
   by_cases hne:h-l=0
   ·have e0:(es.take h).drop l=[]:=List.length_eq_zero_iff.1 (by rw[hlen];omega)
    rw[e0,show h-l=([]:List (List AV)).length by simp;omega]
    exact .sl _ _ _ _ _ sz us (by simp) (fun i hi=>by simp at hi) (fun i hi=>by simp at hi) (fun i j hi=>by simp at hi)
   ·have e2:l*size=l*sz:=by
     rcases hz with hz|hz
     ·subst hz;simp
     ·have hl:l<es.length:=by omega
      have m1:=hs l hl
      have m2:es.getD l []∈es:=by
       have:es.getD l []=es[l]:=by simp[aa,hl]
       rw[this];exact bn hl
      rw[<-m1,hz _ m2]
    rw[e2,<-hlen]
    refine .sl _ _ _ _ _ sz (fun k=>us (l*sz+k)) (by rw[hlen];omega) (fun i hi=>?_) (fun i hi=>?_) fun i j hi hj=>?_
    ·rw[hlen]at hi
     rw[xA _ _ _ _ hi];exact hs _ (by omega)
    ·rw[hlen]at hi
     have:(h-l)*sz+l*sz<=es.length*sz:=by rw[<-Nat.add_mul];exact bg _ (by omega)
     have q:=hh (l*sz+i) (by omega)
     rw[show off+l*sz+i=off+(l*sz+i) by omega]
     exact q
    ·rw[hlen]at hi
     rw[xA _ _ _ _ hi]
     have q:=h' (l+i) j (by omega) hj
     rw[Nat.add_mul]at q
     rw[show l*sz+(i*sz+j)=l*sz+i*sz+j by omega]
     exact q
theorem mo{t el:Nat}{T:fh}(hT:dw P T)(hkn:(T t).kn=true)(hel:(T el).kn=true)(hk:(T t).k=.slice el){ρ:Operand->Value}{e:Operand->AV}(he:∀x,bJ M β (e x) (ρ x)){ad:Option Addr}{len cap:Nat}(lo hi:Option Operand)(l h:Int)
 (hl:jq e lo=some l) (hh:iq e len hi=some h) (h0:0<=l) (h1:l<=h) (h2:h<=len) (hc:len<=cap) :
 (Instr.sliceAt t (.slice ad len cap) (lo.map ρ) (hi.map ρ) none).run P w=.ok (.slice (if cap=l.toNat then ad else ad.map (·.add (l.toNat*(T el).sz))) (h.toNat-l.toNat) (cap-l.toNat)) w:=by
 have hb:=tK (P:=P) (w:=w) he true len cap lo hi l h hl hh h0 h1 h2 hc
 have hu:=run_underlying ((hT t hkn).slice hk) w
 simp[Instr.sliceAt,Instr.slice,Sem.run_bind,hu,hb,(hT el hel).j1 w]
theorem tU{t:Nat}{T:fh}(hT:dw P T)(hkn:(T t).kn=true)(hk:(T t).k=.str){ρ:Operand->Value}{e:Operand->AV}(he:∀x,bJ M β (e x) (ρ x))(q:ByteArray)(lo hi:Option Operand)(l h:Int)
 (hl:jq e lo=some l) (hh:iq e q.size hi=some h) (h0:0<=l) (h1:l<=h) (h2:h<=q.size) :
 (Instr.sliceAt t (.string q) (lo.map ρ) (hi.map ρ) none).run P w=.ok (.string (q.extract l.toNat h.toNat)) w:=by
 have hb:=tK (P:=P) (w:=w) he false q.size q.size lo hi l h hl hh h0 h1 h2 (au _)
 have hu:=run_underlying ((hT t hkn).str hk) w
 simp[Instr.sliceAt,Instr.slice,Sem.run_bind,hu,hb]
theorem Da{x:AV}{v:Value}(h:bJ M β (.x x) v)(hk:LK.sl.has x):bJ M dG (.sl x.elems) v:=by
 cases h with
 |
  x _ _ _ ho h =>
  rcases hk with rfl|⟨es,rfl⟩
  ·cases h;exact .slnil _
  ·exact h
theorem Bt{es:List (List AV)}{v:Value}(h:bJ M β (.sl es) v):bJ M dG (.sl es) v:=by
 cases h with
 |slnil=>exact .slnil _
 |sl _ _ b off c sz us hc hs h h'=>exact .sl _ _ _ _ _ sz us hc hs h h'
theorem vS{ob:Nat->Option Ob}(hob:∀o x,ob o=some x->Own M β w o x){x:AV}{v:Value}(h:bJ M β x v)(hx:∀o,x≠.vec o){p:Option Prop}{es:List (List AV)}{os:List Nat}
 (he:fU ob x=some (p,es,os)) (hp:∀q,p=some q->q):bJ M dG (.sl es) v:=by
 unfold fU at he
 split at he
 ·cases he;exact Bt h
 ·cases he;exact Da h (hp _ rfl)
 ·cases he;cases h;exact .slnil _
 ·exact absurd rfl (hx _)
 ·cases he
theorem og{o:Oper}{t:Nat}{x:Operand}{lo hi:Option Operand}(ho:o.op=.slice t x lo hi none){v:Value}(h:(Instr.sliceAt t (a.eval x) (lo.map a.eval) (hi.map a.eval) none).run P w=.ok v w) :
 (execOp a.eval o).run P w=.ok (.value v) w:=by
 simp[execOp,ho,h]
theorem CJ{ob:Nat->Option Ob}{T:fh}{t el:Nat}{lo:Option Operand}{es:List (List AV)}{l:Int}{e:Operand->AV}(hl:jq e lo=some l)(hw:∀q,lo.map (fun _=>ck (T el).sz es)=some q->q):l.toNat=0\/∀c,c∈es->c.length=(T el).sz:=by
 cases lo with
 |none=>simp[jq]at hl;subst hl;exact .inl rfl
 |some x=>exact .inr (hw _ rfl)
theorem EG(g:dz n A s a w M β){T:fh}(hT:dw P T)(o:Oper)(t:Nat)(x:Operand)(lo hi:Option Operand)(ho:o.op=.slice t x lo hi none) :
 (eu T (ev s) s.ob o).holds fun d=>dW s n o.dst d=true->Step P n A o a w (s.app o.dst d):=by
 unfold eu
 rw[ho]
 refine DR.bc fun hkn=>?_
 have hx:=g.ev x
 split
 ·rename_i q hk e
  rw[e]at hx
  refine mI g ?_
  split
  ·rename_i l h hl hh
   intro⟨h0,h1,h2⟩
   have:=dT hx
   exact⟨rfl,rfl,_,og ho (by rw[this];exact tU hT hkn hk g.ev q lo hi l h hl hh h0 h1 h2),.v _ _⟩
  ·trivial
 ·rename_i el o' hk e
  rw[e]at hx
  refine DR.bc fun hel=>?_
  split
  ·rename_i sz es hes
   refine DR.bc fun hz=>?_
   have hz:=aG hz
   split
   ·rename_i l h hl hh
    intro⟨h0,h1,h2⟩ hn
    obtain⟨M',hM,g',_⟩:=g.u4 hes rfl
    have hfz:=g'.own o' (.nR es) (by rw[show cV (some (Ob.vec sz es))=some (.nR es) from rfl];exact aV _ _ _)
    have hsl:=pX hfz (hx.mono hM (Lo.le.refl _))
    have hlen:∀c,c∈es->c.length=(T el).sz:=by
     obtain⟨v,_,q,_⟩:=g.own _ _ hes
     intro c hc
     obtain⟨i,hi,rfl⟩:=List.getElem_of_mem hc
     have:=q i hi
     rw[<-hz];simpa[aa,hi]using this
    obtain⟨ad,len,cap,hv,hlen',hcap,hr⟩:=vN (β:=β) hsl (l:=l.toNat) (h:=h.toNat) (size:=(T el).sz) (by omega) (by omega) (.inr hlen)
    subst hlen'
    refine⟨_,w,M',β,.inl (og ho (by rw[hv];exact mo hT hkn hel hk g.ev lo hi l h hl hh h0 h1 h2 hcap)),?_⟩
    have:=dz.put g' hr (gG hn)
    exact this
   ·trivial
  ·rename_i es hes
   refine mI g ?_
   split
   ·rename_i l h hl hh
    refine DR.im fun hw=>?_
    intro⟨h0,h1,h2⟩
    have hsl:=pX (g.own _ _ hes) hx
    obtain⟨ad,len,cap,hv,hlen',hcap,hr⟩:=vN (β:=β) hsl (l:=l.toNat) (h:=h.toNat) (size:=(T el).sz) (by omega) (by omega) (CJ (ob:=s.ob) (t:=t) hl hw)
    subst hlen'
    exact⟨rfl,rfl,_,og ho (by rw[hv];exact mo hT hkn hel hk g.ev lo hi l h hl hh h0 h1 h2 hcap),hr⟩
   ·trivial
  ·trivial
 ·rename_i el hk hnv
  refine DR.bc fun hel=>mI g ?_
  split
  ·rename_i p es os hes
   split
   ·rename_i l h hl hh
    refine DR.im fun hp=>DR.im fun hw=>?_
    intro⟨h0,h1,h2⟩
    have hsl:=vS g.own hx (fun o he=>hnv o he) hes hp
    obtain⟨ad,len,cap,hv,hlen',hcap,hr⟩:=vN (β:=β) hsl (l:=l.toNat) (h:=h.toNat) (size:=(T el).sz) (by omega) (by omega) (CJ (ob:=s.ob) (t:=t) hl hw)
    subst hlen'
    exact⟨rfl,rfl,_,og ho (by rw[hv];exact mo hT hkn hel hk g.ev lo hi l h hl hh h0 h1 h2 hcap),hr⟩
   ·trivial
  ·trivial
 ·trivial
end
end Go.VL
namespace Go.VL
open Go Go.RowKit
section
variable {P:Program} {M:Mem} {β:Lo} {w:World} {n:Nat} {A:kJ} {s:St} {a:Act}
def qI(es:List (List AV)):List Int:=es.map fun e=>(e.headD .any).toInt
theorem p7:∀(es:List (List AV)),bytesOf es=(qI es).map fun n=>bu n.toNat
 |[]=>rfl
 |e::es=>by rw[bytesOf,p7 es];rfl
theorem uB:∀{es:List (List AV)},j8 es->∀i,i<es.length->(es.getD i []).length=1/\(es.getD i []).getD 0 .any=.v (.int .u8 ((qI es).getD i 0))
 |[],_,i,hi=>by simp at hi
 |
  e::es,h,0,_=>by
  obtain⟨h1,⟨m,h2⟩,_⟩:=h
  refine⟨by simpa using h1,?_⟩
  rw[oO]at h2
  simp only[bF,qI,bo,oO]
  rw[h2];rfl
 |
  e::es,h,i+1,hi=>by
  have:=uB h.2.2 i (by simpa using hi)
  simpa[qI]using this
theorem s9{src dst el:Nat}(hs:P.underlying src=some (.slice el))(he:P.underlying el=some (.int .u8))(hd:P.underlying dst=some .string){es:List (List AV)}{v:Value}(h:G4 w M es v)(hb:j8 es) :
 (convert src dst v).run P w=.ok (.string ⟨(bytesOf es).toArray⟩) w:=by
 rcases h with⟨rfl,rfl⟩|⟨b,off,c,sz,us,rfl,h1,h2,h3,h4,_⟩
 ·rw[run_convert_bytes_nil w src el hs he 0 0 dst hd];rfl
 ·rw[p7]
  refine run_convert_bytes_arg w src el hs he b off es.length c (qI es) (by simp[qI]) (fun i hi=>?_) dst hd
  obtain⟨q1,q2⟩:=uB hb i hi
  have hz:sz=1:=by rw[<-h2 i hi,q1]
  subst hz
  have r:=h4 i 0 hi (by omega)
  rw[q2]at r
  have:=dT r
  rw[h3 i (by omega),<-this];simp
theorem Bu(g:dz n A s a w M β){T:fh}(hT:dw P T)(o:Oper)(st dt:Nat)(x:Operand)(ho:o.op=.convert st dt x) :
 (eu T (ev s) s.ob o).holds (Quiet (sV P M β o a w)):=by
 unfold eu
 rw[ho]
 refine DR.bc fun hkn=>?_
 simp only[aA]at hkn
 obtain⟨hs,hd⟩:=hkn
 have hx:=g.ev x
 split
 ·rename_i el hk1 hk2
  refine DR.bc fun hel=>?_
  simp only[aA]at hel
  obtain⟨hel,hu⟩:=hel
  have hu8:(T el).k=.num .u8:=by split at hu<;>first|assumption|cases hu
  split
  ·rename_i p es os hes
   refine DR.im fun hp=>?_
   intro hb
   have hsl:=mE g.own g.agree hx hes hp
   exact⟨rfl,rfl,_,by simp[execOp,ho,s9 ((hT st hs).slice hk1) ((hT el hel).num hu8) ((hT dt hd).str hk2) hsl hb],.v _ _⟩
  ·trivial
 ·rename_i k1 k2 k3 m hk1 hk2 e
  rw[e]at hx
  have hv:=dT hx
  refine⟨rfl,rfl,_,?_,.v _ _⟩
  have u1:=run_underlying ((hT st hs).num hk1) w
  have u2:=run_underlying ((hT dt hd).num hk2) w
  simp[execOp,ho,hv,convert,Sem.run_bind,u1,u2,Conv.intToInt]
 ·trivial
theorem ki{o:Oper}{b:Builtin}{xs:Array Operand}{ts:Array TypeId}(ho:o.op=.call ⟨.builtin b,xs,ts⟩) :
 ∃cs,(execOp a.eval o).run P w=(builtin b ts o.type cs (xs.map a.eval)).run P w:=by
 have key:∀c:Array Bool,(invoke (.builtin b ts o.type c) (xs.map a.eval)).run P w=(builtin b ts o.type c (xs.map a.eval)).run P w:=fun c=>rfl
 simp only[execOp,ho,resolve,Sem.run_bind,Sem.run_pure,Result.andThen_ok,key]
 exact⟨_,rfl⟩
theorem Oa(g:dz n A s a w M β){T:fh}(hT:dw P T)(o:Oper)(xs:Array Operand)(ts:Array TypeId)(ho:o.op=.call ⟨.builtin .len,xs,ts⟩) :
 (eu T (ev s) s.ob o).holds (Quiet (sV P M β o a w)):=by
 unfold eu
 rw[ho]
 simp only
 split
 ·rename_i x t hxs hts
  have ex:xs = #[x]:=by rw[<-Array.toArray_toList (xs:=xs),hxs]
  have et:ts = #[t]:=by rw[<-Array.toArray_toList (xs:=ts),hts]
  subst ex;subst et
  refine DR.bc fun hkn=>?_
  have hx:=g.ev x
  have run:∀v,(Builtin.len_ #[t] o.type #[a.eval x]).run P w=.ok v w->(execOp a.eval o).run P w=.ok (.value v) w:=fun v h=>by
   obtain⟨_,e⟩:=ki (P:=P) (a:=a) (w:=w) ho
   rw[e];simp[builtin,h]
  split
  ·rename_i q hk e
   rw[e]at hx
   have hv:=dT hx
   exact⟨rfl,rfl,_,run _ (by simp[Builtin.len_,Sem.run_bind,run_underlying ((hT t hkn).str hk) w,hv,goInt]),.v _ _⟩
  ·rename_i m el hk
   exact⟨rfl,rfl,_,run _ (by simp[Builtin.len_,Sem.run_bind,run_underlying ((hT t hkn).array hk) w,goInt]),.v _ _⟩
  ·rename_i el hk
   split
   ·rename_i p es os hes
    refine DR.im fun hp=>?_
    have hsl:=mE g.own g.agree hx hes hp
    refine⟨rfl,rfl,_,run _ ?_,.v _ _⟩
    have u:=run_underlying ((hT t hkn).slice hk) w
    rcases hsl with⟨hv,rfl⟩|⟨b,off,c,sz,us,hv,_⟩
    ·simp[Builtin.len_,Sem.run_bind,u,hv,goInt]
    ·simp[Builtin.len_,Sem.run_bind,u,hv,goInt]
   ·trivial
  ·trivial
 ·trivial
theorem PE(g:dz n A s a w M β){T:fh}(o:Oper)(xs:Array Operand)(ts:Array TypeId)(ho:o.op=.call ⟨.builtin .max,xs,ts⟩) :
 (eu T (ev s) s.ob o).holds (Quiet (sV P M β o a w)):=by
 unfold eu
 rw[ho]
 simp only
 split
 ·rename_i x y hxs
  have ex:xs = #[x,y]:=by rw[<-Array.toArray_toList (xs:=xs),hxs]
  subst ex
  have hx:=g.ev x
  have hy:=g.ev y
  split
  ·rename_i k p k' q e e'
   rw[e]at hx;rw[e']at hy
   have h1:=dT hx
   have h2:=dT hy
   split
   ·refine⟨rfl,rfl,_,?_,.v _ _⟩
    obtain⟨_,e⟩:=ki (P:=P) (a:=a) (w:=w) ho
    rw[e]
    simp[builtin,Builtin.max_,h1,h2,Builtin.max2]
   ·trivial
  ·trivial
 ·trivial
theorem On(g:dz n A s a w M β){T:fh}(o:Oper)(xs:Array Operand)(ts:Array TypeId)(ho:o.op=.call ⟨.builtin .min,xs,ts⟩) :
 (eu T (ev s) s.ob o).holds (Quiet (sV P M β o a w)):=by
 unfold eu
 rw[ho]
 simp only
 split
 ·rename_i x y hxs
  have ex:xs = #[x,y]:=by rw[<-Array.toArray_toList (xs:=xs),hxs]
  subst ex
  have hx:=g.ev x
  have hy:=g.ev y
  split
  ·rename_i k p k' q e e'
   rw[e]at hx;rw[e']at hy
   have h1:=dT hx
   have h2:=dT hy
   split
   ·refine⟨rfl,rfl,_,?_,.v _ _⟩
    obtain⟨_,e⟩:=ki (P:=P) (a:=a) (w:=w) ho
    rw[e]
    simp[builtin,Builtin.min_,h1,h2,Builtin.min2]
   ·trivial
  ·trivial
 ·trivial
theorem yx(g:dz n A s a w M β){T:fh}(o:Oper)(f:Nat)(fs cs:Array Operand)(ho:o.op=.makeFunc (.func f) fs cs) :
 (eu T (ev s) s.ob o).holds (Quiet (sV P M β o a w)):=by
 unfold eu
 rw[ho]
 simp only
 cases h:aN fs.size 0 with
 |false=>simp only[cond_false];trivial
 |
  true =>
  simp only[cond_true]
  have h0:=aG h
  have e:fs = #[]:=Array.size_eq_zero_iff.1 h0
  subst e
  refine⟨rfl,rfl,.func (.func f) #[] (cs.toList.map a.eval).toArray,?_,?_⟩
  ·have:Array.map a.eval cs=(List.map a.eval cs.toList).toArray:=by apply Array.ext';simp
   simp[execOp,ho,Instr.makeFunc,this]
  ·refine .fn _ _ _ _ (by simp) fun i hi=>?_
   have hi':i<cs.size:=by simpa using hi
   simp[aa,hi']
   exact g.ev _
theorem nX{x:AV}{v:Value}(h:bJ M β x v)(ho:ov x=true):v.cells.size=(flat x).length/\(∀i,i<(flat x).length->bJ M β ((flat x).getD i .any) (v.cells.getD i undef))/\∀u,u∈v.cells->u.oneCell'=true:=by
 by_cases ha:∃cs,x=.agg cs
 ·obtain⟨cs,rfl⟩:=ha
  obtain⟨vs,rfl,hl,hr,hone⟩:=gF h
  refine⟨by simp[Value.cells,flat,hl],fun i hi=>by simpa[Value.cells,flat]using hr i hi,fun u hu=>?_⟩
  simp only[Value.cells,List.mem_toArray]at hu
  obtain⟨i,hi,rfl⟩:=List.getElem_of_mem hu
  have:=hone i (by omega)
  simpa[aa,hi]using this
 ·have e1:flat x=[x]:=by cases x<;>first|rfl|exact absurd ⟨_,rfl⟩ ha
  have e2:CH x=true:=by
   have:ov x=CH x:=by cases x<;>first|rfl|exact absurd ⟨_,rfl⟩ ha
   rw[<-this];exact ho
  have e3:=Ca h e2
  have e4:v.cells = #[v]:=by cases v<;>first|rfl|(cases e3)
  rw[e1,e4]
  refine⟨rfl,fun i hi=>?_,fun u hu=>?_⟩
  ·have:i=0:=by simp at hi;exact hi
   subst this;simpa using h
  ·simp at hu;subst hu;exact e3
theorem j4{α:Type}:∀(ys l:List α) (k:Nat),(jn l k ys).length=l.length
 |[],l,k=>rfl
 |y::ys,l,k=>by simp[jn,j4 ys]
def CR(M:Mem)(β:Lo)(cs:List AV)(vs:Array Value):Prop:=vs.size=cs.length/\(∀i,i<cs.length->bJ M β (cs.getD i .any) (vs.getD i undef))/\∀u,u∈vs->u.oneCell'=true
theorem CR.set{cs:List AV}{vs:Array Value}(h:CR M β cs vs){c:AV}{v:Value}(hr:bJ M β c v)(ho:v.oneCell'=true)(k:Nat):CR M β (cs.set k c) (vs.setIfInBounds k v):=by
 obtain⟨h1,h2,h3⟩:=h
 refine⟨by simp[h1],fun i hi=>?_,fun u hu=>?_⟩
 ·have hi':i<cs.length:=by simpa using hi
  by_cases e:k=i
  ·subst e
   have h4:k<vs.size:=by omega
   simp[aa,hi',h4]
   exact hr
  ·have:=h2 i hi'
   simpa[aa,List.getElem?_set,e,Array.getElem?_setIfInBounds]using this
 ·rcases Array.mem_or_eq_of_mem_setIfInBounds hu with h|h
  ·exact h3 u h
  ·subst h;exact ho
theorem CR.jn{cs:List AV}{vs:Array Value}:∀(ys:List AV) (us:List Value) (k j:Nat) {cs:List AV} {vs:Array Value},CR M β cs vs->us.length=ys.length->(∀i,i<ys.length->bJ M β (ys.getD i .any) (us.getD i undef))->(∀u,u∈us->u.oneCell'=true) ->
 CR M β (VL.jn cs (k+j) ys) ((us.zipIdx j).foldl (fun cs (c,j)=>cs.setIfInBounds (k+j) c) vs)
 |[],[],k,j,cs,vs,h,_,_,_=>h
 |[],_::_,_,_,_,_,_,h,_,_=>by simp at h
 |_::_,[],_,_,_,_,_,h,_,_=>by simp at h
 |
  y::ys,u::us,k,j,cs,vs,h,hl,hr,ho=>by
  have h1:=h.set (hr 0 (by simp)) (ho u ak) (k+j)
  have:=CR.jn (cs:=cs) (vs:=vs) ys us k (j+1) h1 (by simpa using hl) (fun i hi=>by simpa using hr (i+1) (by simpa using hi)) fun q hq=>ho q (al _ hq)
  simpa[VL.jn,List.zipIdx_cons,Nat.add_assoc]using this
theorem vL{e:Operand->AV}{ρ:Operand->Value}(he:∀x,bJ M β (e x) (ρ x))(place:Nat->Option (Nat×Nat))(offOf:Nat->Nat):∀(ps:List (Nat×Operand)) {cs:List AV} {vs:Array Value},CR M β cs vs ->
 (∀p,p∈ps->ov (e p.2)=true/\place p.1=some (offOf p.1,(flat (e p.2)).length)/\offOf p.1+(flat (e p.2)).length<=cs.length) ->
 ∃vs',Instr.fill place vs (ps.map fun p=>(p.1,ρ p.2))=some vs'/\CR M β (ps.foldl (fun cs p=>VL.jn cs (offOf p.1) (flat (e p.2))) cs) vs'
 |[],cs,vs,h,_=>⟨vs,rfl,h⟩
 |
  p::ps,cs,vs,h,hp=>by
  obtain⟨h1,h2,h3⟩:=hp p ak
  obtain⟨f1,f2,f3⟩:=nX (he p.2) h1
  have step:=CR.jn (cs:=cs) (vs:=vs) (flat (e p.2)) (ρ p.2).cells.toList (offOf p.1) 0 h (by simpa using f1) (fun i hi=>by
   have:=f2 i hi
   have hi':i<(ρ p.2).cells.size:=by omega
   simpa[aa,hi']using this) fun u hu=>f3 u (by simpa using hu)
  obtain⟨vs',q1,q2⟩:=vL he place offOf ps step fun q hq=>by
   obtain⟨r1,r2,r3⟩:=hp q (al _ hq)
   exact⟨r1,r2,by simpa[j4]using r3⟩
  refine⟨vs',?_,by simpa using q2⟩
  rw[bo]
  unfold Instr.fill
  rw[h2]
  simp only
  rw[if_neg (by simp[f1,h.1];omega)]
  rw[<-q1]
  congr 1
  rw[<-Array.foldl_toList]
  simp[Array.toList_zipIdx]
end
end Go.VL
namespace Go.VL
open Go Go.RowKit
section
variable {P:Program} {M:Mem} {β:Lo} {w w':World} {n:Nat} {A:kJ} {s:St} {a:Act}
def kill(k:Option Nat)(f:Nat->Option Ob):Nat->Option Ob:=match k with|some o=>cO f o none|none=>f
theorem dz.fresh(g:dz n A s a w M β){d:Nat}(hd:s.us d=false)(k:Option Nat)(hk:∀o,k=some o->∃x,s.ob o=some x/\x.live=true)
 (ho:w'.os=w.os) (ht:w'.tape=w.tape) (hp:w'.output=w.output) (hs:w.heap.size<=w'.heap.size) (hw:∀b,b<w.heap.size->(∀o,k=some o->eE β o≠some b)->w'.heap[b]?=w.heap[b]?)
 (l:Loc) (x:Ob) (hx:Own M (cO β d (some l)) w' d x) (hl:∀b,l.block=some b->w.heap.size<=b\/∃o,k=some o/\eE β o=some b) :
 dz n A {s with ob:=cO (kill k s.ob) d (some x),us:=cO s.us d true} a w' M (cO β d (some l)):=by
 have hβ:Lo.le β (cO β d (some l)):=fun o q hq=>by
  by_cases ho:o=d
  ·subst ho;rw[(g.us o hd).1]at hq;cases hq
  ·rw[bh _ _ _ _ ho];exact hq
 have hbd:∀o b,o≠d->eE (cO β d (some l)) o=some b->eE β o=some b:=fun o b ho hb=>by
  unfold eE at hb |-;rw[bh _ _ _ _ ho]at hb;exact hb
 have hdd:eE (cO β d (some l)) d=l.block:=by unfold eE;rw[aV];rfl
 have hobs:∀o y,o≠d->cO (kill k s.ob) d (some x) o=some y->s.ob o=some y/\k≠some o:=fun o y hne hy=>by
  rw[bh _ _ _ _ hne]at hy
  cases k with
  |none=>exact⟨hy,by simp⟩
  |
   some o' =>
   by_cases e:o=o'
   ·subst e;simp only[kill]at hy;rw[aV]at hy;cases hy
   ·simp only[kill]at hy;rw[bh _ _ _ _ e]at hy;exact⟨hy,by simp;exact fun h=>e h.symm⟩
 have old:∀o y b,s.ob o=some y->y.live=true->eE β o=some b->k≠some o->w'.heap[b]?=w.heap[b]?:=fun o y b hy hl hb hne=>by
  refine hw b ((g.own o y hy).lt hl hb) fun o' ho' hb'=>?_
  obtain⟨x',hx',hl'⟩:=hk o' ho'
  exact g.apart o' o x' y b (fun e=>hne (by rw[<-e];exact ho')) hx' hl' hy hl hb' hb
 refine {size:=g.size,defs:=g.defs,tm:=fun t=>(g.tm t).mono (Mem.le.refl _) hβ,le:=g.le,new:=g.new,agree:=?_,own:=?_,place:=?_,apart:=?_,us:=?_,fix:=g.RJ hd fun o y hne hy=>⟨y,(hobs o y hne hy).1⟩,cU:=?_}
 ·refine g.agree.world fun b k' v hc=>hw b (g.agree.lt hc) fun o ho' hb'=>?_
  obtain⟨x',hx',hl'⟩:=hk o ho'
  rw[(g.own o x' hx').DL hl' hb']at hc;cases hc
 ·intro o y hy
  by_cases ho:o=d
  ·subst ho
   have:x=y:=by simpa[aV]using hy
   subst this;exact hx
  ·obtain⟨hy',hne⟩:=hobs o y ho hy
   exact(g.own o y hy').mono (Mem.le.refl _) hβ fun b hlv hb=>⟨old o y b hy' hlv hb hne,(g.own o y hy').DL hlv hb⟩
 ·intro o y b hy hlv hb
  by_cases ho:o=d
  ·subst ho
   rw[hdd]at hb
   rcases hl b hb with h|⟨o',ho',hb'⟩
   ·exact .inl (Nat.le_trans g.cU.size h)
   ·obtain⟨x',hx',hl'⟩:=hk o' ho'
    exact g.place o' x' b hx' hl' hb'
  ·exact g.place o y b (hobs o y ho hy).1 hlv (hbd o b ho hb)
 ·have dcase:∀o y b,o≠d->s.ob o=some y->y.live=true->k≠some o->eE β o=some b->l.block≠some b:=fun o y b ho hy hlv hne hb hb'=>by
   rcases hl b hb' with h|⟨o',ho',hb''⟩
   ·have:=(g.own o y hy).lt hlv hb;omega
   ·obtain⟨x',hx',hl'⟩:=hk o' ho'
    exact g.apart o' o x' y b (fun e=>hne (by rw[<-e];exact ho')) hx' hl' hy hlv hb'' hb
  intro o o' y y' b hne hy hlv hy' hlv' hb hb'
  by_cases ho:o=d
  ·subst ho
   have ho':o'≠o:=Ne.symm hne
   obtain⟨q1,q2⟩:=hobs o' y' ho' hy'
   rw[hdd]at hb
   exact dcase o' y' b ho' q1 hlv' q2 (hbd o' b ho' hb') hb
  ·obtain⟨p1,p2⟩:=hobs o y ho hy
   by_cases ho':o'=d
   ·subst ho'
    rw[hdd]at hb'
    exact dcase o y b ho p1 hlv p2 (hbd o b ho hb) hb'
   ·obtain⟨q1,q2⟩:=hobs o' y' ho' hy'
    exact g.apart o o' y y' b hne p1 hlv q1 hlv' (hbd o b ho hb) (hbd o' b ho' hb')
 ·intro o hu
  by_cases ho:o=d
  ·subst ho
   have:({s with ob:=cO (kill k s.ob) o (some x),us:=cO s.us o true}:St).us o=true:=aV _ _ _
   rw[this]at hu;cases hu
  ·have hu':s.us o=false:=by simpa[bh _ _ _ _ ho]using hu
   obtain⟨q1,q2⟩:=g.us o hu'
   refine⟨by rw[bh _ _ _ _ ho];exact q1,?_⟩
   show cO (kill k s.ob) d (some x) o=none
   rw[bh _ _ _ _ ho]
   cases k with
   |none=>exact q2
   |
    some o' =>
    by_cases e:o=o'
    ·subst e;exact aV _ _ _
    ·simp only[kill];rw[bh _ _ _ _ e];exact q2
 ·refine g.cU.kH ho ht hp hs fun b hlt hni=>hw b (Nat.lt_of_lt_of_le hlt g.cU.size) fun o ho' hb'=>?_
  obtain⟨x',hx',hl'⟩:=hk o ho'
  rcases g.place o x' b hx' hl' hb' with h|h
  ·omega
  ·exact hni h
theorem sf{d:Nat}{dst:Option Nat}{de:De}(h:dW s n dst de=true)(hn:de.new=[d]):s.us d=false:=by
 unfold dW at h
 rw[hn]at h
 simp at h
 exact h.1.1
theorem jl.uN{t:Nat}{ti:TI}(h:jl P t ti):∃i z,P.info? t=some i/\i.size=ti.sz/\i.bytes=ti.bytes/\i.zero=some z/\CR M β (ka ti) z.cells/\z.cells.size=ti.sz:=by
 obtain⟨i,z,hi,hs,hb,hz,hc,_⟩:=h.info
 have hlen:z.cells.size=ti.lk.length:=by have:=uI hc;simpa using this.symm
 refine⟨i,z,hi,hs,hb,hz,⟨by simp[ka,hlen],fun j hj=>?_,fun u hu=>uA hc u (by simpa using hu)⟩,hlen⟩
 have hj':j<ti.lk.length:=by simpa[ka]using hj
 have:=uS (M:=M) (β:=β) hc j hj'
 have e:j<z.cells.size:=by omega
 simpa[ka,aa,e]using this
theorem CR.cells{cs:List AV}{vs:Array Value}(h:CR M β cs vs){d b:Nat}{e:TypeId}(hw:w.heap[b]?=some (.cells vs e (0,0)))(hM:∀k,M.c b k=none)(hb:β d=some (.cells b)):Own M β w d (.cells cs) :=
 ⟨b,vs,e,hb,hw,h.1,h.2.1,hM,h.2.2⟩
theorem CR.mono{M':Mem}{β':Lo}{cs:List AV}{vs:Array Value}(h:CR M β cs vs)(hM:M.le M')(hβ:Lo.le β β'):CR M' β' cs vs:=⟨h.1,fun i hi=>(h.2.1 i hi).mono hM hβ,h.2.2⟩
theorem zU(g:dz n A s a w M β)(k:Nat):M.c w.heap.size k=none:=by
 cases e:M.c w.heap.size k with
 |none=>rfl
 |some v=>have:=g.agree.lt e;omega
theorem xm(g:dz n A s a w M β){d:Nat}(hd:s.us d=false)(l:Loc):Lo.le β (cO β d (some l)):=fun o q hq=>by
 by_cases ho:o=d
 ·subst ho;rw[(g.us o hd).1]at hq;cases hq
 ·rw[bh _ _ _ _ ho];exact hq
theorem oG(g:dz n A s a w M β){o:Oper}{d:Nat}{cs:List AV}{vs:Array Value}{e:TypeId}(hcr:CR M β cs vs)
 (hr:(execOp a.eval o).run P w=.ok (.value (.pointer (some ⟨w.heap.size,0,none⟩))) (w.alloc (.cells vs e))) (hn:dW s n o.dst {val:=.ref d 0,cO:=[(d,some (.cells cs))],new:=[d]}=true) :
 Step P n A o a w (s.app o.dst {val:=.ref d 0,cO:=[(d,some (.cells cs))],new:=[d]}):=by
 have hd:=sf hn rfl
 have hle:=xm g hd (.cells w.heap.size)
 have g':=g.fresh hd none (fun o h=>by cases h) (w':=w.alloc (.cells vs e)) rfl rfl rfl (by simp) (fun b hb _=>heap_alloc_old w _ b hb) (.cells w.heap.size) (.cells cs)
  ((hcr.mono (Mem.le.refl _) hle).cells (heap_alloc_new w _) (zU g) (aV _ _ _)) (fun b hb=>.inl (by simp[Loc.block]at hb;omega))
 have g2:=dz.put g' (x:=.ref d 0) (v:=.pointer (some ⟨w.heap.size,0,none⟩)) (.ref _ _ _ _ (aV _ _ _)) (gG hn)
 exact⟨_,_,M,cO β d (some (.cells w.heap.size)),.inl hr,g2⟩
theorem F5(g:dz n A s a w M β){T:fh}(hT:dw P T)(o:Oper)(t:Nat)(ho:o.op=.alloc t) :
 (eu T (ev s) s.ob o).holds fun d=>dW s n o.dst d=true->Step P n A o a w (s.app o.dst d):=by
 unfold eu
 rw[ho]
 refine DR.bc fun hkn=>?_
 split
 ·rename_i d hd
  intro hn
  obtain⟨i,z,hi,hs,hb,hz,hcr,hsz⟩:=(hT t hkn).uN (M:=M) (β:=β)
  exact oG (P:=P) g hcr (by simp[execOp,ho,Instr.alloc,zeroValue,typeInfo,hi,hz,newVar,newRow];rfl) hn
 ·trivial
theorem LA(g:dz n A s a w M β){T:fh}(hT:dw P T)(o:Oper)(t:Nat)(x:Operand)(ho:o.op=.box t x) :
 (eu T (ev s) s.ob o).holds fun d=>dW s n o.dst d=true->Step P n A o a w (s.app o.dst d):=by
 unfold eu
 rw[ho]
 refine DR.bc fun hkn=>?_
 split
 ·rename_i d hd
  refine DR.bc fun hq=>?_
  rw[aA]at hq
  intro hn
  obtain⟨f1,f2,f3⟩:=nX (g.ev x) hq.2
  exact oG (P:=P) g (cs:=flat (ev s x)) (vs:=(a.eval x).cells) (e:=t) ⟨f1,f2,f3⟩ (by simp[execOp,ho,Instr.box,newVar,newRow]) hn
 ·trivial
end
end Go.VL
namespace Go.VL
open Go Go.RowKit
section
variable {P:Program} {M:Mem} {β:Lo} {w w':World} {n:Nat} {A:kJ} {s:St} {a:Act}
theorem jU{α:Type}(l1 l2:List α)(i:Nat)(d:α):(l1++l2).getD i d=if i<l1.length then l1.getD i d else l2.getD (i-l1.length) d:=by
 simp only[aa,bw]
 split<;>rfl
def jB{α:Type}(l:List α)(k:Nat)(ys:List α):List α:=l.take k++ys++l.drop (k+ys.length)
theorem lE{α:Type}(l:List α)(k:Nat)(ys:List α)(h:k+ys.length<=l.length):(jB l k ys).length=l.length:=by
 simp[jB];omega
theorem lz{α:Type}(l:List α)(k:Nat)(ys:List α)(h:k+ys.length<=l.length)(i:Nat)(d:α):(jB l k ys).getD i d=if k<=i/\i<k+ys.length then ys.getD (i-k) d else l.getD i d:=by
 have ht:(l.take k).length=k:=by simp;omega
 unfold jB
 rw[jU,jU]
 simp only[an,ht]
 by_cases h1:i<k
 ·rw[if_pos (by omega),if_pos h1,if_neg (by omega)]
  simp[aa,List.getElem?_take,h1]
 ·by_cases h2:i<k+ys.length
  ·rw[if_pos h2,if_neg h1,if_pos ⟨by omega,h2⟩]
  ·rw[if_neg h2,if_neg (by omega)]
   simp only[aa,dc]
   congr 2
   omega
theorem qS{α:Type}:∀(ys l:List α) (k i:Nat) (d:α),k+ys.length<=l.length->(jn l k ys).getD i d=if k<=i/\i<k+ys.length then ys.getD (i-k) d else l.getD i d
 |
  [],l,k,i,d,h=>by
  rw[if_neg (by simp only[aE];omega)];rfl
 |
  y::ys,l,k,i,d,h=>by
  simp only[aw]at h |-
  rw[jn,qS ys (l.set k y) (k+1) i d (by simp;omega)]
  by_cases h1:k+1<=i/\i<k+1+ys.length
  ·rw[if_pos h1,if_pos (by omega)]
   rw[show i-k=(i-(k+1))+1 by omega]
   rfl
  ·rw[if_neg h1]
   by_cases h2:i=k
   ·subst h2
    rw[if_pos (by omega)]
    have:i<l.length:=by omega
    simp[aa,this]
   ·rw[if_neg (by omega)]
    simp[aa,List.getElem?_set,Ne.symm h2]
theorem fk(vs:Array Value)(i:Nat):vs.toList.getD i undef=vs.getD i undef:=by simp[aa]
theorem mW(l:List Value)(i:Nat):l.toArray.getD i undef=l.getD i undef:=by simp[aa]
theorem pg{α:Type}{l:List α}{k:Nat}{ys:List α}{x:α}(h:x∈jB l k ys):x∈l\/x∈ys:=by
 unfold jB at h
 rcases aO.1 h with h|h
 ·rcases aO.1 h with h|h
  ·exact .inl (List.mem_of_mem_take h)
  ·exact .inr h
 ·exact .inl (List.mem_of_mem_drop h)
theorem CR.jB{cs ys:List AV}{vs us:Array Value}(h:CR M β cs vs)(h':CR M β ys us){k:Nat}(hk:k+ys.length<=cs.length):CR M β (VL.jn cs k ys) (VL.jB vs.toList k us.toList).toArray:=by
 have e1:us.toList.length=ys.length:=by simp[h'.1]
 have e2:vs.toList.length=cs.length:=by simp[h.1]
 refine⟨by rw[List.size_toArray,lE _ _ _ (by omega),j4,e2],fun i hi=>?_,fun u hu=>?_⟩
 ·rw[j4]at hi
  rw[qS _ _ _ _ _ hk,mW,lz _ _ _ (by omega),e1]
  by_cases hc:k<=i/\i<k+ys.length
  ·rw[if_pos hc,if_pos hc,fk];exact h'.2.1 _ (by omega)
  ·rw[if_neg hc,if_neg hc,fk];exact h.2.1 i hi
 ·rcases pg (by simpa using hu)with hu|hu
  ·exact h.2.2 u (by simpa using hu)
  ·exact h'.2.2 u (by simpa using hu)
theorem pM{t b k:Nat}{T:fh}(hT:dw P T)(hkn:(T t).kn=true){v:Value}{vs:Array Value}{e:TypeId}(hw:w.heap[b]?=some (.cells vs e (0,0)))(hs:v.cells.size=(T t).sz)(hk:k+v.cells.size<=vs.size)
 (h1:∀u,u∈v.cells->u.oneCell'=true) :
 (Instr.storeAt t (.pointer (some ⟨b,k,none⟩)) v).run P w=.ok () (w.setRow b (jB vs.toList k v.cells.toList).toArray):=by
 have:=run_storeCells_at P b k e v.cells.toList 0 vs w hw (by simpa using hk) (fun u hu=>h1 u (by simpa using hu))
 simp only[cw]at this
 unfold Instr.storeAt
 simp only[Instr.sureAddr,Sem.run_bind,Sem.run_pure,Result.andThen_ok]
 unfold storeVar
 rw[Sem.run_bind,(hT t hkn).j1 w]
 simp only[Result.andThen_ok]
 rw[if_neg (by simp[hs])]
 exact this
theorem Step.skip{o:Oper}{d:De}{M':Mem}{β':Lo}(hr:(execOp a.eval o).run P w=.ok .skip w')(hv:d.val=.any)(hn:dW s n o.dst d=true)(g:dz n A {s with ob:=cS s.ob d.cO,us:=fM s.us d.new} a w' M' β'):Step P n A o a w (s.app o.dst d):=by
 refine⟨undef,w',M',β',.inr ⟨hr,rfl⟩,?_⟩
 have:=dz.put g (x:=.any) (v:=undef) (.any _ _) (gG hn)
 rw[<-hv]at this
 exact this
theorem Step.val{o:Oper}{d:De}{M':Mem}{β':Lo}{v:Value}(hr:(execOp a.eval o).run P w=.ok (.value v) w')(hv:bJ M' β' d.val v)(hn:dW s n o.dst d=true)(g:dz n A {s with ob:=cS s.ob d.cO,us:=fM s.us d.new} a w' M' β'):Step P n A o a w (s.app o.dst d) :=
 ⟨v,w',M',β',.inl hr,dz.put g hv (gG hn)⟩
theorem mz{o k:Nat}{v:Value}(h:bJ M β (.ref o k) v):∃b,β o=some (.cells b)/\v=.pointer (some ⟨b,k,none⟩):=by
 cases h with|ref _ _ _ b hb=>exact⟨b,hb,rfl⟩
theorem D5{o k:Nat}{v:Value}(h:bJ M β (.oY o k) v):∃b,β o=some (.cells b)/\v=.pointer (some ⟨b,k,none⟩):=by
 cases h with|oY _ _ _ b hb=>exact⟨b,hb,rfl⟩
theorem rD(g:dz n A s a w M β){T:fh}(hT:dw P T)(o:Oper)(t:Nat)(x y:Operand)(ho:o.op=.store t x y)(hkn:(T t).kn=true)(hl:(flat (ev s y)).length=(T t).sz)(h1:ov (ev s y)=true)
 {m k b:Nat} {cs:List AV} (hb:β m=some (.cells b)) (hv:a.eval x=.pointer (some ⟨b,k,none⟩)) (hm:s.ob m=some (.cells cs)) (hk:k+(flat (ev s y)).length<=cs.length)
 (hn:dW s n o.dst {val:=.any,cO:=[(m,some (.cells (jn cs k (flat (ev s y)))))]}=true):Step P n A o a w (s.app o.dst {val:=.any,cO:=[(m,some (.cells (jn cs k (flat (ev s y)))))]}):=by
 obtain⟨b',vs,e,q1,q2,q3,q4,q5,q6⟩:=g.own m _ hm
 rw[hb]at q1;cases q1
 have f:=nX (g.ev y) h1
 have hcr:CR M β cs vs:=⟨q3,q4,q6⟩
 have hcr':=hcr.jB (β:=β) (us:=(a.eval y).cells) f hk
 have hx':Own M β (w.setRow b (jB vs.toList k (a.eval y).cells.toList).toArray) m (.cells (jn cs k (flat (ev s y)))) :=
  CR.cells hcr' (setRow_heap w b vs _ e (0,0) q2) q5 hb
 refine Step.skip ?_ rfl hn (g.write hm rfl (by simp[eE,hb,Loc.block]) _ _ hx' rfl)
 have hr:=pM (P:=P) hT hkn (v:=a.eval y) (b:=b) (k:=k) q2 (by rw[f.1,hl]) (by rw[f.1,q3];exact hk) f.2.2
 simp[execOp,ho,hv,hr]
theorem A8(g:dz n A s a w M β){T:fh}(hT:dw P T)(o:Oper)(t:Nat)(x y:Operand)(ho:o.op=.store t x y)(hkn:(T t).kn=true)(hl:(flat (ev s y)).length=(T t).sz)(h1:ov (ev s y)=true)
 {m i k sz:Nat} {es:List (List AV)} {xs:List AV} (hx:ev s x=.nw m i k) (hm:s.ob m=some (.vec sz es)) (hf:nV (VL.freeze s.ob eY) (flat (ev s y))=some (xs,[])) (hi:i<es.length) (hk:k+xs.length<=sz)
 (hn:dW s n o.dst {val:=.any,cO:=[(m,some (.vec sz (es.set i (jn (es.getD i []) k xs))))]}=true):Step P n A o a w (s.app o.dst {val:=.any,cO:=[(m,some (.vec sz (es.set i (jn (es.getD i []) k xs))))]}):=by
 have hrx:=g.ev x
 rw[hx]at hrx
 have:∃sz' b off n' c,β m=some (.vec (.slice (some ⟨b,off,none⟩) n' c) sz')/\a.eval x=.pointer (some ⟨b,off+i*sz'+k,none⟩):=by
  generalize a.eval x=v at hrx
  cases hrx with|nw _ _ _ _ sz' b off n' c hb=>exact⟨sz',b,off,n',c,hb,rfl⟩
 obtain⟨sz',b,off,n',c,hb,hv⟩:=this
 obtain⟨v',q1,q2,q3⟩:=g.own m _ hm
 rw[hb]at q1;cases q1
 rcases q3 with⟨q3,_⟩|⟨b',off',c',vs,e,q3,q4,q5,q6,q7,q8,q9,q10⟩
 ·cases q3
 ·injection q3 with e1 e2 e3
  injection e1 with e1
  injection e1 with e1 e4
  subst e1;subst e4;subst e2;subst e3
  have f:=nX (g.ev y) h1
  obtain⟨z1,z2⟩:=qH (M:=M) (β:=β) (w:=w) (ob:=s.ob) (fun c a' os v=>iE eY c a' os v) _ _ _ hf (fun o ho=>by cases ho)
  have hlt:i*sz+sz<=es.length*sz:=by rw[<-du];exact bg _ hi
  have hcc:es.length*sz<=c*sz:=bg _ q4
  have hfit:off+i*sz+k+(a.eval y).cells.size<=vs.size:=by rw[f.1];omega
  have ul:(a.eval y).cells.toList.length=xs.length:=by simp[f.1,z1]
  have vl:off+i*sz+k+(a.eval y).cells.toList.length<=vs.toList.length:=by rw[ul];simp;rw[f.1]at hfit;omega
  have hx':Own M β (w.setRow b (jB vs.toList (off+i*sz+k) (a.eval y).cells.toList).toArray) m (.vec sz (es.set i (jn (es.getD i []) k xs))):=by
   refine⟨_,hb,fun j hj=>?_,.inr ⟨b,off,c,_,e,by simp,by simpa using q4,setRow_heap w b vs _ e (0,0) q5,?_,fun i' j hi' hj=>?_,q8,q9,fun u hu=>?_⟩⟩
   ·have hj':j<es.length:=by simpa using hj
    by_cases e:i=j
    ·subst e
     simp only[aa,List.getElem?_set,hi,if_true,cE,j4]
     have:=q2 i hi
     simpa[aa]using this
    ·have:=q2 j hj'
     simpa[aa,List.getElem?_set,e]using this
   ·rw[List.size_toArray,lE _ _ _ vl];simpa using q6
   ·have hi'':i'<es.length:=by simpa using hi'
    rw[mW,lz _ _ _ vl,ul]
    have old:=q7 i' j hi'' hj
    by_cases e:i=i'
    ·subst e
     have e2:(es.set i (jn (es.getD i []) k xs)).getD i []=jn (es.getD i []) k xs:=by simp[aa,hi]
     rw[e2,qS _ _ _ _ _ (by rw[q2 i hi];exact hk)]
     by_cases hc:k<=j/\j<k+xs.length
     ·rw[if_pos hc,if_pos (by omega)]
      have hq:=f.2.1 (j-k) (by omega)
      have:=z2 (j-k) _ (by omega) hq
      rw[fk]
      rw[show off+(i*sz+j)-(off+i*sz+k)=j-k by omega]
      exact this
     ·rw[if_neg hc,if_neg (by omega),fk];exact old
    ·have e2:(es.set i (jn (es.getD i []) k xs)).getD i' []=es.getD i' []:=by simp[aa,List.getElem?_set,e]
     rw[e2]
     have:¬(off+i*sz+k<=off+(i'*sz+j)/\off+(i'*sz+j)<off+i*sz+k+xs.length):=by
      intro⟨p1,p2⟩
      rcases Nat.lt_or_gt_of_ne e with h|h
      ·have:i*sz+sz<=i'*sz:=by rw[<-du];exact bg _ h
       omega
      ·have:i'*sz+sz<=i*sz:=by rw[<-du];exact bg _ h
       omega
     rw[if_neg this,fk];exact old
   ·rcases pg (by simpa using hu)with hu|hu
    ·exact q10 u (by simpa using hu)
    ·exact f.2.2 u (by simpa using hu)
  refine Step.skip ?_ rfl hn (g.write hm rfl (by simp[eE,hb,Loc.block]) _ _ hx' rfl)
  have hr:=pM (P:=P) hT hkn (v:=a.eval y) (b:=b) (k:=off+i*sz+k) q5 (by rw[f.1,hl]) hfit f.2.2
  simp[execOp,ho,hv,hr]
theorem FQ(g:dz n A s a w M β){T:fh}(hT:dw P T)(o:Oper)(t:Nat)(x y:Operand)(ho:o.op=.store t x y) :
 (eu T (ev s) s.ob o).holds fun d=>dW s n o.dst d=true->Step P n A o a w (s.app o.dst d):=by
 unfold eu
 rw[ho]
 refine DR.bc fun hkn=>DR.bc fun hq=>?_
 rw[aA]at hq
 have hl:=aG hq.1
 have hx:=g.ev x
 split
 ·rename_i m k e
  rw[e]at hx
  split
  ·rename_i cs hm
   refine DR.bc fun hk=>?_
   intro hn
   obtain⟨b,hb,hv⟩:=mz hx
   exact rD g hT o t x y ho hkn hl hq.2 hb hv hm (aZ hk) hn
  ·trivial
 ·rename_i m k e
  rw[e]at hx
  split
  ·rename_i cs hm
   intro hk hn
   obtain⟨b,hb,hv⟩:=D5 hx
   exact rD g hT o t x y ho hkn hl hq.2 hb hv hm hk hn
  ·trivial
 ·rename_i m i k e
  split
  ·rename_i sz es hm
   split
   ·rename_i xs hf
    intro⟨hi,hk⟩ hn
    exact A8 g hT o t x y ho hkn hl hq.2 e hm hf hi hk hn
   ·trivial
  ·trivial
 ·trivial
end
end Go.VL
namespace Go.VL
open Go Go.RowKit
section
variable {P:Program} {M:Mem} {β:Lo} {w w':World} {n:Nat} {A:kJ} {s:St} {a:Act}
theorem uU{T:fh}(hT:dw P T):∀(fl:List Field),(fl.map fun f=>(f.offset,f.type)).all (fun p=>(T p.2).kn)=true ->
 fl.mapM (fun f=>(P.info? f.type).map fun i=>(f.offset,i.size))=some (fl.map fun f=>(f.offset,(T f.type).sz))
 |[],_=>rfl
 |
  f::fl,h=>by
  simp only[bo,dj,aA]at h
  obtain⟨i,z,hi,hs,_⟩:=(hT f.type h.1).info
  rw[List.mapM_cons,uU hT fl h.2,hi]
  simp[hs,TI.sz]
theorem uk{T:fh}{fs:List (Nat×Nat)}{m:Nat}{e:Operand->AV}:∀{ps:List (Nat×Operand)},tA T fs m e ps=true->∀p,p∈ps->∃off ft,fs[p.1]?=some (off,ft)/\(flat (e p.2)).length=(T ft).sz/\off+(flat (e p.2)).length<=m/\ov (e p.2)=true
 |[],_,p,hp=>by cases hp
 |
  q::ps,h,p,hp=>by
  simp only[tA,aA]at h
  rcases aI.1 hp with rfl|hp
  ·obtain⟨⟨h1,h2⟩,_⟩:=h
   split at h1
   ·rename_i off ft hf
    simp only[aA]at h1
    exact⟨off,ft,hf,aG h1.1,aZ h1.2,h2⟩
   ·cases h1
  ·exact uk h.2 p hp
theorem uZ{z m:Nat}{e:Operand->AV}:∀{ps:List (Nat×Operand)},s7 z m e ps=true->∀p,p∈ps->(flat (e p.2)).length=z/\p.1*z+(flat (e p.2)).length<=m/\ov (e p.2)=true
 |[],_,p,hp=>by cases hp
 |
  q::ps,h,p,hp=>by
  simp only[s7,aA]at h
  rcases aI.1 hp with rfl|hp
  ·exact⟨aG h.1.1.1,aZ h.1.1.2,h.1.2⟩
  ·exact uZ h.2 p hp
theorem CR.agg{cs:List AV}{vs:Array Value}(h:CR M β cs vs):bJ M β (.agg cs) (.agg vs):=by
 have e:vs=vs.toList.toArray:=by simp
 rw[e]
 refine .agg _ _ _ (by simp[h.1]) (fun i hi=>?_) fun i hi=>?_
 ·rw[fk];exact l8 h.2.2 i (by have:=h.1;omega)
 ·rw[fk];exact h.2.1 i hi
theorem F6(g:dz n A s a w M β){T:fh}(hT:dw P T)(o:Oper)(t:Nat)(ps:Array (Nat×Operand))(ho:o.op=.build t ps) :
 (eu T (ev s) s.ob o).holds (Quiet (sV P M β o a w)):=by
 unfold eu
 rw[ho]
 refine DR.bc fun hkn=>?_
 have el:(ps.map fun(i,x)=>(i,a.eval x)).toList=ps.toList.map fun p=>(p.1,a.eval p.2):=by simp
 obtain⟨i,z,hi,hs,hb,hz,hcr,hsz⟩:=(hT t hkn).uN (M:=M) (β:=β)
 have hzl:(ka (T t)).length=(T t).sz:=by simp[ka,TI.sz]
 split
 ·rename_i fs hk
  refine DR.bc fun hq=>?_
  rw[aA]at hq
  obtain⟨fl,hu,hfl⟩:=(hT t hkn).struct hk
  have hp:=uU hT fl.toList (by rw[hfl];exact hq.1)
  obtain⟨vs',h1,h2⟩:=vL g.ev ((fl.toList.map fun f=>(f.offset,(T f.type).sz)).toArray[·]?) (fun i=>(fs.getD i (0,0)).1) ps.toList hcr (fun p hp=>by
   obtain⟨off,ft,f1,f2,f3,f4⟩:=uk hq.2 p hp
   have e1:fs.getD p.1 (0,0)=(off,ft):=by simp[aa,f1]
   refine⟨f4,?_,by rw[e1,hzl];exact f3⟩
   rw[e1,f2]
   rw[<-hfl]at f1
   simp only[List.getElem?_map]at f1
   cases e:fl.toList[p.1]? with
   |none=>rw[e]at f1;cases f1
   |
    some fi =>
    rw[e]at f1
    simp only[cq,Option.some.injEq,Prod.mk.injEq]at f1
    obtain⟨rfl,rfl⟩:=f1
    simp[e])
  refine⟨rfl,rfl,_,?_,h2.agg⟩
  have hbt:P.built t (ps.map fun(i,x)=>(i,a.eval x)).toList=some vs':=by
   rw[el]
   simp only[Program.built,hi,hu,hz,hp]
   exact h1
  simp[execOp,ho,run_build w t _ _ hbt]
 ·rename_i m el' hk
  refine DR.bc fun hq=>?_
  rw[aA]at hq
  obtain⟨ie,ze,hie,hse,_⟩:=(hT el' hq.1).info
  obtain⟨vs',h1,h2⟩:=vL g.ev (fun i=>some (i*ie.size,ie.size)) (fun i=>i*(T el').sz) ps.toList hcr (fun p hp=>by
   obtain⟨f2,f3,f4⟩:=uZ hq.2 p hp
   exact⟨f4,by rw[f2,hse];rfl,by rw[hzl];exact f3⟩)
  refine⟨rfl,rfl,_,?_,h2.agg⟩
  have hbt:P.built t (ps.map fun(i,x)=>(i,a.eval x)).toList=some vs':=by
   rw[el]
   simp only[Program.built,hi,(hT t hkn).array hk,hz,hie]
   exact h1
  simp[execOp,ho,run_build w t _ _ hbt]
 ·trivial
theorem foldl_set(k:Nat):∀(us:List Value) (j:Nat) (vs:Array Value),((us.zipIdx j).foldl (fun cs (c,j)=>cs.setIfInBounds (k+j) c) vs).size=vs.size /\
 (∀i,k+j+us.length<=vs.size->((us.zipIdx j).foldl (fun cs (c,j)=>cs.setIfInBounds (k+j) c) vs).getD i undef=if k+j<=i/\i<k+j+us.length then us.getD (i-(k+j)) undef else vs.getD i undef) /\
 ∀u,u∈(us.zipIdx j).foldl (fun cs (c,j)=>cs.setIfInBounds (k+j) c) vs->u∈vs\/u∈us
 |[],j,vs=>⟨rfl,fun i h=>by rw[if_neg (by simp only[aE];omega)];rfl,fun u hu=>.inl hu⟩
 |
  x::us,j,vs=>by
  obtain⟨h1,h2,h3⟩:=foldl_set k us (j+1) (vs.setIfInBounds (k+j) x)
  rw[List.zipIdx_cons,List.foldl_cons]
  refine⟨by rw[h1];simp,fun i h=>?_,fun u hu=>?_⟩
  ·simp only[aw]at h |-
   rw[h2 i (by simp;omega)]
   by_cases hc:k+(j+1)<=i/\i<k+(j+1)+us.length
   ·rw[if_pos hc,if_pos (by omega),show i-(k+j)=(i-(k+(j+1)))+1 by omega];rfl
   ·rw[if_neg hc]
    by_cases e:i=k+j
    ·subst e
     rw[if_pos (by omega)]
     have:k+j<vs.size:=by omega
     simp[this]
    ·rw[if_neg (by omega)]
     simp[Array.getElem?_setIfInBounds,Ne.symm e]
  ·rcases h3 u hu with h|h
   ·rcases Array.mem_or_eq_of_mem_setIfInBounds h with h|h
    ·exact .inl h
    ·exact .inr (by simp[h])
   ·exact .inr (al _ h)
theorem w9(sz:Nat):∀(L:List (Nat×Value)) (k:Nat) (vs:Array Value),L.map (·.1)=List.range' k L.length->(∀p,p∈L->p.2.cells.size=sz)->(k+L.length)*sz<=vs.size ->
 ∃vs',Instr.fill (fun i=>some (i*sz,sz)) vs L=some vs'/\vs'.size=vs.size/\(∀i,i<k*sz->vs'.getD i undef=vs.getD i undef) /\
  (∀i j,i<L.length->j<sz->vs'.getD ((k+i)*sz+j) undef=(L.getD i (0,undef)).2.cells.getD j undef)/\∀u,u∈vs'->u∈vs\/∃p,p∈L/\u∈p.2.cells
 |[],k,vs,_,_,_=>⟨vs,rfl,rfl,fun _ _=>rfl,fun i j hi=>by simp at hi,fun u hu=>.inl hu⟩
 |
  p::L,k,vs,hr,hs,hl=>by
  simp only[bo,aw,List.range'_succ,List.cons.injEq]at hr
  have hp:=hs p ak
  have hle:k*sz+sz<=vs.size:=by
   have:(k+1)*sz<=(k+(L.length+1))*sz:=bg _ (by omega)
   rw[du]at this
   simp only[aw]at hl
   omega
  obtain⟨f1,f2,f3⟩:=foldl_set (k*sz) p.2.cells.toList 0 vs
  have f2:=fun i=>f2 i (by simp[hp];omega)
  obtain⟨vs',g1,g2,g3,g4,g5⟩:=w9 sz L (k+1) ((p.2.cells.toList.zipIdx 0).foldl (fun cs (c,j)=>cs.setIfInBounds (k*sz+j) c) vs) (by simpa using hr.2) (fun q hq=>hs q (al _ hq)) (by rw[f1];simp only[aw]at hl;rw[show k+1+L.length=k+(L.length+1) by omega];exact hl)
  refine⟨vs',?_,by rw[g2,f1],fun i hi=>?_,fun i j hi hj=>?_,fun u hu=>?_⟩
  ·unfold Instr.fill
   rw[hr.1]
   simp only
   rw[if_neg (by simp[hp];omega),<-g1]
   congr 1
   rw[<-Array.foldl_toList]
   simp[Array.toList_zipIdx]
  ·rw[g3 i (by rw[du];omega),f2,if_neg (by omega)]
  ·cases i with
   |
    zero =>
    rw[cw,g3 _ (by rw[du];omega),f2,if_pos (by simp[hp];omega)]
    simp only[bF]
    rw[show k*sz+j-(k*sz+0)=j by omega,fk]
   |
    succ i =>
    have:=g4 i j (by simpa using hi) hj
    rw[show k+(i+1)=k+1+i by omega,this]
    rfl
  ·rcases g5 u hu with h|⟨q,hq,h⟩
   ·rcases f3 u h with h|h
    ·exact .inl h
    ·exact .inr ⟨p,ak,by simpa using h⟩
   ·exact .inr ⟨q,al _ hq,h⟩
theorem zJ{ob:Nat->Option Ob}{f:AV->Option (AV×List Nat)}:∀{xs:List AV} {asq:List (List AV)} {os:List Nat},wo f xs=some (asq,os)->Fz M β w ob os ->
 asq.length=xs.length/\∀i,i<xs.length->∃os',nV f (flat (xs.getD i .any))=some (asq.getD i [],os')/\Fz M β w ob os'
 |
  [],asq,os,h,_=>by
  simp[wo]at h
  obtain⟨rfl,rfl⟩:=h
  exact⟨rfl,fun i hi=>by simp at hi⟩
 |
  x::xs,asq,os,h,hz=>by
  unfold wo at h
  split at h
  ·rename_i a1 o1 a2 o2 h1 h2
   cases h
   obtain⟨q1,q2⟩:=zJ h2 hz.right
   refine⟨by simp[q1],fun i hi=>?_⟩
   cases i with
   |zero=>exact⟨o1,by simpa using h1,hz.left⟩
   |succ i=>simpa using q2 i (by simpa using hi)
  ·cases h
theorem Tx{sz i j:Nat}(hj:j<sz):(i*sz+j)%sz=j:=by rw[Nat.mul_comm,Nat.mul_add_mod,Nat.mod_eq_of_lt hj]
theorem lj(g:dz n A s a w M β){o:Oper}{d sz c:Nat}{es:List (List AV)}{vs:Array Value}{e:TypeId}{w1:World}(hh:w1.heap=w.heap)(ho1:w1.os=w.os)(ht1:w1.tape=w.tape)(hp1:w1.output=w.output)(hc:es.length<=c)(hs:∀i,i<es.length->(es.getD i []).length=sz)(hv:c*sz<=vs.size)
 (hr':∀i j,i<es.length->j<sz->bJ M dG ((es.getD i []).getD j .any) (vs.getD (i*sz+j) undef)) (h1:∀u,u∈vs->u.oneCell'=true)
 (hr:(execOp a.eval o).run P w=.ok (.value (.slice (some ⟨w.heap.size,0,none⟩) es.length c)) (w1.alloc (.cells vs e))) {u:List (Nat×Option Ob)} {rd:List Nat}
 (k:Option Nat) (hk:∀o,k=some o->∃x,s.ob o=some x/\x.live=true) (hu:cS s.ob u=cO (kill k s.ob) d (some (.vec sz es)))
 (hn:dW s n o.dst {val:=.vec d,cO:=u,rd:=rd,new:=[d]}=true) :
 Step P n A o a w (s.app o.dst {val:=.vec d,cO:=u,rd:=rd,new:=[d]}):=by
 have hd:=sf hn rfl
 have hle:=xm g hd (.vec (.slice (some ⟨w.heap.size,0,none⟩) es.length c) sz)
 have hnew:(w1.alloc (.cells vs e)).heap[w.heap.size]?=some (.cells vs e (0,0)):=by rw[<-hh];exact heap_alloc_new w1 _
 have g':=g.fresh hd k hk (w':=w1.alloc (.cells vs e)) ho1 ht1 hp1 (by simp[hh]) (fun b hb _=>by rw[<-hh];exact heap_alloc_old w1 _ b (by rw[hh];exact hb)) (.vec (.slice (some ⟨w.heap.size,0,none⟩) es.length c) sz) (.vec sz es)
  ⟨_,aV _ _ _,hs,.inr ⟨w.heap.size,0,c,vs,e,rfl,hc,hnew,by simpa using hv,fun i j hi hj=>by rw[a8];exact hr' i j hi hj,zU g,rfl,h1⟩⟩
  (fun b hb=>.inl (by simp[Loc.block]at hb;omega))
 refine Step.val (M':=M) (β':=cO β d (some (.vec (.slice (some ⟨w.heap.size,0,none⟩) es.length c) sz))) hr (.vec _ _ _ _ rfl (aV _ _ _)) hn ?_
 show dz n A {s with ob:=cS s.ob u,us:=cO s.us d true} a _ M _
 rw[hu]
 exact g'
end
end Go.VL
namespace Go.VL
open Go Go.RowKit
section
variable {P:Program} {M:Mem} {β:Lo} {w w':World} {n:Nat} {A:kJ} {s:St} {a:Act}
theorem lB(es:List (List AV))(i:Nat)(h:i<es.length):es.getD i []∈es:=by
 have:es.getD i []=es[i]:=by simp[aa,h]
 rw[this];exact bn h
theorem FI{sz:Nat}{asq:List (List AV)}(h:asq.all (fun a=>aN a.length sz)=true)(i:Nat)(hi:i<asq.length):(asq.getD i []).length=sz:=by
 rw[cd]at h
 exact aG (h _ (lB asq i hi))
theorem nS(f:Nat->Option Ob):∀(l r:List (Nat×Option Ob)),cS f (l++r)=cS (cS f l) r
 |[],r=>rfl
 |(o,c)::l,r=>by show cS (cO f o c) (l++r)=_;rw[nS (cO f o c) l r];rfl
theorem vc(g:dz n A s a w M β){T:fh}(hT:dw P T)(o:Oper)(t m:Nat)(ps:Array (Nat×Operand))(ho:o.op=.buildSlice t m ps) :
 (eu T (ev s) s.ob o).holds fun d=>dW s n o.dst d=true->Step P n A o a w (s.app o.dst d):=by
 unfold eu
 rw[ho]
 refine DR.bc fun hkn=>?_
 split
 ·rename_i el d hk hd
  refine DR.bc fun hel=>?_
  split
  ·rename_i asq os hf
   refine DR.bc fun hq=>?_
   simp only[aA]at hq
   obtain⟨⟨⟨hq1,hq2⟩,hq3⟩,hq4⟩:=hq
   intro hn
   obtain⟨M',hM,g'⟩:=g.freeze os
   obtain⟨l1,l2⟩:=zJ hf g'.fz
   have hlen:asq.length=ps.toList.length:=by rw[l1];simp
   have hps:ps.toList.map (·.1)=bA m:=by simpa using hq1
   have hm:ps.toList.length=m:=by have:=congrArg List.length hps;simpa using this
   obtain⟨i,z,hi,hs,hb,hz,hcr,hsz⟩:=(hT el hel).uN (M:=M') (β:=dG)
   have hsl:=FI hq3
   have hpart:∀i,i<ps.toList.length->∃p∈ps.toList,ps.toList[i]?=some p/\(a.eval p.2).cells.size=(T el).sz/\(∀j,j<(T el).sz->bJ M' dG ((asq.getD i []).getD j .any) ((a.eval p.2).cells.getD j undef))/\∀u,u∈(a.eval p.2).cells->u.oneCell'=true:=by
    intro i hi
    have hp:ps.toList[i]?=some ps.toList[i]:=bp hi
    refine⟨ps.toList[i],bn hi,hp,?_⟩
    obtain⟨os',z1,z2⟩:=l2 i (by simpa using hi)
    have e1:(List.map (fun p=>ev s p.2) ps.toList).getD i .any=ev s (ps.toList[i]).2:=by simp[aa,hi,hp]
    rw[e1]at z1
    have h1:ov (ev s (ps.toList[i]).2)=true:=(cd.1 hq4) _ (bn hi)
    have f:=nX ((g.ev (ps.toList[i]).2).mono hM (Lo.le.refl _)) h1
    obtain⟨y1,y2⟩:=qH (M:=M') (β:=β) (w:=w) (ob:=s.ob) (fun c a' os v=>iE eY c a' os v) _ _ _ z1 z2
    have hls:=hsl i (by omega)
    refine⟨by rw[f.1,<-y1,hls],fun j hj=>y2 j _ (by omega) (f.2.1 j (by omega)),f.2.2⟩
   have hL:(ps.toList.map fun p=>(p.1,a.eval p.2)).map (·.1)=List.range' 0 (ps.toList.map fun p=>(p.1,a.eval p.2)).length:=by
    rw[List.map_map,cr,hm,<-List.range_eq_range']
    exact hps
   have hsz':∀p,p∈(ps.toList.map fun p=>(p.1,a.eval p.2))->p.2.cells.size=(T el).sz:=by
    intro p hp
    obtain⟨q,hq,rfl⟩:=bM.1 hp
    obtain⟨i,hi,rfl⟩:=List.getElem_of_mem hq
    obtain⟨p',_,e,h,_⟩:=hpart i hi
    rw[bp hi]at e
    cases e;exact h
   have zsz:((Array.range (m*(T el).sz)).map (z.cells[· % z.cells.size]!)).size=m*(T el).sz:=by simp
   obtain⟨vs',f1,f2,f3,f4,f5⟩:=w9 (T el).sz (ps.toList.map fun p=>(p.1,a.eval p.2)) 0 ((Array.range (m*(T el).sz)).map (z.cells[· % z.cells.size]!)) hL hsz' (by rw[zsz];simp[hm])
   have hrun:(Instr.buildSlice t m (ps.map fun(i,x)=>(i,a.eval x))).run P w=.ok (.slice (some ⟨w.heap.size,0,none⟩) m m) (w.alloc (.cells vs' el)):=by
    have e1:(ps.map fun(i,x)=>(i,a.eval x)).toList=ps.toList.map fun p=>(p.1,a.eval p.2):=by simp
    by_cases h0:m*i.size=0
    ·have h0':m*(T el).sz=0:=by rw[<-hs];exact h0
     have:(Array.range (m*(T el).sz)).map (z.cells[· % z.cells.size]!)=(Array.range 0).map (fun _=>default):=by
      rw[h0'];simp[Array.range_zero']
     rw[this]at f1
     simp only[<-hs]at f1
     simp[Instr.buildSlice,run_underlying ((hT t hkn).slice hk),sizeOf,typeInfo,hi,h0,e1,newRow]
     rw[f1]
     simp
    ·refine run_buildSlice w t el m _ vs' i z ((hT t hkn).slice hk) hi hz ?_ h0 ?_
     ·have:=aZ hq2;rw[<-hs]at this;omega
     ·rw[e1,hs];exact f1
   have key:∀i j,i<asq.length->j<(T el).sz->bJ M' dG ((asq.getD i []).getD j .any) (vs'.getD (i*(T el).sz+j) undef):=by
    intro i j hi hj
    obtain⟨p,_,e,_,h,_⟩:=hpart i (by omega)
    have:=f4 i j (by simp only[cr];omega) hj
    rw[a8]at this
    rw[this]
    have e2:(ps.toList.map fun p=>(p.1,a.eval p.2)).getD i (0,undef)=(p.1,a.eval p.2):=by simp[aa,e]
    rw[e2]
    exact h j hj
   have ones:∀u,u∈vs'->u.oneCell'=true:=by
    intro u hu
    rcases f5 u hu with h|⟨p,hp,h⟩
    ·simp only[Array.mem_map,Array.mem_range]at h
     obtain⟨j,hj,rfl⟩:=h
     by_cases h0:z.cells.size=0
     ·exfalso;rw[<-hs,show i.size=0 by rw[hs,<-hsz];exact h0]at hj;simp at hj
     ·have:j%z.cells.size<z.cells.size:=Nat.mod_lt _ (by omega)
      rw[getElem!_pos z.cells _ this]
      exact hcr.2.2 _ (Array.getElem_mem this)
    ·obtain⟨q,hq,rfl⟩:=bM.1 hp
     obtain⟨i,hi,rfl⟩:=List.getElem_of_mem hq
     obtain⟨p',_,e,_,_,h'⟩:=hpart i hi
     rw[bp hi]at e
     cases e;exact h' u h
   have hn':dW {s with ob:=cS s.ob (gp s.ob os)} n o.dst {val:=.vec d,cO:=[(d,some (.vec (T el).sz asq))],rd:=[],new:=[d]}=true:=hn
   have hlm:asq.length=m:=by omega
   have st:=lj (P:=P) (w1:=w) g' (d:=d) (sz:=(T el).sz) (c:=asq.length) (es:=asq) (vs:=vs') (e:=el) rfl rfl rfl rfl (au _) hsl (by rw[f2,zsz,hlm];exact au _) key ones (by
    rw[hlm]
    simp[execOp,ho,hrun]) (u:=[(d,some (.vec (T el).sz asq))]) (rd:=[]) none (fun o h=>by cases h) rfl hn'
   have e:s.app o.dst {val:=.vec d,cO:=gp s.ob os++[(d,some (.vec (T el).sz asq))],new:=[d]}=St.app {s with ob:=cS s.ob (gp s.ob os)} o.dst {val:=.vec d,cO:=[(d,some (.vec (T el).sz asq))],rd:=[],new:=[d]}:=by
    unfold St.app
    simp only[nS]
   rw[e]
   exact st
  ·trivial
 ·trivial
theorem xG(g:dz n A s a w M β){T:fh}(hT:dw P T)(o:Oper)(t:Nat)(l c:Operand)(ho:o.op=.makeSlice t l c) :
 (eu T (ev s) s.ob o).holds fun d=>dW s n o.dst d=true->Step P n A o a w (s.app o.dst d):=by
 unfold eu
 rw[ho]
 refine DR.bc fun hkn=>?_
 have hl:=g.ev l
 split
 ·rename_i el d k m hk hd e
  rw[e]at hl
  have hlv:=dT hl
  refine DR.bc fun hel=>?_
  rw[aA]at hel
  obtain⟨hel,hpos⟩:=hel
  have hpos:0<(T el).bytes:=aZ hpos
  cases hsame:yC l c with
  |false=>simp only[cond_false];trivial
  |
   true =>
   simp only[cond_true]
   have hcv:∃k',a.eval c=.int k' m:=by
    unfold yC at hsame
    split at hsame
    ·have:=aG hsame
     subst this;exact⟨k,hlv⟩
    ·rename_i k1 p k2 q
     have:p=q:=by simpa using hsame
     subst this
     have:a.eval (.const (.int k1 p))=.int k1 p:=rfl
     rw[this]at hlv
     cases hlv;exact⟨k2,rfl⟩
    ·cases hsame
   obtain⟨k',hcv⟩:=hcv
   intro⟨h0,hb⟩ hn
   obtain⟨i,z,hi,hs,hby,hz,hcr,hsz⟩:=(hT el hel).uN (M:=M) (β:=dG)
   have hbytes:(i.bytes:Int)*m<=281474976710656:=by rw[hby,Int.mul_comm];omega
   have h63:m<=9223372036854775807:=by
    have:m*1<=m*((T el).bytes:Int):=Int.mul_le_mul_of_nonneg_left (by omega) h0
    omega
   have hr:=run_make (P:=P) w t el i z ((hT t hkn).slice hk) hi hz k k' m m h0 (Int.le_refl _) hbytes h63
   have hlen:(List.replicate m.toNat (ka (T el))).length=m.toNat:=by simp
   have hzl:(ka (T el)).length=(T el).sz:=by simp[ka,TI.sz]
   have hget:∀q,q<m.toNat->(List.replicate m.toNat (ka (T el))).getD q []=ka (T el):=fun q hq=>by simp[aa,hq]
   refine lj (P:=P) (w1:=w) g (d:=d) (sz:=(T el).sz) (c:=m.toNat) (es:=List.replicate m.toNat (ka (T el))) (vs:=madeCells z.cells (m.toNat*i.size)) (e:=el) rfl rfl rfl rfl (by rw[hlen];exact au _)
    (fun q hq=>by rw[hlen]at hq;rw[hget q hq,hzl]) (by rw[size_madeCells,hs];exact au _) (fun q j hq hj=>?_) (fun u hu=>?_) (by rw[hlen];simp[execOp,ho,hlv,hcv,hr]) none (fun o h=>by cases h) rfl hn
   ·rw[hlen]at hq
    rw[hget q hq]
    have hlt:q*(T el).sz+j<m.toNat*i.size:=by
     have:q*(T el).sz+(T el).sz<=m.toNat*(T el).sz:=by rw[<-du];exact bg _ hq
     rw[hs];omega
    have e:(madeCells z.cells (m.toNat*i.size)).getD (q*(T el).sz+j) undef=z.cells.getD j undef:=by
     have hj':j<z.cells.size:=by omega
     simp[madeCells,hlt,hsz,Tx hj]
     rw[getElem!_pos z.cells _ hj'];simp[hj']
    rw[e]
    exact hcr.2.1 j (by omega)
   ·simp only[madeCells,Array.mem_map,Array.mem_range]at hu
    obtain⟨j,hj,rfl⟩:=hu
    by_cases h0:z.cells.size=0
    ·exfalso;rw[hs,<-hsz,h0]at hj;simp at hj
    ·have:j%z.cells.size<z.cells.size:=Nat.mod_lt _ (by omega)
     rw[getElem!_pos z.cells _ this]
     exact hcr.2.2 _ (Array.getElem_mem this)
 ·trivial
theorem Ek{es fs:List (List AV)}{sz:Nat}{vs:Array Value}{old us:Nat->Value}(hs:∀i,i<es.length->(es.getD i []).length=sz)(hf:ck sz fs)
 (ho:∀i,i<es.length*sz->vs.getD i undef=old i) (hu:∀i,i<fs.length*sz->vs.getD (es.length*sz+i) undef=us i)
 (r1:∀i j,i<es.length->j<sz->bJ M dG ((es.getD i []).getD j .any) (old (i*sz+j))) (r2:∀i j,i<fs.length->j<sz->bJ M dG ((fs.getD i []).getD j .any) (us (i*sz+j))) :
 (∀i,i<(es++fs).length->((es++fs).getD i []).length=sz)/\∀i j,i<(es++fs).length->j<sz->bJ M dG (((es++fs).getD i []).getD j .any) (vs.getD (i*sz+j) undef):=by
 have g1:∀i,i<es.length->(es++fs).getD i []=es.getD i []:=fun i hi=>by rw[jU,if_pos hi]
 have g2:∀i,¬i<es.length->(es++fs).getD i []=fs.getD (i-es.length) []:=fun i hi=>by rw[jU,if_neg hi]
 constructor
 ·intro i hi
  by_cases h:i<es.length
  ·rw[g1 i h];exact hs i h
  ·rw[g2 i h];exact hf _ (lB fs _ (by simp at hi;omega))
 ·intro i j hi hj
  by_cases h:i<es.length
  ·rw[g1 i h,ho _ (Nat.lt_of_lt_of_le (Nat.add_lt_add_left hj _) (by rw[<-du];exact bg _ h))]
   exact r1 i j h hj
  ·have hi':i-es.length<fs.length:=by simp at hi;omega
   rw[g2 i h]
   have e:i*sz+j=es.length*sz+((i-es.length)*sz+j):=by
    rw[<-Nat.add_assoc,<-Nat.add_mul,show es.length+(i-es.length)=i by omega]
   rw[e,hu _ (Nat.lt_of_lt_of_le (Nat.add_lt_add_left hj _) (by rw[<-du];exact bg _ hi'))]
   exact r2 _ j hi' hj
theorem oC{z:Value}(h:∀u,u∈z.cells->u.oneCell'=true)(k:Nat):∀u,u∈Builtin.zeroCells z.cells k->u.oneCell'=true:=by
 intro u hu
 simp only[Builtin.zeroCells,Array.mem_map,Array.mem_range]at hu
 obtain⟨j,hj,rfl⟩:=hu
 by_cases h0:z.cells.size=0
 ·exfalso;rw[h0]at hj;simp at hj
 ·have:j%z.cells.size<z.cells.size:=Nat.mod_lt _ (by omega)
  rw[getElem!_pos z.cells _ this]
  exact h _ (Array.getElem_mem this)
theorem iH{o:Oper}{x y:Operand}{t:Nat}(ho:o.op=.call ⟨.builtin .append,#[x,y],#[t,t]⟩){v:Value}{w':World}(h:(Builtin.append_ #[t,t] o.type #[a.eval x,a.eval y]).run P w=.ok v w') :
 (execOp a.eval o).run P w=.ok (.value v) w':=by
 obtain⟨_,e⟩:=ki (P:=P) (a:=a) (w:=w) ho
 rw[e];simp[builtin,h]
theorem yX{fs:List (List AV)}{sz b off c:Nat}{us:Nat->Value}(h3:∀i,i<fs.length*sz->w.cell? ⟨b,off+i,none⟩=some (us i)) :
 ((bA (fs.length*sz)).map us).length=fs.length*sz/\∀j v,((bA (fs.length*sz)).map us)[j]?=some v->w.cell? ((⟨b,off,none⟩:Addr).add j)=some v:=by
 refine⟨by simp,fun j v h=>?_⟩
 rw[kQ]
 simp only[List.getElem?_map]at h
 by_cases hj:j<fs.length*sz
 ·rw[List.getElem?_range hj]at h
  cases h;exact h3 j hj
 ·rw[List.getElem?_eq_none (by simp;omega)]at h;cases h
theorem wj{vs:List Value}{z:Array Value}{m:Nat}(i:Nat)(hi:i<vs.length):(vs.toArray++z).getD i undef=vs.getD i undef:=by
 simp[aa,Array.getElem?_append,hi]
theorem append_nil(g:dz n A s a w M β){T:fh}(hT:dw P T)(o:Oper){x y:Operand}{t el d sz:Nat}(ho:o.op=.call ⟨.builtin .append,#[x,y],#[t,t]⟩)(hkn:(T t).kn=true)(hk:(T t).k=.slice el)(hel:(T el).kn=true)(hpos:0<(T el).bytes)(hz:sz=(T el).sz)
 {fs:List (List AV)} (hv:a.eval x=.slice none 0 0) (hy:G4 w M fs (a.eval y)) (hf:ck sz fs) (hb:fs.length*(T el).bytes<=140737488355328)
 (k:Option Nat) (hkk:∀o,k=some o->∃x,s.ob o=some x/\x.live=true) {u:List (Nat×Option Ob)} {rd:List Nat} (hu:cS s.ob u=cO (kill k s.ob) d (some (.vec sz fs)))
 (hn:dW s n o.dst {val:=.vec d,cO:=u,rd:=rd,new:=[d]}=true):Step P n A o a w (s.app o.dst {val:=.vec d,cO:=u,rd:=rd,new:=[d]}):=by
 have hd:=sf hn rfl
 obtain⟨i,z,hi,hs,hby,hzz,hcr,hsz⟩:=(hT el hel).uN (M:=M) (β:=dG)
 have ht:=(hT t hkn).slice hk
 by_cases hne:fs.length=0
 ·
  have e0:fs=[]:=List.length_eq_zero_iff.1 hne
  subst e0
  have hr:(Builtin.append_ #[t,t] o.type #[a.eval x,a.eval y]).run P w=.ok (.slice none 0 0) w:=by
   rcases hy with⟨hy,_⟩|⟨b,off,c,sz',us,hy,_⟩
   ·simp[hv,hy,Builtin.append_,run_underlying ht,sizeOf,typeInfo,hi,Builtin.lenOf,Builtin.firstCells]
   ·have hl:=run_loadCells (P:=P) w ⟨b,off,none⟩ 0 us (fun j hj=>by omega)
    simp[hv,hy,Builtin.append_,run_underlying ht,sizeOf,typeInfo,hi,Builtin.lenOf,Builtin.firstCells,hl]
  have g':=g.fresh hd k hkk (w':=w) rfl rfl rfl (au _) (fun b hb _=>rfl) (.vec (.slice none 0 0) sz) (.vec sz [])
   ⟨_,aV _ _ _,fun i hi=>by simp at hi,.inl ⟨rfl,rfl⟩⟩ (fun b hb=>by simp[Loc.block]at hb)
  refine Step.val (M':=M) (β':=cO β d (some (.vec (.slice none 0 0) sz))) (iH ho hr) (.vec _ _ _ _ rfl (aV _ _ _)) hn ?_
  show dz n A {s with ob:=cS s.ob u,us:=cO s.us d true} a _ M _
  rw[hu];exact g'
 ·rcases hy with⟨hy,rfl⟩|⟨b,off,c,sz',us,hy,h1,h2,h3,h4,h5⟩
  ·simp at hne
  ·have hsz':sz'=sz:=by rw[<-h2 0 (by omega)];exact hf _ (lB fs 0 (by omega))
   subst hsz'
   obtain⟨n1,n2⟩:=yX (c:=c) h3
   have hbb:fs.length<=fs.length*(T el).bytes:=Nat.le_mul_of_pos_right _ hpos
   have hr:=run_append_nil (P:=P) w t o.type el i z ht hi hzz ⟨b,off,none⟩ fs.length c _ (by rw[n1,hs,hz]) n2 (by omega) (by omega) (by rw[hby];omega)
   rw[<-hv,<-hy]at hr
   have hge:=grownCap_ge w fs.length 0 el
   refine lj (P:=P) (w1:=w.drew) g (sz:=sz') (es:=fs) rfl rfl rfl rfl hge (fun i hi=>h2 i hi) ?_ (fun q j hq hj=>?_) (fun u hu=>?_) (iH ho hr) k hkk hu hn
   ·simp only[Array.size_append,List.size_toArray,n1,size_zeroCells,hsz,<-hz]
    rw[<-Nat.add_mul,show fs.length+(grownCap w fs.length 0 el-fs.length)=grownCap w fs.length 0 el by omega]
    exact au _
   ·have hlt:q*sz'+j<fs.length*sz':=Nat.lt_of_lt_of_le (Nat.add_lt_add_left hj _) (by rw[<-du];exact bg _ hq)
    rw[wj (m:=0) _ (by rw[n1];exact hlt),eI _ _ _ hlt]
    exact h4 q j hq hj
   ·rcases Array.mem_append.1 hu with hu|hu
    ·simp only[List.mem_toArray,bM,List.mem_range]at hu
     obtain⟨j,hj,rfl⟩:=hu
     exact h5 j hj
    ·exact oC hcr.2.2 _ u hu
end
end Go.VL
namespace Go.VL
open Go Go.RowKit
section
variable {P:Program} {M:Mem} {β:Lo} {w w':World} {n:Nat} {A:kJ} {s:St} {a:Act}
theorem ua(w:World)(t ty e e':TypeId)(i:TypeInfo)(ht:P.underlying t=some (.slice e))(hi:P.info? e=some i)
 (g sLen sCap:Nat) (cur:Array Value) (hg:w.heap[g]?=some (.cells cur e' (0,0)))
 (a:Addr) (m c:Nat) (news:List Value) (hl:news.length=m*i.size) (hnews:∀j u,news[j]?=some u->w.cell? (a.add j)=some u) (h1:∀u∈news,u.oneCell'=true)
 (hroom:sLen+m<=sCap) (hfit:sLen*i.size+news.length<=cur.size) :
 (Builtin.append_ #[t,t] ty #[.slice (some ⟨g,0,none⟩) sLen sCap,.slice (some a) m c]).run P w =
  .ok (.slice (some ⟨g,0,none⟩) (sLen+m) sCap) (w.setRow g (cur.toList.take (sLen*i.size)++news++cur.toList.drop (sLen*i.size+news.length)).toArray):=by
 have hf:=run_firstCells_some (P:=P) w i.size m a m c news hl hnews
 have hst:=run_storeCells_at P g (sLen*i.size) e' news 0 cur w hg (by simpa using hfit) h1
 simp only[cw]at hst
 simp[Builtin.append_,run_underlying ht,sizeOf,typeInfo,hi,Builtin.lenOf,hroom,hf,kQ,hst]
theorem yt(g:dz n A s a w M β){T:fh}(hT:dw P T)(o:Oper){x y:Operand}{t el d m sz:Nat}(ho:o.op=.call ⟨.builtin .append,#[x,y],#[t,t]⟩)(hkn:(T t).kn=true)(hk:(T t).k=.slice el)(hel:(T el).kn=true)(hpos:0<(T el).bytes)(hz:sz=(T el).sz)
 {es fs:List (List AV)} (hx:ev s x=.vec m) (hm:s.ob m=some (.vec sz es)) (hy:G4 w M fs (a.eval y)) (hf:ck sz fs) (hb:(es.length+fs.length)*(T el).bytes<=140737488355328) {rd:List Nat}
 (hn:dW s n o.dst {val:=.vec d,cO:=[(m,none),(d,some (.vec sz (es++fs)))],rd:=rd,new:=[d]}=true):Step P n A o a w (s.app o.dst {val:=.vec d,cO:=[(m,none),(d,some (.vec sz (es++fs)))],rd:=rd,new:=[d]}):=by
 have hd:=sf hn rfl
 have hrx:=g.ev x
 rw[hx]at hrx
 obtain⟨v,q1,q2,q3⟩:=g.own m _ hm
 have hv:a.eval x=v:=by
  generalize a.eval x=v' at hrx
  cases hrx with|vec _ _ _ sz' hov hb=>rw[q1]at hb;cases hb;rfl
 have hkk:∀o,some m=some o->∃x,s.ob o=some x/\x.live=true:=fun o h=>by cases h;exact⟨_,hm,rfl⟩
 rcases q3 with⟨rfl,rfl⟩|⟨b,off,c,vs,e,rfl,q4,q5,q6,q7,q8,rfl,q10⟩
 ·exact append_nil g hT o ho hkn hk hel hpos hz hv hy hf (by simpa using hb) (some m) hkk rfl hn
 ·obtain⟨i,z,hi,hs,hby,hzz,hcr,hsz⟩:=(hT el hel).uN (M:=M) (β:=dG)
  have ht:=(hT t hkn).slice hk
  have hcc:es.length*sz<=c*sz:=bg _ q4
  have hbm:eE β m=some b:=by simp[eE,q1,Loc.block]
  have stay:∀(w':World) (vs':Array Value) (c':Nat) (us:Nat->Value),(w'=w/\vs'=vs\/w'=w.setRow b vs')->(execOp a.eval o).run P w=.ok (.value (.slice (some ⟨b,0,none⟩) (es++fs).length c')) w'->(es++fs).length<=c'->c'*sz<=vs'.size ->
   (∀i,i<es.length*sz->vs'.getD i undef=vs.getD (0+i) undef)->(∀i,i<fs.length*sz->vs'.getD (es.length*sz+i) undef=us i)->(∀i j,i<fs.length->j<sz->bJ M dG ((fs.getD i []).getD j .any) (us (i*sz+j))) ->
   (∀u,u∈vs'->u.oneCell'=true)->Step P n A o a w (s.app o.dst {val:=.vec d,cO:=[(m,none),(d,some (.vec sz (es++fs)))],rd:=rd,new:=[d]}):=by
   intro w' vs' c' us hw hr hlc hcs hold hnew hus hone
   have hblk:w'.heap[b]?=some (.cells vs' e (0,0)):=by
    rcases hw with⟨rfl,rfl⟩|rfl
    ·exact q5
    ·exact setRow_heap w b vs vs' e (0,0) q5
   have hoth:∀b',b'≠b->w'.heap[b']?=w.heap[b']?:=by
    rcases hw with⟨rfl,rfl⟩|rfl
    ·exact fun _ _=>rfl
    ·exact fun b' hne=>setRow_other w b b' vs' hne
   have hsame:w'.os=w.os/\w'.tape=w.tape/\w'.output=w.output/\w.heap.size<=w'.heap.size:=by
    rcases hw with⟨rfl,rfl⟩|rfl
    ·exact⟨rfl,rfl,rfl,au _⟩
    ·exact⟨rfl,rfl,rfl,by simp⟩
   obtain⟨v1,v2⟩:=Ek (M:=M) (es:=es) (fs:=fs) (sz:=sz) (vs:=vs') (old:=fun i=>vs.getD (0+i) undef) (us:=us) q2 hf hold hnew (fun i j hi hj=>q7 i j hi hj) hus
   have g':=g.fresh hd (some m) hkk (w':=w') hsame.1 hsame.2.1 hsame.2.2.1 hsame.2.2.2 (fun b' _ h=>hoth b' fun e=>h m rfl (by rw[e];exact hbm)) (.vec (.slice (some ⟨b,0,none⟩) (es++fs).length c') sz) (.vec sz (es++fs))
    ⟨_,aV _ _ _,v1,.inr ⟨b,0,c',vs',e,rfl,hlc,hblk,by simpa using hcs,fun i j hi hj=>by rw[a8];exact v2 i j hi hj,q8,rfl,hone⟩⟩ (fun b' hb'=>.inr ⟨m,rfl,by simp[Loc.block]at hb';rw[<-hb'];exact hbm⟩)
   exact Step.val (M':=M) (β':=cO β d (some (.vec (.slice (some ⟨b,0,none⟩) (es++fs).length c') sz))) hr (.vec _ _ _ _ rfl (aV _ _ _)) hn g'
  rcases hy with⟨hy,rfl⟩|⟨b',off',c',sz',us,hy,h1,h2,h3,h4,h5⟩
  ·refine stay w vs c (fun _=>undef) (.inl ⟨rfl,rfl⟩) (iH ho ?_) (by simpa using q4) (by simpa using q6) (fun i _=>by rw[a8]) (fun i hi=>by simp at hi) (fun i j hi=>by simp at hi) q10
   simp[hv,hy,Builtin.append_,run_underlying ht,sizeOf,typeInfo,hi,Builtin.lenOf,Builtin.firstCells,q4,storeCells]
  ·by_cases hne:fs.length=0
   ·have e0:fs=[]:=List.length_eq_zero_iff.1 hne
    subst e0
    refine stay w vs c (fun _=>undef) (.inl ⟨rfl,rfl⟩) (iH ho ?_) (by simpa using q4) (by simpa using q6) (fun i _=>by rw[a8]) (fun i hi=>by simp at hi) (fun i j hi=>by simp at hi) q10
    have hl:=run_loadCells (P:=P) w ⟨b',off',none⟩ 0 us (fun j hj=>by omega)
    simp[hv,hy,Builtin.append_,run_underlying ht,sizeOf,typeInfo,hi,Builtin.lenOf,Builtin.firstCells,q4,hl,storeCells]
   ·have hsz':sz'=sz:=by rw[<-h2 0 (by omega)];exact hf _ (lB fs 0 (by omega))
    subst hsz'
    obtain⟨n1,n2⟩:=yX (c:=c') h3
    have hbb:es.length+fs.length<=(es.length+fs.length)*(T el).bytes:=Nat.le_mul_of_pos_right _ hpos
    have h1c:∀u,u∈(bA (fs.length*sz')).map us->u.oneCell'=true:=fun u hu=>by
     simp only[bM,List.mem_range]at hu
     obtain⟨j,hj,rfl⟩:=hu
     exact h5 j hj
    by_cases hroom:es.length+fs.length<=c
    ·have hfit:es.length*sz'+fs.length*sz'<=vs.size:=by
      have:(es.length+fs.length)*sz'<=c*sz':=bg _ hroom
      rw[Nat.add_mul]at this;omega
     have hr:=ua (P:=P) w t o.type el e i ht hi b es.length c vs q5 ⟨b',off',none⟩ fs.length c' _ (by rw[n1,hs,hz]) n2 h1c hroom (by rw[n1,hs,<-hz];exact hfit)
     rw[<-hy,<-hv,hs,<-hz]at hr
     have vl:es.length*sz'+((bA (fs.length*sz')).map us).length<=vs.toList.length:=by rw[n1];simpa using hfit
     refine stay _ (jB vs.toList (es.length*sz') ((bA (fs.length*sz')).map us)).toArray c us (.inr rfl) (iH ho ?_) (by simpa using hroom) ?_ (fun i hi=>?_) (fun i hi=>?_) h4 (fun u hu=>?_)
     ·rw[hr,an];rfl
     ·rw[List.size_toArray,lE _ _ _ vl];simpa using q6
     ·rw[mW,lz _ _ _ vl,if_neg (by omega),fk,a8]
     ·rw[mW,lz _ _ _ vl,if_pos (by rw[n1];omega),show es.length*sz'+i-es.length*sz'=i by omega,eI _ _ _ hi]
     ·rcases pg (by simpa using hu)with hu|hu
      ·exact q10 u (by simpa using hu)
      ·exact h1c u hu
    ·
     have holdlen:∀i,i<es.length*sz'->w.cell? ⟨b,0+i,none⟩=some (vs.getD (0+i) undef):=fun i hi=>cell_of q5 _ (by omega)
     obtain⟨m1,m2⟩:=yX (c:=c) (fs:=es) (sz:=sz') (us:=fun i=>vs.getD (0+i) undef) holdlen
     have hr:=run_append_grow (P:=P) w t o.type el i z ht hi hzz ⟨b,0,none⟩ es.length c _ (by rw[m1,hs,hz]) m2 ⟨b',off',none⟩ fs.length c' _ (by rw[n1,hs,hz]) n2 (by omega) (by omega)
      (by rw[hby];exact growslice_fits (by omega) hb)
     rw[<-hy,<-hv,<-an]at hr
     have hge:=grownCap_ge w (es++fs).length c el
     have hl1:((bA (es.length*sz')).map fun i=>vs.getD (0+i) undef).toArray++((bA (fs.length*sz')).map us).toArray=(((bA (es.length*sz')).map fun i=>vs.getD (0+i) undef)++(bA (fs.length*sz')).map us).toArray:=by simp
     rw[hl1]at hr
     have ln:(((bA (es.length*sz')).map fun i=>vs.getD (0+i) undef)++(bA (fs.length*sz')).map us).length=es.length*sz'+fs.length*sz':=by rw[an,m1,n1]
     obtain⟨v1,v2⟩:=Ek (M:=M) (es:=es) (fs:=fs) (sz:=sz') (vs:=(((bA (es.length*sz')).map fun i=>vs.getD (0+i) undef)++(bA (fs.length*sz')).map us).toArray++Builtin.zeroCells z.cells (grownCap w (es++fs).length c el-(es++fs).length)) (old:=fun i=>vs.getD (0+i) undef) (us:=us) q2 hf
      (fun i hi=>by rw[wj (m:=0) _ (by rw[ln];omega),jU,if_pos (by rw[m1];exact hi),eI _ _ _ hi]) (fun i hi=>by rw[wj (m:=0) _ (by rw[ln];omega),jU,if_neg (by rw[m1];omega),m1,show es.length*sz'+i-es.length*sz'=i by omega,eI _ _ _ hi])
      (fun i j hi hj=>q7 i j hi hj) h4
     refine lj (P:=P) (w1:=w.drew) g (sz:=sz') (es:=es++fs) rfl rfl rfl rfl hge v1 ?_ v2 (fun u hu=>?_) (iH ho hr) (some m) hkk rfl hn
     ·simp only[Array.size_append,List.size_toArray,ln,size_zeroCells,hsz,<-hz]
      rw[<-Nat.add_mul,<-Nat.add_mul,<-an,show (es++fs).length+(grownCap w (es++fs).length c el-(es++fs).length)=grownCap w (es++fs).length c el by omega]
      exact au _
     ·rcases Array.mem_append.1 hu with hu|hu
      ·rw[List.mem_toArray]at hu
       rcases aO.1 hu with hu|hu
       ·simp only[bM,List.mem_range]at hu
        obtain⟨j,hj,rfl⟩:=hu
        exact l8 q10 _ (by omega)
       ·exact h1c u hu
      ·exact oC hcr.2.2 _ u hu
theorem Ec(g:dz n A s a w M β){T:fh}(hT:dw P T)(o:Oper)(xs:Array Operand)(ts:Array TypeId)(ho:o.op=.call ⟨.builtin .append,xs,ts⟩) :
 (eu T (ev s) s.ob o).holds fun d=>dW s n o.dst d=true->Step P n A o a w (s.app o.dst d):=by
 unfold eu
 rw[ho]
 simp only
 split
 ·rename_i x y t t' d hxs hts hd
  have ex:xs = #[x,y]:=by rw[<-Array.toArray_toList (xs:=xs),hxs]
  have et:ts = #[t,t']:=by rw[<-Array.toArray_toList (xs:=ts),hts]
  subst ex;subst et
  refine DR.bc fun hq=>?_
  rw[aA]at hq
  obtain⟨hkn,htt⟩:=hq
  obtain rfl:=aG htt
  have hx:=g.ev x
  have hy:=g.ev y
  split
  ·rename_i el p fs os hk hes
   refine DR.bc fun hq=>?_
   rw[aA]at hq
   obtain⟨hel,hpos⟩:=hq
   have hpos:0<(T el).bytes:=aZ hpos
   split
   ·rename_i m e
    split
    ·rename_i sz es hm
     refine DR.bc fun hz=>DR.im fun hp=>?_
     intro⟨hf,hb⟩ hn
     have hsl:=mE g.own g.agree hy hes hp
     have hz:=aG hz
     subst hz
     exact yt g hT o ho hkn hk hel hpos rfl e hm hsl hf hb hn
    ·trivial
   ·rename_i e
    rw[e]at hx
    refine DR.im fun hp=>?_
    intro⟨hf,hb⟩ hn
    have hsl:=mE g.own g.agree hy hes hp
    exact append_nil g hT o ho hkn hk hel hpos rfl (dT hx) hsl hf hb none (fun o h=>by cases h) rfl hn
   ·trivial
  ·trivial
 ·trivial
end
end Go.VL
namespace Go.VL
open Go Go.RowKit
section
variable {P:Program} {M:Mem} {β:Lo} {w w':World} {n:Nat} {A:kJ} {s:St} {a:Act}
theorem HN(g:dz n A s a w M β){T:fh}(hT:dw P T)(o:Oper) :
 (eu T (ev s) s.ob o).holds fun d=>dW s n o.dst d=true->Step P n A o a w (s.app o.dst d):=by
 have quiet:(eu T (ev s) s.ob o).holds (Quiet (sV P M β o a w))->(eu T (ev s) s.ob o).holds fun d=>dW s n o.dst d=true->Step P n A o a w (s.app o.dst d):=fun h=>mI g h
 have conv:∀(r:DR),eu T (ev s) s.ob o=r->r.holds (Quiet (sV P M β o a w))->(eu T (ev s) s.ob o).holds (Quiet (sV P M β o a w)):=fun r e h=>by rw[e];exact h
 cases ho:o.op with
 |move x=>exact quiet (conv _ (by unfold eu;rw[ho];try rfl) (Cc g o x (.inl ho)))
 |assign x=>exact quiet (conv _ (by unfold eu;rw[ho];try rfl) (Cc g o x (.inr ho)))
 |pick c x y=>exact quiet (conv _ (by unfold eu;rw[ho];try rfl) (Jz g o c x y ho))
 |binOp op t x y t'=>exact quiet (conv _ (by unfold eu;rw[ho];try rfl) (LD g hT o op t t' x y ho))
 |
  unOp op t x =>
  cases op with
  |not=>exact quiet (conv _ (by unfold eu;rw[ho];try rfl) (N8 g o t x ho))
  |neg=>exact quiet (conv _ (by unfold eu;rw[ho];try rfl) (Mu g o t x ho))
  |_=>unfold eu;rw[ho];trivial
 |nilCheck x=>exact quiet (conv _ (by unfold eu;rw[ho];try rfl) (M9 g o x ho))
 |fieldAddr t x f=>exact quiet (conv _ (by unfold eu;rw[ho];try rfl) (wN g hT o t f x ho))
 |field t x f=>exact quiet (conv _ (by unfold eu;rw[ho];try rfl) (EP g hT o t f x ho))
 |load t x=>exact quiet (conv _ (by unfold eu;rw[ho];try rfl) (IC g hT o t x ho))
 |indexAddr t x i=>exact quiet (conv _ (by unfold eu;rw[ho];try rfl) (w8 g hT o t x i ho))
 |index t x i=>exact quiet (conv _ (by unfold eu;rw[ho];try rfl) (Fj g hT o t x i ho))
 |extract x i=>exact quiet (conv _ (by unfold eu;rw[ho];try rfl) (AW g o x i ho))
 |
  slice t x lo hi mx =>
  cases mx with
  |none=>exact EG g hT o t x lo hi ho
  |some m=>unfold eu;rw[ho];trivial
 |convert st dt x=>exact quiet (Bu g hT o st dt x ho)
 |build t ps=>exact quiet (F6 g hT o t ps ho)
 |alloc t=>exact F5 g hT o t ho
 |box t x=>exact LA g hT o t x ho
 |store t x y=>exact FQ g hT o t x y ho
 |buildSlice t m ps=>exact vc g hT o t m ps ho
 |makeSlice t l c=>exact xG g hT o t l c ho
 |
  call c =>
  obtain⟨callee,xs,ts⟩:=c
  cases callee with
  |
   builtin b =>
   cases b with
   |len=>exact quiet (Oa g hT o xs ts ho)
   |append=>exact Ec g hT o xs ts ho
   |max=>exact quiet (PE g o xs ts ho)
   |min=>exact quiet (On g o xs ts ho)
   |_=>unfold eu;rw[ho];trivial
  |_=>unfold eu;rw[ho];trivial
 |
  makeFunc f fs cs =>
  cases f with
  |func f=>exact quiet (yx g o f fs cs ho)
  |_=>unfold eu;rw[ho];trivial
 |_=>unfold eu;rw[ho];trivial
end
end Go.VL
namespace Go.VL
open Go
abbrev yK:String:="internal/strconv.uint64pow10"
structure sR(P:Program)(M:Mem)(w:World):Prop where
 is:Lib.TabIs P w yK .u64 Lib.pow10Tab
 kn:∃g v,P.globalNamed yK=some g/\M.c g 0=some v
def ni(P:Program)(A:kJ):Prop:=sR P A.M0 A.w0/\∀b k v,A.M0.c b k=some v->¬A.wD b
theorem ni.at{P:Program}{A:kJ}{M:Mem}{w:World}(h:ni P A)(hk:BF A w)(hM:A.M0.le M):sR P M w:=by
 obtain⟨⟨his,g,v,hg,hc⟩,hI⟩:=h
 refine⟨?_,g,v,hg,hM.c _ _ _ hc⟩
 unfold Lib.TabIs World.var? at his |-
 rw[hg]at his |-
 simp only[aR]at his |-
 have hlt:g<A.w0.heap.size:=by
  rcases Nat.lt_or_ge g A.w0.heap.size with h|h
  ·exact h
  ·rw[Array.getElem?_eq_none h]at his;cases his
 rw[hk.block g hlt (hI _ _ _ hc)];exact his
theorem ni.of{P:Program}{A:kJ}(h:sR P A.M0 A.w0)(hI:∀b k v,A.M0.c b k=some v->¬A.wD b):ni P A:=⟨h,hI⟩
end Go.VL
namespace Go.VL
open Go Go.RowKit
structure Out(w:World)(M:Mem)(β:Lo)(m:Nat)(r:AV)(obs:List Ob)(v:Value)(w':World)(M':Mem)(β':Lo):Prop where
 le:M.le M'
 agree:iU M' w'
 rep:bJ M' β' r v
 own:∀j,j<obs.length->Own M' β' w' j (obs.getD j .dead)
 same:∀j b,j<m->β j=some (.cells b)->β' j=some (.cells b)
 zR:∀j l sz es,j<m->β j=some l->obs.getD j .dead=.ns sz es->β' j=some l
 apart:∀i j b,i≠j->i<obs.length->j<obs.length->(obs.getD i .dead).live=true->(obs.getD j .dead).live=true->eE β' i=some b->eE β' j≠some b
 place:∀j b,j<obs.length->(obs.getD j .dead).live=true->eE β' j=some b->w.heap.size<=b\/∃i,i<m/\eE β i=some b
 new:∀b k v,M'.c b k=some v->M.c b k=some v\/w.heap.size<=b\/∃i,i<m/\eE β i=some b
 cU:BF ⟨w,M,fun b=>∃i,i<m/\eE β i=some b,fun _=>none⟩ w'
def KI(P:Program)(f:Nat):Prop:=∃fn,P.funcs[f]?=some fn/\fn.body.isNone=false/\(fn.name=="runtime.NumGoroutine")=false
structure In(w:World)(M:Mem)(β:Lo)(asq:List AV)(ins:List Ob)(vs:List Value):Prop where
 len:vs.length=asq.length
 rep:∀i,i<asq.length->bJ M β (asq.getD i .any) (vs.getD i undef)
 agree:iU M w
 own:∀j,j<ins.length->Own M β w j (ins.getD j .dead)
 none:∀j,ins.length<=j->β j=none
 apart:∀i j b,i≠j->i<ins.length->j<ins.length->(ins.getD i .dead).live=true->(ins.getD j .dead).live=true->eE β i=some b->eE β j≠some b
def aq(P:Program)(f:Nat)(asq:List AV)(ins:List Ob)(R:AV->List Ob->Prop):Prop :=
 KI P f/\∀w M β vs,sR P M w->In w M β asq ins vs->Calls P f vs.toArray w fun e w'=>∃v r obs M' β',e=.returned v/\R r obs/\Out w M β ins.length r obs v w' M' β'
def I5(n:Nat)(A:kJ)(h:Shape)(xs:List AV)(obs:List Ob)(a:Act)(w:World):Prop:=∃s M β,dz n A s a w M β/\yf h s=some (xs,obs)
def oR(P:Program)(c:Code)(Q:Exit->Act->World->Prop)(a:Act)(w:World):Prop :=
 ∀X:Act->World->Prop,(∀a w,c.wp P (Exit.then X Q) a w->X a w)->X a w
theorem oR.HV{P:Program}{c:Code}{Q:Exit->Act->World->Prop}{a:Act}{w:World}(h:c.wp P (Exit.then (oR P c Q) Q) a w):oR P c Q a w:=by
 intro X hX
 refine hX a w (Code.wp_mono (fun e a w q=>?_) h)
 cases e<;>first|exact q|exact q X hX
theorem oR.wp{P:Program}{c:Code}{Q:Exit->Act->World->Prop}{a:Act}{w:World}(h:oR P c Q a w):(Code.loop c).wp P Q a w:=by
 intro b k cs
 have key:=h (fun a w=>∃e a' w',Q e a' w'/\Arrives P (lone (b.at a (.code c::.inLoop c::k)) cs w) b k cs e a' w') (by
  intro a w h
  obtain⟨e,a₁,w₁,hq,harr⟩:=h b (.inLoop c::k) cs
  cases e with
  |
   normal =>
   obtain⟨e₂,a₂,w₂,hq₂,harr₂⟩:=hq
   exact⟨e₂,a₂,w₂,hq₂,.of_steps (Steps.trans harr (.one step_inLoop)) harr₂⟩
  |exit id=>exact⟨_,a₁,w₁,hq,.pass (x:=.inLoop c) rfl (fun _ _=>.inl (by simp)) harr⟩
  |goto l=>exact⟨_,a₁,w₁,hq,.pass (x:=.inLoop c) rfl (fun _ _=>.inl (by simp)) harr⟩
  |ret=>exact⟨_,a₁,w₁,hq,.pass (x:=.inLoop c) rfl (fun _ _=>.inl (by simp)) harr⟩
  |panic ch=>exact⟨_,a₁,w₁,hq,.pass (x:=.inLoop c) rfl (fun _ _=>.inl (by simp)) harr⟩
  |outgrown=>exact⟨_,a₁,w₁,hq,.pass (x:=.inLoop c) rfl (fun _ _=>.inl (by simp)) harr⟩)
 obtain⟨e,a',w',hq,harr⟩:=key
 exact⟨e,a',w',hq,.of_steps (.one step_loop) harr⟩
def DB(n:Nat)(A:kJ)(li:LI)(R:Nat->List AV->List Ob->Prop):Exit->Act->World->Prop
 | .exit i,a,w=>i=li.ex/\∃ys o,R 1 ys o/\I5 n A li.xs ys o a w
 | .ret,a,w=>∃ys o,R 2 ys o/\I5 n A li.rt ys o a w
 |_,_,_=>False
def cF(P:Program)(n:Nat)(c:Code)(li:LI)(xs:List AV)(obs:List Ob)(R:Nat->List AV->List Ob->Prop):Prop :=
 ∀A a w,ni P A->(∀o b,A.fix o=some b->o∈li.fx)->I5 n A li.hd xs obs a w->oR P c (DB n A li R) a w
def fC(P:Program)(n:Nat):Tree->(Nat->List AV->List Ob->Prop)->Prop
 | .fail,_=>False
 | .done tag xs obs,Q=>Q tag xs obs
 | .test b y t,Q=>(b=true->fC P n y Q)/\(b=false->fC P n t Q)
 | .ai p t,Q=>p/\fC P n t Q
 | .call f asq ins k,Q=>∃R,aq P f asq ins R/\(∃r obs,R r obs)/\∀r obs,R r obs->fC P n (k r obs) Q
 | .loop c li xs obs kx kr,Q=>∃R,cF P n c li xs obs R/\(∀ys o,R 1 ys o->fC P n (kx ys o) Q)/\∀ys o,R 2 ys o->fC P n (kr ys o) Q
def ir:List Prop->Prop
 |[]=>True
 |p::ps=>p/\ir ps
theorem iB{P:Program}{n:Nat}{Q:Nat->List AV->List Ob->Prop}:∀{ps:List Prop} {t:Tree},fC P n (qi ps t) Q↔ir ps/\fC P n t Q
 |[],t=>by simp[qi,ir]
 |p::ps,t=>by simp[qi,ir,fC,iB (ps:=ps),and_assoc]
section
variable {P:Program} {M:Mem} {β:Lo} {w w':World} {n:Nat} {A:kJ} {s:St} {a:Act}
theorem pH{T:fh}(t:Nat){r:AV}{v:Value}{M':Mem}{β0 β':Lo}(h:bJ M' β0 r v)(hh:p9 (T t) r):bJ M' β' (nG (T t) r) v:=by
 unfold p9 at hh
 unfold nG
 cases ha:(T t).agg with
 |
  true =>
  simp only[ha,cond_true]at hh |-
  obtain⟨h1,h2,h3⟩:=hh
  rw[h1]at h
  obtain⟨vs,rfl,hl,hr,ho⟩:=gF h
  have hk:(T t).lk.length=r.cs.length:=h2.symm
  have e:vs=(bA (T t).lk.length).map fun i=>vs.getD i undef:=by
   apply List.ext_getElem
   ·simp[hk,hl]
   ·intro i h1 h2
    simp[aa,h1]
  rw[e]
  exact qF h3 (fun i hi=>ho i (by omega)) fun i hi=>lP (by simpa using hr i (by omega)) (l9 _ _ _ _ h3 hi)
 |
  false =>
  simp only[ha,cond_false]at hh |-
  exact LK.iZ (lP h hh) hh
theorem zK{T:fh}{oa:List CK}{M':Mem}{β0 β':Lo}{vs:List Value}{r:AV}:∀(ts:List Nat) (i j:Nat) (obs:List Ob) (nm:Nat),ir (eT T [] oa r ts i j obs nm).1->(∀q,q<ts.length->bJ M' β0 (r.comp (i+q)) (vs.getD (i+q) undef)) ->
 (eT T [] oa r ts i j obs nm).2.2=[]/\(eT T [] oa r ts i j obs nm).2.1.length=ts.length/\∀q,q<ts.length->bJ M' β' ((eT T [] oa r ts i j obs nm).2.1.getD q .any) (vs.getD (i+q) undef)
 |[],i,j,obs,nm,_,_=>⟨rfl,rfl,fun q hq=>by simp at hq⟩
 |
  t::ts,i,j,obs,nm,hp,hr=>by
  simp only[eT,List.any_nil,cond_false]at hp |-
  obtain⟨hp1,hp2⟩:=hp
  obtain⟨q1,q2,q3⟩:=zK (vs:=vs) (β':=β') ts (i+1) j obs nm hp2 fun q hq=>by
   have:=hr (q+1) (by simpa using hq)
   rw[show i+(q+1)=i+1+q by omega]at this
   exact this
  refine⟨q1,by simp[q2],fun q hq=>?_⟩
  cases q with
  |zero=>simpa using pH (β':=β') t (hr 0 (by simp)) hp1
  |
   succ q =>
   have:=q3 q (by simpa using hq)
   rw[show i+(q+1)=i+1+q by omega]
   simpa using this
theorem Ft{T:fh}{ow:List LK}{oa:List CK}{M':Mem}{β0 β':Lo}{v:Value}{r:AV}(t j:Nat)(obs:List Ob)(nm:Nat)(hp:ir (ep T [] ow oa t r j obs nm).1)(hr:bJ M' β0 r v) :
 (ep T [] ow oa t r j obs nm).2.2=[]/\bJ M' β' (ep T [] ow oa t r j obs nm).2.1 v:=by
 have plain:(∀ts,(T t).k≠.tuple ts)->(ep T [] ow oa t r j obs nm)=([p9 (T t) r],nG (T t) r,[]):=fun h=>by
  unfold ep
  cases hk:(T t).k<;>first|rfl|exact absurd hk (h _)
 by_cases htu:∃ts,(T t).k=.tuple ts
 ·obtain⟨ts,hk⟩:=htu
  cases ts with
  |
   nil =>
   have e:ep T [] ow oa t r j obs nm=([],.any,[]):=by unfold ep;rw[hk]
   rw[e];exact⟨rfl,.any _ _⟩
  |
   cons t1 tl =>
   have e:ep T [] ow oa t r j obs nm=(let q:=eT T [] oa r (t1::tl) 0 j obs nm;((r=.cm ((bA (t1::tl).length).map r.comp))::q.1,.cm q.2.1,q.2.2)):=by unfold ep;rw[hk]
   rw[e]at hp |-
   obtain⟨hp1,hp2⟩:=hp
   rw[hp1]at hr
   have:∃vs:List Value,v=.tuple vs.toArray/\((bA (t1::tl).length).map r.comp).length=vs.length/\∀i,i<((bA (t1::tl).length).map r.comp).length->bJ M' β0 (((bA (t1::tl).length).map r.comp).getD i .any) (vs.getD i undef):=by
    cases hr with|cm _ _ vs hl h=>exact⟨vs,rfl,hl,h⟩
   obtain⟨vs,rfl,hl,h⟩:=this
   simp only[cr,List.length_range]at hl h
   obtain⟨q1,q2,q3⟩:=zK (T:=T) (β':=β') (vs:=vs) (t1::tl) 0 j obs nm hp2 fun q hq=>by
    have:=h q hq
    rw[a8]
    have hq':q<tl.length+1:=by simpa using hq
    simpa[aa,List.getElem?_range hq']using this
   exact⟨q1,.cm _ _ _ (by rw[q2];exact hl) fun i hi=>by have:=q3 i (by omega);rw[a8]at this;exact this⟩
 ·rw[plain fun ts h=>htu ⟨ts,h⟩]at hp |-
  exact⟨rfl,pH t hr hp.1⟩
end
end Go.VL
namespace Go.VL
open Go Go.RowKit
section
variable {ob ob':Nat->Option Ob} {tm:Nat->AV}
theorem xw{f f':AV->Option (AV×List Nat)}(hf:∀c a os,f c=some (a,os)->(∀m,m∈os->ob' m=ob m)->f' c=some (a,os)):∀{cs asq:List AV} {os:List Nat},nV f cs=some (asq,os)->(∀m,m∈os->ob' m=ob m)->nV f' cs=some (asq,os)
 |[],asq,os,h,_=>h
 |
  c::cs,asq,os,h,hm=>by
  unfold nV at h
  split at h
  ·rename_i a1 o1 a2 o2 h1 h2
   cases h
   have q1:=hf _ _ _ h1 fun m h=>hm m (aD _ h)
   have q2:=xw hf h2 fun m h=>hm m (aB _ h)
   simp[nV,q1,q2]
  ·cases h
theorem nQ:∀(k:Nat) (c a:AV) (os:List Nat),freeze ob k c=some (a,os)->(∀m,m∈os->ob' m=ob m)->freeze ob' k c=some (a,os)
 |0,c,a,os,h,_=>by simp[freeze]at h
 |
  k+1,c,a,os,h,hm=>by
  have ih:=fun c a os=>nQ k c a os
  unfold freeze at h |-
  cases c<;>first|exact h|skip
  ·rename_i cs
   simp only at h |-
   cases e:nV (freeze ob k) cs with
   |none=>rw[e]at h;cases h
   |
    some r =>
    rw[e]at h
    simp only[cq,Option.some.injEq,Prod.mk.injEq]at h
    obtain⟨rfl,rfl⟩:=h
    rw[xw ih (by rw[e]) hm];rfl
  ·rename_i o j
   cases j with
   |succ j=>exact h
   |
    zero =>
    simp only at h |-
    have key:∀cs,(ob o=some (.cells cs)\/ob o=some (.i7 cs))->((nV (freeze ob k) cs).map fun r=>(AV.ptr r.1,o::r.2))=some (a,os)->ob' o=ob o/\(nV (freeze ob' k) cs).map (fun r=>(AV.ptr r.1,o::r.2))=some (a,os):=by
     intro cs _ h
     cases e:nV (freeze ob k) cs with
     |none=>rw[e]at h;cases h
     |
      some r =>
      rw[e]at h
      simp only[cq,Option.some.injEq,Prod.mk.injEq]at h
      obtain⟨rfl,rfl⟩:=h
      refine⟨hm o ak,?_⟩
      rw[xw ih (by rw[e]) fun m h=>hm m (al _ h)];rfl
    split at h
    ·rename_i cs ho
     obtain⟨q1,q2⟩:=key cs (.inl ho) h
     rw[q1,ho];exact q2
    ·rename_i cs ho
     obtain⟨q1,q2⟩:=key cs (.inr ho) h
     rw[q1,ho];exact q2
    ·cases h
  ·rename_i o
   simp only at h |-
   split at h
   ·rename_i sz es ho
    cases h
    rw[hm o ak,ho]
   ·rename_i es ho
    cases h
    rw[hm o ak,ho]
   ·cases h
theorem GB{c a:AV}(h:ext ob c=some a):ext ob' c=some a:=by
 unfold ext at h |-
 split at h
 ·rename_i a' h1
  cases h
  rw[nQ (ob:=ob) (ob':=ob') eY c a [] h1 fun m hm=>by cases hm]
 ·cases h
theorem mN:∀(ks:List CK) {cs asq:List AV} {obs:List Ob} {os:List Nat} {j:Nat},cj ob ks cs j=some (asq,obs,os)->(∀m,m∈os->ob' m=ob m)->cj ob' ks cs j=some (asq,obs,os)
 |
  [],cs,asq,obs,os,j,h,hm=>by
  cases cs with
  |nil=>exact h
  |cons c cs=>simp[cj]at h
 |
  .lk k::ks,cs,asq,obs,os,j,h,hm=>by
  cases cs with
  |nil=>simp[cj]at h
  |
   cons c cs =>
   simp only[cj]at h |-
   split at h
   ·rename_i h1 h2;cases h;rw[GB h1,mN ks h2 hm]
   ·cases h
 |
  .vec hsz::ks,cs,asq,obs,os,j,h,hm=>by
  cases cs with
  |nil=>simp[cj]at h
  |
   cons c cs =>
   cases c<;>first|(simp[cj]at h;done)|skip
   ·rename_i x
    cases x<;>first|(simp[cj]at h;done)|skip
    rename_i ad ln cp
    cases ad<;>first|(simp[cj]at h;done)|skip
    cases ln<;>first|(simp[cj]at h;done)|skip
    cases cp<;>first|(simp[cj]at h;done)|skip
    simp only[cj]at h |-
    split at h
    ·rename_i h2;cases h;rw[mN ks h2 fun m hh=>hm m (al _ hh)]
    ·cases h
   ·simp only[cj]at h |-
    split at h
    ·rename_i h1 h2;cases h;rw[hm _ ak,h1,mN ks h2 fun m hh=>hm m (al _ hh)]
    ·cases h
theorem zI:∀(cv:List (Nat×List CK)) {obs:List Ob} {os:List Nat},rI ob cv=some (obs,os)->(∀m,m∈os->ob' m=ob m)->rI ob' cv=some (obs,os)
 |[],obs,os,h,hm=>h
 |
  (o,ks)::r,obs,os,h,hm=>by
  simp only[rI]at h |-
  split at h
  ·rename_i cs ho
   split at h
   ·rename_i h1 h2
    cases h
    rw[hm o (by simp),ho]
    simp only
    rw[mN ks h1 fun m hh=>hm m (by simp[hh]),zI r h2 fun m hh=>hm m (by simp[hh])]
   ·cases h
  ·cases h
theorem wg:∀(vs:List (Nat×Nat)) {obs:List Ob} {os:List Nat},lR ob tm vs=some (obs,os)->(∀m,m∈os->ob' m=ob m)->lR ob' tm vs=some (obs,os)
 |[],obs,os,h,hm=>h
 |
  (t,sz)::r,obs,os,h,hm=>by
  simp only[lR]at h |-
  split at h
  ·split at h
   ·rename_i h2
    cases h
    rw[wg r h2 fun m hh=>hm m (al _ hh)]
   ·cases h
  ·split at h
   ·rename_i h1 h2
    cases h
    rw[hm _ ak,h1,wg r h2 fun m hh=>hm m (al _ hh)]
   ·cases h
  ·cases h
theorem Aw:∀(ags:List (Nat×List CK)) {xs:List AV} {obs:List Ob} {os:List Nat},rC ob tm ags=some (xs,obs,os)->(∀m,m∈os->ob' m=ob m)->rC ob' tm ags=some (xs,obs,os)
 |[],xs,obs,os,h,hm=>h
 |
  (t,ks)::r,xs,obs,os,h,hm=>by
  simp only[rC]at h |-
  split at h
  ·split at h
   ·rename_i h1 h2
    cases h
    rw[mN ks h1 fun m hh=>hm m (aD _ hh),Aw r h2 fun m hh=>hm m (aB _ hh)]
   ·cases h
  ·cases h
theorem Aa:∀(vs:List (Nat×Nat×Nat)) {obs:List Ob} {os:List Nat},s5 ob tm vs=some (obs,os)->(∀m,m∈os->ob' m=ob m)->s5 ob' tm vs=some (obs,os)
 |[],obs,os,h,hm=>h
 |
  (t,o,sz)::r,obs,os,h,hm=>by
  simp only[s5]at h |-
  split at h
  ·rename_i o' _
   split at h
   ·rename_i sz' es obs1 os1 h1 h2
    cases hb:(aN o' o&&aN sz' sz)with
    |false=>rw[hb]at h;cases h
    |
     true =>
     rw[hb]at h
     cases h
     rw[hm _ ak,h1,Aa r h2 fun m hh=>hm m (al _ hh)]
     simp only[hb,cond_true]
   ·cases h
  ·cases h
end
end Go.VL
namespace Go.VL
open Go Go.RowKit
section
variable {P:Program} {M:Mem} {β β2:Lo} {w w':World} {n:Nat} {A:kJ} {s:St} {a:Act}
structure gX(s:St)(w:World)(M:Mem)(β:Lo)(U:List Nat)(f:Nat->Option Ob)(β2:Lo):Prop where
 own:∀m x,f m=some x->Own M β2 w m x
 Ro:∀m,f m=none->β2 m=none
 src:∀m x b,f m=some x->x.live=true->eE β2 m=some b->∃o x0,o∈U/\s.ob o=some x0/\x0.live=true/\eE β o=some b
 apart:∀m m' x x' b,m≠m'->f m=some x->x.live=true->f m'=some x'->x'.live=true->eE β2 m=some b->eE β2 m'≠some b
theorem gX.nil:gX s w M β [] (fun _=>none) dG:=⟨fun m x h=>(by cases h),fun _ _=>rfl,fun m x b h=>(by cases h),fun m m' x x' b _ h=>(by cases h)⟩
theorem gX.le{U:List Nat}{f:Nat->Option Ob}(h:gX s w M β U f β2){m:Nat}(hm:f m=none)(l:Loc):Lo.le β2 (cO β2 m (some l)):=fun o q hq=>by
 by_cases ho:o=m
 ·subst ho;rw[h.Ro o hm]at hq;cases hq
 ·rw[bh _ _ _ _ ho];exact hq
theorem gX.add(g:dz n A s a w M β){U:List Nat}{f:Nat->Option Ob}(h:gX s w M β U f β2){m:Nat}(hm:f m=none){l:Loc}{x:Ob}(hx:Own M (cO β2 m (some l)) w m x)(o:Nat)(ho:o∉U)
 (hs:∀b,l.block=some b->∃x0,s.ob o=some x0/\x0.live=true/\eE β o=some b):gX s w M β (o::U) (cO f m (some x)) (cO β2 m (some l)):=by
 have hβ:=h.le hm l
 have hbd:∀q b,q≠m->eE (cO β2 m (some l)) q=some b->eE β2 q=some b:=fun q b hq hb=>by unfold eE at hb |-;rw[bh _ _ _ _ hq]at hb;exact hb
 have hdd:eE (cO β2 m (some l)) m=l.block:=by unfold eE;rw[aV];rfl
 have hf:∀q y,q≠m->cO f m (some x) q=some y->f q=some y:=fun q y hq hy=>by rw[bh _ _ _ _ hq]at hy;exact hy
 refine⟨fun q y hy=>?_,fun q hq=>?_,fun q y b hy hl hb=>?_,?_⟩
 ·by_cases e:q=m
  ·subst e;rw[aV]at hy;cases hy;exact hx
  ·exact(h.own q y (hf q y e hy)).mono (Mem.le.refl _) hβ fun b hl hb=>⟨rfl,(h.own q y (hf q y e hy)).DL hl hb⟩
 ·by_cases e:q=m
  ·subst e;rw[aV]at hq;cases hq
  ·rw[bh _ _ _ _ e]at hq |-;exact h.Ro q hq
 ·by_cases e:q=m
  ·subst e
   rw[hdd]at hb
   obtain⟨x0,h1,h2,h3⟩:=hs b hb
   exact⟨o,x0,ak,h1,h2,h3⟩
  ·obtain⟨o',x0,h1,h2⟩:=h.src q y b (hf q y e hy) hl (hbd q b e hb)
   exact⟨o',x0,al _ h1,h2⟩
 ·have key:∀q y b,q≠m->f q=some y->y.live=true->eE β2 q=some b->l.block≠some b:=fun q y b hq hy hl hb hb'=>by
   obtain⟨o',x0,h1,h2,h3,h4⟩:=h.src q y b hy hl hb
   obtain⟨x1,h5,h6,h7⟩:=hs b hb'
   exact g.apart o o' x1 x0 b (fun e=>ho (by rw[e];exact h1)) h5 h6 h2 h3 h7 h4
  intro q q' y y' b hne hy hl hy' hl' hb hb'
  by_cases e:q=m
  ·subst e
   rw[hdd]at hb
   exact key q' y' b (Ne.symm hne) (hf q' y' (Ne.symm hne) hy') hl' (hbd q' b (Ne.symm hne) hb') hb
  ·by_cases e':q'=m
   ·subst e'
    rw[hdd]at hb'
    exact key q y b e (hf q y e hy) hl (hbd q b e hb) hb'
   ·exact h.apart q q' y y' b hne (hf q y e hy) hl (hf q' y' e' hy') hl' (hbd q b e hb) (hbd q' b e' hb')
theorem gX.Vm(g:dz n A s a w M β){U:List Nat}{f:Nat->Option Ob}(h:gX s w M β U f β2)(hfix:∀o b,A.fix o=some b->(f o).isSome=true/\β2 o=some b){tm:Nat->AV}(ht:∀t,bJ M β2 (tm t) (a.tmps.getD t undef)) :
 dz n A {tm:=tm,ob:=f,us:=fun x=>(f x).isSome} a w M β2 :=
 {
  size:=g.size,defs:=g.defs,tm:=ht,le:=g.le,new:=g.new,agree:=g.agree,own:=h.own,
  place:=fun o x b hx hl hb=>by obtain⟨o',x0,_,h2,h3,h4⟩:=h.src o x b hx hl hb;exact g.place o' x0 b h2 h3 h4
  apart:=h.apart
  us:=fun o hu=>by
   have:f o=none:=by simpa using hu
   exact⟨h.Ro o this,this⟩
  fix:=fun o b hf=>⟨(hfix o b hf).1,fun _ _=>(hfix o b hf).2⟩
  cU:=g.cU}
theorem gX.vec(g:dz n A s a w M β){U:List Nat}{f:Nat->Option Ob}(h:gX s w M β U f β2){m o sz:Nat}{es:List (List AV)}(hm:f m=none)(ho:o∉U)(hx:s.ob o=some (.vec sz es)) :
 ∃β3,gX s w M β (o::U) (cO f m (some (.vec sz es))) β3/\Lo.le β2 β3/\(∀v,bJ M β (.vec o) v->bJ M β3 (.vec m) v)/\β3 m=β o:=by
 obtain⟨v,h1,h2,h3⟩:=g.own o _ hx
 refine⟨cO β2 m (some (.vec v sz)),h.add g hm (l:=.vec v sz) (x:=.vec sz es) ⟨v,aV _ _ _,h2,h3⟩ o ho (fun b hb=>⟨_,hx,rfl,by simp[eE,h1];exact hb⟩),h.le hm _,fun u hu=>?_,by rw[aV,h1]⟩
 cases hu with
 |vec _ _ _ sz' hov hb=>rw[h1]at hb;cases hb;exact .vec _ _ _ _ hov (aV _ _ _)
theorem gX.obj(g:dz n A s a w M β){U:List Nat}{f:Nat->Option Ob}(h:gX s w M β U f β2){m o:Nat}{cs asq:List AV}(hm:f m=none)(ho:o∉U)(hx:s.ob o=some (.cells cs))(hl:asq.length=cs.length)
 (hr:∀i v,i<cs.length->bJ M β (cs.getD i .any) v->bJ M dG (asq.getD i .any) v) :
 ∃β3,gX s w M β (o::U) (cO f m (some (.cells asq))) β3/\Lo.le β2 β3/\∀v,bJ M β (.ref o 0) v->bJ M β3 (.ref m 0) v:=by
 obtain⟨b,vs,e,h1,h2,h3,h4,h5,h6⟩:=g.own o _ hx
 refine⟨cO β2 m (some (.cells b)),h.add g hm (l:=.cells b) (x:=.cells asq) ⟨b,vs,e,aV _ _ _,h2,by omega,fun i hi=>(hr i _ (by omega) (h4 i (by omega))).up,h5,h6⟩ o ho (fun b' hb=>⟨_,hx,rfl,by simp[eE,h1];exact hb⟩),h.le hm _,fun u hu=>?_⟩
 cases hu with
 |ref _ _ _ b' hb=>rw[h1]at hb;cases hb;exact .ref _ _ _ _ (aV _ _ _)
theorem gX.vM(g:dz n A s a w M β){U:List Nat}{f:Nat->Option Ob}(h:gX s w M β U f β2){m o sz:Nat}(hm:f m=none)(ho:o∉U) :
 ∃β3,gX s w M β (o::U) (cO f m (some (.vec sz []))) β3/\Lo.le β2 β3/\bJ M β3 (.vec m) (.slice none 0 0) :=
 ⟨cO β2 m (some (.vec (.slice none 0 0) sz)),h.add g hm (l:=.vec (.slice none 0 0) sz) (x:=.vec sz []) ⟨_,aV _ _ _,fun i hi=>by simp at hi,.inl ⟨rfl,rfl⟩⟩ o ho (fun b hb=>by simp[Loc.block]at hb),h.le hm _,.vec _ _ _ _ rfl (aV _ _ _)⟩
theorem nodup_cons{x:Nat}{l:List Nat}(h:nodup (x::l)=true):x∉l/\nodup l=true:=by
 simp only[nodup,aA,cy]at h
 refine⟨fun hx=>?_,h.2⟩
 have:=h.1
 rw[List.any_eq_false]at this
 exact this x hx (Nat.beq_refl x)
theorem fj{l r:List Nat}(h:nodup (l++r)=true):nodup l=true/\nodup r=true/\∀x,x∈l->x∉r:=by
 induction l with
 |nil=>exact⟨rfl,h,fun x hx=>by cases hx⟩
 |
  cons y l ih =>
  obtain⟨h1,h2⟩:=nodup_cons h
  obtain⟨q1,q2,q3⟩:=ih h2
  refine⟨?_,q2,fun x hx=>?_⟩
  ·simp only[nodup,aA,cy,List.any_eq_false]
   exact⟨fun z hz e=>h1 (aD _ (by rw[aG e];exact hz)),q1⟩
  ·rcases aI.1 hx with rfl|hx
   ·exact fun hr=>h1 (aB _ hr)
   ·exact q3 x hx
theorem pJ(g:dz n A s a w M β):∀(ks:List CK) {cs asq:List AV} {obs:List Ob} {os:List Nat} {j:Nat},cj s.ob ks cs j=some (asq,obs,os) ->
 ∀{U:List Nat} {f:Nat->Option Ob} {β2:Lo} {full:List AV} {i nm:Nat} {rest:List Ob},gX s w M β U f β2->(∀q,q<ks.length->full.getD (i+q) .any=(fX ks asq).getD q .any)->ae ks full i (obs++rest)->(∀m,nm<=m->f m=none)->nodup os=true->(∀o,o∈os->o∉U) ->
 ∃β3 U',gX s w M β U' (cS f (bZ ks full i (obs++rest) nm).2.1) β3/\Lo.le β2 β3/\(∀o,o∈U'->o∈os\/o∈U)/\(bZ ks full i (obs++rest) nm).2.2=(rest,nm+bV ks)/\(bZ ks full i (obs++rest) nm).1.length=cs.length /\
  (∀q v,q<cs.length->bJ M β (cs.getD q .any) v->bJ M β3 ((bZ ks full i (obs++rest) nm).1.getD q .any) v)/\(∀m,nm+bV ks<=m->cS f (bZ ks full i (obs++rest) nm).2.1 m=none)/\(∀m,m<nm->cS f (bZ ks full i (obs++rest) nm).2.1 m=f m)/\full.length=i+ks.length/\ks.length=cs.length
 |
  [],cs,asq,obs,os,j,h,U,f,β2,full,i,nm,rest,hB,hfull,hk,hnm,hnd,hU=>by
  cases cs with
  |
   nil =>
   simp only[cj,Option.some.injEq,Prod.mk.injEq]at h
   obtain⟨rfl,rfl,rfl⟩:=h
   exact⟨β2,U,hB,Lo.le.refl _,fun o ho=>.inr ho,rfl,rfl,fun q v hq=>by simp at hq,fun m hm=>hnm m (by simpa[bV]using hm),fun m _=>rfl,hk,rfl⟩
  |cons c cs=>simp[cj]at h
 |
  .lk k::ks,cs,asq,obs,os,j,h,U,f,β2,full,i,nm,rest,hB,hfull,hk,hnm,hnd,hU=>by
  cases cs with
  |nil=>simp[cj]at h
  |
   cons c cs =>
   simp only[cj]at h
   split at h
   ·rename_i a1 as1 obs1 os1 h1 h2
    cases h
    obtain⟨hk1,hk2⟩:=hk
    have e0:full.getD i .any=a1:=by simpa[fX]using hfull 0 (by simp)
    obtain⟨β3,U',b1,b2,b3,b4,b5,b6,b7,b8,b9,b10⟩:=pJ g ks h2 (i:=i+1) (nm:=nm) (full:=full) hB (fun q hq=>by
     have:=hfull (q+1) (by simpa using hq)
     rw[show i+(q+1)=i+1+q by omega]at this
     simpa[fX]using this) hk2 hnm hnd hU
    refine⟨β3,U',b1,b2,b3,b4,by simp[bZ,b5],fun q v hq hr=>?_,b7,b8,by simp;omega,by simp[b10]⟩
    cases q with
    |
     zero =>
     have hr':bJ M dG a1 v:=yj h1 (by simpa using hr)
     rw[e0]at hk1
     show bJ M β3 ((k.cast (full.getD i .any)::_).getD 0 .any) v
     rw[bF,e0]
     exact LK.iZ (β:=β3) hr' hk1
    |succ q=>simpa[bZ]using b6 q v (by simpa using hq) (by simpa using hr)
   ·cases h
 |
  .vec hsz::ks,cs,asq,obs,os,j,h,U,f,β2,full,i,nm,rest,hB,hfull,hk,hnm,hnd,hU=>by
  cases cs with
  |nil=>simp[cj]at h
  |
   cons c cs =>
   have cont:∀(es:List (List AV)) (o:Nat) (as1:List AV) (obs1:List Ob) (os1:List Nat),cj s.ob ks cs (j+1)=some (as1,obs1,os1)->asq=.vec j::as1->obs=.vec hsz es::obs1->os=o::os1->(∃β3,gX s w M β (o::U) (cO f nm (some (.vec hsz es))) β3/\Lo.le β2 β3/\∀v,bJ M β c v->bJ M β3 (.vec nm) v) ->
    ∃β3 U',gX s w M β U' (cS f (bZ (.vec hsz::ks) full i (obs++rest) nm).2.1) β3/\Lo.le β2 β3/\(∀o,o∈U'->o∈os\/o∈U)/\(bZ (.vec hsz::ks) full i (obs++rest) nm).2.2=(rest,nm+bV (.vec hsz::ks))/\(bZ (.vec hsz::ks) full i (obs++rest) nm).1.length=(c::cs).length /\
   (∀q v,q<(c::cs).length->bJ M β ((c::cs).getD q .any) v->bJ M β3 ((bZ (.vec hsz::ks) full i (obs++rest) nm).1.getD q .any) v)/\(∀m,nm+bV (.vec hsz::ks)<=m->cS f (bZ (.vec hsz::ks) full i (obs++rest) nm).2.1 m=none)/\(∀m,m<nm->cS f (bZ (.vec hsz::ks) full i (obs++rest) nm).2.1 m=f m)/\full.length=i+(CK.vec hsz::ks).length/\(CK.vec hsz::ks).length=(c::cs).length:=by
    intro es o as1 obs1 os1 h2 ea eo eos ⟨β3,c1,c2,c3⟩
    subst ea;subst eo;subst eos
    obtain⟨n1,n2⟩:=nodup_cons hnd
    obtain⟨β4,U',b1,b2,b3,b4,b5,b6,b7,b8,b9,b10⟩:=pJ g ks h2 (i:=i+1) (nm:=nm+1) (full:=full) (rest:=rest) c1 (fun q hq=>by
     have:=hfull (q+1) (by simpa using hq)
     rw[show i+(q+1)=i+1+q by omega]at this
     simpa[fX]using this) hk.2 (fun m hm=>by rw[bh _ _ _ _ (by omega)];exact hnm m (by omega)) n2 (fun q hq=>by
      intro hh
      rcases aI.1 hh with rfl|hh
      ·exact n1 hq
      ·exact hU q (al _ hq) hh)
    have eb:bZ (.vec hsz::ks) full i ((.vec hsz es::obs1)++rest) nm=(.vec nm::(bZ ks full (i+1) (obs1++rest) (nm+1)).1,(nm,some (.vec hsz es))::(bZ ks full (i+1) (obs1++rest) (nm+1)).2.1,(bZ ks full (i+1) (obs1++rest) (nm+1)).2.2):=rfl
    rw[eb]
    refine⟨β4,U',b1,fun o l hl=>b2 o l (c2 o l hl),fun q hq=>?_,?_,by simp[b5],fun q v hq hr=>?_,fun m hm=>?_,fun m hm=>?_,by simp;omega,by simp[b10]⟩
    ·rcases b3 q hq with h|h
     ·exact .inl (al _ h)
     ·rcases aI.1 h with rfl|h
      ·exact .inl ak
      ·exact .inr h
    ·simp only[b4,bV];congr 1;omega
    ·cases q with
     |zero=>simpa using(c3 v (by simpa using hr)).mono (Mem.le.refl _) b2
     |succ q=>simpa using b6 q v (by simpa using hq) (by simpa using hr)
    ·exact b7 m (by simp only[bV]at hm;omega)
    ·have:=b8 m (by omega)
     rw[bh _ _ _ _ (by omega)]at this
     exact this
   cases c<;>first|(simp[cj]at h;done)|skip
   ·rename_i x
    cases x<;>first|(simp[cj]at h;done)|skip
    rename_i ad ln cp
    cases ad<;>first|(simp[cj]at h;done)|skip
    cases ln<;>first|(simp[cj]at h;done)|skip
    cases cp<;>first|(simp[cj]at h;done)|skip
    simp only[cj]at h
    split at h
    ·rename_i as1 obs1 os1 h2
     cases h
     obtain⟨β3,c1,c2,c3⟩:=gX.vM g hB (m:=nm) (o:=fm+j) (sz:=hsz) (hnm nm (au _)) (hU _ ak)
     exact cont [] _ as1 obs1 os1 h2 rfl rfl rfl ⟨β3,c1,c2,fun v hv=>by rw[dT hv];exact c3⟩
    ·cases h
   ·rename_i o
    simp only[cj]at h
    split at h
    ·rename_i sz es as1 obs1 os1 h1 h2
     cases h
     have e1:sz=hsz:=by
      have:=hk.1
      simp only[bf,aK,Ob.vec.injEq]at this
      exact this.1
     subst e1
     obtain⟨β3,c1,c2,c3,c4⟩:=gX.vec g hB (m:=nm) (hnm nm (au _)) (hU _ ak) h1
     exact cont es o as1 obs1 os1 h2 rfl rfl rfl ⟨β3,c1,c2,c3⟩
    ·cases h
end
end Go.VL
namespace Go.VL
open Go Go.RowKit
section
variable {P:Program} {M:Mem} {β β2:Lo} {w w':World} {n:Nat} {A:kJ} {s:St} {a:Act}
theorem jv{ob:Nat->Option Ob}:∀(ks:List CK) {cs asq:List AV} {obs:List Ob} {os:List Nat} {j:Nat},cj ob ks cs j=some (asq,obs,os)->obs.length=bV ks
 |
  [],cs,asq,obs,os,j,h=>by
  cases cs with
  |nil=>simp only[cj,Option.some.injEq,Prod.mk.injEq]at h;obtain⟨rfl,rfl,rfl⟩:=h;rfl
  |cons c cs=>simp[cj]at h
 |
  .lk k::ks,cs,asq,obs,os,j,h=>by
  cases cs with
  |nil=>simp[cj]at h
  |
   cons c cs =>
   simp only[cj]at h
   split at h
   ·rename_i h1 h2;cases h;exact jv ks h2
   ·cases h
 |
  .vec hsz::ks,cs,asq,obs,os,j,h=>by
  cases cs with
  |nil=>simp[cj]at h
  |
   cons c cs =>
   cases c<;>first|(simp[cj]at h;done)|skip
   ·rename_i x
    cases x<;>first|(simp[cj]at h;done)|skip
    rename_i ad ln cp
    cases ad<;>first|(simp[cj]at h;done)|skip
    cases ln<;>first|(simp[cj]at h;done)|skip
    cases cp<;>first|(simp[cj]at h;done)|skip
    simp only[cj]at h
    split at h
    ·rename_i h2;cases h;simp[bV,jv ks h2]
    ·cases h
   ·simp only[cj]at h
    split at h
    ·rename_i h1 h2;cases h;simp[bV,jv ks h2]
    ·cases h
theorem zV(g:dz n A s a w M β):∀(cv:List (Nat×List CK)) {obs:List Ob} {os:List Nat},rI s.ob cv=some (obs,os)->∀{U:List Nat} {f:Nat->Option Ob} {β2:Lo} {nm:Nat} {rest:List Ob},
 gX s w M β U f β2->ir (vB cv (obs++rest))->(∀m,nm<=m->f m=none)->(∀p,p∈cv->f p.1=none/\p.1<nm)->nodup (cv.map (·.1))=true->nodup os=true->(∀o,o∈os->o∉U) ->
 ∃β3 U',gX s w M β U' (sP cv (obs++rest) f nm).1 β3/\Lo.le β2 β3/\(∀o,o∈U'->o∈os\/o∈U)/\(sP cv (obs++rest) f nm).2=rest/\(∀p,p∈cv->∃b,β p.1=some (.cells b)/\β3 p.1=some (.cells b)/\(∃x,s.ob p.1=some x)/\((sP cv (obs++rest) f nm).1 p.1).isSome=true)/\(∀m,nm+nP cv<=m->(sP cv (obs++rest) f nm).1 m=none)/\obs.length=Ep cv /\
  (∀m,(f m).isSome=true->((sP cv (obs++rest) f nm).1 m).isSome=true)
 |
  [],obs,os,h,U,f,β2,nm,rest,hB,hp,hnm,hf,hnd,hno,hU=>by
  simp only[rI,Option.some.injEq,Prod.mk.injEq]at h
  obtain⟨rfl,rfl⟩:=h
  exact⟨β2,U,hB,Lo.le.refl _,fun o ho=>.inr ho,rfl,fun p hp=>(by cases hp),fun m hm=>hnm m (by simpa[nP]using hm),rfl,fun m hm=>hm⟩
 |
  (o,ks)::r,obs,os,h,U,f,β2,nm,rest,hB,hp,hnm,hf,hnd,hno,hU=>by
  simp only[rI]at h
  split at h
  ·rename_i cs ho
   split at h
   ·rename_i asq obs1 os1 obs' os' h1 h2
    cases h
    have hl1:=jv ks h1
    have eo:((.cells (fX ks asq)::obs1++obs')++rest:List Ob)=.cells (fX ks asq)::(obs1++(obs'++rest)):=by simp
    rw[eo]at hp |-
    obtain⟨_,hp2,hp3⟩:=hp
    simp only[aK,bB,Ob.cs]at hp2 hp3
    have hdrop:(obs1++(obs'++rest)).drop (bV ks)=obs'++rest:=by rw[<-hl1];simp
    rw[hdrop]at hp3
    have hno':nodup (o::(os1++os'))=true:=by simpa using hno
    obtain⟨n1,n2⟩:=nodup_cons hno'
    obtain⟨n3,n4,n5⟩:=fj n2
    have hnd':nodup (o::r.map (·.1))=true:=hnd
    obtain⟨d1,d2⟩:=nodup_cons hnd'
    obtain⟨hfo,hlo⟩:=hf (o,ks) ak
    simp only at hfo hlo
    obtain⟨β3,U1,b1,b2,b3,b4,b5,b6,b7,b8,b9,b10⟩:=pJ g ks h1 (U:=U) (f:=f) (β2:=β2) (full:=fX ks asq) (i:=0) (nm:=nm) (rest:=obs'++rest) hB (fun q _=>by rw[a8]) hp2 hnm n3 (fun q hq=>hU q (by simp[hq]))
    obtain⟨b,vs,e,q1,q2,q3,q4,q5,q6⟩:=g.own o _ ho
    have hfo':cS f (bZ ks (fX ks asq) 0 (obs1++(obs'++rest)) nm).2.1 o=none:=by rw[b8 o hlo];exact hfo
    have hB2:=b1.add g hfo' (l:=.cells b) (x:=.cells (bZ ks (fX ks asq) 0 (obs1++(obs'++rest)) nm).1)
     ⟨b,vs,e,aV _ _ _,q2,by rw[q3,b5],fun i hi=>(b6 i _ (by omega) (q4 i (by omega))).mono (Mem.le.refl _) (b1.le hfo' _),q5,q6⟩ o
     (fun hh=>by
      rcases b3 o hh with h|h
      ·exact n1 (aD _ h)
      ·exact hU o (by simp) h)
     (fun b' hb'=>by
      simp only[Loc.block,Option.some.injEq]at hb'
      subst hb'
      exact⟨_,ho,rfl,by simp[eE,q1,Loc.block]⟩)
    obtain⟨β4,U2,c1,c2,c3,c4,c5,c6,c7,c8⟩:=zV g r h2 (rest:=rest) (nm:=nm+bV ks) hB2 hp3 (fun m hm=>by
     rw[bh _ _ _ _ (by omega)];exact b7 m hm) (fun p hp=>by
     obtain⟨r1,r2⟩:=hf p (al _ hp)
     have hne:p.1≠o:=fun e=>d1 (by rw[<-e];exact bM.2 ⟨p,hp,rfl⟩)
     exact⟨by rw[bh _ _ _ _ hne,b8 _ r2];exact r1,by omega⟩) d2 n4 (fun q hq hh=>by
     rcases aI.1 hh with rfl|hh
     ·exact n1 (aB _ hq)
     ·rcases b3 q hh with h|h
      ·exact n5 q h hq
      ·exact hU q (by simp[hq]) h)
    have em:sP ((o,ks)::r) (.cells (fX ks asq)::(obs1++(obs'++rest))) f nm=sP r (bZ ks (fX ks asq) 0 (obs1++(obs'++rest)) nm).2.2.1 (cO (cS f (bZ ks (fX ks asq) 0 (obs1++(obs'++rest)) nm).2.1) o (some (.cells (bZ ks (fX ks asq) 0 (obs1++(obs'++rest)) nm).1))) (bZ ks (fX ks asq) 0 (obs1++(obs'++rest)) nm).2.2.2:=rfl
    rw[em,b4]
    refine⟨β4,U2,c1,fun q l hl=>c2 q l (b1.le hfo' _ q l (b2 q l hl)),fun q hq=>?_,c4,fun p hp=>?_,fun m hm=>c6 m (by simp only[nP]at hm;omega),by simp[Ep,hl1,c7];omega,fun m hm=>c8 m ?_⟩
    ·rcases c3 q hq with h|h
     ·exact .inl (by simp[h])
     ·rcases aI.1 h with rfl|h
      ·exact .inl (by simp)
      ·rcases b3 q h with h|h
       ·exact .inl (by simp[h])
       ·exact .inr h
    ·rcases aI.1 hp with rfl|hp
     ·exact⟨b,q1,c2 _ _ (aV _ _ _),⟨_,ho⟩,c8 _ (by rw[aV];rfl)⟩
     ·exact c5 p hp
    ·by_cases e:m=o
     ·subst e;rw[aV];rfl
     ·rw[bh _ _ _ _ e]
      have:m<nm:=by
       rcases Nat.lt_or_ge m nm with h|h
       ·exact h
       ·rw[hnm m h]at hm;cases hm
      rw[b8 m this];exact hm
   ·cases h
  ·cases h
theorem zg(g:dz n A s a w M β):∀(eV:List (Nat×Nat)) {obs:List Ob} {os:List Nat},lR s.ob s.tm eV=some (obs,os)->∀{U:List Nat} {f:Nat->Option Ob} {β2:Lo} {nm:Nat} {tm:Nat->AV},
 gX s w M β U f β2->ir (oL eV obs)->(∀m,nm<=m->f m=none)->nodup os=true->(∀o,o∈os->o∉U)->(∀t,bJ M β2 (tm t) (a.tmps.getD t undef)) ->
 ∀{rest:List Ob},∃β3 U',gX s w M β U' (rU eV (obs++rest) tm f nm).2 β3/\(∀t,bJ M β3 ((rU eV (obs++rest) tm f nm).1 t) (a.tmps.getD t undef))/\Lo.le β2 β3/\(∀o,o∈U'->o∈os\/o∈U)/\(∀m,m<nm->(rU eV (obs++rest) tm f nm).2 m=f m)/\(∀m,nm+eV.length<=m->(rU eV (obs++rest) tm f nm).2 m=none)/\obs.length=eV.length
 |
  [],obs,os,h,U,f,β2,nm,tm,hB,hp,hnm,hno,hU,ht,rest=>by
  simp only[lR,Option.some.injEq,Prod.mk.injEq]at h
  obtain⟨rfl,rfl⟩:=h
  exact⟨β2,U,hB,ht,Lo.le.refl _,fun o ho=>.inr ho,fun m _=>rfl,fun m hm=>hnm m (by simpa using hm),rfl⟩
 |
  (t,sz)::r,obs,os,h,U,f,β2,nm,tm,hB,hp,hnm,hno,hU,ht,rest=>by
  have cont:∀(o:Nat) (es:List (List AV)) (obs1:List Ob) (os1:List Nat),lR s.ob s.tm r=some (obs1,os1)->obs=.vec sz es::obs1->os=o::os1->(∃β3,gX s w M β (o::U) (cO f nm (some (.vec sz es))) β3/\Lo.le β2 β3/\bJ M β3 (.vec nm) (a.tmps.getD t undef)) ->
   ∃β3 U',gX s w M β U' (rU ((t,sz)::r) (obs++rest) tm f nm).2 β3/\(∀q,bJ M β3 ((rU ((t,sz)::r) (obs++rest) tm f nm).1 q) (a.tmps.getD q undef))/\Lo.le β2 β3/\(∀o,o∈U'->o∈os\/o∈U)/\(∀m,m<nm->(rU ((t,sz)::r) (obs++rest) tm f nm).2 m=f m)/\(∀m,nm+((t,sz)::r).length<=m->(rU ((t,sz)::r) (obs++rest) tm f nm).2 m=none)/\obs.length=((t,sz)::r).length:=by
   intro o es obs1 os1 h2 eo eos ⟨β3,c1,c2,c3⟩
   subst eo;subst eos
   obtain⟨n1,n2⟩:=nodup_cons hno
   obtain⟨β4,U',d1,d2,d3,d4,d5,d6,d7⟩:=zg g r h2 (nm:=nm+1) (tm:=cO tm t (.vec nm)) c1 hp.2 (fun m hm=>by rw[bh _ _ _ _ (by omega)];exact hnm m (by omega)) n2 (fun q hq hh=>by
    rcases aI.1 hh with rfl|hh
    ·exact n1 hq
    ·exact hU q (al _ hq) hh) (fun q=>by
    by_cases e:q=t
    ·subst e;rw[aV];exact c3
    ·rw[bh _ _ _ _ e];exact(ht q).mono (Mem.le.refl _) c2) (rest:=rest)
   have ev:rU ((t,sz)::r) ((.vec sz es::obs1)++rest) tm f nm=rU r (obs1++rest) (cO tm t (.vec nm)) (cO f nm (some (.vec sz es))) (nm+1):=rfl
   rw[ev]
   refine⟨β4,U',d1,d2,fun q l hl=>d3 q l (c2 q l hl),fun q hq=>?_,fun m hm=>?_,fun m hm=>d6 m (by simp at hm;omega),by simp[d7]⟩
   ·rcases d4 q hq with hh|hh
    ·exact .inl (al _ hh)
    ·rcases aI.1 hh with rfl|hh
     ·exact .inl ak
     ·exact .inr hh
   ·rw[d5 m (by omega),bh _ _ _ _ (by omega)]
  simp only[lR]at h
  split at h
  ·rename_i e
   split at h
   ·rename_i obs1 os1 h2
    cases h
    obtain⟨β3,c1,c2,c3⟩:=gX.vM g hB (m:=nm) (o:=2*fm+t) (sz:=sz) (hnm nm (au _)) (hU _ ak)
    have hv:=g.tm t
    rw[e]at hv
    exact cont _ [] obs1 os1 h2 rfl rfl ⟨β3,c1,c2,by rw[dT hv];exact c3⟩
   ·cases h
  ·rename_i o e
   split at h
   ·rename_i sz' es obs1 os1 h1 h2
    cases h
    have e1:sz'=sz:=by
     have:=hp.1
     simp only[aK,Ob.vec.injEq]at this
     exact this.1
    subst e1
    obtain⟨β3,c1,c2,c3,c4⟩:=gX.vec g hB (m:=nm) (hnm nm (au _)) (hU _ ak) h1
    have hv:=g.tm t
    rw[e]at hv
    exact cont o es obs1 os1 h2 rfl rfl ⟨β3,c1,c2,c3 _ hv⟩
   ·cases h
  ·cases h
theorem SK.iZ{β0:Lo}{k:SK}{a:AV}{v:Value}(h:bJ M dG a v)(hk:k.has a):bJ M β0 (k.cast a) v:=by
 cases k with
 |k k=>exact LK.iZ h hk
 |
  agg ks =>
  obtain⟨h1,h2,h3⟩:=hk
  rw[h1]at h
  obtain⟨vs,rfl,hl,hr,ho⟩:=gF h
  have e:vs=(bA ks.length).map fun i=>vs.getD i undef:=by
   apply List.ext_getElem
   ·simp;omega
   ·intro i h1 h2
    simp[aa,h1]
  show bJ M β0 (.agg (j9 ks a.cs 0)) (.agg vs.toArray)
  rw[e]
  exact qF h3 (fun i hi=>ho i (by omega)) fun i hi=>by simpa using hr i (by omega)
 |c u=>rw[hk]at h;rw[dT h];exact .v _ _
theorem Ag{β0:Lo}(g:dz n A s a w M β){ob0:Nat->Option Ob}:∀(sl:List (Nat×SK)) {xs:List AV} {fz:List Nat},um ob0 s.tm sl=some (xs,fz)->Fz M β w ob0 fz->ir (pn sl xs)->∀{tm:Nat->AV},(∀t,bJ M β0 (tm t) (a.tmps.getD t undef))->∀t,bJ M β0 (yD sl xs tm t) (a.tmps.getD t undef)
 |[],xs,fz,h,hz,hp,tm,ht=>ht
 |
  (t,k)::r,xs,fz,h,hz,hp,tm,ht=>by
  simp only[um]at h
  split at h
  ·rename_i x f asq fs h1 h2
   cases h
   refine Ag g r h2 hz.right hp.2 fun q=>?_
   by_cases e:q=t
   ·subst e;rw[aV];exact SK.iZ (iE _ _ _ _ _ h1 hz.left (g.tm q)) hp.1
   ·rw[bh _ _ _ _ e];exact ht q
  ·cases h
theorem Ax{β0:Lo}(g:dz n A s a w M β):∀(rf:List (Nat×Nat)),xl s.tm rf=true->(∀p,p∈rf->∀b,β p.2=some (.cells b)->β0 p.2=some (.cells b))->∀{tm:Nat->AV},(∀t,bJ M β0 (tm t) (a.tmps.getD t undef))->∀t,bJ M β0 (ER rf tm t) (a.tmps.getD t undef)
 |[],h,hb,tm,ht=>ht
 |
  (t,o)::r,h,hb,tm,ht=>by
  simp only[xl,aA]at h
  refine Ax g r h.2 (fun p hp=>hb p (al _ hp)) fun q=>?_
  by_cases e:q=t
  ·subst e
   rw[aV]
   have h1:=h.1
   split at h1
   ·rename_i o' e'
    have:=aG h1
    subst this
    have hv:=g.tm q
    rw[e']at hv
    obtain⟨b,h2,h3⟩:=mz hv
    rw[h3]
    exact .ref _ _ _ _ (hb (q,o) ak b h2)
   ·cases h1
  ·rw[bh _ _ _ _ e];exact ht q
theorem vC:∀{l r:List (Option Nat)},KG l r=true->l=r
 |[],[],_=>rfl
 |none::l,none::r,h=>by rw[vC (l:=l) (r:=r) h]
 |
  some x::l,some y::r,h=>by
  simp only[KG,aA]at h
  rw[vC (l:=l) (r:=r) h.2,aG h.1]
 |[],_::_,h=>by cases h
 |none::_,[],h=>by cases h
 |some _::_,[],h=>by cases h
 |none::_,some _::_,h=>by cases h
 |some _::_,none::_,h=>by cases h
theorem Fu{β0:Lo}{f:Nat}{js:List (Option Nat)}{v:Value}(h:bJ M β (.ik f js) v)(hb:∀o,some o∈js->∀b,β o=some (.cells b)->β0 o=some (.cells b)):bJ M β0 (.ik f js) v:=by
 cases h with
 |
  ik _ _ _ b vs hc hl hs ho =>
  refine .ik _ _ _ _ vs hc hl hs fun i o hi e=>?_
  obtain⟨b',q1,q2⟩:=ho i o hi e
  refine⟨b',hb o ?_ b' q1,q2⟩
  rw[<-e]
  simp[aa,hi]
theorem zb{β0:Lo}(g:dz n A s a w M β):∀(cl:List (Nat×Nat×List (Option Nat))),wO s.tm cl=true->(∀p,p∈cl->∀o,some o∈p.2.2->∀b,β o=some (.cells b)->β0 o=some (.cells b))->∀{tm:Nat->AV},(∀t,bJ M β0 (tm t) (a.tmps.getD t undef))->∀t,bJ M β0 (Gj cl tm t) (a.tmps.getD t undef)
 |[],h,hb,tm,ht=>ht
 |
  (t,f,js)::r,h,hb,tm,ht=>by
  simp only[wO,aA]at h
  refine zb g r h.2 (fun p hp=>hb p (al _ hp)) fun q=>?_
  by_cases e:q=t
  ·subst e
   rw[aV]
   have h1:=h.1
   split at h1
   ·rename_i f' js' e'
    simp only[aA]at h1
    have e1:=aG h1.1
    have e2:=vC h1.2
    subst e1;subst e2
    have hv:=g.tm q
    rw[e']at hv
    exact Fu hv (hb _ ak)
   ·cases h1
  ·rw[bh _ _ _ _ e];exact ht q
theorem ux{β0:Lo}:∀{caps:List AV} {js:List Nat} {vs:List Value},wQ caps js=true->caps.length=vs.length->(∀i,i<caps.length->bJ M β (caps.getD i .any) (vs.getD i undef))->(∀o,o∈js->∀b,β o=some (.cells b)->β0 o=some (.cells b)) ->
 js.length=vs.length/\∀i,i<js.length->bJ M β0 ((js.map fun o=>AV.ref o 0).getD i .any) (vs.getD i undef)
 |
  caps,[],vs,h,hl,_,_=>by
  cases caps with
  |nil=>exact⟨hl,fun i hi=>by simp at hi⟩
  |
   cons c caps =>
   unfold wQ at h
   split at h
   ·rename_i he _;cases he
   ·rename_i he;cases he
   ·cases h
 |
  caps,p::js,vs,h,hl,hr,hb=>by
  unfold wQ at h
  split at h
  ·rename_i _ he;cases he
  ·rename_i o r p l he
   cases he
   simp only[aA]at h
   have:=aG h.1
   subst this
   cases vs with
   |nil=>simp at hl
   |
    cons u vs =>
    obtain⟨q1,q2⟩:=ux (vs:=vs) h.2 (by simpa using hl) (fun i hi=>by simpa using hr (i+1) (by simpa using hi)) (fun o ho=>hb o (al _ ho))
    refine⟨by simp[q1],fun i hi=>?_⟩
    cases i with
    |
     zero =>
     have:=hr 0 (by simp)
     simp only[bF]at this
     obtain⟨b,h2,h3⟩:=mz this
     simp only[bo,bF,h3]
     exact .ref _ _ _ _ (hb o ak b h2)
    |succ i=>simpa using q2 i (by simpa using hi)
  ·cases h
theorem As{β0:Lo}(g:dz n A s a w M β):∀(fl:List (Nat×Nat×List Nat)),xB s.tm fl=true->(∀p,p∈fl->∀o,o∈p.2.2->∀b,β o=some (.cells b)->β0 o=some (.cells b))->∀{tm:Nat->AV},(∀t,bJ M β0 (tm t) (a.tmps.getD t undef))->∀t,bJ M β0 (Fw fl tm t) (a.tmps.getD t undef)
 |[],h,hb,tm,ht=>ht
 |
  (t,f,js)::r,h,hb,tm,ht=>by
  simp only[xB,aA]at h
  refine As g r h.2 (fun p hp=>hb p (al _ hp)) fun q=>?_
  by_cases e:q=t
  ·subst e
   rw[aV]
   have h1:=h.1
   split at h1
   ·rename_i f' caps e'
    simp only[aA]at h1
    have e1:=aG h1.1
    subst e1
    have hv:=g.tm q
    rw[e']at hv
    generalize a.tmps.getD q undef=v at hv |-
    cases hv with
    |
     fn _ _ _ vs hl hr =>
     obtain⟨q1,q2⟩:=ux h1.2 hl hr (hb _ ak)
     exact .fn _ _ _ vs (by simpa using q1) fun i hi=>q2 i (by simpa using hi)
   ·cases h1
  ·rw[bh _ _ _ _ e];exact ht q
theorem At(g:dz n A s a w M β):∀(ags:List (Nat×List CK)) {xs:List AV} {obs:List Ob} {os:List Nat},rC s.ob s.tm ags=some (xs,obs,os)->∀{U:List Nat} {f:Nat->Option Ob} {β2:Lo} {nm:Nat} {tm:Nat->AV},
 gX s w M β U f β2->∀{rest:List Ob},ir (wt ags xs (obs++rest))->(∀m,nm<=m->f m=none)->nodup os=true->(∀o,o∈os->o∉U)->(∀t,bJ M β2 (tm t) (a.tmps.getD t undef)) ->
 ∃β3 U',gX s w M β U' (yz ags xs (obs++rest) tm f nm).2 β3/\(∀t,bJ M β3 ((yz ags xs (obs++rest) tm f nm).1 t) (a.tmps.getD t undef))/\Lo.le β2 β3/\(∀m,m<nm->(yz ags xs (obs++rest) tm f nm).2 m=f m)/\(∀o,o∈U'->o∈os\/o∈U)/\obs.length=nP ags
 |
  [],xs,obs,os,h,U,f,β2,nm,tm,hB,rest,hp,hnm,hno,hU,ht=>by
  simp only[rC,Option.some.injEq,Prod.mk.injEq]at h
  obtain⟨rfl,rfl,rfl⟩:=h
  exact⟨β2,U,hB,ht,Lo.le.refl _,fun m _=>rfl,fun o ho=>.inr ho,rfl⟩
 |
  (t,ks)::r,xs,obs,os,h,U,f,β2,nm,tm,hB,rest,hp,hnm,hno,hU,ht=>by
  simp only[rC]at h
  split at h
  ·rename_i cs ecs
   split at h
   ·rename_i asq obs1 os1 xs' obs' os' h1 h2
    cases h
    have hl1:=jv ks h1
    rw[a6]at hp |-
    obtain⟨_,hp2,hp3⟩:=hp
    simp only[aK,bB,AV.cs]at hp2 hp3
    have hdrop:(obs1++(obs'++rest)).drop (bV ks)=obs'++rest:=by rw[<-hl1];simp
    rw[hdrop]at hp3
    obtain⟨n3,n4,n5⟩:=fj hno
    obtain⟨β3,U1,b1,b2,b3,b4,b5,b6,b7,b8,b9,b10⟩:=pJ g ks h1 (U:=U) (f:=f) (β2:=β2) (full:=fX ks asq) (i:=0) (nm:=nm) (rest:=obs'++rest) hB (fun q _=>by rw[a8]) hp2 hnm n3 (fun q hq=>hU q (aD _ hq))
    have hrep:=g.tm t
    rw[ecs]at hrep
    obtain⟨vs,ev,hl,hr,ho⟩:=gF hrep
    obtain⟨β4,U2,c1,c2,c3,c4,c5,c6⟩:=At g r h2 (nm:=nm+bV ks) (tm:=cO tm t (.agg (bZ ks (fX ks asq) 0 (obs1++(obs'++rest)) nm).1)) b1 (rest:=rest) hp3 b7 n4 (fun q hq hh=>by
     rcases b3 q hh with h|h
     ·exact n5 q h hq
     ·exact hU q (aB _ hq) h) (fun q=>by
     by_cases e:q=t
     ·subst e
      rw[aV,ev]
      refine .agg _ _ _ (by omega) (fun i hi=>ho i (by omega)) fun i hi=>b6 i _ (by omega) ?_
      simpa using hr i (by omega)
     ·rw[bh _ _ _ _ e];exact(ht q).mono (Mem.le.refl _) b2)
    have em:yz ((t,ks)::r) (.agg (fX ks asq)::xs') (obs1++(obs'++rest)) tm f nm=yz r xs' (bZ ks (fX ks asq) 0 (obs1++(obs'++rest)) nm).2.2.1 (cO tm t (.agg (bZ ks (fX ks asq) 0 (obs1++(obs'++rest)) nm).1)) (cS f (bZ ks (fX ks asq) 0 (obs1++(obs'++rest)) nm).2.1) (bZ ks (fX ks asq) 0 (obs1++(obs'++rest)) nm).2.2.2:=rfl
    rw[em,b4]
    exact⟨β4,U2,c1,c2,fun q l hl=>c3 q l (b2 q l hl),fun m hm=>by rw[c4 m (by omega),b8 m hm],fun q hq=>(by
     rcases c5 q hq with h|h
     ·exact .inl (aB _ h)
     ·rcases b3 q h with h|h
      ·exact .inl (aD _ h)
      ·exact .inr h),by simp[nP,hl1,c6]⟩
   ·cases h
  ·cases h
theorem tb:∀(ks:List CK) (cs:List AV) (i:Nat) (obs:List Ob) (nm:Nat),(∀p,p∈(bZ ks cs i obs nm).2.1->nm<=p.1)/\nm<=(bZ ks cs i obs nm).2.2.2
 |[],cs,i,obs,nm=>⟨fun p hp=>(by cases hp),au _⟩
 | .lk k::ks,cs,i,obs,nm=>tb ks cs (i+1) obs nm
 |
  .vec h::ks,cs,i,obs,nm=>by
  obtain⟨h1,h2⟩:=tb ks cs (i+1) obs.tail (nm+1)
  refine⟨fun p hp=>?_,Nat.le_of_succ_le h2⟩
  rcases aI.1 hp with rfl|hp
  ·exact au _
  ·exact Nat.le_of_succ_le (h1 p hp)
theorem zz:∀(l:List (Nat×Option Ob)) (f:Nat->Option Ob) (m:Nat),(∀p,p∈l->p.1≠m)->cS f l m=f m
 |[],f,m,h=>rfl
 |
  (q,c)::l,f,m,h=>by
  show cS (cO f q c) l m=f m
  rw[zz l _ m fun p hp=>h p (al _ hp),bh _ _ _ _ (Ne.symm (h (q,c) ak))]
theorem Au:∀(cv:List (Nat×List CK)) (obs:List Ob) (f:Nat->Option Ob) (nm m:Nat),m<nm->(∀p,p∈cv->p.1≠m)->(sP cv obs f nm).1 m=f m
 |[],obs,f,nm,m,hm,h=>rfl
 |
  (o,ks)::r,obs,f,nm,m,hm,h=>by
  obtain⟨h1,h2⟩:=tb ks (obs.headD .dead).cs 0 obs.tail nm
  show (sP r _ (cO (cS f (bZ ks (obs.headD .dead).cs 0 obs.tail nm).2.1) o _) (bZ ks (obs.headD .dead).cs 0 obs.tail nm).2.2.2).1 m=f m
  rw[Au r _ _ _ m (by omega) fun p hp=>h p (al _ hp),bh _ _ _ _ (Ne.symm (h (o,ks) ak)),zz _ _ _ fun p hp=>(by have:=h1 p hp;omega)]
theorem zw(g:dz n A s a w M β):∀(kv:List (Nat×Nat×Nat)) {obs:List Ob} {os:List Nat},s5 s.ob s.tm kv=some (obs,os)->∀{U:List Nat} {f:Nat->Option Ob} {β2:Lo} {tm:Nat->AV},
 gX s w M β U f β2->(∀p,p∈kv->f p.2.1=none)->nodup (kv.map (·.2.1))=true->nodup os=true->(∀o,o∈os->o∉U)->(∀t,bJ M β2 (tm t) (a.tmps.getD t undef)) ->
 ∃β3 U',gX s w M β U' (wU kv obs tm f).2 β3/\(∀t,bJ M β3 ((wU kv obs tm f).1 t) (a.tmps.getD t undef))/\Lo.le β2 β3/\(∀m,(∀p,p∈kv->p.2.1≠m)->(wU kv obs tm f).2 m=f m)/\∀p,p∈kv->β3 p.2.1=β p.2.1/\((wU kv obs tm f).2 p.2.1).isSome=true/\∃x,s.ob p.2.1=some x
 |[],obs,os,h,U,f,β2,tm,hB,hf,hnd,hno,hU,ht=>⟨β2,U,hB,ht,Lo.le.refl _,fun m _=>rfl,fun p hp=>(by cases hp)⟩
 |
  (t,o,sz)::r,obs,os,h,U,f,β2,tm,hB,hf,hnd,hno,hU,ht=>by
  simp only[s5]at h
  split at h
  ·rename_i o' e
   split at h
   ·rename_i sz' es obs1 os1 h1 h2
    cases hb:(aN o' o&&aN sz' sz)with
    |false=>rw[hb]at h;cases h
    |
     true =>
     rw[hb]at h
     simp only[aA]at hb
     obtain⟨hb1,hb2⟩:=hb
     have e1:=aG hb1
     have e2:=aG hb2
     subst e1;subst e2
     cases h
     obtain⟨n1,n2⟩:=nodup_cons hno
     have hnd':nodup (o'::r.map (·.2.1))=true:=hnd
     obtain⟨d1,d2⟩:=nodup_cons hnd'
     have hne:∀p,p∈r->p.2.1≠o':=fun p hp e=>d1 (by rw[<-e];exact bM.2 ⟨p,hp,rfl⟩)
     obtain⟨β3,c1,c2,c3,c4⟩:=gX.vec g hB (m:=o') (hf _ ak) (hU _ ak) h1
     have hv:=g.tm t
     rw[e]at hv
     obtain⟨β4,U',b1,b2,b3,b4,b5⟩:=zw g r h2 (tm:=cO tm t (.vec o')) c1 (fun p hp=>by rw[bh _ _ _ _ (hne p hp)];exact hf p (al _ hp)) d2 n2 (fun q hq hh=>by
      rcases aI.1 hh with rfl|hh
      ·exact n1 hq
      ·exact hU q (al _ hq) hh) (fun q=>by
      by_cases e:q=t
      ·subst e;rw[aV];exact c3 _ hv
      ·rw[bh _ _ _ _ e];exact(ht q).mono (Mem.le.refl _) c2)
     refine⟨β4,U',b1,b2,fun q l hl=>b3 q l (c2 q l hl),fun m hm=>?_,fun p hp=>?_⟩
     ·show (wU r obs1 (cO tm t (.vec o')) (cO f o' (some (.vec sz' es)))).2 m=f m
      rw[b4 m fun p hp=>hm p (al _ hp),bh _ _ _ _ (Ne.symm (hm _ ak))]
     ·rcases aI.1 hp with rfl|hp
      ·obtain⟨l,hl⟩:=(g.own _ _ h1).Ib (by intro e;cases e)
       refine⟨?_,?_,_,h1⟩
       ·show β4 o'=β o'
        rw[hl];rw[hl]at c4;exact b3 _ _ c4
       ·show ((wU r obs1 (cO tm t (.vec o')) (cO f o' (some (.vec sz' es)))).2 o').isSome=true
        rw[b4 o' hne,aV];rfl
      ·exact b5 p hp
   ·cases h
  ·cases h
theorem uL{ob:Nat->Option Ob}{tm:Nat->AV}:∀(sl:List (Nat×SK)) {xs:List AV} {fz:List Nat},um ob tm sl=some (xs,fz)->xs.length=sl.length
 |[],xs,fz,h=>by cases h;rfl
 |
  (t,k)::r,xs,fz,h=>by
  simp only[um]at h
  split at h
  ·rename_i h1 h2;cases h;simp[uL r h2]
  ·cases h
theorem wV:∀(sl:List (Nat×SK)) (xs ys:List AV) (f:Nat->AV),xs.length=sl.length->yD sl (xs++ys) f=yD sl xs f
 |[],[],ys,f,h=>rfl
 |
  (t,k)::r,x::xs,ys,f,h=>by
  simp only[bf,yD,bB,aK]
  exact wV r xs ys _ (by simpa using h)
 |[],_::_,_,_,h=>by cases h
 |_::_,[],_,_,h=>by cases h
theorem tL:∀(sl:List (Nat×SK)) (xs ys:List AV),xs.length=sl.length->pn sl (xs++ys)=pn sl xs
 |[],[],ys,h=>rfl
 |
  (t,k)::r,x::xs,ys,h=>by
  simp only[bf,pn,bB,aK]
  rw[tL r xs ys (by simpa using h)]
 |[],_::_,_,h=>by cases h
 |_::_,[],_,h=>by cases h
theorem sE:∀(vs:List (Nat×Nat)) (o r:List Ob),o.length=vs.length->oL vs (o++r)=oL vs o
 |[],[],r,h=>rfl
 |
  (t,k)::vs,x::o,r,h=>by
  simp only[bf,oL,bB,aK]
  rw[sE vs o r (by simpa using h)]
 |[],_::_,_,h=>by cases h
 |_::_,[],_,h=>by cases h
theorem qR{ob:Nat->Option Ob}{tm:Nat->AV}:∀(vs:List (Nat×Nat)) {o:List Ob} {os:List Nat},lR ob tm vs=some (o,os)->o.length=vs.length
 |
  [],o,os,h=>by
  simp only[lR,Option.some.injEq,Prod.mk.injEq]at h
  rw[<-h.1];rfl
 |
  (t,sz)::r,o,os,h=>by
  simp only[lR]at h
  split at h
  ·split at h
   ·rename_i h2;cases h;simp[qR r h2]
   ·cases h
  ·split at h
   ·rename_i h1 h2;cases h;simp[qR r h2]
   ·cases h
  ·cases h
theorem jX:∀{l r:List Prop},ir (l++r)->ir l/\ir r
 |[],r,h=>⟨trivial,h⟩
 |p::l,r,h=>by obtain⟨h1,h2⟩:=h;obtain⟨h3,h4⟩:=jX h2;exact⟨⟨h1,h3⟩,h4⟩
theorem DD{fx:List Nat}{h:Shape}(hf:vn fx h=true){o:Nat}(ho:o∈fx):(∃q,q∈h.cv/\q.1=o)\/∃q,q∈h.kv/\q.2.1=o:=by
 unfold vn at hf
 rw[cd]at hf
 have:=hf o ho
 rw[bH]at this
 rcases this with this|this
 ·rw[cA]at this
  obtain⟨q,hq,e⟩:=this
  exact .inl ⟨q,hq,aG e⟩
 ·rw[cA]at this
  obtain⟨q,hq,e⟩:=this
  exact .inr ⟨q,hq,aG e⟩
theorem ri(ob0:Nat->Option Ob):∀(os:List Nat) (f:Nat->Option Ob) (o:Nat),o∉os->cS f (gp ob0 os) o=f o
 |[],f,o,h=>rfl
 |
  q::os,f,o,h=>by
  show cS (cO f q (cV (ob0 q))) (gp ob0 os) o=_
  rw[ri ob0 os _ o (fun hh=>h (al _ hh)),bh _ _ _ _ (fun e=>h (by rw[e];exact ak))]
theorem yG(g:dz n A s a w M β){h:Shape}{xs:List AV}{obs:List Ob}{fx:List Nat}(hfx:vn fx h=true)(hA:∀o b,A.fix o=some b->o∈fx)(hc:yf h s=some (xs,obs))(hp:ir (An h xs obs)):gP n A (Pb h xs obs) a w:=by
 unfold yf at hc
 split at hc
 ·rename_i xs' fz o1 n1 o2 n2 ys o3 n3 o4 n4 h1 h2 h3 h4 h5
  cases hq:(((xl s.tm h.refs&&(wO s.tm h.wP&&xB s.tm h.fns))&&!((n1++(n2++(n3++n4))).any (gN fz)))&&(nodup (n1++(n2++(n3++n4)))&&vW h))with
  |false=>rw[hq]at hc;cases hc
  |
   true =>
   rw[hq]at hc
   simp only[cond_true,Option.some.injEq,Prod.mk.injEq]at hc
   obtain⟨rfl,rfl⟩:=hc
   simp only[aA,vW]at hq
   obtain⟨⟨⟨q1,q1c,q1f⟩,q0⟩,q2,⟨q3,q3k⟩,q4k,q5,q7,q6,q6c,q6f⟩:=hq
   obtain⟨q4,q4v,q4x⟩:=fj q4k
   have hdj:∀m,m∈n1++(n2++(n3++n4))->m∉fz:=fun m hm hf=>by
    rw[cy,List.any_eq_false]at q0
    exact q0 m hm (by unfold gN;exact cA.2 ⟨m,hf,Nat.beq_refl m⟩)
   obtain⟨M1,hM,g1⟩:=g.freeze fz
   have hsame:∀m,m∈n1++(n2++(n3++n4))->cS s.ob (gp s.ob fz) m=s.ob m:=fun m hm=>ri s.ob fz s.ob m (hdj m hm)
   replace h2:=zI (ob':=cS s.ob (gp s.ob fz)) h.cv h2 fun m hm=>hsame m (aD _ hm)
   replace h3:=wg (ob':=cS s.ob (gp s.ob fz)) h.eV h3 fun m hm=>hsame m (aB _ (aD _ hm))
   replace h4:=Aw (ob':=cS s.ob (gp s.ob fz)) h.tV h4 fun m hm=>hsame m (aB _ (aB _ (aD _ hm)))
   replace h5:=Aa (ob':=cS s.ob (gp s.ob fz)) h.kv h5 fun m hm=>hsame m (aB _ (aB _ (aB _ hm)))
   have gfz:=g1.fz
   obtain⟨m1,m23,m3⟩:=fj q2
   obtain⟨m2,m45,m5⟩:=fj m23
   obtain⟨m4,m6,m7⟩:=fj m45
   have lx:=uL h.bQ h1
   have lv:=qR h.eV h3
   have hp':ir (pn h.bQ (xs'++ys)++(vB h.cv (o1++(o2++(o3++o4)))++(oL h.eV ((o1++(o2++(o3++o4))).drop (Ep h.cv))++(wt h.tV ((xs'++ys).drop h.bQ.length) (((o1++(o2++(o3++o4))).drop (Ep h.cv)).drop h.eV.length)++yH h.kv ((((o1++(o2++(o3++o4))).drop (Ep h.cv)).drop h.eV.length).drop (nP h.tV)))))):=hp
   obtain⟨p1,p23⟩:=jX hp'
   obtain⟨p2,p34⟩:=jX p23
   obtain⟨p3,p45⟩:=jX p34
   obtain⟨p4,_⟩:=jX p45
   rw[tL _ _ _ lx]at p1
   rw[cd]at q3 q3k q6 q6c q6f
   obtain⟨β3,U,b1,b2,b3,b4,b5,b6,b7,b8⟩:=zV g1 h.cv h2 (nm:=jW) (rest:=o2++(o3++o4)) gX.nil p2 (fun _ _=>rfl) (fun p hp=>⟨rfl,aZ (q3 p hp)⟩) q4 m1 (fun _ _ hh=>by cases hh)
   have hdrop:(o1++(o2++(o3++o4))).drop (Ep h.cv)=o2++(o3++o4):=by rw[<-b7];simp
   have hdrop2:(o2++(o3++o4)).drop h.eV.length=o3++o4:=by rw[<-lv];simp
   have hdrop3:(xs'++ys).drop h.bQ.length=ys:=by rw[<-lx];simp
   rw[hdrop,sE _ _ _ lv]at p3
   rw[hdrop,hdrop2,hdrop3]at p4
   have htm:∀t,bJ M1 β3 (Fw h.fns (Gj h.wP (ER h.refs (yD h.bQ xs' (fun _=>.any)))) t) (a.tmps.getD t undef) :=
    As g1 h.fns q1f (fun p hp o ho b hb=>by
     have:=q6f p hp
     rw[cd]at this
     have:=this _ ho
     simp only[Rt]at this
     rw[cA]at this
     obtain⟨q,hq,he⟩:=this
     have he:=aG he
     obtain⟨b',c1,c2,_⟩:=b5 q hq
     rw[he]at c1 c2
     rw[hb]at c1;cases c1;exact c2) <|
    zb g1 h.wP q1c (fun p hp o ho b hb=>by
     have:=q6c p hp
     rw[cd]at this
     have:=this _ ho
     simp only[Rt]at this
     rw[cA]at this
     obtain⟨q,hq,he⟩:=this
     have he:=aG he
     obtain⟨b',c1,c2,_⟩:=b5 q hq
     rw[he]at c1 c2
     rw[hb]at c1;cases c1;exact c2) <|
    Ax g1 h.refs q1 (fun p hp b hb=>by
     have:=q6 p hp
     rw[cA]at this
     obtain⟨q,hq,he⟩:=this
     have he:=aG he
     obtain⟨b',c1,c2,_⟩:=b5 q hq
     rw[he]at c1 c2
     rw[hb]at c1;cases c1;exact c2) (Ag g1 h.bQ h1 gfz p1 fun t=>.any _ _)
   have hle:=aZ q5
   have hle2:=aZ q7
   obtain⟨β4,U',c1,c2,c3,c4,c5,c6,c7⟩:=zg g1 h.eV h3 (nm:=n6) b1 p3 (fun m hm=>b6 m (by omega)) m2 (fun o ho hh=>by
    rcases b3 o hh with hh|hh
    ·exact m3 o hh (aD _ ho)
    ·cases hh) htm (rest:=o3++o4)
   obtain⟨β5,U3,d1,d2,d3,d4,d5,d6⟩:=At g1 h.tV h4 (nm:=pV) c1 (rest:=o4) p4 (fun m hm=>c6 m (by omega)) m4 (fun o ho hh=>by
    rcases c4 o hh with hh|hh
    ·exact m5 o hh (aD _ ho)
    ·rcases b3 o hh with hh|hh
     ·exact m3 o hh (aB _ (aD _ ho))
     ·cases hh) c2
   have e1:jW<n6:=by decide
   have e2:n6<pV:=by decide
   have hkn:∀p,p∈h.kv->p.2.1<jW:=fun p hp=>aZ (q3k p hp)
   obtain⟨β6,U4,k1,k2,k3,k4,k5⟩:=zw g1 h.kv h5 d1 (fun p hp=>by
    have hn:=hkn p hp
    rw[d4 _ (by omega),c5 _ (by omega),Au _ _ _ _ _ hn]
    intro q hq e
    exact q4x q.1 (bM.2 ⟨q,hq,rfl⟩) (bM.2 ⟨p,hp,e.symm⟩)) q4v m6 (fun o ho hh=>by
    rcases d5 o hh with hh|hh
    ·exact m7 o hh ho
    ·rcases c4 o hh with hh|hh
     ·exact m5 o hh (aB _ ho)
     ·rcases b3 o hh with hh|hh
      ·exact m3 o hh (aB _ (aB _ ho))
      ·cases hh) d2
   have hdrop4:(o3++o4).drop (nP h.tV)=o4:=by rw[<-d6];simp
   refine⟨M1,β6,?_⟩
   have:=k1.Vm g1 (fun o b hf=>by
    rcases DD hfx (hA o b hf)with⟨q,hq,e⟩|⟨q,hq,e⟩
    rotate_left
    ·obtain⟨r1,r2,x,r3⟩:=k5 q hq
     rw[e]at r1 r2 r3
     exact⟨r2,by rw[r1];exact(g1.fix o b hf).2 x r3⟩
    obtain⟨b',r1,r2,⟨x,r3⟩,r4⟩:=b5 q hq
    rw[e]at r1 r2 r3 r4
    have hb:=(g1.fix o b hf).2 x r3
    rw[r1]at hb;cases hb
    have ho:o<jW:=by have:=aZ (q3 q hq);rw[e]at this;exact this
    refine⟨?_,k3 _ _ (d3 _ _ (c3 _ _ r2))⟩
    rw[k4 o (fun p hp e'=>q4x q.1 (bM.2 ⟨q,hq,rfl⟩) (bM.2 ⟨p,hp,e'.trans e.symm⟩)),d4 o (by omega),c5 o (by omega)];exact r4) k2
   unfold Pb
   simp only
   rw[b4,wV _ _ _ _ lx,hdrop2,hdrop3,hdrop4]
   exact this
 ·cases hc
end
end Go.VL
