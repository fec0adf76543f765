/- The calculus of memory and steps, part Xa. Conditions: none. -/
import Derived.Calls
import Derived.AtR
import Derived.KernelRfl
import Derived.Below
import Derived.IntWalk
import Derived.Orders
import Derived.Laws.IdiomCopy
import Derived.Laws.Cells
import Derived.Laws.StructEq
set_option maxHeartbeats 16000000
open List renaming range → v0w, nodup_cons → v0R, getElem?_take → v1q, getElem?_drop → v1m, mem_cons_of_mem → v0S, all_eq_true → v0u, mem_filter → v1v, mem_cons → v0r, mem_of_getElem? → v0m, map_congr_left → v1o, all_cons → v1e
open Nat renaming beq → v0d, ble → v0n, blt → v0a, eq_of_beq_eq_true → v1h, beq_refl → v0I, le_refl → v0b, le_trans → v0t
open Bool renaming or_eq_true → v0K, and_eq_true → v0g, not_eq_true' → v0J, true_and → v0C, eq_iff_iff → v1W, not_false → v1s
open Option renaming some → v0h, map_eq_some_iff → v1H
open Array renaming getElem?_eq_some_iff → v0V, getElem?_push → v2j, mem_toList_iff → v1U, getElem?_eq_getElem → v1V, replicate → v1N, toList_map → v1y
namespace Go.X
inductive Tr (α:Type) where
 |leaf
 |node (v:Option α) (l r:Tr α)
inductive Pa where
 |stay
 |odd (p:Pa)
 |even (p:Pa)
noncomputable section
def Q3P (f:Nat):Nat->Pa:=
 Nat.rec (motive:=fun _=>Nat->Pa) (fun _=>.stay)
  (fun _ ih n=>Bool.rec (motive:=fun _=>Pa) (Bool.rec (motive:=fun _=>Pa) (.even (ih (Nat.pred (Nat.div n 2)))) (.odd (ih (Nat.div n 2))) (v0d (Nat.mod n 2) 1)) .stay (v0d n 0)) f
def pathOf (n:Nat):Pa:=Q3P (n+1) n
def Tr.getP {α:Type} (p:Pa):Tr α->Option α:=
 Pa.rec (motive:=fun _=>Tr α->Option α) (fun t=>Tr.rec (motive:=fun _=>Option α) none (fun v _ _ _ _=>v) t)
  (fun _ ih t=>Tr.rec (motive:=fun _=>Option α) none (fun _ l _ _ _=>ih l) t)
  (fun _ ih t=>Tr.rec (motive:=fun _=>Option α) none (fun _ _ r _ _=>ih r) t) p
def Tr.setP {α:Type} (o:α) (p:Pa):Tr α->Tr α:=
 Pa.rec (motive:=fun _=>Tr α->Tr α) (fun t=>Tr.rec (motive:=fun _=>Tr α) (.node (some o) .leaf .leaf) (fun _ l r _ _=>.node (some o) l r) t)
  (fun _ ih t=>Tr.rec (motive:=fun _=>Tr α) (.node none (ih .leaf) .leaf) (fun v l r _ _=>.node v (ih l) r) t)
  (fun _ ih t=>Tr.rec (motive:=fun _=>Tr α) (.node none .leaf (ih .leaf)) (fun v l r _ _=>.node v l (ih r)) t) p
def Tr.get {α:Type} (t:Tr α) (n:Nat):Option α:=t.getP (pathOf n)
def Tr.set {α:Type} (_fuel:Nat) (t:Tr α) (n:Nat) (o:α):Tr α:=t.setP o (pathOf n)
def Q80 {β:Sort _} (n:Nat) (f:Nat->β):β:=
 match n with
 |0=>f 0
 |k+1=>f (k+1)
def QaJ {β:Sort _} (n:Int) (f:Int->β):β:=
 match n with
 | .ofNat k=>Q80 k fun k=>f (.ofNat k)
 | .negSucc k=>Q80 k fun k=>f (.negSucc k)
theorem Q5y {β:Sort _} (n:Nat) (f:Nat->β):Q80 n f=f n:=by cases n<;>rfl
theorem QaI {β:Sort _} (n:Int) (f:Int->β):QaJ n f=f n:=by cases n<;>simp[QaJ,Q5y]
structure Lp where
 state:LoopState
 pending:Option Code
 fn:FuncId
 nt:Nat
 tm:Tr Value
 params:Array Tmp
 assign:Code
 body:Code
 defers:Nat
inductive AObj where
 |cells (c:List Value) (elem:TypeId) (m:Nat)
 |map (es:List MapEntry) (clock:Nat)
 |str (s:ByteArray) (pos:Nat)
 |loop (l:Lp)
 |deferred (ds:Option (List Deferred))
 |dead
 |iter (m:Option Nat) (since:Nat) (seen:List Nat) (last:Nat)
 |chan (cap:Nat) (buf:List Value) (s r:Nat)
structure Hp where
 t:Tr AObj
 n:Nat
def Hp.get (h:Hp) (i:Nat):Option AObj:=match h with| ⟨t,_⟩=>t.get i
def Hp.put (h:Hp) (i:Nat) (o:AObj):Hp:=match h with| ⟨t,n⟩=>⟨t.set (i+1) i o,n⟩
def Hp.alloc (h:Hp) (o:AObj):Hp:=match h with| ⟨t,n⟩=>Q80 n fun m=>⟨t.set (m+1) m o,m+1⟩
def Hp.empty:Hp:=⟨.leaf,256⟩
def ZB:Nat->Value->Bool
 |0,_=>false
 | n+1,v=>match v with
   | .bool _=>true
   | .int _ _=>true
   | .string _=>true
   | .agg cs=>cs.toList.all (ZB n)
   | .iface _ v=>ZB n v
   | .nilIface=>true
   | .nilFunc=>true
   | .pointer none=>true
   | .slice none _ _=>true
   | .map none=>true
   | .chan none=>true
   |_=>false
def ev (tm:Tr Value):Operand->Value
 | .tmp t=>(match tm.get t with|some v=>v|none=>undef)
 | .const v=>v
 | .global g=>.pointer (some ⟨g,0,none⟩)
 | .func f=>.func (.func f) #[] #[]
structure Mp where
 ρ:Nat->Option (Nat×Nat×Nat)
 K:Nat->Prop
 md:Nat->Nat
def AddrRel (M:Mp) (a a':Addr):Prop:=M.K a.block/\ ∀b δ S,M.ρ a.block=some (b,δ,S)->a'=⟨b,δ+a.off,a.spot⟩
def IdRel (M:Mp) (r r':Nat):Prop:=M.K r/\ ∀b δ S,M.ρ r=some (b,δ,S)->r'=b
def SlOk (M:Mp) (a a':Addr) (l c c' b δ S:Nat):Prop:=
 (M.md a.block=0/\a'=⟨b,δ+a.off,a.spot⟩/\c'=c)\/
 (∃s,M.md a.block=s+1/\((a'=⟨b,δ+a.off,a.spot⟩/\c<=c'/\δ+a.off+c'*s<=S)\/(l=0/\c'=0/\c=0)))
def SlRel (M:Mp) (a a':Addr) (l c c':Nat):Prop:=M.K a.block/\ ∀b δ S,M.ρ a.block=some (b,δ,S)->SlOk M a a' l c c' b δ S
def FnRel (M:Mp) (f f':Fn):Prop:=
 match f,f' with
 | .yield l,.yield l'=>IdRel M l l'
 | .yield _,_=>False
 |f,f'=>f=f'
def Cell1:Value->Prop
 | .agg _=>False
 | .tuple _=>False
 |_=>True
inductive VRel (M:Mp):Value->Value->Prop
 |junk {w} (h:Cell1 w):VRel M (.chan (some 0)) w
 |chan {r r'} (h:IdRel M r r'):VRel M (.chan (some (r+1))) (.chan (some r'))
 |bool (b):VRel M (.bool b) (.bool b)
 |int (k n):VRel M (.int k n) (.int k n)
 |float (k n):VRel M (.float k n) (.float k n)
 |complex (k a b):VRel M (.complex k a b) (.complex k a b)
 |string (s):VRel M (.string s) (.string s)
 |nilp:VRel M (.pointer none) (.pointer none)
 |ptr {a a'} (h:AddrRel M a a'):VRel M (.pointer (some a)) (.pointer (some a'))
 |nils (l c):VRel M (.slice none l c) (.slice none l c)
 |sl {a a' l c c'} (h:SlRel M a a' l c c'):VRel M (.slice (some a) l c) (.slice (some a') l c')
 |nilm:VRel M (.map none) (.map none)
 |map {r r'} (h:IdRel M r r'):VRel M (.map (some r)) (.map (some r'))
 |nilc:VRel M (.chan none) (.chan none)
 |func {f f' a b c d} (h:FnRel M f f') (ha:a.toList.length=c.toList.length) (hb:b.toList.length=d.toList.length)
  (ka: ∀(i:Nat) (v w:Value),a.toList[i]?=some v->c.toList[i]?=some w->VRel M v w)
  (kb: ∀(i:Nat) (v w:Value),b.toList[i]?=some v->d.toList[i]?=some w->VRel M v w):VRel M (.func f a b) (.func f' c d)
 |nilFunc:VRel M .nilFunc .nilFunc
 |iface {t v w} (h:VRel M v w):VRel M (.iface t v) (.iface t w)
 |nilIface:VRel M .nilIface .nilIface
 |agg {a c} (ha:a.toList.length=c.toList.length) (ka: ∀(i:Nat) (v w:Value),a.toList[i]?=some v->c.toList[i]?=some w->VRel M v w):VRel M (.agg a) (.agg c)
 |tuple {a c} (ha:a.toList.length=c.toList.length) (ka: ∀(i:Nat) (v w:Value),a.toList[i]?=some v->c.toList[i]?=some w->VRel M v w):VRel M (.tuple a) (.tuple c)
def VsRel (M:Mp) (l m:List Value):Prop:=l.length=m.length/\ ∀(i:Nat) (v w:Value),l[i]?=some v->m[i]?=some w->VRel M v w
structure Ev (M M':Mp):Prop where
 known: ∀i,M.K i->M'.K i
 place: ∀i x,M.K i->M'.ρ i=some x->M.ρ i=some x
 mode: ∀i,M.K i->M'.md i=M.md i
def ERel (M:Mp) (e e':MapEntry):Prop:=VRel M e.key e'.key/\VRel M e.val e'.val/\e'.born=e.born
def EsRel (M:Mp) (l m:List MapEntry):Prop:=l.length=m.length/\ ∀(i:Nat) (e e':MapEntry),l[i]?=some e->m[i]?=some e'->ERel M e e'
def TRel (M:Mp) (tm:Tr Value) (tmps:Array Value):Prop:= ∀t,VRel M (ev tm (.tmp t)) (tmps.getD t undef)
def LRel (M:Mp) (l:Lp) (r:Loop):Prop:=
 r.state=l.state/\r.pending=l.pending/\r.fn=l.fn/\r.tmps.size=l.nt/\TRel M l.tm r.tmps/\r.params=l.params/\r.assign=l.assign/\r.body=l.body/\IdRel M l.defers r.defers
def TgRel (M:Mp) (t t':Target):Prop:=
 match t,t' with
 | .fn f a,.fn f' a'=>FnRel M f f'/\VsRel M a.toList a'.toList
 | .collected r,.collected r'=>IdRel M r r'
 | .builtin b ts t cs,.builtin b' ts' t' cs'=>b=b'/\ts=ts'/\t=t'/\cs=cs'
 | .nil,.nil=>True
 |_,_=>False
def DRel (M:Mp) (d d':Deferred):Prop:=TgRel M d.target d'.target/\VsRel M d.args.toList d'.args.toList
def DsRel (M:Mp):List Deferred->List Deferred->Prop
 | [],[]=>True
 |d::l,d'::l'=>DRel M d d'/\DsRel M l l'
 |_,_=>False
def ORel (M:Mp) (i:Nat) (o:AObj) (δ S:Nat) (x:Obj):Prop:=
 match o with
 | .cells c e m=> ∃c' fr,x=.cells c' e fr/\S=c'.size/\δ+c.length<=S/\
  (∀j v,c[j]?=some v-> ∃w,c'[δ+j]?=some w/\VRel M v w)/\
  ((m=0/\M.md i=0/\δ=0/\S=c.length/\fr=(0,0))\/(m=1/\M.md i=0/\δ=0/\S=c.length)\/
    ((∃s,m=s+2/\M.md i=s+1)/\ ∀j,j <S-> ¬(fr.1<=j/\j <fr.2)))
 | .map es cl=>δ=0/\ ∃ak,x=.map ak cl/\EsRel M es ak.toList
 | .str s p=>δ=0/\x=.stringIter s p
 | .loop l=>δ=0/\ ∃r,x=.loop r/\LRel M l r
 | .deferred none=>δ=0/\x=.deferred none
 | .deferred (some ds)=>δ=0/\ ∃oC,x=.deferred (some oC)/\DsRel M ds oC
 | .dead=>False
 | .chan cap buf s r=>δ=0/\ ∃ly,x=.chan cap ly false s r false/\VsRel M buf ly.toList
 | .iter none since seen last=>δ=0/\x=.mapIter none since seen.toArray last
 | .iter (some r) since seen last=>δ=0/\ ∃r',x=.mapIter (some r') since seen.toArray last/\IdRel M r r'
def RO (h:Hp) (i:Nat):Prop:= ∃c e,h.get i=some (.cells c e 1)
def Gl (M:Mp):Prop:= ∀i,i<=255->M.K i/\ ∀b δ S,M.ρ i=some (b,δ,S)->b=i/\δ=0
structure HRel (W:World) (B:Nat->Prop) (M:Mp) (h:Hp) (w:World):Prop where
 obj: ∀i b δ S,M.ρ i=some (b,δ,S)->M.K i/\ ∃o x,h.get i=some o/\w.heap[b]?=some x/\ORel M i o δ S x
 inj: ∀i j b δ S δ' S',M.ρ i=some (b,δ,S)->M.ρ j=some (b,δ',S')->i=j\/RO h i
 kn: ∀i,M.K i->i <h.n
 fresh: ∀i,h.n<=i->h.get i=none
 live: ∀i,M.K i->M.ρ i=none->h.get i=none\/h.get i=some .dead
 os:w.os=W.os
 tape:w.tape=W.tape/\(B W.heap.size->W.drawn<=w.drawn)
 output:w.output=W.output
 size:W.heap.size<=w.heap.size
 old: ∀b,b <W.heap.size-> ¬B b->w.heap[b]?=W.heap[b]?
 own: ∀i b δ S,M.ρ i=some (b,δ,S)->b <W.heap.size->B b\/RO h i
 glob:Gl M
def Keep (M:Mp) (h:Hp) (M':Mp) (h':Hp) (X:Nat->Prop):Prop:=
 h.n<=h'.n/\ ∀i,i <h.n-> ¬M.K i-> ¬X i-> ¬M'.K i/\h'.get i=h.get i
def Qg1 (P:Program) (f:Nat) (F:List Value->Hp->Option (Value×Hp)):Prop:=
 ∀ (W:World) (B:Nat->Prop) (M:Mp) (h:Hp) (w:World) (args:List Value) (ad:Array Value) (v:Value) (h':Hp),¬B W.heap.size->HRel W B M h w->VsRel M args ad.toList->F args h=some (v,h')->
   Calls P f ad w fun e w'=> ∃v' M',e=.returned v'/\Ev M M'/\HRel W B M' h' w'/\Keep M h M' h' (fun _=>False)/\VRel M' v v'
structure Env where
 P:Program
 ty:Nat->Option TypeInfo
 fn:Nat->Option Func
 hty: ∀t i,ty t=some i->P.info? t=some i
 hfn: ∀f i,fn f=some i->P.funcs[f]?=some i
 ext:Nat->Bool
 hext: ∀f,ext f=true-> ∃fn,P.funcs[f]?=some fn/\(fn.name== "runtime.NumGoroutine")=false/\fn.body.isNone=true/\Extern.findNext fn=none/\Extern.find fn=some Extern.MapsClone.clone
 orc:Nat->Option Value
 horc: ∀f v,orc f=some v->ZB 20 v=true/\ ∀w,Calls P f #[] w fun e w'=>e=.returned v/\RowKit.Below w.heap.size w w'
 sm:Nat->Option (List Value->Hp->Option (Value×Hp))
 hsm: ∀f F,sm f=some F->Qg1 P f F
 q:Bool
 hq:q=true-> ∀f,orc f=none/\sm f=none
def Env.und (E:Env) (t:TypeId):Option TypeDesc:=
 match E.ty t with
 |none=>none
 | some i=>match i.desc with
   | .named _ u=>(match E.ty u with|none=>none|some j=>some j.desc)
   |d=>some d
def Env.size (E:Env) (t:TypeId):Option Nat:=match E.ty t with|none=>none|some i=>some i.size
def Env.zero (E:Env) (t:TypeId):Option Value:=
 match E.ty t with
 |none=>none
 | some i=>(match i.zero with
   |none=>none
   |some z=>cond (ZB 4 z) (some z) none)
def Env.bytes (E:Env) (t:TypeId):Option Nat:=match E.ty t with|none=>none|some i=>some i.bytes
def J2:TypeDesc->Bool
 | .struct _=>true
 | .array _ _=>true
 |_=>false
def rowOf (h:Hp) (a:Addr) (n:Nat):Option (List Value):=
 match a.spot with
 |some _=>none
 | none=>match h.get a.block with
   |some (.cells c _ _)=>cond (v0n (a.off+n) c.length) (some ((c.drop a.off).take n)) none
   |_=>none
def JO (E:Env) (t:TypeId) (a:Addr) (h:Hp):Option Value:=
 match E.und t with
 |none=>none
 | some d=>match J2 d with
   | true=>(match E.size t with
     |none=>none
     | some n=>match rowOf h a n with
       |none=>none
       |some l=>some (.agg l.toArray))
   |false=>(match rowOf h a 1 with
    |some [v]=>some v
    |_=>none)
def Q09 (E:Env) (t:TypeId) (cs:Array Value) (off:Nat):Option Value:=
 match E.und t with
 |none=>none
 | some d=>match J2 d with
   | true=>(match E.size t with
     |none=>none
     |some n=>some (.agg (cs.extract off (off+n))))
   |false=>cs[off]?
def KF:IntKind->IntKind->Bool
 | .i8,.i8=>true
 | .i16,.i16=>true
 | .i32,.i32=>true
 | .i64,.i64=>true
 | .u8,.u8=>true
 | .u16,.u16=>true
 | .u32,.u32=>true
 | .u64,.u64=>true
 |_,_=>false
def sameV:Nat->Value->Value->Bool
 |0,_,_=>false
 | n+1,v,w=>match v,w with
   | .bool a,.bool b=>a==b
   | .int k a,.int k' b=>KF k k'&&decide (a=b)
   | .string a,.string b=>a.data.toList==b.data.toList
   | .pointer none,.pointer none=>true
   | .pointer (some a),.pointer (some b)=>decide (a=b)
   | .slice none l c,.slice none l' c'=>v0d l l'&&v0d c c'
   | .slice (some a) l c,.slice (some b) l' c'=>decide (a=b)&&v0d l l'&&v0d c c'
   | .map none,.map none=>true
   | .map (some a),.map (some b)=>v0d a b
   | .nilFunc,.nilFunc=>true
   | .func (.func f) a b,.func (.func g) c d=>v0d f g&&sameL n a.toList c.toList&&sameL n b.toList d.toList
   | .nilIface,.nilIface=>true
   | .iface t v,.iface u w=>v0d t u&&sameV n v w
   | .agg a,.agg b=>sameL n a.toList b.toList
   | .tuple a,.tuple b=>sameL n a.toList b.toList
   |_,_=>false
where
 sameL (n:Nat):List Value->List Value->Bool
  | [],[]=>true
  |v::l,w::m=>sameV n v w&&sameL n l m
  |_,_=>false
def Zf (E : Env) (h:Hp):Nat->TypeId->Value->Value->Option Bool
 |0,_,_,_=>none
 | _n + 1, t,x,y=>
   match E.und t with
   |none=>none
   | some d=>match d,x,y with
     | .bool,.bool a,.bool b=>some (a==b)
     | .int _,.int k a,.int k' b=>cond (KF k k') (some (a==b)) none
     | .string,.string a,.string b=>some (a==b)
     | .pointer _,.pointer none,.pointer b=>some b.isNone
     | .pointer _,.pointer (some _),.pointer none=>some false
     | .pointer e,.pointer (some a),.pointer (some b)=>
       (match E.size e,h.get a.block,h.get b.block with
        | some (_+1),some (.cells c _ 0),some (.cells c' _ 0)=>
          (match a.spot,b.spot with
           |none,none=>cond (v0n 1 c.length&&v0n 1 c'.length) (some (v0d a.block b.block&&v0d a.off b.off)) none
           |_,_=>none)
        |_,_,_=>none)
     | .slice _,.slice none _ _,.slice b _ _=>some b.isNone
     | .slice _,.slice (some _) _ _,.slice none _ _=>some false
     | .map _ _,.map none,.map b=>some b.isNone
     | .map _ _,.map (some _),.map none=>some false
     | .func _ _ _,.nilFunc,.nilFunc=>some true
     | .func _ _ _,.nilFunc,.func _ _ _=>some false
     | .func _ _ _,.func _ _ _,.nilFunc=>some false
     | .interface _,.nilIface,.nilIface=>some true
     | .interface _,.nilIface,.iface _ _=>some false
     | .interface _,.iface _ _,.nilIface=>some false
     |_,_,_=>none
def YO (b:Bool):Value:=cond b (.bool true) (.bool false)
def YP (k:IntKind) (n:Int):Option Value:=QaJ n fun m=>some (.int k m)
def Q1o (k:IntKind) (n:Int):Int:=
 match k,n with
 | .i64,.ofNat m=>cond (v0a m 9223372036854775808) (.ofNat m) (IntKind.i64.wrap (.ofNat m))
 | .i64,.negSucc m=>cond (v0a m 9223372036854775808) (.negSucc m) (IntKind.i64.wrap (.negSucc m))
 |k,n=>k.wrap n
def Y4 (op:BinOp) (k:IntKind) (a b:Int):Option Value:=
 match op with
 | .add=>YP k (Q1o k (a+b))
 | .sub=>YP k (Q1o k (a -b))
 | .mul=>YP k (Q1o k (a*b))
 | .quo=>cond (decide (b=0)) none (YP k (Q1o k (a.tdiv b)))
 | .rem=>cond (decide (b=0)) none (YP k (a.tmod b))
 | .and=>YP k (Q1o k (BitVec.ofInt k.bits a&&& BitVec.ofInt k.bits b).toNat)
 | .or=>YP k (Q1o k (BitVec.ofInt k.bits a|||BitVec.ofInt k.bits b).toNat)
 | .xor=>YP k (Q1o k (BitVec.ofInt k.bits a^^^BitVec.ofInt k.bits b).toNat)
 | .andNot=>YP k (Q1o k (BitVec.ofInt k.bits a&&& ~~~BitVec.ofInt k.bits b).toNat)
 | .eql=>some (YO (a==b))
 | .neq=>some (YO (a !=b))
 | .lss=>some (YO (a <b))
 | .leq=>some (YO (a<=b))
 | .gtr=>some (YO (a>b))
 | .geq=>some (YO (a>=b))
 |_=>none
def Q9d (op:BinOp) (x y:ByteArray):Option Value:=
 match op with
 | .add=>cond (decide (((x.size+y.size:Nat):Int)>IntKind.i64.max)) none (some (.string (x++y)))
 | .eql=>some (YO (x.toList==y.toList))
 | .neq=>some (YO !(x.toList==y.toList))
 | .lss=>some (YO (Op.bytesLess x.toList y.toList))
 | .leq=>some (YO (Op.bytesLess x.toList y.toList||x.toList==y.toList))
 | .gtr=>some (YO !(Op.bytesLess x.toList y.toList||x.toList==y.toList))
 | .geq=>some (YO !(Op.bytesLess x.toList y.toList))
 |_=>none
def KY:BinOp->Bool
 | .shl=>true
 | .shr=>true
 |_=>false
def Q9k (op:BinOp) (k:IntKind) (a b:Int):Option Value:=
 cond (decide (b <0)) none
  (match op with
   | .shl=>YP k (Q1o k (a*2^(min b.toNat k.bits)))
   | .shr=>YP k (a.fdiv (2^(min b.toNat k.bits)))
   |_=>none)
def Y1 (E:Env) (eq:TypeId->Value->Value->Option Bool) (xs ys:Array Value):List Field->Option Bool
 | []=>some true
 | f::fs=>cond (f.name== "_") none
   (match Q09 E f.type xs f.offset,Q09 E f.type ys f.offset with
    | some a,some b=>(match eq f.type a b with
      |some true=>Y1 E eq xs ys fs
      |some false=>some false
      |none=>none)
    |_,_=>none)
def eqN (E:Env) (h:Hp):Nat->TypeId->Value->Value->Option Bool
 |0,t,x,y=>Zf E h 1 t x y
 | n +1,t,x,y=>match x,y with
   | .agg xs,.agg ys=>(match E.und t with
     |some (.struct fs)=>cond (E.P.stoodInHeld t) none (Y1 E (eqN E h n) xs ys fs.toList)
     |_=>none)
   |x,y=>Zf E h 1 t x y
theorem Q5K {E:Env} {h:Hp} {n:Nat} {t:TypeId} {x y:Value} (ao: ∀xs ys,x=.agg xs->y=.agg ys->False):eqN E h (n+1) t x y=Zf E h 1 t x y:=by
 unfold eqN
 split
 · exact absurd rfl (fun e=>ao _ _ e rfl)
 rfl
def ZH (E:Env) (h:Hp) (xs ys:Array Value) (fs:List Field):Option Bool:=Y1 E (eqN E h 3) xs ys fs
def Q2l:Operand->Bool
 | .const _=>true
 |_=>false
def Q4C (E:Env) (h:Hp) (op:BinOp) (t:TypeId) (xo yo:Operand) (x y:Value):Option Value:=
 match x,y with
 | .int k a,.int k' b=>cond (KY op) (Q9k op k a b) (cond (KF k k') (Y4 op k a b) none)
 | .string a,.string b=>Q9d op a b
 | .nilIface,.nilIface=>
   cond (Q2l xo||Q2l yo)
    (match op,E.und t with
     | .eql,some (.interface _)=>some (.bool true)
     | .neq,some (.interface _)=>some (.bool false)
     |_,_=>none) none
 | .float _ _,_=>none
 | .complex _ _ _,_=>none
 | .agg xs,.agg ys=>
   (match E.und t with
    | some (.struct fs)=>cond ((E.P.eqGuardType E.P.depth t)||E.P.stoodInHeld t) none
      (match op,ZH E h xs ys fs.toList with
       | .eql,some r=>some (YO r)
       | .neq,some r=>some (YO !r)
       |_,_=>none)
    |_=>none)
 | x,y=>(match op with
   | .eql=>(match Zf E h 1 t x y with|some r=>some (YO r)|none=>none)
   | .neq=>(match Zf E h 1 t x y with|some r=>some (YO !r)|none=>none)
   |_=>none)
def unX (op:UnOp) (x:Value):Option Value:=
 match op,x with
 | .neg,.int k n=>YP k (Q1o k (0 -n))
 | .xor,.int k n=>Y4 .xor k (if k.signed then -1 else k.max) n
 | .not,.bool b=>some (YO !b)
 |_,_=>none
def K6:List Value->List UInt8->Option (List UInt8)
 | [],acc=>some acc.reverse
 | .int .u8 n::l,acc=>K6 l (UInt8.ofNat n.toNat::acc)
 |_,_=>none
def Jf (E:Env) (h:Hp) (src dst:TypeId) (x:Value):Option Value:=
 match E.und src,E.und dst with
 | some s,some d=>(match s,d,x with
   |_,.int k,.int _ n=>YP k (Q1o k n)
   |_,.string,.int _ n=>some (.string (Utf8.encode n))
   |_,.string,.string s=>some (.string s)
   | .slice e,.string,.slice none _ _=>(match E.und e with|some (.int .u8)=>some (.string .empty)|_=>none)
   | .slice e,.string,.slice (some a) l _=>
     (match E.und e with
      | some (.int .u8)=>(match rowOf h a l with
        | some r=>(match K6 r []with
          |some bs=>some (.string ⟨bs.toArray⟩)
          |none=>none)
        |none=>none)
      |_=>none)
   |_,_,_=>none)
 |_,_=>none
def Yg (lo hi m:Nat):Bool:=v0n lo hi&&v0n hi m
def JJ:Value->Option Nat
 | .int _ (.ofNat n)=>some n
 |_=>none
def ZG (d:Nat):Option Value->Option Nat
 |none=>some d
 |some v=>JJ v
def ZP (h:Hp) (a:Addr):Option Nat:=
 match h.get a.block with
 |some (.cells _ _ m)=>some m
 |_=>none
def Q3o (a:Addr) (n l r c:Nat):Option Value:=cond (v0d (n+l+r) 0) (some (.slice (some a) 0 c)) none
theorem Q2x {a:Addr} {n l r c:Nat} {v:Value} (hr:Q3o a n l r c=some v):n=0/\l=0/\r=0/\v=.slice (some a) 0 c:=by
 unfold Q3o at hr;cases hb:v0d (n+l+r) 0 with
 |false=>rw[hb,cond_false]at hr;cases hr
 | true=>
   rw[hb,cond_true]at hr;have:=v1h hb;cases hr;exact⟨by omega,by omega,by omega,rfl⟩
theorem JW (c:Nat):Yg 0 0 c=true:=by cases c<;>rfl
theorem Q0A (a:Addr):a.add 0=a:=by unfold Addr.add;rfl
def YF (E:Env) (h:Hp) (t:TypeId) (x:Value) (lo hi mx:Option Value):Option Value:=
 match E.und t with
 | some (.string)=>(match x,mx with
   | .string s,none=>(match ZG 0 lo,ZG s.size hi with
     |some l,some r=>cond (Yg l r s.size) (some (.string (s.extract l r))) none
     |_,_=>none)
   |_,_=>none)
 | some (.slice e)=>(match x,mx,E.size e with
   | .slice none 0 0,none,some _=>(match ZG 0 lo,ZG 0 hi with
     |some 0,some 0=>some (.slice none 0 0)
     |_,_=>none)
   | .slice (some a) n c,none,some z=>(match ZG 0 lo,ZG n hi,ZP h a with
     |some l,some r,some (s+2)=>cond (Yg l r c&&v0d s z) (some (.slice (some (a.add (l*z))) (r -l) (c -l))) (Q3o a n l r c)
     |some l,some r,some _=>cond (Yg l r c) (some (.slice (some (cond (v0d c l) a (a.add (l*z)))) (r -l) (c -l))) none
     |some l,some r,none=>Q3o a n l r c
     |_,_,_=>none)
   |_,_,_=>none)
 | some (.array n e)=>(match x,mx,E.size e with
   | .pointer (some a),none,some z=>(match ZP h a,ZG 0 lo,ZG n hi with
     |some 0,some l,some r=>cond (Yg l r n) (some (.slice (some (cond (v0d n l) a (a.add (l*z)))) (r -l) (n -l))) none
     |_,_,_=>none)
   |_,_,_=>none)
 |_=>none
def Jd (E:Env) (s:TypeId) (x:Value) (i:Nat):Option Value:=
 match x,E.und s with
 | .pointer (some a),some (.struct fs)=>(match fs[i]? with
   | some f=>(match E.size f.type with
     |some (_+1)=>some (.pointer (some (a.add f.offset)))
     |_=>none)
   |none=>none)
 |_,_=>none
def Q82 (E:Env) (t:TypeId) (x:Value) (i:Nat):Option Value:=
 match x,E.und t with
 | .agg cs,some (.struct fs)=>(match fs[i]? with
   |some f=>Q09 E f.type cs f.offset
   |none=>none)
 |_,_=>none
def Kf (E:Env) (t:TypeId) (x ix:Value):Option Value:=
 match JJ ix,E.und t,x with
 | some i,some (.array n e),.pointer (some a)=>(match E.size e with
   |some z=>cond (v0a i n) (some (.pointer (some (a.add (i*z))))) none
   |none=>none)
 | some i,some (.slice e),.slice (some a) n _=>(match E.size e with
   |some z=>cond (v0a i n) (some (.pointer (some (a.add (i*z))))) none
   |none=>none)
 |_,_,_=>none
def Qay (E:Env) (t:TypeId) (x ix:Value):Option Value:=
 match JJ ix,E.und t,x with
 | some i,some (.array n e),.agg cs=>(match E.size e with
   |some z=>cond (v0a i n) (Q09 E e cs (i*z)) none
   |none=>none)
 | some i,some .string,.string s=>(match s[i]? with
   |some b=>some (.int .u8 b.toNat)
   |none=>none)
 |_,_,_=>none
def Q6f:TypeDesc->Bool
 | .int _=>true
 | .string=>true
 | .bool=>true
 |_=>false
def Zw:TypeDesc->Value->Bool
 | .int j,.int k _=>KF j k
 | .string,.string _=>true
 | .bool,.bool _=>true
 |_,_=>false
def Yb:Value->Bool
 | .int _ _=>true
 | .string _=>true
 | .bool _=>true
 |_=>false
def Q0n (E:Env):Nat->Array Value->Field->Bool
 |0,_,_=>false
 | n +1,cs,f=>match E.und f.type with
   | some (.struct gs)=>(match Q09 E f.type cs f.offset with
     |some (.agg ds)=>ds.toList.all Yb&&gs.toList.all (Q0n E n ds)
     |_=>false)
   |some d=>Q6f d&&(Q09 E f.type cs f.offset).isSome
   |none=>false
def Y8 (E:Env) (kt:TypeId) (k:Value):Bool:=
 match E.und kt with
 | some (.struct fs)=>(match k with
   | .agg cs=>cs.toList.all Yb&&fs.toList.all (Q0n E 3 cs)
   |_=>false)
 |some d=>Zw d k
 |none=>false
def KV (E:Env) (h:Hp) (kt:TypeId) (k k':Value):Option Bool:=
 match E.und kt with
 | some (.struct fs)=>(match k,k' with
   | .agg xs,.agg ys=>cond (E.P.stoodInHeld kt) none
     (match ZH E h xs ys fs.toList with
      |some true=>cond (sameV 4 (.agg xs) (.agg ys)) (some true) none
      |some false=>some false
      |none=>none)
   |_,_=>none)
 |some d=>cond (Zw d k&&Zw d k') (some (sameV 2 k k')) none
 |none=>none
def JU (E:Env) (h:Hp) (kt:TypeId) (k:Value):List MapEntry->Nat->Option (Option (Nat×Value))
 | [],_=>some none
 | e::es,i=>(match KV E h kt k e.key with
   |some true=>some (some (i,e.val))
   |some false=>JU E h kt k es (i+1)
   |none=>none)
def mapOf (h:Hp):Value->Option (List MapEntry)
 | .map none=>some []
 | .map (some r)=>(match h.get r with
   |some (.map es _)=>some es
   |_=>none)
 |_=>none
def K4 (E:Env) (h:Hp) (t:TypeId) (m k:Value) (ok:Bool):Option Value:=
 match E.und t,mapOf h m with
 | some (.map kt et),some es=>cond (Y8 E kt k)
  (match JU E h kt k es 0 with
   |some (some (_,v))=>some (cond ok (.tuple #[v,.bool true]) v)
   | some none=>(match E.zero et with
     |some z=>some (cond ok (.tuple #[z,.bool false]) z)
     |none=>none)
   |none=>none) none
 |_,_=>none
def QeX (E:Env) (h:Hp) (t:TypeId) (x:Value):Option Value:=
 match E.und t,x with
 |some .string,.string s=>YP .i64 s.size
 |some (.array n _),_=>YP .i64 n
 |some (.slice _),.slice _ n _=>YP .i64 n
 | some (.map _ _),m=>(match mapOf h m with
   |some es=>YP .i64 es.length
   |none=>none)
 | some (.chan _ _),.chan (some (k+1))=>(match h.get k with
   |some (.chan _ buf _ _)=>YP .i64 buf.length
   |_=>none)
 |_,_=>none
def Qcv:Value->Value->Option Value
 | .int k x,.int _ y=>YP k (if y>x then y else x)
 |_,_=>none
def QeL:Value->Value->Option Value
 | .int k x,.int _ y=>YP k (if y <x then y else x)
 |_,_=>none
def Q5B (f:Value->Value->Option Value):Value->List Value->Option Value
 |x,[]=>some x
 | x,y::l=>(match f x y with
   |some z=>Q5B f z l
   |none=>none)
def Km (E:Env) (x:Value) (_t a:TypeId) (ok:Bool):Option Value:=
 match E.und a,x with
 |some (.interface _),_=>none
 |some _,.iface u v=>cond (v0d u a) (some (cond ok (.tuple #[v,.bool true]) v))
  (cond ok (match E.zero a with|some z=>some (.tuple #[z,.bool false])|none=>none) none)
 |some _,.nilIface=>cond ok (match E.zero a with|some z=>some (.tuple #[z,.bool false])|none=>none) none
 |_,_=>none
def QL (E:Env) (tm:Tr Value) (o:Oper) (h:Hp):Option Value:=
 match o.op with
 | .move x=>some (ev tm x)
 | .assign x=>some (ev tm x)
 | .pick c a b=>(match ev tm c with| .bool t=>some (cond t (ev tm a) (ev tm b))|_=>none)
 | .build t ps=>(match E.zero t,E.und t with
   | some z,some (.struct fs)=>
     (match fs.toList.mapM (fun f=>(E.size f.type).map fun n=>(f.offset,n))with
      | some pl=>(match Instr.fill (fun i=>pl[i]?) z.cells (ps.toList.map fun(i,x)=>(i,ev tm x))with
        |some cs=>some (.agg cs)
        |none=>none)
      |none=>none)
   | some z,some (.array _ e)=>(match E.size e with
     | some n=>(match Instr.fill (fun i=>some (i*n,n)) z.cells (ps.toList.map fun(i,x)=>(i,ev tm x))with
       |some cs=>some (.agg cs)
       |none=>none)
     |none=>none)
   |_,_=>none)
 | .load t a=>(match ev tm a with
   | .pointer (some a)=>JO E t a h
   |_=>none)
 | .nilCheck x=>(match ev tm x with
   | .pointer (some a)=>some (.pointer (some a))
   | .func (.func f) a b=>some (.func (.func f) a b)
   | .func (.yield f) a b=>some (.func (.yield f) a b)
   | .iface t v=>some (.iface t v)
   |_=>none)
 | .binOp op t x y _=>Q4C E h op t x y (ev tm x) (ev tm y)
 | .unOp op _ x=>unX op (ev tm x)
 | .convert s d x=>Jf E h s d (ev tm x)
 | .makeInterface t x=>(match E.und t with
   |some (.interface _)=>none
   |some _=>some (.iface t (ev tm x))
   |none=>none)
 | .makeFunc fn a b=>(match fn with
   | .yield _=>none
   |fn=>some (.func fn (a.map (ev tm)) (b.map (ev tm))))
 | .slice t x lo hi mx=>YF E h t (ev tm x) (lo.map (ev tm)) (hi.map (ev tm)) (mx.map (ev tm))
 | .fieldAddr t x i=>Jd E t (ev tm x) i
 | .field t x i=>Q82 E t (ev tm x) i
 | .indexAddr t x i=>Kf E t (ev tm x) (ev tm i)
 | .index t x i=>Qay E t (ev tm x) (ev tm i)
 | .lookup t m k ok=>K4 E h t (ev tm m) (ev tm k) ok
 | .typeAssert x t a ok=>Km E (ev tm x) t a ok
 | .extract x i=>(match ev tm x with| .tuple vs=>vs[i]?|_=>none)
 | .call {callee:=.builtin b,args,argTypes}=>(match b,argTypes[0]?,(args.toList.map (ev tm))with
   | .len,some t,x::_=>QeX E h t x
   | .max,_,x::l=>Q5B Qcv x l
   | .min,_,x::l=>Q5B QeL x l
   |_,_,_=>none)
 |_=>none
def YA (cs:Array Value) (e:TypeId):AObj:=.cells cs.toList e 0
def ptrTo (i:Nat):Value:=.pointer (some ⟨i,0,none⟩)
def Qj (z:List Value):Nat->List Value
 |0=>[]
 |n+1=>z++Qj z n
def allocX (E:Env) (tm:Tr Value) (o:Oper):Option (AObj×(Nat->Value)):=
 match o.op with
 | .alloc e=>(match E.zero e with
   |some z=>some (YA z.cells e,ptrTo)
   |none=>none)
 | .box e x=>some (YA (ev tm x).cells e,ptrTo)
 | .buildSlice t n ps=>(match E.und t with
   | some (.slice e)=>(match E.size e,E.zero e with
     |some (z+1),some zv=>cond (v0n (n*(z+1)) (2^24)&&v0d zv.cells.size (z+1))
      (match Instr.fill (fun i=>some (i*(z+1),z+1)) (Qj zv.cells.toList n).toArray (ps.toList.map fun(i,x)=>(i,ev tm x))with
       |some cs=>some (YA cs e,fun i=>.slice (some ⟨i,0,none⟩) n n)
       |none=>none) none
     |_,_=>none)
   |_=>none)
 | .makeMap t r=>(match r,E.und t with
   |none,_=>some (.map [] 0,fun i=>.map (some i))
   | some r,some (.map _ _)=>(match ev tm r with
     | .int _ _=>some (.map [] 0,fun i=>.map (some i))
     |_=>none)
   |_,_=>none)
 | .makeSlice t l c=>(match E.und t,JJ (ev tm l),JJ (ev tm c)with
   | some (.slice e),some l,some c=>(match E.size e,E.zero e,E.bytes e with
     |some (z+1),some zv,some by'=>cond (v0n l c&&v0n c (2^40)&&v0n (by'*c) (2^47)&&v0d zv.cells.size (z+1))
      (some (YA (Qj zv.cells.toList c).toArray e,fun i=>.slice (some ⟨i,0,none⟩) l c)) none
     |_,_,_=>none)
   |_,_,_=>none)
 | .makeChan t x=>(match E.und t,JJ (ev tm x)with
   | some (.chan _ e),some n=>(match E.bytes e with
     |some by'=>cond (v0n n 1000000&&v0n (by'*n) 1000000) (some (.chan n [] 0 0,fun i=>.chan (some (i+1)))) none
     |none=>none)
   |_,_=>none)
 |_=>none
def Zl (h:Hp) (a:Addr) (l:List Value):Option Hp:=
 match a.spot with
 |some _=>none
 | none=>match h.get a.block with
   |some (.cells c e m)=>cond (!v0d m 1&&v0n (a.off+l.length) c.length)
    (some (h.put a.block (.cells (c.take a.off++l++c.drop (a.off+l.length)) e m))) none
   |_=>none
def cellV:Value->Bool
 | .agg _=>false
 | .tuple _=>false
 |_=>true
def Q1R (E:Env) (t:TypeId) (a:Addr) (v:Value) (h:Hp):Option Hp:=
 match E.size t with
 |some n=>cond (v0d v.cells.size n&&v.cells.toList.all cellV) (Zl h a v.cells.toList) none
 |none=>none
def Ku (E:Env) (h:Hp) (t:TypeId) (m k v:Value):Option Hp:=
 match E.und t,m with
 | some (.map kt _),.map (some r)=>(match h.get r with
   | some (.map es cl)=>cond (Y8 E kt k)
     (match JU E h kt k es 0 with
      |some (some (i,_))=>some (h.put r (.map (es.modify i fun e=> {e with key:=k,val:=v}) cl))
      |some none=>some (h.put r (.map (es++[{key:=k,val:=v,born:=cl}]) (cl+1)))
      |none=>none) none
   |_=>none)
 |_,_=>none
def Kd (E:Env) (h:Hp) (t:TypeId) (m k:Value):Option (Value×Hp):=
 match E.und t,m with
 | some (.map kt et),.map (some r)=>(match h.get r with
   | some (.map es cl)=>cond (Y8 E kt k)
     (match JU E h kt k es 0 with
      | some (some (i,v))=>(match es[i]? with
        |some e=>some (.tuple #[v,.int .i64 e.born],h.put r (.map (es.modify i fun e=> {e with key:=k}) cl))
        |none=>none)
      | some none=>(match E.zero et with
        |some z=>some (.tuple #[z,.int .i64 cl],h.put r (.map (es++[{key:=k,val:=z,born:=cl}]) (cl+1)))
        |none=>none)
      |none=>none) none
   |_=>none)
 |_,_=>none
def ZN (h:Hp) (m s v:Value):Option Hp:=
 match m,JJ s with
 | .map (some r),some b=>(match h.get r with
   | some (.map es cl)=>(match es.findIdx? (fun e=>v0d e.born b)with
     |some i=>some (h.put r (.map (es.modify i fun e=> {e with val:=v}) cl))
     |none=>none)
   |_=>none)
 |_,_=>none
def Q16 (E:Env) (h:Hp) (t:TypeId) (m k:Value):Option Hp:=
 match E.und t,m with
 | some (.map kt _),.map (some r)=>(match h.get r with
   | some (.map es cl)=>cond (Y8 E kt k)
     (match JU E h kt k es 0 with
      |some (some (i,_))=>some (h.put r (.map (es.eraseIdx i) cl))
      |some none=>some h
      |none=>none) none
   |_=>none)
 |_,_=>none
def Ju (h:Hp) (z n:Nat):Value->Option (List Value)
 | .slice (some a) l _=>cond (v0n n l) (cond (v0d n 0) (some []) (rowOf h a (n*z))) none
 | .slice none l _=>cond (v0n n l&&v0d l 0) (some []) none
 | .string s=>cond (v0n n s.size&&v0d z 1) (some ((s.data.toList.take n).map fun b=>.int .u8 b.toNat)) none
 |_=>none
def KT:Value->Option Nat
 | .slice _ n _=>some n
 | .string s=>some s.size
 |_=>none
def growX (E:Env) (h:Hp) (e:TypeId) (z b n:Nat) (old xs:List Value):Option (Value×Hp):=
 match E.zero e with
 |some zv=>cond ((v0n (n*b) (2^40)||v0n (2*(n*b)+192*b) (2^48))&&v0d zv.cells.size z)
  (some (.slice (some ⟨h.n,0,none⟩) n n,h.alloc (.cells (old++xs) e (z+2)))) none
 |none=>none
def Zd (E :Env) (h:Hp) (t t':TypeId) (s x:Value):Option (Value×Hp):=
 match E.und t,E.und t',KT x with
 | some (.slice e),some d',some n=>(match d',E.size e,E.bytes e with
   | .int _,_,_=>none
   | _, some (z+1),some (b+1)=>(match s,Ju h (z+1) n x with
     | .slice none 0 0,some xs=>cond (v0d n 0) (some (.slice none 0 0,h)) (growX E h e (z+1) (b+1) n [] xs)
     | .slice (some a) l c,some xs=>cond (v0d n 0) (match ZP h a with
        |some _=>cond (v0n l c) (some (.slice (some a) l c,h)) none
        |none=>none)
       (cond (v0n (l+n) c)
        (match Zl h (a.add (l*(z+1))) xs with
         |some h'=>cond (xs.all cellV) (some (.slice (some a) (l+n) c,h')) none
         |none=>none)
        (match rowOf h a (l*(z+1)),h.get a.block with
         | some old,some (.cells _ be m)=>cond (xs.all cellV)
           (match m with
            |q+2=>cond (v0d be e&&v0d q (z+1)) (growX E (h.put a.block .dead) e (z+1) (b+1) (l+n) old xs) none
            |_=>growX E h e (z+1) (b+1) (l+n) old xs) none
         |_,_=>none))
     |_,_=>none)
   |_,_,_=>none)
 |_,_,_=>none
def Qbb (E :Env) (h:Hp) (t:TypeId) (d s:Value):Option (Value×Hp):=
 match E.und t,KT s with
 | some (.slice e),some n=>(match E.size e,d with
   | some (z+1),.slice (some a) l _=>(match Ju h (z+1) (min n l) s with
     |some xs=>cond (xs.all cellV)
      (match Zl h a xs with
       |some h'=>some (.int .i64 (min n l:Nat),h')
       |none=>none) none
     |none=>none)
   |some (_+1),.slice none 0 0=>some (.int .i64 0,h)
   |_,_=>none)
 |_,_=>none
inductive Nx where
 |value (v:Value) (h:Hp)
 |skip (h:Hp)
 |enter (f:FuncId) (args:Array Value)
 |round (l:Nat) (args:Array Value)
 |defer (d:Deferred)
 |recover
 |panic (v:Value)
def ZI (tm:Tr Value) (c:Call) (type:TypeId):Option Deferred:=
 match c.callee with
 | .builtin b=>some {target:=.builtin b c.argTypes type (c.args.map fun| .const _=>true|_=>false),args:=c.args.map (ev tm)}
 | .invoke r name=>some {target:=.fn (.method name) #[],args:= #[ev tm r]++c.args.map (ev tm)}
 | .value f=>(match ev tm f with
   | .func fn first captured=>some {target:=.fn fn captured,args:=first++c.args.map (ev tm)}
   |_=>none)
def Q6z (E:Env) (t:TypeId) (name:String):Option FuncId:=
 match E.ty t with
 | some i=>(match i.methods.find? (·.name==name)with
   | some m=>(match m.path.toList,m.func with
     | [],some (f,true)=>(match i.desc with
       | .pointer _=>some f
       |_=>none)
     | [],some (f,false)=>(match E.und t with
       |some (.pointer _)=>none
       |some _=>some f
       |none=>none)
     |_,_=>none)
   |none=>none)
 |none=>none
def Q3q (h:Hp):List Value->Option Nx
 | [.iface t (.map (some r))]=>(match h.get r with
   |some (.map es cl)=>some (.value (.iface t (.map (some h.n))) (h.alloc (.map es cl)))
   |_=>none)
 |_=>none
def YN (E:Env) (h:Hp) (f:FuncId) (args:Array Value):Option Nx:=
 cond (E.ext f) (Q3q h args.toList)
  (match E.fn f with
   |some fn=>cond (fn.body.isSome&& !(fn.name== "runtime.NumGoroutine")) (some (.enter f args)) none
   |none=>none)
def Zx (E:Env) (h:Hp) (d:Deferred):Option Nx:=
 match d.target with
 | .fn (.func f) cap=>YN E h f (d.args++cap)
 | .fn (.yield l) _=>some (.round l d.args)
 | .fn (.method name) _=>(match d.args.toList with
   | .iface t v::rest=>(match Q6z E t name with
     |some f=>YN E h f (#[v]++rest.toArray)
     |none=>none)
   |_=>none)
 | .builtin b ts _ _=>(match b,ts[0]?,d.args.toList with
   | .append,some t,[s,x]=>(match ts[1]? with
     |some t'=>(match Zd E h t t' s x with|some (v,h')=>some (.value v h')|none=>none)
     |none=>none)
   | .copy,some t,[a,b]=>(match Qbb E h t a b with|some (v,h')=>some (.value v h')|none=>none)
   | .delete,some t,[m,k]=>(match Q16 E h t m k with|some h'=>some (.value (.tuple #[]) h')|none=>none)
   | .recover,_,_=>some .recover
   | .panic,_,x::_=>(match x with| .iface t v=>some (.panic (.iface t v))|_=>none)
   |_,_,_=>none)
 |_=>none
def QW (E :Env) (tm:Tr Value) (o:Oper) (h:Hp):Option Nx:=
 match o.op with
 | .store t a x=>(match ev tm a with
   | .pointer (some a)=>(match Q1R E t a (ev tm x) h with|some h'=>some (.skip h')|none=>none)
   |_=>none)
 | .mapUpdate t m k x=>(match Ku E h t (ev tm m) (ev tm k) (ev tm x)with|some h'=>some (.skip h')|none=>none)
 | .insert t m k x=>(match Ku E h t (ev tm m) (ev tm k) (ev tm x)with|some h'=>some (.skip h')|none=>none)
 | .mapEntry t m k=>(match Kd E h t (ev tm m) (ev tm k)with|some (v,h')=>some (.value v h')|none=>none)
 | .entryStore _ m s x=>(match ZN h (ev tm m) (ev tm s) (ev tm x)with|some h'=>some (.skip h')|none=>none)
 | .range t x=>(match E.und t,ev tm x with
   |some .string,.string s=>some (.value (ptrTo h.n) (h.alloc (.str s 0)))
   |some (.map _ _),.map none=>some (.value (ptrTo h.n) (h.alloc (.iter none 0 [] 0)))
   | some (.map _ _),.map (some r)=>(match h.get r with
     |some (.map _ cl)=>some (.value (ptrTo h.n) (h.alloc (.iter (some r) cl [] cl)))
     |_=>none)
   |_,_=>none)
 | .next it true=>(match ev tm it with
   | .pointer (some ⟨r,0,none⟩)=>(match h.get r with
     |some (.str s p)=>cond (v0a p s.size)
      (some (.value (.tuple #[.bool true,.int .i64 p,.int .i32 (Utf8.decode s p).1]) (h.put r (.str s (p+(Utf8.decode s p).2)))))
      (some (.value (.tuple #[.bool false]) h))
     |_=>none)
   |_=>none)
 | .convert src dst x=>(match E.und src,E.und dst,ev tm x with
   | some _,some (.slice e),.string s=>(match E.und e with
     |some (.int .u8)=>some (.value (.slice (some ⟨h.n,0,none⟩) s.size s.size) (h.alloc (.cells (s.data.toList.map fun b=>.int .u8 b.toNat) e 3)))
     |_=>none)
   | some (.slice _),some (.slice e),.slice (some ⟨b,0,none⟩) n k=>cond (v0d src dst) (match E.und e,h.get b with
     |some (.int .u8),some (.cells c e' 0)=>some (.value (.slice (some ⟨b,0,none⟩) n k) (h.put b (.cells c e' 1)))
     |_,_=>none) none
   |_,_,_=>none)
 | .call c=>(match ZI tm c o.type with
   |some d=>Zx E h d
   |none=>none)
 | .defer c=>(match ZI tm c o.type with
   |some d=>some (.defer d)
   |none=>none)
 | .panic x=>(match ev tm x with
   | .iface t v=>some (.panic (.iface t v))
   |_=>none)
 |_=>none
end
noncomputable section
def cls (E:Env) (o:Oper):Nat:=
 match o.op with
 | .alloc _=>1
 | .box _ _=>1
 | .buildSlice _ _ _=>1
 | .makeMap _ _=>1
 | .makeSlice _ _ _=>1
 | .makeChan _ _=>1
 | .convert _ d _=>(match E.und d with|some (.slice _)=>2|_=>0)
 | .call {callee:=.builtin b,..}=>(match b with| .len=>0| .max=>0| .min=>0|_=>2)
 | .move _=>0
 | .assign _=>0
 | .pick _ _ _=>0
 | .build _ _=>0
 | .load _ _=>0
 | .nilCheck _=>0
 | .binOp _ _ _ _ _=>0
 | .unOp _ _ _=>0
 | .makeInterface _ _=>0
 | .makeFunc _ _ _=>0
 | .slice _ _ _ _ _=>0
 | .fieldAddr _ _ _=>0
 | .field _ _ _=>0
 | .indexAddr _ _ _=>0
 | .index _ _ _=>0
 | .lookup _ _ _ _=>0
 | .typeAssert _ _ _ _=>0
 | .extract _ _=>0
 |_=>2
def Q64 (acc:List (Nat×Nat)) (o:Oper):Nat:=
 (o.after.toList.filter (fun e=>Region.binds .any e)).foldl (fun s e=>max s (acc.getD e.on (0,0)).2) 0
def Q9f (E:Env):List Oper->Nat->List (Nat×Nat)->List (Nat×Nat)
 | [],_,acc=>acc
 | o ::l,k,acc=>
   cond (v0d (cls E o) 2)
    (Q9f E l (k+1) (acc++[(Q64 acc o,k+1)]))
    (Q9f E l k (acc++[(Q64 acc o,Q64 acc o)]))
def Q7i (E:Env) (ops:List Oper) (st:List (Nat×Nat)) (k:Nat):List Nat:=
 (ops.zip st).zipIdx.filterMap fun((o,s),i)=>cond (v0d s.1 k&& !v0d (cls E o) 2) (some i) none
def QdQ (E:Env) (ops:List Oper):List Nat:=
 ops.zipIdx.filterMap fun(o,i)=>cond (v0d (cls E o) 2) (some i) none
def Q53 (E:Env) (ops:List Oper) (st:List (Nat×Nat)):List Nat->Nat->List Nat
 | [],k=>Q7i E ops st k
 |w::ws,k=>Q7i E ops st k++w::Q53 E ops st ws (k+1)
def canon (E:Env) (ops:Array Oper):List Nat:=
 Q53 E ops.toList (Q9f E ops.toList 0 []) (QdQ E ops.toList) 0
def JN (i:Nat):List Nat->Bool
 | []=>false
 |j::l=>cond (v0d i j) true (JN i l)
def Q5b:List Nat->Bool
 | []=>true
 |i::l=> !JN i l&&Q5b l
def Zi (ops:Array Oper) (i:Nat):List Nat:=
 match ops[i]? with
 |some o=>(o.after.toList.filter (fun e=>Region.binds .any e)).map (·.on)
 |none=>[]
def Q8H (ops:Array Oper):Nat->Nat->Nat->Bool
 |0,_,_=>false
 |n+1,i,j=>JN i (Zi ops j)||(Zi ops j).any (fun p=>Q8H ops n i p)
def ahead (ops:Array Oper) (i j:Nat):Bool:=Q8H ops 12 i j
def Q8Q (E:Env) (ops:Array Oper) (i:Nat):Nat:=
 match ops[i]? with
 |some o=>cls E o
 |none=>2
def Q0P (E:Env) (ops:Array Oper):List Nat->Bool
 | []=>true
 | i::rest=>(Zi ops i).all (fun p=> !JN p (i::rest))&&
   cond (v0d (Q8Q E ops i) 2) (rest.all fun j=>(Zi ops j).any (fun p=>JN p (i::rest))) true&&
   Q0P E ops rest
def tmpsOf (l:List Operand):List Nat:=l.filterMap fun| .tmp t=>some t|_=>none
def Q8N (o:Oper) (t:Nat):Bool:=match o.dst with|some d=>v0d d t|none=>false
def Q7c (ops:Array Oper):Bool:=
 let l:=ops.toList.zipIdx
 (l.all fun(o,i)=>l.all fun(q,j)=>v0d i j||(match o.dst with|some d=> !Q8N q d|none=>true))&&
 (l.all fun(o,i)=>
  (tmpsOf o.op.operands.toList).all (fun t=>l.all fun(q,j)=> !Q8N q t||ahead ops j i)&&
  (match o.guard with
   |none=>true
   |some (g,_)=>ahead ops g i))
def Kz (ops:Array Oper):Bool:=
 (v0w ops.size).all fun i=>(Zi ops i).all fun p=>v0a p i
def Q2A:Operand->Bool
 | .const v=>ZB 20 v
 | .global g=>v0a g 255
 |_=>true
def QS (ops:Array Oper):Bool:=ops.toList.all fun o=>o.op.operands.toList.all Q2A
def selOk (o:Oper):Bool:=match o.op with
 | .select _ _=>false
 |_=>true
def Q54 (E:Env) (ops:Array Oper) (l:List Nat):Bool:=
 Q0P E ops l&&Q5b l&&l.all (fun i=>v0a i ops.size)&&(v0w ops.size).all (fun i=>JN i l)
def J6 (E:Env) (ops:Array Oper):Bool:=
 Kz ops&&Q7c ops&&ops.toList.all selOk&&Q54 E ops (canon E ops)
def KG (o:Oper):Bool:=
 match o.op with
 | .move _=>true
 | .assign _=>true
 | .pick _ _ _=>true
 | .build _ _=>true
 | .nilCheck _=>true
 | .unOp _ _ _=>true
 | .makeInterface _ _=>true
 | .makeFunc _ _ _=>true
 | .fieldAddr _ _ _=>true
 | .field _ _ _=>true
 | .indexAddr _ _ _=>true
 | .index _ _ _=>true
 | .typeAssert _ _ _ _=>true
 | .extract _ _=>true
 |_=>false
def Qg7 (E:Env) (ops:Array Oper) (j:Nat) (rest:List Nat):List Nat:=
 (v0w ops.size).filter fun i=>v0d (Q8Q E ops i) 0&& !(match ops[i]? with|some o=>KG o|none=>true)&& !JN i (j::rest)&& !ahead ops i j
inductive It where
 |code (c:Code)
 |inBlock (id:Nat)
 |inLoop (body:Code)
 |inScope (body:Code)
 |inRegion (ops:Array Oper) (todo:List Nat)
 |draw (ops:Array Oper) (todo:List Nat)
 |chk (ops:Array Oper) (l:List Nat) (todo:List Nat)
 |inRangeFunc (loop:Nat)
 |endRangeFunc (loop:Nat)
 |beginRound
structure Fr where
 fn:FuncId
 nt:Nat
 tm:Tr Value
 todo:List It
 defers:List Deferred
 mode:FrameMode
 kind:CallKind
 ro:Option Nat
structure St where
 fr:Fr
 cs:List Fr
 h:Hp
def setT (nt:Nat) (tm:Tr Value) (d:Nat) (v:Value):Tr Value:=cond (v0a d nt) (tm.set (d+1) d v) tm
def Q1e (nt:Nat) (tm:Tr Value) (d:Option Nat) (v:Value):Tr Value:=
 match d with
 |none=>tm
 |some d=>setT nt tm d v
def ZM (id:Nat):List It->Option (List It)
 | []=>none
 | .inBlock i::k=>cond (v0d i id) (some k) (ZM id k)
 |_::k=>ZM id k
def Q8I (l:Nat):List It->Option (List It)
 | []=>none
 | .inScope body::k=>(match findLabel body l with
   |some rest=>some (.code rest::.inScope body::k)
   |none=>Q8I l k)
 |_::k=>Q8I l k
def Q0w:List Value->Nat->Tr Value->Tr Value
 | [],_,t=>t
 |v::l,i,t=>Q0w l (i+1) (t.set (i+1) i v)
def Ys (E:Env) (f:FuncId) (args:List Value) (kind:CallKind):Option Fr:=
 match E.fn f with
 | some fn=>(match fn.body with
   |some c=>some ⟨f,args.length+(fn.ntmps -args.length),Q0w args 0 .leaf,[.code c],[],.run,kind,none⟩
   |none=>none)
 |none=>none
def QD (ops:Array Oper) (tm:Tr Value) (o:Oper):Option Bool:=
 match o.guard with
 |none=>some true
 | some (g,want)=>(match ops[g]? with
   | some og=>(match og.dst with
     | some d=>(match tm.get d with
       |some (.bool b)=>some (b==want)
       |some (.tuple _)=>some false
       |_=>none)
     |none=>none)
   |none=>none)
def QX (E:Env) (fr:Fr) (v:Value):Option Fr:=
 match fr with
 | ⟨fn,nt,tm,todo,df,.run,kd,ro⟩=>(match todo with
   | .inRegion ops (i::rest)::k=>(match ops[i]? with
     |some o=>some ⟨fn,nt,Q1e nt tm o.dst v,.inRegion ops rest::k,df,.run,kd,ro⟩
     |none=>none)
   | .draw ops (i::rest)::k=>(match ops[i]? with
     |some o=>some ⟨fn,nt,Q1e nt tm o.dst v,.chk ops (Qg7 E ops i rest) rest::k,df,.run,kd,ro⟩
     |none=>none)
   | .inRangeFunc l::k=>some ⟨fn,nt,tm,.endRangeFunc l::k,df,.run,kd,ro⟩
   |_=>none)
 |_=>none
def Qej (E:Env) (fn:FuncId) (ops:Array Oper):Bool:=
 match E.fn fn with
 | some f=>f.results.toList.all fun r=>ops.toList.all fun o=>(match r with
   | .tmp t=> !Q8N o t
   | .cell t _=> !Q8N o t)
 |none=>false
def Q7w (E:Env) (fr:Fr) (chain:List PanicEntry):Option Fr:=
 match fr with
 | ⟨fn,nt,tm,todo,df,md,kd,ro⟩=>(match md with
   | .panicking c=>some ⟨fn,nt,tm,todo,df,.panicking (chain++c),kd,ro⟩
   | .returning=>some ⟨fn,nt,tm,todo,df,.panicking chain,kd,ro⟩
   | .run=>(match todo with
     | .draw ops _::_=>cond (Qej E fn ops) (some ⟨fn,nt,tm,todo,df,.panicking chain,kd,ro⟩) none
     | .chk _ _ _::_=>none
     |_=>some ⟨fn,nt,tm,todo,df,.panicking chain,kd,ro⟩))
def Yl (h:Hp) (l:Nat):Option Lp:=
 match h.get l with
 |some (.loop r)=>some r
 |_=>none
def YH (E :Env) (kind:CallKind) (cs:List Fr) (h:Hp) (v:Value):Option St:=
 match cs with
 | []=>none
 | c ::rest=>(match kind with
   | .normal=>(match QX E c v with|some c'=>some ⟨c',rest,h⟩|none=>none)
   | .deferred=>(match c with
     | ⟨fn,nt,tm,todo,df,md,kd,ro⟩=>(match md with
       | .panicking (⟨_,true,_⟩::older)=>
         (match older.dropWhile (!·.goexit)with
          | []=>some ⟨⟨fn,nt,tm,todo,df,.returning,kd,ro⟩,rest,h⟩
          |r=>some ⟨⟨fn,nt,tm,todo,df,.panicking r,kd,ro⟩,rest,h⟩)
       | .run=>none
       |md=>some ⟨⟨fn,nt,tm,todo,df,md,kd,ro⟩,rest,h⟩))
   |_=>none)
def Q6u:Option Code->Bool
 |none=>true
 |some _=>false
def Ki (h:Hp) (l:Nat) (jump:Option Code):Option Hp:=
 match Yl h l with
 |some ⟨_,_,fn,nt,tm,ps,a,b,d⟩=>some (h.put l (.loop ⟨cond (Q6u jump) .ready .done,jump,fn,nt,tm,ps,a,b,d⟩))
 |none=>none
def Js (E:Env) (fr:Fr) (cs:List Fr) (h:Hp) (jump:Option Code):Option St:=
 match fr with
 | ⟨fn,nt,tm,todo,df,_,kd,ro⟩=>(match ro with
   | none=>(match jump with
     |none=>some ⟨⟨fn,nt,tm,todo,df,.returning,kd,none⟩,cs,h⟩
     |some .ret=>some ⟨⟨fn,nt,tm,todo,df,.returning,kd,none⟩,cs,h⟩
     |_=>none)
   | some l=>(match kd with
     | .normal=>(match Ki h l jump with
       |some h'=>YH E .normal cs h' (YO (Q6u jump))
       |none=>none)
     |_=>none))
def Q3J (fr:Fr) (cs:List Fr):Option (Value×List Fr):=
 match fr.kind,cs with
 | .deferred,⟨fn,nt,tm,todo,df,md,kd,ro⟩::rest=>(match md with
   | .panicking (⟨v,false,false⟩::older)=>some (v,⟨fn,nt,tm,todo,df,.panicking (⟨v,true,false⟩::older),kd,ro⟩::rest)
   | .panicking _=>none
   |_=>some (.nilIface,cs))
 | .normal,_=>some (.nilIface,cs)
 |_,_=>none
def Q0O (nt:Nat):List Nat->List Value->Tr Value->Tr Value
 |t::ts,v::vs,tm=>Q0O nt ts vs (setT nt tm t v)
 |_,_,tm=>tm
def ZT (E :Env) (fr:Fr) (cs:List Fr) (h:Hp):Nx->Option St
 | .value v h=>(match QX E fr v with|some fr=>some ⟨fr,cs,h⟩|none=>none)
 | .skip h=>(match QX E fr undef with|some fr=>some ⟨fr,cs,h⟩|none=>none)
 | .enter f args=>(match E.orc f with
  |some v=>(match args.toList with
   | []=>(match QX E fr v with|some fr=>some ⟨fr,cs,h⟩|none=>none)
   |_=>none)
  | none=>(match E.sm f with
    | some F=>(match F args.toList h with
      |some (v,h')=>(match QX E fr v with|some fr=>some ⟨fr,cs,h'⟩|none=>none)
      |none=>none)
    |none=>(match Ys E f args.toList .normal with|some aw=>some ⟨aw,fr::cs,h⟩|none=>none)))
 | .round l args=>(match Yl h l with
   |some ⟨_,_,fn,nt,tm,ps,a,b,_⟩=>cond (v0d args.toList.length ps.toList.length)
    (some ⟨⟨fn,nt,Q0O nt ps.toList args.toList tm,[.code a,.beginRound,.code b],[],.run,.normal,some l⟩,fr::cs,h⟩) none
   |none=>none)
 | .defer d=>(match fr with
   | ⟨fn,nt,tm,todo,df,md,kd,none⟩=>(match QX E ⟨fn,nt,tm,todo,d::df,md,kd,none⟩ undef with|some fr=>some ⟨fr,cs,h⟩|none=>none)
   |_=>none)
 | .recover=>(match fr.ro with
   |some _=>none
   | none=>(match Q3J fr cs with
     |some (v,cs)=>(match QX E fr v with|some fr=>some ⟨fr,cs,h⟩|none=>none)
     |none=>none))
 | .panic v=>(match Q7w E fr [⟨v,false,false⟩]with
   |some fr=>some ⟨fr,cs,h⟩
   |none=>none)
def Q6o (E:Env) (fr:Fr) (cs:List Fr) (h:Hp) (o:Oper):Option St:=
 match cls E o with
 | 0=>(match QL E fr.tm o h with
   |some v=>ZT E fr cs h (.value v h)
   |none=>none)
 | 1=>(match allocX E fr.tm o with
   |some (b,f)=>ZT E fr cs h (.value (f h.n) (h.alloc b))
   |none=>none)
 | _=>(match QW E fr.tm o h with
   |some n=>ZT E fr cs h n
   |none=>none)
def Q6T (E:Env) (fr:Fr) (cs:List Fr) (h:Hp) (ops:Array Oper) (i:Nat) (rest:List Nat) (k:List It):Option St:=
 match ops[i]? with
 |none=>none
 | some o=>(match fr with
   | ⟨fn,nt,tm,todo,df,md,kd,ro⟩=>(match QD ops tm o with
     |none=>none
     |some false=>some ⟨⟨fn,nt,Q1e nt tm o.dst undef,.draw ops rest::k,df,md,kd,ro⟩,cs,h⟩
     | some true=>(match cls E o with
       | 0=>(match QL E tm o h with
         |some v=>some ⟨⟨fn,nt,Q1e nt tm o.dst v,.draw ops rest::k,df,md,kd,ro⟩,cs,h⟩
         |none=>none)
       | 1=>(match allocX E tm o with
         |some (b,f)=>some ⟨⟨fn,nt,Q1e nt tm o.dst (f h.n),.draw ops rest::k,df,md,kd,ro⟩,cs,h.alloc b⟩
         |none=>none)
       | _=>(match QW E tm o h with
         |some n=>ZT E ⟨fn,nt,tm,todo,df,md,kd,ro⟩ cs h n
         |none=>none))))
def Q2H (E:Env) (tm:Tr Value) (h:Hp) (ops:Array Oper) (i:Nat):Bool:=
 match ops[i]? with
 |none=>false
 | some o=>(match QD ops tm o with
   |none=>false
   |some false=>true
   | some true=>(match QL E tm o h,o.dst with
     | some v,some d=>(match tm.get d with
       |some u=>sameV 20 v u
       |none=>false)
     |_,_=>false))
def Za (E:Env) (tm:Tr Value) (h:Hp):List ResultVar->Option (List Value)
 | []=>some []
 | .tmp t::l=>(match Za E tm h l with
   |some r=>some (ev tm (.tmp t)::r)
   |none=>none)
 | .cell a t::l=>(match ev tm (.tmp a)with
   | .pointer (some p)=>(match JO E t p h,Za E tm h l with
     |some v,some r=>some (v::r)
     |_,_=>none)
   |_=>none)
def oneOf:List Value->Value
 | [v]=>v
 |l=>.tuple l.toArray
def Q0L (f:Operand) (l:Nat):Call:= {callee:=.value f,args:= #[.const (.func (.yield l) #[] #[])],argTypes:= #[]}
def Q4Y (E:Env) (fn:FuncId) (nt:Nat) (tm:Tr Value) (k:List It) (df:List Deferred) (kd:CallKind) (ro:Option Nat) (cs:List Fr) (h:Hp)
    (f:Operand) (ps:Array Tmp) (a b:Code) (df':List Deferred) (r:Nat):Option St:=
 match cond (Q2A f) (ZI tm (Q0L f h.n) 0) none with
 | some d=>(match Zx E (h.alloc (.loop ⟨.ready,none,fn,nt,tm,ps,a,b,r⟩)) d with
   | some (.enter g args)=>(match Ys E g args.toList .normal with
     |some aw=>some ⟨aw,⟨fn,nt,tm,.inRangeFunc h.n::k,df'++df,.run,kd,ro⟩::cs,h.alloc (.loop ⟨.ready,none,fn,nt,tm,ps,a,b,r⟩)⟩
     |none=>none)
   |_=>none)
 |none=>none
def QU (E:Env) (fn:FuncId) (nt:Nat) (tm:Tr Value) (todo:List It) (df:List Deferred) (kd:CallKind) (ro:Option Nat) (cs:List Fr) (h:Hp):Option St:=
 match todo with
 | []=>Js E ⟨fn,nt,tm,[],df,.run,kd,ro⟩ cs h none
 | .code c::k=>(match c with
   | .skip=>some ⟨⟨fn,nt,tm,k,df,.run,kd,ro⟩,cs,h⟩
   | .label _=>some ⟨⟨fn,nt,tm,k,df,.run,kd,ro⟩,cs,h⟩
   | .ret=>Js E ⟨fn,nt,tm,.code .ret::k,df,.run,kd,ro⟩ cs h (some .ret)
   | .seq a b=>some ⟨⟨fn,nt,tm,.code a::.code b::k,df,.run,kd,ro⟩,cs,h⟩
   | .cond c a b=>(match ev tm c with
     | .bool t=>some ⟨⟨fn,nt,tm,.code (cond t a b)::k,df,.run,kd,ro⟩,cs,h⟩
     |_=>none)
   | .block id b=>some ⟨⟨fn,nt,tm,.code b::.inBlock id::k,df,.run,kd,ro⟩,cs,h⟩
   | .loop b=>some ⟨⟨fn,nt,tm,.code b::.inLoop b::k,df,.run,kd,ro⟩,cs,h⟩
   | .scope b=>some ⟨⟨fn,nt,tm,.code b::.inScope b::k,df,.run,kd,ro⟩,cs,h⟩
   | .exit id=>(match ZM id k with
     |some k'=>some ⟨⟨fn,nt,tm,k',df,.run,kd,ro⟩,cs,h⟩
     |none=>Js E ⟨fn,nt,tm,.code (.exit id)::k,df,.run,kd,ro⟩ cs h (some (.exit id)))
   | .goto l=>(match Q8I l k with
     |some k'=>some ⟨⟨fn,nt,tm,k',df,.run,kd,ro⟩,cs,h⟩
     |none=>Js E ⟨fn,nt,tm,.code (.goto l)::k,df,.run,kd,ro⟩ cs h (some (.goto l)))
   | .rangeFunc f ps a b=>(match ro with
     |none=>Q4Y E fn nt tm k df kd none cs (h.alloc (.deferred (some []))) f ps a b [{target:=.collected h.n,args:= #[]}] h.n
     | some o=>(match Yl h o with
       |none=>none
       |some r=>Q4Y E fn nt tm k df kd (some o) cs h f ps a b [] r.defers))
   | .region _ ops draw=>cond (QS ops) (cond draw
    (cond (J6 E ops) (some ⟨⟨fn,nt,tm,.draw ops (canon E ops)::k,df,.run,kd,ro⟩,cs,h⟩) none)
    (some ⟨⟨fn,nt,tm,.inRegion ops (v0w ops.size)::k,df,.run,kd,ro⟩,cs,h⟩)) none
   | .refuse _=>none)
 | .inBlock _::k=>some ⟨⟨fn,nt,tm,k,df,.run,kd,ro⟩,cs,h⟩
 | .inScope _::k=>some ⟨⟨fn,nt,tm,k,df,.run,kd,ro⟩,cs,h⟩
 | .inLoop b::k=>some ⟨⟨fn,nt,tm,.code b::.inLoop b::k,df,.run,kd,ro⟩,cs,h⟩
 | .inRegion ops l::k=>(match l with
   | []=>some ⟨⟨fn,nt,tm,k,df,.run,kd,ro⟩,cs,h⟩
   | i ::rest=>(match ops[i]? with
     |none=>none
     | some o=>(match QD ops tm o with
       |none=>none
       |some false=>some ⟨⟨fn,nt,Q1e nt tm o.dst undef,.inRegion ops rest::k,df,.run,kd,ro⟩,cs,h⟩
       |some true=>Q6o E ⟨fn,nt,tm,.inRegion ops (i::rest)::k,df,.run,kd,ro⟩ cs h o)))
 | .draw ops l::k=>(match l with
   | []=>some ⟨⟨fn,nt,tm,k,df,.run,kd,ro⟩,cs,h⟩
   |i::rest=>Q6T E ⟨fn,nt,tm,.draw ops (i::rest)::k,df,.run,kd,ro⟩ cs h ops i rest k)
 | .chk ops l rest::k=>(match l with
   | []=>some ⟨⟨fn,nt,tm,.draw ops rest::k,df,.run,kd,ro⟩,cs,h⟩
   |i::l=>cond (Q2H E tm h ops i) (some ⟨⟨fn,nt,tm,.chk ops l rest::k,df,.run,kd,ro⟩,cs,h⟩) none)
 | .inRangeFunc _::_=>none
 | .beginRound::k=>(match ro with
   |none=>none
   | some l=>(match Yl h l with
     |some ⟨.ready,p,f,n,t,ps,a,b,d⟩=>some ⟨⟨fn,nt,tm,k,df,.run,kd,some l⟩,cs,h.put l (.loop ⟨.busy,p,f,n,t,ps,a,b,d⟩)⟩
     |_=>none))
 | .endRangeFunc l::k=>(match Yl h l with
   |some ⟨.busy,_,_,_,_,_,_,_,_⟩=>none
   |some ⟨_,p,f,n,t,ps,a,b,d⟩=>some ⟨⟨fn,nt,tm,(match p with|none=>k|some c=>.code c::k),df,.run,kd,ro⟩,cs,h.put l (.loop ⟨.exhausted,p,f,n,t,ps,a,b,d⟩)⟩
   |none=>none)
def Q0C (E:Env) (fn:FuncId) (nt:Nat) (tm:Tr Value) (todo:List It) (df:List Deferred) (md:FrameMode) (kd:CallKind) (ro:Option Nat) (cs:List Fr) (h:Hp):Option St:=
 match df with
 | d ::ds=>(match d.target with
   | .collected b=>(match h.get b with
     |some (.deferred (some calls))=>some ⟨⟨fn,nt,tm,todo,calls++ds,md,kd,ro⟩,cs,h.put b (.deferred none)⟩
     |_=>none)
   | _ =>(match Zx E h d with
     | some (.enter f args)=>(match Ys E f args.toList .deferred with
       |some fr=>some ⟨fr,⟨fn,nt,tm,todo,ds,md,kd,ro⟩::cs,h⟩
       |none=>none)
     |_=>none))
 | [] => (match md with
   | .run=>none
   | .panicking chain=>(match cs,E.fn fn with
     | c::rest,some _=>(match Q7w E c chain with
       |some c=>some ⟨c,rest,h⟩
       |none=>none)
     |_,_=>none)
   | .returning=>(match cs with
     | []=>none
     | _ ::_=>(match E.fn fn with
       | some f=>(match Za E tm h f.results.toList with
         |some vs=>YH E kd cs h (oneOf vs)
         |none=>none)
       |none=>none)))
def stepX (E:Env) (s:St):Option St:=
 match s with
 | ⟨⟨fn,nt,tm,todo,df,md,kd,ro⟩,cs,h⟩=>(match md with
   | .run=>QU E fn nt tm todo df kd ro cs h
   |md=>Q0C E fn nt tm todo df md kd ro cs h)
def Q7q (E:Env) (n:Nat):St->St:=
 Nat.rec (motive:=fun _=>St->St) (fun s=>s) (fun _ ih s=>(match stepX E s with
  |some s'=>ih s'
  |none=>s)) n
theorem Q1Y (E:Env) (s:St):Q7q E 0 s=s:=rfl
theorem KP (E:Env) (n:Nat) (s:St):Q7q E (n+1) s=(match stepX E s with
 |some s'=>Q7q E n s'
 |none=>s):=rfl
def QbG (E:Env) (f:FuncId) (s:St):Option Value:=
 match s with
 | ⟨⟨fn,_,tm,_,[],.returning,.normal,_⟩,[],h⟩=>cond (v0d fn f) (match E.fn fn with
   | some f=>(match Za E tm h f.results.toList with
     |some vs=>some (oneOf vs)
     |none=>none)
   |none=>none) none
 |_=>none
def Jp (E:Env) (f:FuncId) (args:List Value) (h:Hp):Option St:=
 match Ys E f args .normal with
 |some fr=>some ⟨fr,[],h⟩
 |none=>none
def Q7a (E:Env) (f:FuncId) (n:Nat):Option Value:=
 match Jp E f [] Hp.empty with
 |some s=>QbG E f (Q7q E n s)
 |none=>none
def Q4F (E:Env) (f:FuncId) (n:Nat):Bool:=
 match Jp E f [] Hp.empty with
 | some s=>(match QbG E f (Q7q E n s)with
   |some (.bool b)=>b
   |_=>false)
 |none=>false
end
theorem brec {α:Type} (a b:α): ∀c,(Bool.rec (motive:=fun _=>α) a b c:α)=cond c b a
 |true=>rfl
 |false=>rfl
theorem Q8w (f n:Nat):Q3P (f+1) n=(Bool.rec (motive:=fun _=>Pa) (Bool.rec (motive:=fun _=>Pa) (.even (Q3P f (Nat.pred (Nat.div n 2)))) (.odd (Q3P f (Nat.div n 2))) (v0d (Nat.mod n 2) 1)) .stay (v0d n 0):Pa):=rfl
theorem Q0N (f n:Nat):Q3P (f+1) n=if n=0 then .stay else if n%2=1 then .odd (Q3P f (n/2))else .even (Q3P f (n/2 -1)):=by
 rw[Q8w,brec,brec];by_cases h0:n=0
 · subst h0;rfl
 rw[if_neg h0]
 have:v0d n 0=false:=by
  cases hb:v0d n 0 with
  |false=>rfl
  |true=>exact absurd (v1h hb) h0
 rw[this,cond_false];by_cases h1:n%2=1
 · rw[if_pos h1,show Nat.mod n 2=1 from h1];rfl
 rw[if_neg h1]
 have:v0d (Nat.mod n 2) 1=false:=by
  cases hb:v0d (Nat.mod n 2) 1 with
  |false=>rfl
  |true=>exact absurd (v1h hb) h1
 rw[this,cond_false];rfl
theorem J8: ∀(f g n:Nat),n <f->n <g->Q3P f n=Q3P g n
 |0,_,_,h,_=>by omega
 |_,0,_,_,h=>by omega
 | f+1,g+1,n,h1,h2=>by
   rw[Q0N,Q0N];by_cases h0:n=0
   · rw[if_pos h0,if_pos h0]
   rw[if_neg h0,if_neg h0,J8 f g (n/2) (by omega) (by omega),J8 f g (n/2 -1) (by omega) (by omega)]
theorem Q52 (n:Nat):pathOf n=if n=0 then .stay else if n%2=1 then .odd (pathOf (n/2))else .even (pathOf (n/2 -1)):=by
 unfold pathOf;rw[Q0N];by_cases h0:n=0
 · rw[if_pos h0,if_pos h0]
 rw[if_neg h0,if_neg h0,J8 n (n/2+1) (n/2) (by omega) (by omega),J8 n (n/2 -1+1) (n/2 -1) (by omega) (by omega)]
theorem Q0M: ∀(k n m:Nat),n <k->pathOf n=pathOf m->n=m
 |0,_,_,h,_=>by omega
 | k+1,n,m,h,e=>by
   rw[Q52 n,Q52 m]at e;by_cases h0:n=0<;>by_cases h1:m=0
   · omega
   · rw[if_pos h0,if_neg h1]at e;split at e<;>cases e
   · rw[if_neg h0,if_pos h1]at e;split at e<;>cases e
   rw[if_neg h0,if_neg h1]at e;by_cases h2:n%2=1<;>by_cases h3:m%2=1
   · rw[if_pos h2,if_pos h3]at e;have:=Q0M k (n/2) (m/2) (by omega) (Pa.odd.inj e);omega
   · rw[if_pos h2,if_neg h3]at e;cases e
   · rw[if_neg h2,if_pos h3]at e;cases e
   rw[if_neg h2,if_neg h3]at e;have:=Q0M k (n/2 -1) (m/2 -1) (by omega) (Pa.even.inj e);omega
theorem Z6 {α:Type}: ∀p,(Tr.leaf:Tr α).getP p=none
 | .stay=>rfl
 | .odd _=>rfl
 | .even _=>rfl
open Classical in
theorem Q2p {α:Type} (o:α): ∀(p q:Pa) (t:Tr α),(t.setP o p).getP q=if p=q then some o else t.getP q
 | .stay,q,t=>by
   cases t with
   | leaf=>cases q with
     |stay=>exact(if_pos rfl).symm
     |odd q=>exact(Z6 q).trans ((if_neg (by intro e;cases e)).trans (Z6 (.odd q))).symm
     |even q=>exact(Z6 q).trans ((if_neg (by intro e;cases e)).trans (Z6 (.even q))).symm
   | node v l r=>cases q with
     |stay=>exact(if_pos rfl).symm
     |odd q=>exact(if_neg (by intro e;cases e)).symm
     |even q=>exact(if_neg (by intro e;cases e)).symm
 | .odd p,q,t=>by
   have ih:=fun q t=>Q2p o p q t
   have inj: ∀q,(if(Pa.odd p)=(Pa.odd q)then some o else none:Option α)=if p=q then some o else none:=fun q=>by
    by_cases e:p=q
    · rw[if_pos e,if_pos (by rw[e])]
    rw[if_neg e,if_neg (fun h=>e (Pa.odd.inj h))]
   cases t with
   | leaf=>cases q with
     |stay=>exact(if_neg (by intro e;cases e)).symm
     |odd q=>exact(ih q .leaf).trans (by rw[Z6,Z6,inj])
     |even q=>exact(Z6 q).trans ((if_neg (by intro e;cases e)).trans (Z6 (.even q))).symm
   | node v l r=>cases q with
     |stay=>exact(if_neg (by intro e;cases e)).symm
     | odd q=>
       refine(ih q l).trans ?_;by_cases e:p=q
       · rw[if_pos e,if_pos (by rw[e])]
       rw[if_neg e,if_neg (fun h=>e (Pa.odd.inj h))];rfl
     |even q=>exact(if_neg (by intro e;cases e)).symm
 | .even p,q,t=>by
   have ih:=fun q t=>Q2p o p q t
   have inj: ∀q,(if(Pa.even p)=(Pa.even q)then some o else none:Option α)=if p=q then some o else none:=fun q=>by
    by_cases e:p=q
    · rw[if_pos e,if_pos (by rw[e])]
    rw[if_neg e,if_neg (fun h=>e (Pa.even.inj h))]
   cases t with
   | leaf=>cases q with
     |stay=>exact(if_neg (by intro e;cases e)).symm
     |odd q=>exact(Z6 q).trans ((if_neg (by intro e;cases e)).trans (Z6 (.odd q))).symm
     |even q=>exact(ih q .leaf).trans (by rw[Z6,Z6,inj])
   | node v l r=>cases q with
     |stay=>exact(if_neg (by intro e;cases e)).symm
     |odd q=>exact(if_neg (by intro e;cases e)).symm
     | even q=>
       refine(ih q r).trans ?_;by_cases e:p=q
       · rw[if_pos e,if_pos (by rw[e])]
       rw[if_neg e,if_neg (fun h=>e (Pa.even.inj h))];rfl
theorem Q4c {α:Type} (n:Nat):(Tr.leaf:Tr α).get n=none:=Z6 _
theorem JR {α:Type} (f n:Nat) (t:Tr α) (o:α) (m:Nat) (_:n <f):(Tr.set f t n o).get m=if n=m then some o else t.get m:=by
 show(t.setP o (pathOf n)).getP (pathOf m)=_;rw[Q2p];by_cases e:n=m
 · subst e;simp
 rw[if_neg e,if_neg (fun h=>e (Q0M _ _ _ (Nat.lt_succ_self n) h))];rfl
theorem Hp.get_put (h:Hp) (i:Nat) (o:AObj) (j:Nat):(h.put i o).get j=if i=j then some o else h.get j:=by
 cases h;exact JR _ _ _ _ _ (by omega)
theorem Hp.n_put (h:Hp) (i:Nat) (o:AObj):(h.put i o).n=h.n:=by cases h;rfl
theorem Hp.alloc_eq (h:Hp) (o:AObj):h.alloc o=⟨h.t.set (h.n+1) h.n o,h.n+1⟩:=by
 cases h;simp[Hp.alloc,Q5y]
theorem Hp.get_alloc (h:Hp) (o:AObj) (j:Nat):(h.alloc o).get j=if h.n=j then some o else h.get j:=by
 rw[Hp.alloc_eq];exact JR _ _ _ _ _ (by omega)
theorem Hp.n_alloc (h:Hp) (o:AObj):(h.alloc o).n=h.n+1:=by rw[Hp.alloc_eq]
theorem Hp.get_empty (i:Nat):Hp.empty.get i=none:=Q4c i
theorem Q1E (nt:Nat) (tm:Tr Value) (d:Nat) (v:Value) (t:Nat):
 (setT nt tm d v).get t=if d=t/\d <nt then some v else tm.get t:=by
 unfold setT;by_cases h:d <nt
 · have:v0a d nt=true:=by simpa[Nat.blt_eq]using h
   rw[this,cond_true,JR _ _ _ _ _ (by omega)];by_cases e:d=t
   · subst e;simp[h]
   simp[e]
 have:v0a d nt=false:=by
  cases hb:v0a d nt with
  |false=>rfl
  |true=>exact absurd (by simpa[Nat.blt_eq]using hb) h
 rw[this,cond_false,if_neg (fun e=>h e.2)]
theorem Qz (a b:Nat):v0d a b=true↔a=b:=⟨v1h,fun h=>h▸v0I a⟩
theorem Qw (a b:Nat):v0d a b=false↔a≠b:=by
 constructor
 · intro h e;rw[(Qz a b).2 e]at h;cases h
 intro h;cases hb:v0d a b with
 |false=>rfl
 |true=>exact absurd ((Qz a b).1 hb) h
theorem Qr (a b:Nat):v0n a b=true↔a<=b:=⟨Nat.le_of_ble_eq_true,Nat.ble_eq_true_of_le⟩
theorem QT (a b:Nat):v0a a b=true↔a <b:=by simp[Nat.blt_eq]
theorem Yy (i:Nat) (l:List Nat):JN i l=true↔i∈l:=by
 induction l with
 |nil=>simp[JN]
 | cons j l ih=>
   unfold JN;by_cases h:i=j
   · subst h;simp[v0I]
   rw[(Qw i j).2 h,cond_false,ih];simp[h]
theorem Kc (i:Nat) (l:List Nat):JN i l=false↔i∉l:=by
 rw[<-Yy];cases JN i l<;>simp
theorem Q8z (l:List Nat):Q5b l=true↔l.Nodup:=by
 induction l with
 |nil=>simp[Q5b]
 |cons i l ih=>simp[Q5b,ih,Kc,v0R]
theorem QO (b:Bool):YO b=.bool b:=by cases b<;>rfl
theorem QQ (k:IntKind) (n:Int):YP k n=some (.int k n):=by rw[YP,QaI]
theorem ZW (k:IntKind) (n:Int):Q1o k n=k.wrap n:=by
 cases k<;>try rfl
 cases n with
 | ofNat m=>
   show cond (v0a m 9223372036854775808) (Int.ofNat m) _=_;cases hb:v0a m 9223372036854775808 with
   |false=>exact cond_false _ _
   | true=>
     have h:=(QT _ _).1 hb;rw[cond_true];have e:(Int.ofNat m)=(m:Int):=rfl;exact(IntWalk.i64_in _ ⟨by omega,by omega⟩).symm
 | negSucc m=>
   show cond (v0a m 9223372036854775808) (Int.negSucc m) _=_;cases hb:v0a m 9223372036854775808 with
   |false=>exact cond_false _ _
   | true=>
     have h:=(QT _ _).1 hb;rw[cond_true];have e:(Int.negSucc m)= -((m:Int)+1):=Int.negSucc_eq m;clear hb;rw[e];exact(IntWalk.i64_in _ ⟨by omega,by omega⟩).symm
theorem YC (a b:IntKind):KF a b=true↔a=b:=by cases a<;>cases b<;>simp[KF]
theorem Zc (a:IntKind):KF a a=true:=(YC a a).2 rfl
theorem Cell1.cells {v:Value} (h:Cell1 v):v.cells= #[v]:=by cases v<;>first|rfl|exact h.elim
theorem VRel.undef (M:Mp):VRel M undef undef:=.tuple rfl (by intro i v w h;simp at h)
theorem Ev.refl (M:Mp):Ev M M:=⟨fun _ h=>h,fun _ _ _ h=>h,fun _ _=>rfl⟩
theorem Ev.trans {M M' M'':Mp} (h:Ev M M') (k:Ev M' M''):Ev M M'':=
 ⟨fun i hi=>k.known i (h.known i hi),fun i x hi hx=>h.place i x hi (k.place i x (h.known i hi) hx),
  fun i hi=>(k.mode i (h.known i hi)).trans (h.mode i hi)⟩
theorem AddrRel.mono {M M':Mp} (e:Ev M M') {a a':Addr} (h:AddrRel M a a'):AddrRel M' a a':=
 ⟨e.known _ h.1,fun b δ S hb=>h.2 b δ S (e.place _ _ h.1 hb)⟩
theorem IdRel.mono {M M':Mp} (e:Ev M M') {a a':Nat} (h:IdRel M a a'):IdRel M' a a':=
 ⟨e.known _ h.1,fun b δ S hb=>h.2 b δ S (e.place _ _ h.1 hb)⟩
theorem SlRel.mono {M M':Mp} (e:Ev M M') {a a':Addr} {l c c':Nat} (h:SlRel M a a' l c c'):SlRel M' a a' l c c':=
 ⟨e.known _ h.1,fun b δ S hb=>by
  have:=h.2 b δ S (e.place _ _ h.1 hb);unfold SlOk at*
  rw[e.mode _ h.1];exact this⟩
theorem FnRel.mono {M M':Mp} (e:Ev M M') {f f':Fn} (h:FnRel M f f'):FnRel M' f f':=by
 cases f<;>cases f'<;>simp only[FnRel]at h ⊢ <;>first|exact h|exact IdRel.mono e h
theorem VRel.mono {M M':Mp} (e:Ev M M') {v w:Value} (h:VRel M v w):VRel M' v w:=by
 induction h with
 |junk h=>exact .junk h
 |chan h=>exact .chan (h.mono e)
 |bool=>exact .bool _
 |int=>exact .int _ _
 |float=>exact .float _ _
 |complex=>exact .complex _ _ _
 |string=>exact .string _
 |nilp=>exact .nilp
 |ptr h=>exact .ptr (h.mono e)
 |nils=>exact .nils _ _
 |sl h=>exact .sl (h.mono e)
 |nilm=>exact .nilm
 |map h=>exact .map (h.mono e)
 |nilc=>exact .nilc
 |func h ha hb _ _ ika ikb=>exact .func (h.mono e) ha hb ika ikb
 |nilFunc=>exact .nilFunc
 |iface _ ih=>exact .iface ih
 |nilIface=>exact .nilIface
 |agg ha _ ih=>exact .agg ha ih
 |tuple ha _ ih=>exact .tuple ha ih
theorem VsRel.mono {M M':Mp} (e:Ev M M') {l m:List Value} (h:VsRel M l m):VsRel M' l m:=
 ⟨h.1,fun i v w hv hw=>(h.2 i v w hv hw).mono e⟩
theorem VsRel.nil (M:Mp):VsRel M [] []:=⟨rfl,by intro i v w h;simp at h⟩
theorem VsRel.cons {M:Mp} {v w:Value} {l m:List Value} (h:VRel M v w) (k:VsRel M l m):VsRel M (v::l) (w::m):=by
 refine⟨by simp[k.1],fun i a b ha hb=>?_⟩;cases i with
 |zero=>simp at ha hb;subst ha hb;exact h
 |succ i=>simp at ha hb;exact k.2 i a b ha hb
theorem VsRel.uncons {M:Mp} {v w:Value} {l m:List Value} (h:VsRel M (v::l) (w::m)):VRel M v w/\VsRel M l m:=
 ⟨h.2 0 v w rfl rfl,by have:=h.1;simpa using this,fun i a b ha hb=>h.2 (i+1) a b (by simpa using ha) (by simpa using hb)⟩
theorem VsRel.append {M:Mp}: ∀ {l m l' m':List Value},VsRel M l m->VsRel M l' m'->VsRel M (l++l') (m++m')
 | [],[],_,_,_,k=>k
 | [],_::_,_,_,h,_=>by have:=h.1;simp at this
 |_::_,[],_,_,h,_=>by have:=h.1;simp at this
 |_::_,_::_,_,_,h,k=>.cons h.uncons.1 (VsRel.append h.uncons.2 k)
theorem VsRel.map {M:Mp} {α:Type} (f g:α->Value) (l:List α) (h: ∀x,x∈l->VRel M (f x) (g x)):VsRel M (l.map f) (l.map g):=by
 induction l with
 |nil=>exact .nil M
 |cons x l ih=>exact .cons (h x (by simp)) (ih fun y hy=>h y (by simp[hy]))
theorem VsRel.take {M:Mp} {l m:List Value} (h:VsRel M l m) (n:Nat):VsRel M (l.take n) (m.take n):=
 ⟨by simp[h.1],fun i v w hv hw=>by
  rw[v1q]at hv hw
  split at hv
  · rw[if_pos ‹_›]at hw;exact h.2 i v w hv hw
  cases hv⟩
theorem VsRel.drop {M:Mp} {l m:List Value} (h:VsRel M l m) (n:Nat):VsRel M (l.drop n) (m.drop n):=
 ⟨by simp[h.1],fun i v w hv hw=>by
  rw[v1m]at hv hw
  exact h.2 _ v w hv hw⟩
theorem VRel.agg' {M:Mp} {a c:Array Value} (h:VsRel M a.toList c.toList):VRel M (.agg a) (.agg c):=.agg h.1 h.2
theorem VRel.tuple' {M:Mp} {a c:Array Value} (h:VsRel M a.toList c.toList):VRel M (.tuple a) (.tuple c):=.tuple h.1 h.2
theorem VRel.func' {M:Mp} {f f':Fn} {a b c d:Array Value} (h:FnRel M f f') (ha:VsRel M a.toList c.toList) (hb:VsRel M b.toList d.toList):VRel M (.func f a b) (.func f' c d):=
 .func h ha.1 hb.1 ha.2 hb.2
theorem VRel.cells {M:Mp} {v w:Value} (h:VRel M v w):VsRel M v.cells.toList w.cells.toList:=by
 cases h with
 |agg ha ka=>exact⟨ha,ka⟩
 |bool=>exact .cons (.bool _) (.nil M)
 |int=>exact .cons (.int _ _) (.nil M)
 |float=>exact .cons (.float _ _) (.nil M)
 |complex=>exact .cons (.complex _ _ _) (.nil M)
 |string=>exact .cons (.string _) (.nil M)
 |nilp=>exact .cons .nilp (.nil M)
 |ptr h=>exact .cons (.ptr h) (.nil M)
 |nils=>exact .cons (.nils _ _) (.nil M)
 |sl h=>exact .cons (.sl h) (.nil M)
 |nilm=>exact .cons .nilm (.nil M)
 |map h=>exact .cons (.map h) (.nil M)
 |nilc=>exact .cons .nilc (.nil M)
 |junk h=>rw[h.cells];exact .cons (.junk h) (.nil M)
 |chan h=>exact .cons (.chan h) (.nil M)
 |func h ha hb ka kb=>exact .cons (.func h ha hb ka kb) (.nil M)
 |nilFunc=>exact .cons .nilFunc (.nil M)
 |iface h=>exact .cons (.iface h) (.nil M)
 |nilIface=>exact .cons .nilIface (.nil M)
 |tuple ha ka=>exact .cons (.tuple ha ka) (.nil M)
theorem ERel.mono {M M':Mp} (e:Ev M M') {x y:MapEntry} (h:ERel M x y):ERel M' x y:=⟨h.1.mono e,h.2.1.mono e,h.2.2⟩
theorem EsRel.mono {M M':Mp} (e:Ev M M') {x y:List MapEntry} (h:EsRel M x y):EsRel M' x y:=⟨h.1,fun i a b ha hb=>(h.2 i a b ha hb).mono e⟩
theorem TRel.mono {M M':Mp} (e:Ev M M') {x:Tr Value} {y:Array Value} (h:TRel M x y):TRel M' x y:=fun t=>(h t).mono e
theorem LRel.mono {M M':Mp} (e:Ev M M') {x:Lp} {y:Loop} (h:LRel M x y):LRel M' x y:=by
 obtain⟨h1,h2,h3,h4,h5,h6,h7,h8,h9⟩:=h;exact⟨h1,h2,h3,h4,h5.mono e,h6,h7,h8,h9.mono e⟩
theorem TgRel.mono {M M':Mp} (e:Ev M M') {x y:Target} (h:TgRel M x y):TgRel M' x y:=by
 cases x<;>cases y<;>simp only[TgRel]at h ⊢ <;>first|exact h|exact⟨h.1.mono e,h.2.mono e⟩|exact IdRel.mono e h
theorem DRel.mono {M M':Mp} (e:Ev M M') {x y:Deferred} (h:DRel M x y):DRel M' x y:=⟨h.1.mono e,h.2.mono e⟩
theorem DsRel.mono {M M':Mp} (e:Ev M M'): ∀ {x y:List Deferred},DsRel M x y->DsRel M' x y
 | [],[],_=>trivial
 | [],_::_,h=>h.elim
 |_::_,[],h=>h.elim
 |_::_,_::_,h=>⟨h.1.mono e,DsRel.mono e h.2⟩
theorem DsRel.append {M:Mp}: ∀ {a b c d:List Deferred},DsRel M a b->DsRel M c d->DsRel M (a++c) (b++d)
 | [],[],_,_,_,k=>k
 | [],_::_,_,_,h,_=>h.elim
 |_::_,[],_,_,h,_=>h.elim
 |_::_,_::_,_,_,h,k=>⟨h.1,DsRel.append h.2 k⟩
theorem ORel.mono {M M':Mp} (e:Ev M M') {i:Nat} (hi:M.K i) {o:AObj} {δ S:Nat} {x:Obj} (h:ORel M i o δ S x):ORel M' i o δ S x:=by
 cases o with
 | cells c t m=>
   obtain⟨c',fr,h1,h2,h3,h4,h5⟩:=h;refine⟨c',fr,h1,h2,h3,fun j v hv=>?_,?_⟩
   · obtain⟨w,a,b⟩:=h4 j v hv;exact⟨w,a,b.mono e⟩
   rw[e.mode i hi];exact h5
 |map es cl=>obtain⟨h0,ak,h1,h2⟩:=h;exact⟨h0,ak,h1,h2.mono e⟩
 |str s p=>exact h
 |loop l=>obtain⟨h0,r,h1,h2⟩:=h;exact⟨h0,r,h1,h2.mono e⟩
 | deferred ds=>
   cases ds with
   |none=>exact h
   |some ds=>obtain⟨h0,r,h1,h2⟩:=h;exact⟨h0,r,h1,h2.mono e⟩
 |dead=>exact h
 |chan cap buf s r=>obtain⟨h0,b',h1,h2⟩:=h;exact⟨h0,b',h1,h2.mono e⟩
 | iter m since seen last=>
   cases m with
   |none=>exact h
   |some r=>obtain⟨h0,r',h1,h2⟩:=h;exact⟨h0,r',h1,h2.mono e⟩
theorem Gl.mono {M M':Mp} (e:Ev M M') (g:Gl M):Gl M':=fun i h2=>
 ⟨e.known i (g i h2).1,fun b δ S h=>(g i h2).2 b δ S (e.place i _ (g i h2).1 h)⟩
theorem Gl.ptr {M:Mp} (g:Gl M) {i:Nat} (h:v0a i 255=true):VRel M (.pointer (some ⟨i,0,none⟩)) (.pointer (some ⟨i,0,none⟩)):=by
 have hi:=(QT _ _).1 h;refine .ptr ⟨(g i (by omega)).1,fun b δ S hb=>?_⟩;obtain⟨rfl,rfl⟩:=(g i (by omega)).2 b δ S hb;rfl
theorem Keep.refl (M:Mp) (h:Hp) (X:Nat->Prop):Keep M h M h X:=⟨v0b _,fun _ _ hk _=>⟨hk,rfl⟩⟩
theorem Keep.trans {M M' M'':Mp} {h h' h'':Hp} {X:Nat->Prop} (a:Keep M h M' h' X) (b:Keep M' h' M'' h'' X):Keep M h M'' h'' X:=
 ⟨v0t a.1 b.1,fun i hi hk hx=>by
  obtain⟨p,q⟩:=a.2 i hi hk hx;obtain⟨r,s⟩:=b.2 i (Nat.lt_of_lt_of_le hi a.1) p hx
  exact⟨r,s.trans q⟩⟩
theorem World.drew_HRel {W:World} {B:Nat->Prop} {M:Mp} {h:Hp} {w:World} (H:HRel W B M h w) (n:Nat) (hn:w.drawn<=n):HRel W B M h {w with drawn:=n}:=
 ⟨H.obj,H.inj,H.kn,H.fresh,H.live,H.os,⟨H.tape.1,fun b=>v0t (H.tape.2 b) hn⟩,H.output,H.size,H.old,H.own,H.glob⟩
theorem HRel.allocX {W:World} {B:Nat->Prop} {M:Mp} {h:Hp} {w:World} (H:HRel W B M h w) (o:AObj):HRel W B M (h.alloc o) w:=by
 refine⟨fun i b δ S hi=>?_,fun i j b δ S δ' S' hi hj=>?_,fun i hi=>?_,fun i hi=>?_,fun i hk hi=>?_,H.os,H.tape,H.output,H.size,H.old,fun i b δ S hi hb=>?_,H.glob⟩
 · obtain⟨hk,o',x,h1,h2,h3⟩:=H.obj i b δ S hi;refine⟨hk,o',x,?_,h2,h3⟩;rw[Hp.get_alloc,if_neg (by have:=H.kn i hk;omega)];exact h1
 · rcases H.inj i j b δ S δ' S' hi hj with h1| ⟨c,e,h1⟩
   · exact .inl h1
   have:=H.kn i (H.obj i b δ S hi).1;exact .inr ⟨c,e,by rw[Hp.get_alloc,if_neg (by omega)];exact h1⟩
 · have:=H.kn i hi;rw[Hp.n_alloc];omega
 · rw[Hp.n_alloc]at hi;rw[Hp.get_alloc,if_neg (by omega)];exact H.fresh i (by omega)
 · rw[Hp.get_alloc,if_neg (by have:=H.kn i hk;omega)];exact H.live i hk hi
 rcases H.own i b δ S hi hb with h1| ⟨c,e,h1⟩
 · exact .inl h1
 have:=H.kn i (H.obj i b δ S hi).1;exact .inr ⟨c,e,by rw[Hp.get_alloc,if_neg (by omega)];exact h1⟩
def Mp.add (M:Mp) (i b δ S m:Nat):Mp:=
 {ρ:=fun j=>if j=i then some (b,δ,S)else M.ρ j,K:=fun j=>j=i\/M.K j,md:=fun j=>if j=i then m else M.md j}
theorem Mp.add_ev (M:Mp) (i b δ S m:Nat) (hi: ¬M.K i):Ev M (M.add i b δ S m):=by
 refine⟨fun j hj=>.inr hj,fun j x hj hx=>?_,fun j hj=>?_⟩
 · have:j≠i:=fun e=>hi (e▸hj);simpa[Mp.add,this]using hx
 have:j≠i:=fun e=>hi (e▸hj);simp[Mp.add,this]
theorem HRel.push {W:World} {B:Nat->Prop} {M:Mp} {h:Hp} {w:World} (H:HRel W B M h w) {i:Nat} {o:AObj} {x:Obj} {S m:Nat}
 (hi: ¬M.K i) (ai:i <h.n) (hg:h.get i=some o) (hx:ORel (M.add i w.heap.size 0 S m) i o 0 S x):
 HRel W B (M.add i w.heap.size 0 S m) h {w with heap:=w.heap.push x}:=by
 have he:=Mp.add_ev M i w.heap.size 0 S m hi
 have dm: ∀j b δ S,M.ρ j=some (b,δ,S)->b <w.heap.size:=fun j b δ S hj=>by
  obtain⟨_,_,x,_,h2,_⟩:=H.obj j b δ S hj;exact(v0V.1 h2).1
 refine⟨fun j b δ S' hj=>?_,fun j k b δ S1 δ' S2 hj hk=>?_,fun j hj=>?_,H.fresh,fun j hk hj=>?_,H.os,H.tape,H.output,?_,fun b hb hB=>?_,fun j b δ S' hj hb=>?_,H.glob.mono he⟩
 · by_cases e:j=i
   · subst e;simp only[Mp.add,if_true,v0h.injEq,Prod.mk.injEq]at hj;obtain⟨rfl,rfl,rfl⟩:=hj;exact⟨.inl rfl,o,x,hg,by simp,hx⟩
   simp only[Mp.add,if_neg e]at hj;obtain⟨hk,o',x',h1,h2,h3⟩:=H.obj j b δ S' hj;refine⟨.inr hk,o',x',h1,?_,h3.mono he hk⟩;rw[v2j,if_neg (by have:=dm j b δ S' hj;omega)];exact h2
 · by_cases e:j=i<;>by_cases e':k=i
   · exact .inl (by rw[e,e'])
   · simp only[Mp.add,if_pos e,if_neg e',v0h.injEq,Prod.mk.injEq]at hj hk;have:=dm k b δ' S2 hk;omega
   · simp only[Mp.add,if_neg e,if_pos e',v0h.injEq,Prod.mk.injEq]at hj hk;have:=dm j b δ S1 hj;omega
   simp only[Mp.add,if_neg e,if_neg e']at hj hk;exact H.inj j k b δ S1 δ' S2 hj hk
 · rcases hj with rfl|hj
   · exact ai
   exact H.kn j hj
 · by_cases e:j=i
   · simp[Mp.add,e]at hj
   simp only[Mp.add,if_neg e]at hj;exact H.live j (hk.resolve_left e) hj
 · simp;have:=H.size;omega
 · rw[v2j,if_neg (by have:=H.size;omega)];exact H.old b hb hB
 by_cases e:j=i
 · simp only[Mp.add,if_pos e,v0h.injEq,Prod.mk.injEq]at hj;have:=H.size;omega
 simp only[Mp.add,if_neg e]at hj;exact H.own j b δ S' hj hb
theorem HRel.put {W:World} {B:Nat->Prop} {M:Mp} {h:Hp} {w w':World} (H:HRel W B M h w) {i b δ S:Nat} {o:AObj} {x:Obj}
 (hi:M.ρ i=some (b,δ,S)) (dX: ¬RO h i) (kU:w'.os=w.os) (dU:w'.tape=w.tape/\w.drawn<=w'.drawn) (fh:w'.output=w.output) (cq:w'.heap.size=w.heap.size)
 (hb:w'.heap[b]?=some x) (cN: ∀c,c≠b->w'.heap[c]?=w.heap[c]?) (hx:ORel M i o δ S x):HRel W B M (h.put i o) w':=by
 have aB: ∀j,RO h j->RO (h.put i o) j:=fun j ⟨cc,ee,h1⟩=>by
  have ao:i≠j:=fun e=>dX (e▸⟨cc,ee,h1⟩);exact⟨cc,ee,by rw[Hp.get_put,if_neg ao];exact h1⟩
 refine⟨fun j c δ' S' hj=>?_,fun j k c δ1 S1 δ2 S2 hj hk=>(H.inj j k c δ1 S1 δ2 S2 hj hk).imp (fun h=>h) (aB j),fun j hj=>?_,fun j hj=>?_,fun j hk hj=>?_,kU.trans H.os,⟨dU.1.trans H.tape.1,fun b=>v0t (H.tape.2 b) dU.2⟩,fh.trans H.output,by rw[cq];exact H.size,fun c hc hB=>?_,fun j c δ' S' hj hc=>?_,H.glob⟩
 · by_cases e:j=i
   · subst e;rw[hi,v0h.injEq,Prod.mk.injEq,Prod.mk.injEq]at hj;obtain⟨rfl,rfl,rfl⟩:=hj;exact⟨(H.obj j b δ S hi).1,o,x,by rw[Hp.get_put,if_pos rfl],hb,hx⟩
   obtain⟨hk,o',x',h1,h2,h3⟩:=H.obj j c δ' S' hj;have ao:c≠b:=fun e'=>e ((H.inj i j b δ S δ' S' hi (e'▸hj)).resolve_right dX).symm;exact⟨hk,o',x',by rw[Hp.get_put,if_neg (fun e'=>e e'.symm)];exact h1,by rw[cN c ao];exact h2,h3⟩
 · rw[Hp.n_put];exact H.kn j hj
 · rw[Hp.n_put]at hj;have hk:=H.kn i (H.obj i b δ S hi).1;rw[Hp.get_put,if_neg (by omega)];exact H.fresh j hj
 · have e:i≠j:=fun e=>by subst e;rw[hi]at hj;cases hj
   rw[Hp.get_put,if_neg e];exact H.live j hk hj
 · by_cases e:c=b
   · subst e;exact absurd ((H.own i c δ S hi hc).resolve_right dX) hB
   rw[cN c e];exact H.old c hc hB
 rcases H.own j c δ' S' hj hc with h1| ⟨cc,ee,h1⟩
 · exact .inl h1
 have ao:i≠j:=fun e=>dX (e▸⟨cc,ee,h1⟩);exact .inr ⟨cc,ee,by rw[Hp.get_put,if_neg ao];exact h1⟩
def Qdh (ops:Array Oper):List Nat->Prop
 | []=>True
 |i::rest=>(∀p,p∈Zi ops i->p∉i::rest)/\Qdh ops rest
def Closed (ops:Array Oper) (l:List Nat):Prop:= ∀i,i <ops.size->i∉l-> ∀p,p∈Zi ops i->p∉l
theorem Closed.tail {ops:Array Oper} {i:Nat} {l:List Nat} (h:Closed ops (i::l)) (hp: ∀p,p∈Zi ops i->p∉i::l):Closed ops l:=by
 intro j hj bH p aF bM;by_cases e:j=i
 · subst e;exact hp p aF (v0S _ bM)
 exact h j hj (by simp[e,bH]) p aF (v0S _ bM)
theorem Q4m {ops:Array Oper} (he:Kz ops=true) {i p:Nat} (hp:p∈Zi ops i):p <i:=by
 have hi:i <ops.size:=by
  unfold Zi at hp
  split at hp
  · rename_i o ho;exact(v0V.1 ho).1
  simp at hp
 have:=v0u.1 he i (List.mem_range.2 hi);exact(QT p i).1 (v0u.1 this p hp)
theorem Q5t {ops:Array Oper} (he:Kz ops=true) {l:List Nat} (hc:Closed ops l): ∀(n i j:Nat),Q8H ops n i j=true->j <ops.size->j∉l->i∉l:=by
 intro n
 induction n with
 |zero=>intro i j h;simp[Q8H]at h
 | succ n ih=>
   intro i j h hj bH;simp only[Q8H,v0K,Yy,List.any_eq_true]at h;rcases h with h| ⟨p,hp,h⟩
   · exact hc j hj bH i h
   exact ih i p h (Nat.lt_trans (Q4m he hp) hj) (hc j hj bH p hp)
theorem Q5U {ops:Array Oper} (he:Kz ops=true) {l:List Nat} (hc:Closed ops l) {i j:Nat} (h:ahead ops i j=true) (hj:j <ops.size) (bH:j∉l):i∉l:=
 Q5t he hc 12 i j h hj bH
theorem Kk {ops:Array Oper} (he:Kz ops=true) {j:Nat} {l:List Nat} (hc:Closed ops (j::l)) (hp: ∀p,p∈Zi ops j->p∉j::l) {i:Nat}
 (h:ahead ops i j=true) (hj:j <ops.size):i∉j::l:=by
 have h12:ahead ops i j=(JN i (Zi ops j)||(Zi ops j).any (fun p=>Q8H ops 11 i p)):=rfl;rw[h12]at h;simp only[v0K,Yy,List.any_eq_true]at h;rcases h with h| ⟨p,aF,h⟩
 · exact hp i h
 exact Q5t he hc 11 i p h (Nat.lt_trans (Q4m he aF) hj) (hp p aF)
theorem Yh {E:Env} {ops:Array Oper} {i:Nat} {rest:List Nat} (h:Q0P E ops (i::rest)=true):
 (∀p,p∈Zi ops i->p∉i::rest)/\(Q8Q E ops i=2-> ∀j,j∈rest-> ∃p,p∈Zi ops j/\p∈i::rest)/\Q0P E ops rest=true:=by
 simp only[Q0P,v0g]at h;obtain⟨⟨h1,h2⟩,h3⟩:=h;refine⟨fun p hp=>?_,fun hw j hj=>?_,h3⟩
 · have:=v0u.1 h1 p hp;simp only[v0J,Kc]at this;exact this
 rw[(Qz _ _).2 hw,cond_true]at h2;have:=v0u.1 h2 j hj;simp only[List.any_eq_true,Yy]at this;exact this
theorem Q2b {ops:Array Oper} {i:Nat} {o:Oper} (ho:ops[i]?=some o) (p:Nat):p∈Zi ops i↔ ∃e,e∈o.after/\Region.binds .any e=true/\e.on=p:=by
 simp only[Zi,ho,List.mem_map,v1v];constructor
 · rintro⟨e,⟨h1,h2⟩,h3⟩;exact⟨e,v1U.1 h1,h2,h3⟩
 rintro⟨e,h1,h2,h3⟩;exact⟨e,⟨v1U.2 h1,h2⟩,h3⟩
theorem Q22 {ops:Array Oper} {listed:Array Bool} {j:Nat}:j∈Region.ready .any ops listed↔
 listed.getD j true=false/\j <ops.size/\ ∀p,p∈Zi ops j->listed.getD p false=true:=by
 rw[mem_ready];constructor
 · rintro⟨h0,o,ho,h⟩;refine⟨h0,(v0V.1 ho).1,fun p hp=>?_⟩;obtain⟨e,he,hb,rfl⟩:=(Q2b ho p).1 hp;exact h e he hb
 rintro⟨h0,hj,h⟩;refine⟨h0,ops[j],v1V hj,fun e he hb=>h _ ?_⟩;exact(Q2b (v1V hj) _).2 ⟨e,he,hb,rfl⟩
def unl (listed:Array Bool) (n:Nat):List Nat:=(v0w n).filter fun i=> !listed.getD i true
theorem JL {listed:Array Bool} {n j:Nat}:j∈unl listed n↔j <n/\listed.getD j true=false:=by
 simp[unl,v1v]
theorem Q0j {listed:Array Bool} {j:Nat} (h:listed.getD j false=true):listed.getD j true=true:=by
 rcases Nat.lt_or_ge j listed.size with h'|h'
 · simpa[h']using h
 simp[Array.getElem?_eq_none h']at h
theorem ready_nil {ops:Array Oper} (he:Kz ops=true) {listed:Array Bool} (hs:listed.size=ops.size) (h:Region.ready .any ops listed=[]): ∀j,j <ops.size->listed.getD j true=true:=by
 intro j
 induction j using Nat.strongRecOn with
 | ind j ih=>
   intro hj;cases hx:listed.getD j true with
   |true=>rfl
   | false=>
     have:j∈Region.ready .any ops listed:=Q22.2 ⟨hx,hj,fun p hp=>by
      have aF:=Q4m he hp;have hZ:=ih p aF (by omega);have lK:p <listed.size:=by omega
      simpa[lK]using hZ⟩
     rw[h]at this;cases this
theorem QdX {listed:Array Bool} {n i:Nat} (hs:listed.size=n) (hi:i∈unl listed n):(unl (listed.setIfInBounds i true) n).length+1=(unl listed n).length:=by
 have aD:=JL.1 hi
 have e:unl (listed.setIfInBounds i true) n=(unl listed n).filter (fun j=> !(j==i)):=by
  unfold unl;rw[List.filter_filter];refine List.filter_congr fun j hj=>?_;by_cases h:j=i
  · subst h;simp[hs,aD.1]
  rw[getD_set_ne true (Ne.symm h)];simp[h]
 have fp:(unl listed n).Nodup:=List.Pairwise.filter _ List.nodup_range;rw[e];clear e aD;generalize unl listed n=u at hi fp ⊢
 induction u with
 |nil=>simp at hi
 | cons x l ih=>
   obtain⟨hx,hl⟩:=v0R.1 fp;by_cases h:x=i
   · subst h
     have:l.filter (fun j=> !(j==x))=l:=List.filter_eq_self.2 fun a ha=>by
      have:a≠x:=fun e=>hx (e▸ha);simp[this]
     simp[this]
   have dQ:i∈l:=(v0r.1 hi).resolve_left (fun e=>h e.symm);have:=ih dQ hl;simp[h];omega
theorem go_ok {ops:Array Oper} (he:Kz ops=true): ∀(fuel t:Nat) (listed:Array Bool),listed.size=ops.size->(unl listed ops.size).length<=fuel->
 ∃l,Region.linearise.go .any ops fuel t listed []=l/\l.Nodup/\Qdh ops l/\(∀j,j∈l↔j∈unl listed ops.size):=by
 intro fuel
 induction fuel with
 | zero=>
   intro t listed hs hf;have:unl listed ops.size=[]:=List.eq_nil_of_length_eq_zero (by omega);exact⟨[],by simp[Region.linearise.go],List.nodup_nil,trivial,fun j=>by simp[this]⟩
 | succ fuel ih=>
   intro t listed hs hf;simp only[Region.linearise.go]
   change ∃l,(match(Region.ready .any ops listed)[t%(Region.ready .any ops listed).length]? with
    |some i=>Region.linearise.go .any ops fuel (t/(Region.ready .any ops listed).length) (listed.setIfInBounds i true) [i]
    |none=>[].reverse)=l/\_
   cases hi:(Region.ready .any ops listed)[t%(Region.ready .any ops listed).length]? with
   | none=>
     have kW:Region.ready .any ops listed=[]:=by
      cases hr:Region.ready .any ops listed with
      |nil=>rfl
      | cons x xs=>
        rw[hr]at hi;have ai:t%(x::xs).length <(x::xs).length:=Nat.mod_lt _ (by simp);simp at hi;simp at ai;omega
     refine⟨[],by simp,List.nodup_nil,trivial,fun j=>?_⟩;simp only[List.not_mem_nil,false_iff,JL,not_and,Bool.not_eq_false];exact ready_nil he hs kW j
   | some i=>
     have ed:=v0m hi;obtain⟨h0,ai,hp⟩:=Q22.1 ed;have hiu:i∈unl listed ops.size:=JL.2 ⟨ai,h0⟩;have hlen:=QdX hs hiu;obtain⟨l,hl,fp,gd,fq⟩:=ih (t/(Region.ready .any ops listed).length) (listed.setIfInBounds i true) (by simpa using hs) (by omega)
     have hm: ∀j,j∈l↔j∈unl listed ops.size/\j≠i:=fun j=>by
      rw[fq,JL,JL];by_cases e:j=i
      · subst e;simp[hs,ai]
      rw[getD_set_ne true (Ne.symm e)];simp[e]
     refine⟨i::l,?_,?_,⟨fun p hpi bM=>?_,gd⟩,fun j=>?_⟩
     · simp only[];rw[linearise_go_acc,hl];simp
     · exact v0R.2 ⟨fun h=>((hm i).1 h).2 rfl,fp⟩
     · have hZ:=Q0j (hp p hpi);rcases v0r.1 bM with e|h
       · subst e;rw[h0]at hZ;cases hZ
       rw[(JL.1 ((hm p).1 h).1).2]at hZ;cases hZ
     rw[v0r,hm];constructor
     · rintro(rfl|h)
       · exact hiu
       exact h.1
     intro h;by_cases e:j=i
     · exact .inl e
     exact .inr ⟨h,e⟩
theorem Q6e {ops:Array Oper} (he:Kz ops=true) (t:Nat):
 (Region.schedule true ops t).Nodup/\Qdh ops (Region.schedule true ops t)/\ ∀j,j∈Region.schedule true ops t↔j <ops.size:=by
 have hu: ∀j,j∈unl (v1N ops.size false) ops.size↔j <ops.size:=fun j=>by
  rw[JL];constructor
  · exact fun h=>h.1
  exact fun h=>⟨h,by simp[h]⟩
 obtain⟨l,hl,h1,h2,h3⟩:=go_ok he ops.size t (v1N ops.size false) (by simp) (by
  have:(unl (v1N ops.size false) ops.size).length<=(v0w ops.size).length:=List.length_filter_le _ _
  simpa using this)
 have e:Region.schedule true ops t=l:=by simp[Region.schedule,Region.linearise,hl]
 rw[e];exact⟨h1,h2,fun j=>(h3 j).trans (hu j)⟩
theorem QaS {tm bq:Tr Value} {l:List Operand} (h: ∀x,x∈l->ev tm x=ev bq x):l.map (ev tm)=l.map (ev bq):=v1o h
theorem Q3n {tm bq:Tr Value} {l:Array Operand} (h: ∀x,x∈l->ev tm x=ev bq x):l.map (ev tm)=l.map (ev bq):=Array.map_congr_left h
theorem Q2v {tm bq:Tr Value} {x:Option Operand} (h: ∀y,x=some y->ev tm y=ev bq y):x.map (ev tm)=x.map (ev bq):=by
 cases x with
 |none=>rfl
 |some y=>simp[h y rfl]
theorem Q3m {α:Type} {tm bq:Tr Value} {l:List (α×Operand)} (h: ∀p,p∈l->ev tm p.2=ev bq p.2):(l.map fun(i,x)=>(i,ev tm x))=(l.map fun(i,x)=>(i,ev bq x)):=
 v1o fun p hp=>by obtain⟨i,x⟩:=p;have:=h _ hp;simp only at this ⊢;rw[this]
theorem JD (E:Env) {tm bq:Tr Value} {o:Oper} {h h2:Hp} (he: ∀x,x∈o.op.operands->ev tm x=ev bq x) (hh:KG o=true\/h=h2):
 QL E tm o h=QL E bq o h2:=by
 obtain⟨dst,op,type,pos,after,guard⟩:=o;simp only at he;cases op<;>simp only[Op.operands]at he<;>simp only[QL]<;>(try rfl)
 case move x=>rw[he x (by simp)]
 case assign x=>rw[he x (by simp)]
 case pick c a b=>rw[he c (by simp),he a (by simp),he b (by simp)]
 case build t ps=>rw[Q3m fun p hp=>he p.2 (by simp;exact⟨p.1,by simpa using hp⟩)]
 case load t a=>
  rcases hh with hh|rfl
  · simp[KG]at hh
  rw[he a (by simp)]
 case nilCheck x=>rw[he x (by simp)]
 case binOp op t x y ty=>
  rcases hh with hh|rfl
  · simp[KG]at hh
  rw[he x (by simp),he y (by simp)]
 case unOp op t x=>rw[he x (by simp)]
 case convert s d x=>
  rcases hh with hh|rfl
  · simp[KG]at hh
  rw[he x (by simp)]
 case makeInterface t x=>rw[he x (by simp)]
 case makeFunc f a b=>rw[Q3n fun x hx=>he x (by simp[hx]),Q3n (l:=b) fun x hx=>he x (by simp[hx])]
 case slice t x lo hi mx=>
  rcases hh with hh|rfl
  · simp[KG]at hh
  rw[he x (by simp),Q2v (x:=lo) fun y hy=>he y (by simp[hy]),Q2v (x:=hi) fun y hy=>he y (by simp[hy]),Q2v (x:=mx) fun y hy=>he y (by simp[hy])]
 case fieldAddr t x i=>rw[he x (by simp)]
 case field t x i=>rw[he x (by simp)]
 case indexAddr t x i=>rw[he x (by simp),he i (by simp)]
 case index t x i=>rw[he x (by simp),he i (by simp)]
 case lookup t m k ok=>
  rcases hh with hh|rfl
  · simp[KG]at hh
  rw[he m (by simp),he k (by simp)]
 case typeAssert x t a ok=>rw[he x (by simp)]
 case extract x i=>rw[he x (by simp)]
 case call c=>
  obtain⟨callee,args,argTypes⟩:=c;cases callee with
  | builtin b=>
    rcases hh with hh|rfl
    · simp[KG]at hh
    simp only;rw[QaS (l:=args.toList) fun x hx=>he x (by simp[Call.operands];simpa using hx)]
  |value f=>rfl
  |invoke r m=>rfl
theorem Q1l (E:Env) {tm bq:Tr Value} {o:Oper} (he: ∀x,x∈o.op.operands->ev tm x=ev bq x):allocX E tm o=allocX E bq o:=by
 obtain⟨dst,op,type,pos,after,guard⟩:=o;simp only at he;cases op<;>simp only[Op.operands]at he<;>simp only[allocX]<;>(try rfl)
 case box e x=>rw[he x (by simp)]
 case buildSlice t n ps=>rw[Q3m fun p hp=>he p.2 (by simp;exact⟨p.1,by simpa using hp⟩)]
 case makeMap t r=>
  cases r with
  |none=>rfl
  | some r=>
    have e:=he r (by simp);cases E.und t with
    |none=>rfl
    |some d=>cases d<;>first|rfl|(simp only;rw[e])
 case makeSlice t l c=>rw[he l (by simp),he c (by simp)]
 case makeChan t x=>rw[he x (by simp)]
theorem Q6O {tm bq:Tr Value} {x:Operand} (h: ∀t,x=.tmp t->ev tm (.tmp t)=ev bq (.tmp t)):ev tm x=ev bq x:=by
 cases x with
 |tmp t=>exact h t rfl
 |_=>rfl
theorem Q8C {l:List Operand} {t:Nat}:t∈tmpsOf l↔Operand.tmp t∈l:=by
 simp only[tmpsOf,List.mem_filterMap];constructor
 · rintro⟨x,hx,h⟩;cases x<;>simp at h
   subst h;exact hx
 intro h;exact⟨_,h,rfl⟩
theorem Q2y {o:Oper} {t:Nat}:Q8N o t=true↔o.dst=some t:=by
 unfold Q8N;cases o.dst with
 |none=>simp
 |some d=>simp only[Qz,v0h.injEq]
theorem YE {ops:Array Oper} (h:Q7c ops=true) {i j:Nat} {o q:Oper} (ho:ops[i]?=some o) (hq:ops[j]?=some q):
 (i≠j-> ∀d,o.dst=some d->q.dst≠some d)/\(∀t,Operand.tmp t∈o.op.operands->q.dst=some t->ahead ops j i=true)/\
  (∀g b,o.guard=some (g,b)->ahead ops g i=true):=by
 have hm: ∀ {k:Nat} {p:Oper},ops[k]?=some p->(p,k)∈ops.toList.zipIdx:=fun {k p} hk=>by
  rw[List.mem_zipIdx_iff_getElem?];simpa using hk
 unfold Q7c at h;simp only[v0g]at h;obtain⟨h1,h2⟩:=h;have a1:=v0u.1 (v0u.1 h1 _ (hm ho)) _ (hm hq);have a2:=v0u.1 h2 _ (hm ho);simp only[v0g]at a2;refine⟨fun ao d hd=>?_,fun t ht hqt=>?_,fun g b hg=>?_⟩
 · simp only[(Qw i j).2 ao,Bool.false_or,hd,v0J]at a1;intro e;rw[Q2y.2 e]at a1;cases a1
 · have:=v0u.1 (v0u.1 a2.1 t (Q8C.2 (by simpa using ht))) _ (hm hq);simpa[Q2y.2 hqt]using this
 have:=a2.2;rw[hg]at this;exact this
def HLe (h h':Hp):Prop:= ∀i o,h.get i=some o->h'.get i=some o
theorem HLe.refl (h:Hp):HLe h h:=fun _ _ e=>e
theorem HLe.alloc {h:Hp} (o:AObj) (hf:h.get h.n=none):HLe h (h.alloc o):=by
 intro i x hx;rw[Hp.get_alloc]
 split
 · rename_i e;subst e;rw[hf]at hx;cases hx
 exact hx
section
variable {E:Env} {h h':Hp} (L:HLe h h')
include L
theorem Q0J {a:Addr} {n:Nat} {l:List Value} (hr:rowOf h a n=some l):rowOf h' a n=some l:=by
 unfold rowOf at*
 split at hr
 · cases hr
 rename_i hs
 split at hr
 · rename_i hg;simp only[L _ _ hg];exact hr
 cases hr
theorem Q8D {t:TypeId} {a:Addr} {v:Value} (hr:JO E t a h=some v):JO E t a h'=some v:=by
 unfold JO at*
 split at hr
 · cases hr
 rename_i d hd
 (try simp only[hd])
 split at hr
 · rename_i ha
   split at hr
   · cases hr
   rename_i n hn
   split at hr
   · cases hr
   rename_i l hl
   (try simp only[Q0J L hl]);exact hr
 rename_i ha
 split at hr
 · rename_i hl
   (try simp only[Q0J L hl]);exact hr
 cases hr
theorem Ky {n:Nat} {t:TypeId} {x y:Value} {r:Bool} (hr:Zf E h n t x y=some r):Zf E h' n t x y=some r:=by
 cases n with
 |zero=>simp[Zf]at hr
 | succ n=>
   simp only[Zf]at hr ⊢
   split at hr
   · cases hr
   rename_i d hd
   (try simp only[hd])
   split at hr<;>first|exact hr|(cases hr;done)|skip
   split at hr
   · rename_i h1 h2 h3
     (try simp only[h1,L _ _ h2,L _ _ h3]);exact hr
   cases hr
omit L in
theorem YY {eq eq':TypeId->Value->Value->Option Bool} (he: ∀ {t x y r},eq t x y=some r->eq' t x y=some r) {xs ys:Array Value}: ∀ {fs:List Field} {r:Bool},Y1 E eq xs ys fs=some r->Y1 E eq' xs ys fs=some r
 | [],r,hr=>hr
 | f ::fs,r,hr=>by
   unfold Y1 at*;cases hn:f.name== "_" with
   |true=>(try rw[hn]at hr);rw[cond_true]at hr;cases hr
   | false=>
     (try rw[hn]at hr);rw[cond_false]at hr ⊢
     split at hr
     · rename_i a b ha hb
       (try simp only[ha,hb])
       split at hr
       · rename_i h1;(try simp only[he h1]);exact YY he hr
       · rename_i h1;(try simp only[he h1]);exact hr
       cases hr
     cases hr
theorem QcX {n:Nat}: ∀ {t:TypeId} {x y:Value} {r:Bool},eqN E h n t x y=some r->eqN E h' n t x y=some r:=by
 induction n with
 |zero=>exact fun hr=>Ky L hr
 | succ n ih=>
   intro t x y r hr;by_cases ao: ∃xs ys,x=.agg xs/\y=.agg ys
   · obtain⟨xs,ys,rfl,rfl⟩:=ao;simp only[eqN]at hr ⊢
     split at hr
     · cases hc:E.P.stoodInHeld t with
       |true=>(try rw[hc]at hr);rw[cond_true]at hr;cases hr
       | false=>
         (try rw[hc]at hr);rw[cond_false]at hr ⊢
         exact YY ih hr
     cases hr
   have gf: ∀xs ys,x=.agg xs->y=.agg ys->False:=fun xs ys e1 e2=>ao ⟨xs,ys,e1,e2⟩;rw[Q5K gf]at hr ⊢;exact Ky L hr
theorem Yu {xs ys:Array Value} {fs:List Field} {r:Bool} (hr:ZH E h xs ys fs=some r):ZH E h' xs ys fs=some r:=
 YY (fun q=>QcX L q) hr
theorem Qbm {op:BinOp} {t:TypeId} {xo yo:Operand} {x y:Value} {v:Value} (hr:Q4C E h op t xo yo x y=some v):Q4C E h' op t xo yo x y=some v:=by
 unfold Q4C at*
 split at hr<;>first|exact hr|(cases hr;done)|skip
 · split at hr
   · rename_i fs hf
     (try simp only[hf])
     cases hc:(E.P.eqGuardType E.P.depth t||E.P.stoodInHeld t)with
     |true=>(try rw[hc]at hr);rw[cond_true]at hr;cases hr
     | false=>
       (try rw[hc]at hr);rw[cond_false]at hr ⊢
       split at hr
       · rename_i he;(try simp only[Yu L he]);exact hr
       · rename_i he;(try simp only[Yu L he]);exact hr
       cases hr
   cases hr
 split at hr
 · split at hr
   · rename_i he;(try simp only[Ky L he]);exact hr
   cases hr
 · split at hr
   · rename_i he;(try simp only[Ky L he]);exact hr
   cases hr
 cases hr
theorem Q4p {s d:TypeId} {x v:Value} (hr:Jf E h s d x=some v):Jf E h' s d x=some v:=by
 unfold Jf at*
 split at hr
 · rename_i s' d' hs hd
   (try simp only[hs,hd])
   split at hr<;>first|exact hr|(cases hr;done)|skip
   split at hr
   · rename_i he
     (try simp only[he])
     split at hr
     · rename_i hl;(try simp only[Q0J L hl]);exact hr
     cases hr
   cases hr
 cases hr
theorem JK {a:Addr} {m:Nat} (hr:ZP h a=some m):ZP h' a=some m:=by
 unfold ZP at*
 split at hr
 · rename_i hg;(try simp only[L _ _ hg]);exact hr
 cases hr
theorem Q6a {t:TypeId} {x:Value} {lo hi mx:Option Value} {v:Value} (hr:YF E h t x lo hi mx=some v):YF E h' t x lo hi mx=some v:=by
 unfold YF at*
 split at hr
 · rename_i hu;(try simp only[hu]);exact hr
 · rename_i hu
   (try simp only[hu])
   split at hr
   · rename_i hz;(try simp only[hz]);exact hr
   · rename_i hz
     (try simp only[hz])
     split at hr
     · rename_i h1 h2 h3;(try simp only[h1,h2,JK L h3]);exact hr
     · rename_i dY h1 h2 h3
       (try simp only[h1,h2,JK L h3])
       exact hr
     · rename_i h1 h2 h3;obtain⟨rfl,rfl,rfl,rfl⟩:=Q2x hr
       (try simp only[h1,h2])
       cases hm:ZP h' _ with
       |none=>rfl
       | some m=>
         match m with
         |0=>simp[Q0A,JW]
         |1=>simp[Q0A,JW]
         | s+2=>
           simp only[JW,v0C,Q3o,Q0A,Nat.zero_mul,Nat.sub_zero];cases v0d s _<;>simp
     cases hr
   cases hr
 · rename_i hu
   (try simp only[hu])
   split at hr
   · rename_i hz
     (try simp only[hz])
     split at hr
     · rename_i h1 h2 h3;(try simp only[JK L h1,h2,h3]);exact hr
     cases hr
   cases hr
 cases hr
theorem Q2j {kt:TypeId} {k k':Value} {r:Bool} (hr:KV E h kt k k'=some r):KV E h' kt k k'=some r:=by
 unfold KV at*
 split at hr
 · rename_i hu
   (try simp only[hu])
   split at hr
   · cases hc:E.P.stoodInHeld kt with
     |true=>(try rw[hc]at hr);rw[cond_true]at hr;cases hr
     | false=>
       (try rw[hc]at hr);rw[cond_false]at hr ⊢
       split at hr
       · rename_i he;(try simp only[Yu L he]);exact hr
       · rename_i he;(try simp only[Yu L he]);exact hr
       cases hr
   cases hr
 · exact hr
 cases hr
theorem Q11 {kt:TypeId} {k:Value}: ∀ {es:List MapEntry} {i:Nat} {r:Option (Nat×Value)},JU E h kt k es i=some r->JU E h' kt k es i=some r
 | [],_,_,hr=>hr
 | e::es,i,r,hr=>by
   unfold JU at*
   split at hr
   · rename_i he;(try simp only[Q2j L he]);exact hr
   · rename_i he;(try simp only[Q2j L he]);exact Q11 hr
   cases hr
theorem Q3c {m:Value} {es:List MapEntry} (hr:mapOf h m=some es):mapOf h' m=some es:=by
 unfold mapOf at*
 split at hr
 · exact hr
 · split at hr
   · rename_i hg;(try simp only[L _ _ hg]);exact hr
   cases hr
 cases hr
theorem Q5h {t:TypeId} {m k:Value} {ok:Bool} {v:Value} (hr:K4 E h t m k ok=some v):K4 E h' t m k ok=some v:=by
 unfold K4 at*
 split at hr
 · rename_i hu hm
   (try simp only[hu,Q3c L hm])
   cases hk:Y8 E _ k with
   |false=>(try rw[hk]at hr);rw[cond_false]at hr;cases hr
   | true=>
     (try rw[hk]at hr);rw[cond_true]at hr ⊢
     split at hr
     · rename_i he;(try simp only[Q11 L he]);exact hr
     · rename_i he;(try simp only[Q11 L he]);exact hr
     cases hr
 cases hr
theorem Qac {t:TypeId} {x v:Value} (hr:QeX E h t x=some v):QeX E h' t x=some v:=by
 unfold QeX at*
 split at hr<;>first|(rename_i hu;(try simp only[hu]);exact hr)|(cases hr;done)|skip
 split at hr
 · rename_i hm;rw[Q3c L hm];exact hr
 · cases hr
 split at hr
 · rename_i hg;rw[L _ _ hg];exact hr
 cases hr
theorem Q8u {tm:Tr Value} {o:Oper} {v:Value} (hr:QL E tm o h=some v):QL E tm o h'=some v:=by
 obtain⟨dst,op,type,pos,after,guard⟩:=o;cases op<;>simp only[QL]at hr ⊢ <;>(try exact hr)
 case load t a=>
  split at hr
  · exact Q8D L hr
  cases hr
 case binOp=>exact Qbm L hr
 case convert=>exact Q4p L hr
 case slice=>exact Q6a L hr
 case lookup=>exact Q5h L hr
 case call c=>
  obtain⟨callee,args,argTypes⟩:=c;cases callee with
  | builtin b=>
    simp only at hr ⊢
    split at hr
    · rename_i h1 h2;(try simp only[h1,h2]);exact Qac L hr
    · rename_i h1;(try simp only[h1]);exact hr
    · rename_i h1;(try simp only[h1]);exact hr
    cases hr
  |value f=>cases hr
  |invoke r m=>cases hr
end
variable {E:Env}
theorem Q2V {t:TypeId} {d:TypeDesc} (h:E.und t=some d):E.P.underlying t=some d:=by
 unfold Env.und at h;unfold Program.underlying;cases hi:E.ty t with
 |none=>rw[hi]at h;cases h
 | some i=>
   rw[hi]at h;rw[E.hty t i hi];obtain⟨desc,str,size,bytes,hp,al,fa,ze,co,me⟩:=i;cases desc<;>simp only at h ⊢ <;>try exact h
   rename_i name u;cases hj:E.ty u with
   |none=>rw[hj]at h;cases h
   |some j=>rw[hj]at h;rw[E.hty u j hj];exact h
theorem Qe {t:TypeId} {d:TypeDesc} (h:E.und t=some d) (w:World):(underlying t).run E.P w=.ok d w:=run_underlying (Q2V h) w
theorem Ks {t:TypeId} {i:TypeInfo} (h:E.ty t=some i) (w:World):(typeInfo t).run E.P w=.ok i w:=by
 simp[typeInfo,E.hty t i h]
theorem QG {t:TypeId} {n:Nat} (h:E.size t=some n) (w:World):(sizeOf t).run E.P w=.ok n w:=by
 unfold Env.size at h;cases hi:E.ty t with
 |none=>rw[hi]at h;cases h
 |some i=>rw[hi]at h;cases h;simp[sizeOf,Ks hi]
theorem Y2 {t:TypeId} {z:Value} (h:E.zero t=some z) (w:World):(zeroValue t).run E.P w=.ok z w:=by
 unfold Env.zero at h;cases hi:E.ty t with
 |none=>rw[hi]at h;cases h
 | some i=>
   rw[hi]at h;simp only at h;cases hz:i.zero with
   |none=>rw[hz]at h;cases h
   | some z'=>
     rw[hz]at h;cases hp:ZB 4 z' with
     |false=>simp only[hp]at h;cases h
     |true=>simp only[hp]at h;cases h;simp[zeroValue,Ks hi,hz]
theorem KR (M:Mp): ∀(n:Nat) (v:Value),ZB n v=true->VRel M v v:=by
 intro n
 induction n with
 |zero=>intro v hv;cases hv
 | succ n ih=>
   intro v hv;unfold ZB at hv
   split at hv
   · exact .bool _
   · exact .int _ _
   · exact .string _
   · refine .agg rfl fun i a b ha hb=>?_;rw[ha]at hb;cases hb;exact ih a (v0u.1 hv a (v0m ha))
   · exact .iface (ih _ hv)
   · exact .nilIface
   · exact .nilFunc
   · exact .nilp
   · exact .nils _ _
   · exact .nilm
   · exact .nilc
   cases hv
theorem ZV {t:TypeId} {z:Value} (h:E.zero t=some z) (M:Mp):VRel M z z:=by
 unfold Env.zero at h;cases hi:E.ty t with
 |none=>rw[hi]at h;cases h
 | some i=>
   rw[hi]at h;simp only at h;cases hz:i.zero with
   |none=>rw[hz]at h;cases h
   | some z'=>
     rw[hz]at h;cases hp:ZB 4 z' with
     |false=>simp only[hp]at h;cases h
     |true=>simp only[hp]at h;cases h;exact KR M 4 _ hp
theorem Q1X {t:TypeId} {n:Nat} (h:E.bytes t=some n): ∃i,E.ty t=some i/\i.bytes=n:=by
 unfold Env.bytes at h;cases hi:E.ty t with
 |none=>rw[hi]at h;cases h
 |some i=>rw[hi]at h;cases h;exact⟨i,rfl,rfl⟩
theorem Q3G {t:TypeId} {d:TypeDesc} (h:E.und t=some d) (w:World):(isAgg t).run E.P w=.ok (J2 d) w:=by
 cases d<;>simp[isAgg,Qe h,J2]
theorem Q89 {w:World} {b:Nat} {c:Array Value} {e:TypeId} {fr:Nat×Nat} (hx:w.heap[b]?=some (.cells c e fr)) (o j:Nat):
 w.cell? ((⟨b,o,none⟩:Addr).add j)=c[o+j]?:=by
 unfold Addr.add
 split
 · rename_i e0;subst e0;simp[World.cell?,hx]
 simp[World.cell?,hx]
theorem Qd {α:Type} {c:Bool} {a:Option α} {x:α} (h:cond c a none=some x):c=true/\a=some x:=by
 cases c
 · cases h
 exact⟨rfl,h⟩
section
variable {W:World} {B:Nat->Prop} {M:Mp} {h:Hp} {w:World} (H:HRel W B M h w)
include H
theorem HRel.place {i:Nat} {o:AObj} (hk:M.K i) (hg:h.get i=some o) (hd:o≠ .dead):
 ∃b δ S x,M.ρ i=some (b,δ,S)/\w.heap[b]?=some x/\ORel M i o δ S x:=by
 cases hr:M.ρ i with
 | none=>
   rcases H.live i hk hr with e|e
   · rw[e]at hg;cases hg
   rw[e]at hg;cases hg;exact absurd rfl hd
 | some p=>
   obtain⟨b,δ,S⟩:=p;obtain⟨_,o',x,h1,h2,h3⟩:=H.obj i b δ S hr;rw[hg]at h1;cases h1;exact⟨b,δ,S,x,rfl,h2,h3⟩
theorem J5 {a a':Addr} {n:Nat} {l:List Value} (ha:AddrRel M a a') (hr:rowOf h a n=some l):
 l.length=n/\ ∃l',VsRel M l l'/\(∀j v,l'[j]?=some v->w.cell? (a'.add j)=some v)/\a'.spot=none:=by
 unfold rowOf at hr;cases hs:a.spot with
 |some _=>rw[hs]at hr;cases hr
 | none=>
   rw[hs]at hr;simp only at hr
   split at hr
   case h_2=>cases hr
   rename_i c e m hg;obtain⟨hle,hr⟩:=Qd hr;have hle:=(Qr _ _).1 hle;simp only[v0h.injEq]at hr;subst hr;obtain⟨b,δ,S,x,hρ,hx,c',fr,rfl,hS,jv,hc,hm⟩:=H.place ha.1 hg (by simp);have ea:=ha.2 b δ S hρ;have hlen:((c.drop a.off).take n).length=n:=by simp;omega
   refine⟨hlen,((c'.toList.drop (δ+a.off)).take n),⟨?_,?_⟩,?_,?_⟩
   · rw[hlen];simp;omega
   · intro i v w' hv gE;rw[v1q]at hv gE
     split at hv
     · rw[if_pos ‹_›]at gE;rw[v1m]at hv gE;obtain⟨u,h1,h2⟩:=hc _ v hv;rw[<-Nat.add_assoc]at h1;have:c'.toList[δ+a.off+i]?=some u:=by simpa using h1
       rw[this]at gE;cases gE;exact h2
     cases hv
   · intro j v hv;rw[v1q]at hv
     split at hv
     · rw[v1m]at hv;rw[ea,hs,Q89 hx];simpa using hv
     cases hv
   subst ea;exact hs
theorem Q2g {t:TypeId} {a a':Addr} {v:Value} (ha:AddrRel M a a') (hr:JO E t a h=some v):
 ∃v',(loadVar t a').run E.P w=.ok v' w/\VRel M v v':=by
 unfold JO at hr;cases hd:E.und t with
 |none=>rw[hd]at hr;cases hr
 | some d=>
   rw[hd]at hr;simp only at hr
   split at hr
   · rename_i fA;cases hz:E.size t with
     |none=>rw[hz]at hr;cases hr
     | some n=>
       rw[hz]at hr;simp only at hr
       split at hr
       · cases hr
       rename_i l aq;cases hr;obtain⟨hl,l',hv,hc,_⟩:=J5 H ha aq;refine⟨.agg l'.toArray,?_,.agg' (by simpa using hv)⟩;have:=run_loadCells_list (P:=E.P) w a' l' hc;rw[<-hv.1,hl]at this;simp[loadVar,Q3G hd,fA,QG hz,this]
   rename_i fA
   split at hr
   · rename_i v0 aq;cases hr;obtain⟨hl,l',hv,hc,_⟩:=J5 H ha aq;obtain⟨hv1,dT⟩:=hv
     match l',hv1,dT,hc with
     | [v'],_,dT,hc=>
       refine⟨v',?_,dT 0 _ _ rfl rfl⟩;have:=hc 0 v' rfl;have ea:a'.add 0=a':=by simp[Addr.add]
       rw[ea]at this;simp[loadVar,Q3G hd,fA,this]
   cases hr
end
theorem YI {M:Mp} {w:World} {t:TypeId} {cs cs':Array Value} {off:Nat} {v:Value} (hv:VsRel M cs.toList cs'.toList) (hr:Q09 E t cs off=some v):
 ∃v',(part t cs' off).run E.P w=.ok v' w/\VRel M v v':=by
 unfold Q09 at hr;cases hd:E.und t with
 |none=>rw[hd]at hr;cases hr
 | some d=>
   rw[hd]at hr;simp only at hr
   split at hr
   · rename_i fA;cases hz:E.size t with
     |none=>rw[hz]at hr;cases hr
     | some n=>
       rw[hz]at hr;cases hr;refine⟨.agg (cs'.extract off (off+n)),by simp[part,Q3G hd,fA,QG hz],.agg' ?_⟩;simp only[Array.toList_extract,List.extract_eq_take_drop];exact(hv.drop _).take _
   rename_i fA;have ai:off <cs.size:=(v0V.1 hr).1;have ie:off <cs'.size:=by have:=hv.1;simp at this;omega
   refine⟨cs'[off],by simp[part,Q3G hd,fA,ie],hv.2 off v _ (by simpa using hr) (by simp[ie])⟩
theorem Qc1: ∀(n:Nat),(∀v w,sameV n v w=true->v=w)-> ∀l m,sameV.sameL n l m=true->l=m:=by
 intro n ih l
 induction l with
 | nil=>intro m hm;cases m with
   |nil=>rfl
   |cons=>simp[sameV.sameL]at hm
 | cons v l ihl=>intro m hm;cases m with
   |nil=>simp[sameV.sameL]at hm
   | cons w m=>
     simp only[sameV.sameL,v0g]at hm;rw[ih v w hm.1,ihl m hm.2]
theorem Q3B: ∀(n:Nat) (v w:Value),sameV n v w=true->v=w:=by
 intro n
 induction n with
 |zero=>intro v w hh;simp[sameV]at hh
 | succ n ih=>
   intro v w hh;have hl:=Qc1 n ih;cases v<;>cases w<;>first|(simp only[sameV]at hh;cases hh;done)|skip
   case bool.bool=>simp[sameV]at hh;rw[hh]
   case int.int=>simp[sameV,YC]at hh;rw[hh.1,hh.2]
   case string.string a b=>
    obtain⟨⟨a⟩⟩:=a;obtain⟨⟨b⟩⟩:=b;simp[sameV]at hh;rw[hh]
   case pointer.pointer a b=>cases a<;>cases b<;>simp[sameV]at hh<;>first|rfl|rw[hh]
   case slice.slice a l c b l' c'=>
    cases a<;>cases b<;>simp[sameV]at hh
    · rw[hh.1,hh.2]
    rw[hh.1.1,hh.1.2,hh.2]
   case map.map a b=>cases a<;>cases b<;>simp[sameV]at hh<;>first|rfl|rw[hh]
   case nilFunc.nilFunc=>rfl
   case nilIface.nilIface=>rfl
   case iface.iface=>simp[sameV]at hh;rw[hh.1,ih _ _ hh.2]
   case func.func f a b g c d=>
    cases f<;>cases g<;>simp[sameV]at hh
    have e1:=hl _ _ hh.1.2;have e2:=hl _ _ hh.2;obtain⟨a⟩:=a;obtain⟨b⟩:=b;obtain⟨c⟩:=c;obtain⟨d⟩:=d;simp at e1 e2;rw[hh.1.1,e1,e2]
   case agg.agg a b=>
    simp only[sameV]at hh;have e1:=hl _ _ hh;obtain⟨a⟩:=a;obtain⟨b⟩:=b;simp at e1;rw[e1]
   case tuple.tuple a b=>
    simp only[sameV]at hh;have e1:=hl _ _ hh;obtain⟨a⟩:=a;obtain⟨b⟩:=b;simp at e1;rw[e1]
   all_goals (simp[sameV]at hh)
variable {E:Env}
theorem Q8o {op:BinOp} {k:IntKind} {a b:Int} {v:Value} {t:TypeId} {w:World} (hs:KY op=false) (hr:Y4 op k a b=some v):
 (binOp op t (.int k a) (.int k b)).run E.P w=.ok v w/\ ∀M,VRel M v v:=by
 cases op<;>simp[Y4,QQ,ZW,QO,KY]at hr hs<;>
  first
   | (subst hr
      exact⟨by simp[binOp,Op.intArith,Op.intCmp,Op.intBits],fun M=>by first|exact .int _ _|exact .bool _⟩)
   |skip
 case quo=>
  cases hb:decide (b=0)with
  |true=>rw[hb]at hr;cases hr
  | false=>
    rw[hb,cond_false]at hr;cases hr;have:b≠0:=of_decide_eq_false hb;exact⟨by simp[binOp,Op.intDiv,this],fun M=>.int _ _⟩
 case rem=>
  cases hb:decide (b=0)with
  |true=>rw[hb]at hr;cases hr
  | false=>
    rw[hb,cond_false]at hr;cases hr;have:b≠0:=of_decide_eq_false hb;exact⟨by simp[binOp,Op.intDiv,this],fun M=>.int _ _⟩
theorem Q8n {op:BinOp} {k k':IntKind} {a b:Int} {v:Value} {t:TypeId} {w:World} (hs:KY op=true) (hr:Q9k op k a b=some v):
 (binOp op t (.int k a) (.int k' b)).run E.P w=.ok v w/\ ∀M,VRel M v v:=by
 unfold Q9k at hr;cases hb:decide (b <0)with
 |true=>rw[hb]at hr;cases hr
 | false=>
   rw[hb,cond_false]at hr;have ai: ¬b <0:=of_decide_eq_false hb;cases op<;>simp[KY]at hs
   all_goals
    simp only[QQ,ZW,v0h.injEq]at hr;subst hr;exact⟨by simp[binOp,Op.shift,ai],fun M=>.int _ _⟩
theorem Q8m {op:BinOp} {a b:ByteArray} {v:Value} {t:TypeId} {w:World} (hr:Q9d op a b=some v):
 (binOp op t (.string a) (.string b)).run E.P w=.ok v w/\ ∀M,VRel M v v:=by
 cases op<;>simp only[Q9d,QO]at hr<;>try cases hr
 case add=>
  obtain⟨hc,hr⟩:decide (((a.size+b.size:Nat):Int)>IntKind.i64.max)=false/\some (Value.string (a++b))=some v:=by
   revert hr
   cases decide (((a.size+b.size:Nat):Int)>IntKind.i64.max)
   · intro hr;exact⟨rfl,hr⟩
   intro hr;cases hr
  cases hr;have:=of_decide_eq_false hc;refine⟨?_,fun M=>.string _⟩;simp only[binOp,Op.stringOp];rw[if_neg this];rfl
 all_goals exact⟨by simp[binOp,Op.stringOp],fun M=>.bool _⟩
theorem QJ (E:Env) (h:Hp) (n:Nat) (t:TypeId) (r:Nat) (y:Value):Zf E h n t (.chan (some r)) y=none:=by
 cases n with
 |zero=>rfl
 | succ n=>
   simp only[Zf]
   split
   · rfl
   first|rfl|(split<;>first|rfl|(simp_all;done))
theorem QI (E:Env) (h:Hp) (n:Nat) (t:TypeId) (r:Nat) (x:Value):Zf E h n t x (.chan (some r))=none:=by
 cases n with
 |zero=>rfl
 | succ n=>
   simp only[Zf]
   split
   · rfl
   first|rfl|(split<;>first|rfl|(simp_all;done))
section
variable {W:World} {B:Nat->Prop} {M:Mp} {h:Hp} {w:World} (H:HRel W B M h w)
include H
theorem Q6g {a a' b b':Addr} {c c':List Value} {e e':TypeId} (ha:AddrRel M a a') (hb:AddrRel M b b')
 (ga:h.get a.block=some (.cells c e 0)) (gb:h.get b.block=some (.cells c' e' 0)) (sa:a.spot=none) (sb:b.spot=none)
 (la:1<=c.length) (lb:1<=c'.length):
 (sameAddr a' b').run E.P w=.ok (v0d a.block b.block&&v0d a.off b.off) w:=by
 obtain⟨i,δ,S,x,hρ,hx,cc,fr,rfl,hS,hle,hc,hm⟩:=H.place ha.1 ga (by simp);obtain⟨j,δ',S',y,hρ',hy,cc',aw,rfl,hS',hle',lZ,ft⟩:=H.place hb.1 gb (by simp);have ea:=ha.2 _ _ _ hρ;have eb:=hb.2 _ _ _ hρ';rw[sa]at ea;rw[sb]at eb
 have hm:δ=0/\S=c.length/\fr=(0,0):=by
  rcases hm with⟨_,_,h1,h2,h3⟩| ⟨h1,_⟩| ⟨⟨s,h1,_⟩,_⟩
  · exact⟨h1,h2,h3⟩
  · cases h1
  omega
 have ft:δ'=0/\S'=c'.length/\aw=(0,0):=by
  rcases ft with⟨_,_,h1,h2,h3⟩| ⟨h1,_⟩| ⟨⟨s,h1,_⟩,_⟩
  · exact⟨h1,h2,h3⟩
  · cases h1
  omega
 obtain⟨rfl,h2,rfl⟩:=hm;obtain⟨rfl,h2',rfl⟩:=ft;subst ea eb;by_cases he:a.block=b.block
 · have gk:i=j:=by rw[he,hρ']at hρ;simp at hρ;exact hρ.1.symm
   subst gk;have:v0d a.block b.block=true:=by rw[he];exact v0I _
   rw[this,v0C];simp only[sameAddr,beq_self_eq_true,if_true,Sem.run_pure]
   congr 1
   rw[v1W,Qz];simp
 have dX: ¬RO h a.block:=fun⟨_,_,h1⟩=>by rw[ga]at h1;cases h1
 have gk:i≠j:=fun e=>he ((H.inj _ _ _ _ _ _ _ hρ (e▸hρ')).resolve_right dX);have:v0d a.block b.block=false:=(Qw _ _).2 he;rw[this,Bool.false_and];have f1:w.frozen? ⟨i,a.off,none⟩=false:=by simp[World.frozen?,hx]
 have f2:w.frozen? ⟨j,b.off,none⟩=false:=by simp[World.frozen?,hy]
 have s1:w.shape? i=some (e,cc.size):=by simp[World.shape?,hx]
 have s2:w.shape? j=some (e',cc'.size):=by simp[World.shape?,hy]
 have f3:w.frozen? ⟨i,cc.size,none⟩=false:=by simp[World.frozen?,hx]
 have f4:w.frozen? ⟨j,cc'.size,none⟩=false:=by simp[World.frozen?,hy]
 have n1:cc.size≠0:=by omega
 have n2:cc'.size≠0:=by omega
 simp[sameAddr,gk,f1,f2,noView,viewAt,s1,s2,mayBeOne,stringish,f3,f4]
theorem YV {n d:Nat} {t:TypeId} {x y x' y':Value} {b:Bool} (hx:VRel M x x') (hy:VRel M y y') (hr:Zf E h (n+1) t x y=some b):
 (Op.equalIn (d+1) t x' y').run E.P w=.ok b w:=by
 unfold Zf at hr;simp only at hr;cases hd:E.und t with
 |none=>rw[hd]at hr;cases hr
 | some de=>
   rw[hd]at hr;simp only at hr;have hu:=Qe hd w
   split at hr
   case h_1=>cases hx;cases hy;cases hr;simp[Op.equalIn,hu]
   case h_2=>
    cases hx;cases hy;rename_i k1 a1 k2 b1;by_cases hk:k1=k2
    · subst hk;rw[Zc,cond_true,v0h.injEq]at hr;subst hr;simp[Op.equalIn,hu]
    have:KF k1 k2=false:=by
     cases h0:KF k1 k2 with
     |false=>rfl
     |true=>exact absurd ((YC _ _).1 h0) hk
    rw[this,cond_false]at hr;cases hr
   case h_3=>cases hx;cases hy;cases hr;simp[Op.equalIn,hu]
   case h_4=>
    cases hx;cases hr;cases hy<;>simp[Op.equalIn,hu]
   case h_5=>cases hx;cases hy;cases hr;simp[Op.equalIn,hu]
   case h_6=>
    rename_i e a b';cases hx with
    |ptr ha=>
    cases hy with
    |ptr hb=>
    split at hr
    · rename_i z c e1 c' e2 hz g1 g2
      split at hr
      · rename_i s1 s2;obtain⟨hl,hr⟩:=Qd hr;cases hr;simp only[v0g,Qr]at hl;have:=Q6g (E:=E) H ha hb g1 g2 s1 s2 hl.1 hl.2;simp[Op.equalIn,hu,QG hz,this]
      cases hr
    cases hr
   case h_7=>cases hx;cases hr;cases hy<;>simp[Op.equalIn,hu]
   case h_8=>cases hx;cases hy;cases hr;simp[Op.equalIn,hu]
   case h_9=>cases hx;cases hr;cases hy<;>simp[Op.equalIn,hu]
   case h_10=>cases hx;cases hy;cases hr;simp[Op.equalIn,hu]
   case h_11=>cases hx;cases hy;cases hr;simp[Op.equalIn,hu]
   case h_12=>cases hx;cases hy;cases hr;simp[Op.equalIn,hu]
   case h_13=>cases hx;cases hy;cases hr;simp[Op.equalIn,hu]
   case h_14=>cases hx;cases hy;cases hr;simp[Op.equalIn,hu]
   case h_15=>cases hx;cases hy;cases hr;simp[Op.equalIn,hu]
   case h_16=>cases hx;cases hy;cases hr;simp[Op.equalIn,hu]
   case h_17=>cases hr
end
variable {E:Env}
theorem Ye {t:TypeId} {fs:Array Field} (h:E.und t=some (.struct fs)):E.P.fieldsOf t=fs:=by
 simp[Program.fieldsOf,Q2V h]
section
variable {W:World} {B:Nat->Prop} {M:Mp} {h:Hp} {w:World} (H:HRel W B M h w)
include H
omit H in
theorem KL {eq:TypeId->Value->Value->Option Bool} {d:Nat} (heq: ∀ {t x y x' y' b},VRel M x x'->VRel M y y'->eq t x y=some b->(Op.equalIn (d+1) t x' y').run E.P w=.ok b w)
 {xs ys xs' fS:Array Value} (hx:VsRel M xs.toList xs'.toList) (hy:VsRel M ys.toList fS.toList):
 ∀ {l:List Field} {b:Bool},Y1 E eq xs ys l=some b->(Op.eqFields (d+1) xs' fS l).run E.P w=.ok b w:=by
 intro l
 induction l with
 |nil=>intro b hr;cases hr;simp[Op.eqFields]
 | cons f l ih=>
   intro b hr;unfold Y1 at hr;cases hn:(f.name== "_")with
   |true=>rw[hn,cond_true]at hr;cases hr
   | false =>
     rw[hn,cond_false]at hr;have ao:f.name≠ "_" :=by simpa using hn
     cases ha:Q09 E f.type xs f.offset with
     |none=>rw[ha]at hr;cases hr
     | some a=>
       cases hb:Q09 E f.type ys f.offset with
       |none=>rw[ha,hb]at hr;cases hr
       | some c=>
         rw[ha,hb]at hr;simp only at hr;obtain⟨a',ra,va⟩:=YI (E:=E) (w:=w) hx ha;obtain⟨c',rc,vc⟩:=YI (E:=E) (w:=w) hy hb;cases he:eq f.type a c with
         |none=>rw[he]at hr;cases hr
         | some q=>
           rw[he]at hr;have re:=heq va vc he;cases q with
           |true=>simp[Op.eqFields,ao,ra,rc,re,ih hr]
           |false=>simp only at hr;cases hr;simp[Op.eqFields,ao,ra,rc,re]
theorem QaV {n:Nat}: ∀ {d:Nat} {t:TypeId} {x y x' y':Value} {b:Bool},n<=d->VRel M x x'->VRel M y y'->eqN E h n t x y=some b->(Op.equalIn (d+1) t x' y').run E.P w=.ok b w:=by
 induction n with
 |zero=>exact fun _ hx hy hr=>YV (n:=0) H hx hy hr
 | succ n ih=>
   intro d t x y x' y' b hd hx hy hr;obtain⟨d,rfl⟩: ∃k,d=k+1:=⟨d -1,by omega⟩;by_cases ao: ∃xs ys,x=.agg xs/\y=.agg ys
   · obtain⟨xs,ys,rfl,rfl⟩:=ao;simp only[eqN]at hr
     split at hr
     · rename_i fs hu;cases av:E.P.stoodInHeld t with
       |true=>rw[av,cond_true]at hr;cases hr
       | false=>
         rw[av,cond_false]at hr;cases hx with
         |agg ha ka=>
         cases hy with
         |agg hb kb=>
         rename_i xs' fS;have hs:=run_equalIn_struct (P:=E.P) w (d+1) t xs' fS (by rw[Ye hu];exact Q2V hu) av;rw[Ye hu]at hs;rw[hs];exact KL (fun vx vy he=>ih (by omega) vx vy he) ⟨ha,ka⟩ ⟨hb,kb⟩ hr
     cases hr
   have gf: ∀xs ys,x=.agg xs->y=.agg ys->False:=fun xs ys e1 e2=>ao ⟨xs,ys,e1,e2⟩;rw[Q5K gf]at hr;exact YV (n:=0) H hx hy hr
theorem YX {d:Nat} (hd:3<=d) {xs ys xs' fS:Array Value} (hx:VsRel M xs.toList xs'.toList) (hy:VsRel M ys.toList fS.toList) {l:List Field} {b:Bool} (hr:ZH E h xs ys l=some b):(Op.eqFields (d+1) xs' fS l).run E.P w=.ok b w:=
 KL (fun vx vy he=>QaV H hd vx vy he) hx hy hr
theorem Q8R {op:BinOp} {t:TypeId} {xo yo:Operand} {x y x' y' v:Value} (hx:VRel M x x') (hy:VRel M y y') (hr:Q4C E h op t xo yo x y=some v):
 ∃v',(do eqGuard op t xo yo x' y';binOp op t x' y':Sem Value).run E.P w=.ok v' w/\VRel M v v':=by
 have guard0: ∀u u':Value,(∀a b,¬(u=.agg a/\u'=.agg b))-> ¬(u=.nilIface/\u'=.nilIface)->(eqGuard op t xo yo u u').run E.P w=.ok () w:=by
  intro u u' h1 h2;unfold eqGuard
  cases op<;>simp only[Bool.not_true,v1s,if_true,Sem.run_pure]<;>
   (cases u<;>cases u'<;>first|rfl|exact absurd ⟨rfl,rfl⟩ h2|exact absurd ⟨rfl,rfl⟩ (h1 _ _))
 have gen: ∀ {b:Bool},Zf E h 1 t x y=some b->(∀a b,¬(x'=.agg a/\y'=.agg b))-> ¬(x'=.nilIface/\y'=.nilIface)->
  (∀k n k' m,¬(x'=.int k n/\y'=.int k' m))->(∀a b,¬(x'=.string a/\y'=.string b))->(∀k a,x'≠ .float k a)->(∀k a b,x'≠ .complex k a b)->
  (do eqGuard .eql t xo yo x' y';binOp .eql t x' y':Sem Value).run E.P w=.ok (.bool b) w/\(do eqGuard .neq t xo yo x' y';binOp .neq t x' y':Sem Value).run E.P w=.ok (.bool !b) w:=by
  intro b he n1 n2 n3 n4 n5 n6;have re:=YV (n:=0) (d:=9999) H hx hy he
  have g: ∀op',(eqGuard op' t xo yo x' y').run E.P w=.ok () w:=by
   intro op';unfold eqGuard
   cases op'<;>simp only[Bool.not_true,v1s,if_true,Sem.run_pure]<;>
    (cases x'<;>cases y'<;>first|rfl|exact absurd ⟨rfl,rfl⟩ n2|exact absurd ⟨rfl,rfl⟩ (n1 _ _))
  have b1:(binOp .eql t x' y').run E.P w=.ok (.bool b) w/\(binOp .neq t x' y').run E.P w=.ok (.bool !b) w:=by
   cases x'<;>cases y'<;>first
    |(exact absurd ⟨rfl,rfl⟩ (n3 _ _ _ _))
    |(exact absurd ⟨rfl,rfl⟩ (n4 _ _))
    |(exact absurd rfl (n5 _ _))
    |(exact absurd rfl (n6 _ _ _))
    |(refine⟨?_,?_⟩<;>simp[binOp,Op.equal,Op.maxDepth,re])
  exact⟨by simp[g,b1.1],by simp[g,b1.2]⟩
 unfold Q4C at hr
 split at hr
 case h_1 k a k' b=>
  cases hx;cases hy;have g:=guard0 (.int k a) (.int k' b) (by intro a b hh;cases hh.1) (by intro hh;cases hh.1);cases hs:KY op with
  | true=>
    rw[hs,cond_true]at hr;obtain⟨r,vr⟩:=Q8n (E:=E) (t:=t) (w:=w) (k':=k') hs hr;exact⟨v,by simp[g,r],vr M⟩
  | false=>
    rw[hs,cond_false]at hr;obtain⟨hk,bn⟩:=Qd hr;have:=(YC _ _).1 hk;subst this;obtain⟨r,vr⟩:=Q8o (E:=E) (t:=t) (w:=w) hs bn;exact⟨v,by simp[g,r],vr M⟩
 case h_2 a b=>
  cases hx;cases hy;have g:=guard0 (.string a) (.string b) (by intro a b hh;cases hh.1) (by intro hh;cases hh.1);obtain⟨r,vr⟩:=Q8m (E:=E) (t:=t) (w:=w) hr;exact⟨v,by simp[g,r],vr M⟩
 case h_3=>
  cases hx;cases hy;obtain⟨hc,bn⟩:=Qd hr
  have g:(eqGuard op t xo yo .nilIface .nilIface).run E.P w=.ok () w:=by
   cases op<;>cases xo<;>cases yo<;>simp[Q2l]at hc<;>simp[eqGuard]
  have key: ∀ms,E.und t=some (.interface ms)->(Op.equal t .nilIface .nilIface).run E.P w=.ok true w:=by
   intro ms hu;simp only[Op.equal,Op.maxDepth];exact YV (n:=0) (d:=9999) H .nilIface .nilIface (by simp only[Zf,hu])
  cases op<;>first|(simp only at bn;cases bn;done)|skip
  case eql=>
   cases hu:E.und t with
   |none=>rw[hu]at bn;cases bn
   | some d=>
     rw[hu]at bn;cases d<;>first|(simp only at bn;cases bn;done)|skip
     cases bn;exact⟨.bool true,by simp[g,binOp,key _ hu],.bool _⟩
  case neq=>
   cases hu:E.und t with
   |none=>rw[hu]at bn;cases bn
   | some d=>
     rw[hu]at bn;cases d<;>first|(simp only at bn;cases bn;done)|skip
     cases bn;exact⟨.bool false,by simp[g,binOp,key _ hu],.bool _⟩
 case h_4=>cases hr
 case h_5=>cases hr
 case h_6 xs ys=>
  cases hx with
  |agg ha ka=>
  cases hy with
  |agg hb kb=>
  rename_i xs' fS
  split at hr
  · rename_i fs hu;cases hg:(E.P.eqGuardType E.P.depth t||E.P.stoodInHeld t)with
    |true=>rw[hg,cond_true]at hr;cases hr
    | false=>
      rw[hg,cond_false]at hr;simp only[Bool.or_eq_false_iff]at hg;have g:=run_eqGuard_agg (P:=E.P) w op t xo yo xs' fS hg.1;have av:=run_equalIn_struct (P:=E.P) w 9999 t xs' fS (by rw[Ye hu];exact Q2V hu) hg.2;rw[Ye hu]at av
      split at hr
      · rename_i b aZ;cases hr;have:=YX (d:=9998) H (by omega) ⟨ha,ka⟩ ⟨hb,kb⟩ aZ;rw[this]at av;exact⟨.bool b,by simp[g,run_eql_struct,av],by rw[QO];exact .bool _⟩
      · rename_i b aZ;cases hr;have:=YX (d:=9998) H (by omega) ⟨ha,ka⟩ ⟨hb,kb⟩ aZ;rw[this]at av;exact⟨.bool !b,by simp[g,run_neq_struct,av],by rw[QO];exact .bool _⟩
      cases hr
  cases hr
 case h_7 n1 n2 n3 n4 n5 n6=>
  split at hr
  · split at hr
    · rename_i b he;cases hr
      obtain⟨g1,_⟩:=gen he (by rintro a b ⟨rfl,rfl⟩;cases hx<;>cases hy<;>(first|(rw[QJ]at he;cases he)|(rw[QI]at he;cases he)|exact n1 _ _ _ _ rfl rfl|exact n1 _ _ rfl rfl|exact n1 rfl rfl|exact n1 _ _ rfl|exact n1 _ _ _ rfl|exact n2 _ _ _ _ rfl rfl|exact n2 _ _ rfl rfl|exact n2 rfl rfl|exact n2 _ _ rfl|exact n2 _ _ _ rfl|exact n3 _ _ _ _ rfl rfl|exact n3 _ _ rfl rfl|exact n3 rfl rfl|exact n3 _ _ rfl|exact n3 _ _ _ rfl|exact n4 _ _ _ _ rfl rfl|exact n4 _ _ rfl rfl|exact n4 rfl rfl|exact n4 _ _ rfl|exact n4 _ _ _ rfl|exact n5 _ _ _ _ rfl rfl|exact n5 _ _ rfl rfl|exact n5 rfl rfl|exact n5 _ _ rfl|exact n5 _ _ _ rfl|exact n6 _ _ _ _ rfl rfl|exact n6 _ _ rfl rfl|exact n6 rfl rfl|exact n6 _ _ rfl|exact n6 _ _ _ rfl)) (by rintro⟨rfl,rfl⟩;cases hx<;>cases hy<;>(first|(rw[QJ]at he;cases he)|(rw[QI]at he;cases he)|exact n1 _ _ _ _ rfl rfl|exact n1 _ _ rfl rfl|exact n1 rfl rfl|exact n1 _ _ rfl|exact n1 _ _ _ rfl|exact n2 _ _ _ _ rfl rfl|exact n2 _ _ rfl rfl|exact n2 rfl rfl|exact n2 _ _ rfl|exact n2 _ _ _ rfl|exact n3 _ _ _ _ rfl rfl|exact n3 _ _ rfl rfl|exact n3 rfl rfl|exact n3 _ _ rfl|exact n3 _ _ _ rfl|exact n4 _ _ _ _ rfl rfl|exact n4 _ _ rfl rfl|exact n4 rfl rfl|exact n4 _ _ rfl|exact n4 _ _ _ rfl|exact n5 _ _ _ _ rfl rfl|exact n5 _ _ rfl rfl|exact n5 rfl rfl|exact n5 _ _ rfl|exact n5 _ _ _ rfl|exact n6 _ _ _ _ rfl rfl|exact n6 _ _ rfl rfl|exact n6 rfl rfl|exact n6 _ _ rfl|exact n6 _ _ _ rfl))
       (by rintro k n k' m ⟨rfl,rfl⟩;cases hx<;>cases hy<;>(first|(rw[QJ]at he;cases he)|(rw[QI]at he;cases he)|exact n1 _ _ _ _ rfl rfl|exact n1 _ _ rfl rfl|exact n1 rfl rfl|exact n1 _ _ rfl|exact n1 _ _ _ rfl|exact n2 _ _ _ _ rfl rfl|exact n2 _ _ rfl rfl|exact n2 rfl rfl|exact n2 _ _ rfl|exact n2 _ _ _ rfl|exact n3 _ _ _ _ rfl rfl|exact n3 _ _ rfl rfl|exact n3 rfl rfl|exact n3 _ _ rfl|exact n3 _ _ _ rfl|exact n4 _ _ _ _ rfl rfl|exact n4 _ _ rfl rfl|exact n4 rfl rfl|exact n4 _ _ rfl|exact n4 _ _ _ rfl|exact n5 _ _ _ _ rfl rfl|exact n5 _ _ rfl rfl|exact n5 rfl rfl|exact n5 _ _ rfl|exact n5 _ _ _ rfl|exact n6 _ _ _ _ rfl rfl|exact n6 _ _ rfl rfl|exact n6 rfl rfl|exact n6 _ _ rfl|exact n6 _ _ _ rfl)) (by rintro a b ⟨rfl,rfl⟩;cases hx<;>cases hy<;>(first|(rw[QJ]at he;cases he)|(rw[QI]at he;cases he)|exact n1 _ _ _ _ rfl rfl|exact n1 _ _ rfl rfl|exact n1 rfl rfl|exact n1 _ _ rfl|exact n1 _ _ _ rfl|exact n2 _ _ _ _ rfl rfl|exact n2 _ _ rfl rfl|exact n2 rfl rfl|exact n2 _ _ rfl|exact n2 _ _ _ rfl|exact n3 _ _ _ _ rfl rfl|exact n3 _ _ rfl rfl|exact n3 rfl rfl|exact n3 _ _ rfl|exact n3 _ _ _ rfl|exact n4 _ _ _ _ rfl rfl|exact n4 _ _ rfl rfl|exact n4 rfl rfl|exact n4 _ _ rfl|exact n4 _ _ _ rfl|exact n5 _ _ _ _ rfl rfl|exact n5 _ _ rfl rfl|exact n5 rfl rfl|exact n5 _ _ rfl|exact n5 _ _ _ rfl|exact n6 _ _ _ _ rfl rfl|exact n6 _ _ rfl rfl|exact n6 rfl rfl|exact n6 _ _ rfl|exact n6 _ _ _ rfl))
       (by rintro k a rfl;cases hx<;>(first|(rw[QJ]at he;cases he)|(rw[QI]at he;cases he)|exact n1 _ _ _ _ rfl rfl|exact n1 _ _ rfl rfl|exact n1 rfl rfl|exact n1 _ _ rfl|exact n1 _ _ _ rfl|exact n2 _ _ _ _ rfl rfl|exact n2 _ _ rfl rfl|exact n2 rfl rfl|exact n2 _ _ rfl|exact n2 _ _ _ rfl|exact n3 _ _ _ _ rfl rfl|exact n3 _ _ rfl rfl|exact n3 rfl rfl|exact n3 _ _ rfl|exact n3 _ _ _ rfl|exact n4 _ _ _ _ rfl rfl|exact n4 _ _ rfl rfl|exact n4 rfl rfl|exact n4 _ _ rfl|exact n4 _ _ _ rfl|exact n5 _ _ _ _ rfl rfl|exact n5 _ _ rfl rfl|exact n5 rfl rfl|exact n5 _ _ rfl|exact n5 _ _ _ rfl|exact n6 _ _ _ _ rfl rfl|exact n6 _ _ rfl rfl|exact n6 rfl rfl|exact n6 _ _ rfl|exact n6 _ _ _ rfl)) (by rintro k a b rfl;cases hx<;>(first|(rw[QJ]at he;cases he)|(rw[QI]at he;cases he)|exact n1 _ _ _ _ rfl rfl|exact n1 _ _ rfl rfl|exact n1 rfl rfl|exact n1 _ _ rfl|exact n1 _ _ _ rfl|exact n2 _ _ _ _ rfl rfl|exact n2 _ _ rfl rfl|exact n2 rfl rfl|exact n2 _ _ rfl|exact n2 _ _ _ rfl|exact n3 _ _ _ _ rfl rfl|exact n3 _ _ rfl rfl|exact n3 rfl rfl|exact n3 _ _ rfl|exact n3 _ _ _ rfl|exact n4 _ _ _ _ rfl rfl|exact n4 _ _ rfl rfl|exact n4 rfl rfl|exact n4 _ _ rfl|exact n4 _ _ _ rfl|exact n5 _ _ _ _ rfl rfl|exact n5 _ _ rfl rfl|exact n5 rfl rfl|exact n5 _ _ rfl|exact n5 _ _ _ rfl|exact n6 _ _ _ _ rfl rfl|exact n6 _ _ rfl rfl|exact n6 rfl rfl|exact n6 _ _ rfl|exact n6 _ _ _ rfl))
      exact⟨_,g1,by rw[QO];exact .bool _⟩
    cases hr
  · split at hr
    · rename_i b he;cases hr
      obtain⟨_,g1⟩:=gen he (by rintro a b ⟨rfl,rfl⟩;cases hx<;>cases hy<;>(first|(rw[QJ]at he;cases he)|(rw[QI]at he;cases he)|exact n1 _ _ _ _ rfl rfl|exact n1 _ _ rfl rfl|exact n1 rfl rfl|exact n1 _ _ rfl|exact n1 _ _ _ rfl|exact n2 _ _ _ _ rfl rfl|exact n2 _ _ rfl rfl|exact n2 rfl rfl|exact n2 _ _ rfl|exact n2 _ _ _ rfl|exact n3 _ _ _ _ rfl rfl|exact n3 _ _ rfl rfl|exact n3 rfl rfl|exact n3 _ _ rfl|exact n3 _ _ _ rfl|exact n4 _ _ _ _ rfl rfl|exact n4 _ _ rfl rfl|exact n4 rfl rfl|exact n4 _ _ rfl|exact n4 _ _ _ rfl|exact n5 _ _ _ _ rfl rfl|exact n5 _ _ rfl rfl|exact n5 rfl rfl|exact n5 _ _ rfl|exact n5 _ _ _ rfl|exact n6 _ _ _ _ rfl rfl|exact n6 _ _ rfl rfl|exact n6 rfl rfl|exact n6 _ _ rfl|exact n6 _ _ _ rfl)) (by rintro⟨rfl,rfl⟩;cases hx<;>cases hy<;>(first|(rw[QJ]at he;cases he)|(rw[QI]at he;cases he)|exact n1 _ _ _ _ rfl rfl|exact n1 _ _ rfl rfl|exact n1 rfl rfl|exact n1 _ _ rfl|exact n1 _ _ _ rfl|exact n2 _ _ _ _ rfl rfl|exact n2 _ _ rfl rfl|exact n2 rfl rfl|exact n2 _ _ rfl|exact n2 _ _ _ rfl|exact n3 _ _ _ _ rfl rfl|exact n3 _ _ rfl rfl|exact n3 rfl rfl|exact n3 _ _ rfl|exact n3 _ _ _ rfl|exact n4 _ _ _ _ rfl rfl|exact n4 _ _ rfl rfl|exact n4 rfl rfl|exact n4 _ _ rfl|exact n4 _ _ _ rfl|exact n5 _ _ _ _ rfl rfl|exact n5 _ _ rfl rfl|exact n5 rfl rfl|exact n5 _ _ rfl|exact n5 _ _ _ rfl|exact n6 _ _ _ _ rfl rfl|exact n6 _ _ rfl rfl|exact n6 rfl rfl|exact n6 _ _ rfl|exact n6 _ _ _ rfl))
       (by rintro k n k' m ⟨rfl,rfl⟩;cases hx<;>cases hy<;>(first|(rw[QJ]at he;cases he)|(rw[QI]at he;cases he)|exact n1 _ _ _ _ rfl rfl|exact n1 _ _ rfl rfl|exact n1 rfl rfl|exact n1 _ _ rfl|exact n1 _ _ _ rfl|exact n2 _ _ _ _ rfl rfl|exact n2 _ _ rfl rfl|exact n2 rfl rfl|exact n2 _ _ rfl|exact n2 _ _ _ rfl|exact n3 _ _ _ _ rfl rfl|exact n3 _ _ rfl rfl|exact n3 rfl rfl|exact n3 _ _ rfl|exact n3 _ _ _ rfl|exact n4 _ _ _ _ rfl rfl|exact n4 _ _ rfl rfl|exact n4 rfl rfl|exact n4 _ _ rfl|exact n4 _ _ _ rfl|exact n5 _ _ _ _ rfl rfl|exact n5 _ _ rfl rfl|exact n5 rfl rfl|exact n5 _ _ rfl|exact n5 _ _ _ rfl|exact n6 _ _ _ _ rfl rfl|exact n6 _ _ rfl rfl|exact n6 rfl rfl|exact n6 _ _ rfl|exact n6 _ _ _ rfl)) (by rintro a b ⟨rfl,rfl⟩;cases hx<;>cases hy<;>(first|(rw[QJ]at he;cases he)|(rw[QI]at he;cases he)|exact n1 _ _ _ _ rfl rfl|exact n1 _ _ rfl rfl|exact n1 rfl rfl|exact n1 _ _ rfl|exact n1 _ _ _ rfl|exact n2 _ _ _ _ rfl rfl|exact n2 _ _ rfl rfl|exact n2 rfl rfl|exact n2 _ _ rfl|exact n2 _ _ _ rfl|exact n3 _ _ _ _ rfl rfl|exact n3 _ _ rfl rfl|exact n3 rfl rfl|exact n3 _ _ rfl|exact n3 _ _ _ rfl|exact n4 _ _ _ _ rfl rfl|exact n4 _ _ rfl rfl|exact n4 rfl rfl|exact n4 _ _ rfl|exact n4 _ _ _ rfl|exact n5 _ _ _ _ rfl rfl|exact n5 _ _ rfl rfl|exact n5 rfl rfl|exact n5 _ _ rfl|exact n5 _ _ _ rfl|exact n6 _ _ _ _ rfl rfl|exact n6 _ _ rfl rfl|exact n6 rfl rfl|exact n6 _ _ rfl|exact n6 _ _ _ rfl))
       (by rintro k a rfl;cases hx<;>(first|(rw[QJ]at he;cases he)|(rw[QI]at he;cases he)|exact n1 _ _ _ _ rfl rfl|exact n1 _ _ rfl rfl|exact n1 rfl rfl|exact n1 _ _ rfl|exact n1 _ _ _ rfl|exact n2 _ _ _ _ rfl rfl|exact n2 _ _ rfl rfl|exact n2 rfl rfl|exact n2 _ _ rfl|exact n2 _ _ _ rfl|exact n3 _ _ _ _ rfl rfl|exact n3 _ _ rfl rfl|exact n3 rfl rfl|exact n3 _ _ rfl|exact n3 _ _ _ rfl|exact n4 _ _ _ _ rfl rfl|exact n4 _ _ rfl rfl|exact n4 rfl rfl|exact n4 _ _ rfl|exact n4 _ _ _ rfl|exact n5 _ _ _ _ rfl rfl|exact n5 _ _ rfl rfl|exact n5 rfl rfl|exact n5 _ _ rfl|exact n5 _ _ _ rfl|exact n6 _ _ _ _ rfl rfl|exact n6 _ _ rfl rfl|exact n6 rfl rfl|exact n6 _ _ rfl|exact n6 _ _ _ rfl)) (by rintro k a b rfl;cases hx<;>(first|(rw[QJ]at he;cases he)|(rw[QI]at he;cases he)|exact n1 _ _ _ _ rfl rfl|exact n1 _ _ rfl rfl|exact n1 rfl rfl|exact n1 _ _ rfl|exact n1 _ _ _ rfl|exact n2 _ _ _ _ rfl rfl|exact n2 _ _ rfl rfl|exact n2 rfl rfl|exact n2 _ _ rfl|exact n2 _ _ _ rfl|exact n3 _ _ _ _ rfl rfl|exact n3 _ _ rfl rfl|exact n3 rfl rfl|exact n3 _ _ rfl|exact n3 _ _ _ rfl|exact n4 _ _ _ _ rfl rfl|exact n4 _ _ rfl rfl|exact n4 rfl rfl|exact n4 _ _ rfl|exact n4 _ _ _ rfl|exact n5 _ _ _ _ rfl rfl|exact n5 _ _ rfl rfl|exact n5 rfl rfl|exact n5 _ _ rfl|exact n5 _ _ _ rfl|exact n6 _ _ _ _ rfl rfl|exact n6 _ _ rfl rfl|exact n6 rfl rfl|exact n6 _ _ rfl|exact n6 _ _ _ rfl))
      exact⟨_,g1,by rw[QO];exact .bool _⟩
    cases hr
  cases hr
end
variable {E:Env}
theorem Yx {v:Value} {n:Nat} (h:JJ v=some n): ∃k,v=.int k (n:Int):=by
 cases v<;>try (simp[JJ]at h;done)
 rename_i k m;cases m with
 |ofNat m=>simp[JJ]at h;subst h;exact⟨k,rfl⟩
 |negSucc m=>simp[JJ]at h
theorem AddrRel.add {M:Mp} {a a':Addr} (h:AddrRel M a a') (n:Nat):AddrRel M (a.add n) (a'.add n):=by
 refine⟨?_,fun b δ S hb=>?_⟩
 · have:(a.add n).block=a.block:=by unfold Addr.add;split<;>rfl
   rw[this];exact h.1
 have:(a.add n).block=a.block:=by unfold Addr.add;split<;>rfl
 rw[this]at hb;have:=h.2 b δ S hb;subst this;unfold Addr.add
 split
 · rfl
 simp[Nat.add_assoc]
theorem Q1j {c:Value} {l:List Value} {acc bs:List UInt8} (h:K6 (c::l) acc=some bs):
 ∃n,c=.int .u8 n/\K6 l (UInt8.ofNat n.toNat::acc)=some bs:=by
 unfold K6 at h
 split at h
 · rename_i heq;cases heq
 · rename_i heq;cases heq;exact⟨_,rfl,h⟩
 cases h
theorem Qbl (f:Value->ByteArray->Sem (ForInStep ByteArray)) (hf: ∀n s,f (.int .u8 n) s=pure (ForInStep.yield (s.push (UInt8.ofNat n.toNat)))):
 ∀(l:List Value) (acc bs:List UInt8) (w:World),K6 l acc=some bs->
 (forIn l (⟨acc.reverse.toArray⟩:ByteArray) f).run E.P w=.ok ⟨bs.toArray⟩ w:=by
 intro l
 induction l with
 |nil=>intro acc bs w h;simp[K6]at h;subst h;simp
 | cons c l ih=>
   intro acc bs w h;obtain⟨n,rfl,h⟩:=Q1j h;have:=ih (UInt8.ofNat n.toNat::acc) bs w h;simp only[List.forIn_cons,hf,Sem.run_bind,Sem.run_pure,Result.andThen_ok]
   have e:(⟨(UInt8.ofNat n.toNat::acc).reverse.toArray⟩:ByteArray)=(⟨acc.reverse.toArray⟩:ByteArray).push (UInt8.ofNat n.toNat):=by
    simp[ByteArray.push]
   rw[e]at this;exact this
theorem Q72 {M:Mp}: ∀(u v:List Value) (acc bs:List UInt8),VsRel M u v->K6 u acc=some bs->K6 v acc=some bs:=by
 intro u
 induction u with
 | nil=>intro v acc bs hv hb;cases v with
   |nil=>exact hb
   |cons=>have:=hv.1;simp at this
 | cons c u ih=>
   intro v acc bs hv hb;cases v with
   |nil=>have:=hv.1;simp at this
   | cons c' v=>
     obtain⟨h1,h2⟩:=hv.uncons;obtain⟨n,rfl,hb⟩:=Q1j hb;cases h1;exact ih v _ _ h2 hb
theorem SlRel.live {M:Mp} {a a':Addr} {l c c':Nat} (hs:SlRel M a a' l c c') (hl:0 <l):AddrRel M a a':=by
 refine⟨hs.1,fun b δ S hb=>?_⟩;rcases hs.2 b δ S hb with⟨_,h1,_⟩| ⟨s,_,⟨h1,_⟩| ⟨h1,_⟩⟩
 · exact h1
 · exact h1
 omega
section
variable {W:World} {B:Nat->Prop} {M:Mp} {h:Hp} {w:World} (H:HRel W B M h w)
include H
theorem Q2Q {s d:TypeId} {x x' v:Value} (hx:VRel M x x') (hr:Jf E h s d x=some v):
 ∃v',(convert s d x').run E.P w=.ok v' w/\VRel M v v':=by
 unfold Jf at hr;cases hs:E.und s with
 |none=>rw[hs]at hr;cases hr
 | some ds =>
   cases hd:E.und d with
   |none=>rw[hs,hd]at hr;cases hr
   | some dd =>
     rw[hs,hd]at hr;simp only at hr;have r1:=Qe hs w;have r2:=Qe hd w
     split at hr
     · cases hx;simp only[QQ,ZW,v0h.injEq]at hr;subst hr;exact⟨_,by simp only[convert,Sem.run_bind,r1,r2,Result.andThen_ok,Conv.intToInt,Sem.run_pure],.int _ _⟩
     · cases hx;cases hr;exact⟨_,by simp only[convert,Sem.run_bind,r1,r2,Result.andThen_ok,Conv.intToString,Sem.run_pure],.string _⟩
     · cases hx;cases hr;exact⟨_,by simp only[convert,Sem.run_bind,r1,r2,Result.andThen_ok,Sem.run_pure],.string _⟩
     · rename_i e l c;cases hx
       split at hr
       · rename_i hu;cases hr;exact⟨_,by simp only[convert,Sem.run_bind,r1,r2,Result.andThen_ok,Qe hu w,Conv.bytesToString,Sem.run_pure],.string _⟩
       cases hr
     · rename_i e a l c;cases hx with
       |sl bE=>
       rename_i a' c'
       split at hr
       · rename_i hu
         split at hr
         · rename_i r aq
           split at hr
           · rename_i bs ae;cases hr;by_cases hl:l=0
             · subst hl
               have dG:r=[]:=by
                have:=aq;unfold rowOf at this
                split at this
                · cases this
                split at this
                · obtain⟨_,h2⟩:=Qd this;simp at h2;exact h2.symm▸rfl
                cases this
               subst dG;simp[K6]at ae;subst ae;refine⟨.string ⟨#[]⟩,?_,.string _⟩;simp only[convert,Sem.run_bind,r1,r2,Result.andThen_ok,Qe hu w,Conv.bytesToString];simp[loadCells,loadCellsFrom];rfl
             obtain⟨hlen,l',hv,hc,_⟩:=J5 H (SlRel.live bE (by omega)) aq;have aR:=Q72 r l' [] bs hv ae;have iC:=run_loadCells_list (P:=E.P) w a' l' hc;rw[<-hv.1,hlen]at iC;refine⟨.string ⟨bs.toArray⟩,?_,.string _⟩;simp only[convert,Sem.run_bind,r1,r2,Result.andThen_ok,Qe hu w,Conv.bytesToString,iC];rw[<-Array.forIn_toList];have e0:(ByteArray.empty:ByteArray)=⟨([]:List UInt8).reverse.toArray⟩:=rfl;rw[e0,Qbl (E:=E) _ (fun _ _=>rfl) l' [] bs w aR];rfl
           cases hr
         cases hr
       cases hr
     cases hr
omit H in
theorem Q1s {s:TypeId} {x x' v:Value} {i:Nat} (hx:VRel M x x') (hr:Jd E s x i=some v):
 ∃v',(Instr.fieldAt s x' i).run E.P w=.ok v' w/\VRel M v v':=by
 unfold Jd at hr
 split at hr
 · rename_i a fs hu;cases hx with
   |ptr ha=>
   rename_i a'
   split at hr
   · rename_i f hf
     split at hr
     · rename_i n hz;cases hr;refine⟨.pointer (some (a'.add f.offset)),?_,.ptr (ha.add _)⟩;simp[Instr.fieldAt,Qe hu,hf,Instr.sureAddr,fieldPlace,QG hz]
     cases hr
   cases hr
 cases hr
omit H in
theorem Q5D {t:TypeId} {x x' v:Value} {i:Nat} (hx:VRel M x x') (hr:Q82 E t x i=some v):
 ∃v',(Instr.field t x' i).run E.P w=.ok v' w/\VRel M v v':=by
 unfold Q82 at hr
 split at hr
 · rename_i cs fs hu;cases hx with
   |agg ha ka=>
   split at hr
   · rename_i f hf;obtain⟨v',r,vr⟩:=YI (E:=E) (w:=w) ⟨ha,ka⟩ hr;exact⟨v',by simp[Instr.field,Qe hu,hf,asAgg,r],vr⟩
   cases hr
 cases hr
omit H in
theorem Q1r {t:TypeId} {x ix x' mo v:Value} (hx:VRel M x x') (hi:VRel M ix mo) (hr:Kf E t x ix=some v):
 ∃v',(Instr.indexAt t x' mo).run E.P w=.ok v' w/\VRel M v v':=by
 unfold Kf at hr
 split at hr
 · rename_i i n e a hn hu;obtain⟨k,rfl⟩:=Yx hn;cases hi;cases hx with
   |ptr ha=>
   rename_i a'
   split at hr
   · rename_i z hz;obtain⟨ai,hr⟩:=Qd hr;cases hr;have ai:=(QT _ _).1 ai;refine⟨.pointer (some (a'.add (i*z))),?_,.ptr (ha.add _)⟩;have h1:(0:Int)<=i/\(i:Int)<n:=⟨by omega,by omega⟩;simp[Instr.indexAt,asIntOf,Qe hu,Instr.sureAddr,h1,QG hz,ai]
   cases hr
 · rename_i i e a n c hn hu;obtain⟨k,rfl⟩:=Yx hn;cases hi;cases hx with
   |sl hs=>
   rename_i a' c'
   split at hr
   · rename_i z hz;obtain⟨ai,hr⟩:=Qd hr;cases hr;have ai:=(QT _ _).1 ai;refine⟨.pointer (some (a'.add (i*z))),?_,.ptr ((SlRel.live hs (by omega)).add _)⟩;have h1:(0:Int)<=i/\(i:Int)<n:=⟨by omega,by omega⟩;simp[Instr.indexAt,asIntOf,Qe hu,h1,QG hz,ai]
   cases hr
 cases hr
omit H in
theorem Q5u {t:TypeId} {x ix x' mo v:Value} (hx:VRel M x x') (hi:VRel M ix mo) (hr:Qay E t x ix=some v):
 ∃v',(Instr.index t x' mo).run E.P w=.ok v' w/\VRel M v v':=by
 unfold Qay at hr
 split at hr
 · rename_i i n e cs hn hu;obtain⟨k,rfl⟩:=Yx hn;cases hi;cases hx with
   |agg ha ka=>
   split at hr
   · rename_i z hz;obtain⟨ai,hr⟩:=Qd hr;have ai:=(QT _ _).1 ai;obtain⟨v',r,vr⟩:=YI (E:=E) (w:=w) ⟨ha,ka⟩ hr;have h1:(0:Int)<=i/\(i:Int)<n:=⟨by omega,by omega⟩;exact⟨v',by simp[Instr.index,asIntOf,Qe hu,h1,QG hz,r,ai],vr⟩
   cases hr
 · rename_i i s hn hu;obtain⟨k,rfl⟩:=Yx hn;cases hi;cases hx
   split at hr
   · rename_i b hb;cases hr;exact⟨.int .u8 b.toNat,by simp[Instr.index,asIntOf,Qe hu,hb],.int _ _⟩
   cases hr
 cases hr
theorem Q7N {m m':Value} {es:List MapEntry} (hm:VRel M m m') (hr:mapOf h m=some es):
 (m'=.map none/\es=[])\/ ∃r i ak cl,m=.map (some i)/\m'=.map (some r)/\(getObj r).run E.P w=.ok (.map ak cl) w/\EsRel M es ak.toList:=by
 unfold mapOf at hr
 split at hr
 · cases hm;cases hr;exact .inl ⟨rfl,rfl⟩
 · rename_i r;cases hm with
   |map hi=>
   rename_i r'
   split at hr
   · rename_i es0 cl hg;cases hr;obtain⟨b,δ,S,x,hρ,hx,h0,ak,rfl,he⟩:=H.place hi.1 hg (by simp);have:=hi.2 b δ S hρ;subst this;refine .inr ⟨r',r,ak,cl,rfl,rfl,?_,he⟩;simp[getObj,Sem.run,hx]
   cases hr
 cases hr
theorem Q8E {t:TypeId} {x x' v:Value} {ts:Array TypeId} {ty:TypeId} {rest:Array Value} (hx:VRel M x x') (ht:ts[0]?=some t) (ha:rest[0]?=some x') (hr:QeX E h t x=some v):
 ∃v',(Builtin.len_ ts ty rest).run E.P w=.ok v' w/\VRel M v v':=by
 unfold QeX at hr
 split at hr
 · rename_i s hu;cases hx;rw[QQ]at hr;cases hr;exact⟨_,by simp[Builtin.len_,ht,ha,Qe hu];rfl,.int _ _⟩
 · rename_i n e hu;rw[QQ]at hr;cases hr;exact⟨_,by simp[Builtin.len_,ht,ha,Qe hu];rfl,.int _ _⟩
 · rename_i e a n c hu;rw[QQ]at hr;cases hr;cases hx<;>exact⟨_,by simp[Builtin.len_,ht,ha,Qe hu];rfl,.int _ _⟩
 · rename_i k e hu
   split at hr
   · rename_i es hm;rw[QQ]at hr;cases hr;rcases Q7N (E:=E) H hx hm with⟨rfl,rfl⟩| ⟨r,i,ak,cl,rfl,rfl,hg,he⟩
     · exact⟨_,by simp[Builtin.len_,ht,ha,Qe hu];rfl,.int _ _⟩
     refine⟨_,by simp[Builtin.len_,ht,ha,Qe hu,hg];rfl,?_⟩;have:=he.1;simp at this;rw[this];exact .int _ _
   cases hr
 · rename_i dir e k hu
   split at hr
   · rename_i cap buf s r hg;rw[QQ]at hr;cases hr;cases hx with
     | chan hi=>
       obtain⟨b,δ,S,x,hρ,hx,h0,ly,rfl,he⟩:=H.place hi.1 hg (by simp);have:=hi.2 b δ S hρ;subst this;refine⟨_,by simp[Builtin.len_,ht,ha,Qe hu,getObj,Sem.run,hx];rfl,?_⟩;have h1:=he.1;simp at h1;rw[h1];exact .int _ _
   cases hr
 cases hr
end
theorem QaL {M:Mp} {w:World}: ∀(l l':List Value) (x x' v:Value),VRel M x x'->VsRel M l l'->Q5B Qcv x l=some v->
 ∃v',(l'.foldlM Builtin.max2 x').run E.P w=.ok v' w/\VRel M v v':=by
 intro l
 induction l with
 | nil=>intro l' x x' v hx hl hr;cases l' with
   |nil=>cases hr;exact⟨x',by simp,hx⟩
   |cons=>have:=hl.1;simp at this
 | cons y l ih=>intro l' x x' v hx hl hr;cases l' with
   |nil=>have:=hl.1;simp at this
   | cons y' l'=>
     obtain⟨hy,fw⟩:=hl.uncons;unfold Q5B at hr
     split at hr
     · rename_i z hz;unfold Qcv at hz
       split at hz
       · cases hx;cases hy;rw[QQ]at hz;cases hz;rename_i k a k' b;obtain⟨v',r,vr⟩:=ih l' _ (.int k (if b>a then b else a)) v (.int _ _) fw hr;exact⟨v',by simp[Builtin.max2,r],vr⟩
       cases hz
     cases hr
theorem QaK {M:Mp} {w:World}: ∀(l l':List Value) (x x' v:Value),VRel M x x'->VsRel M l l'->Q5B QeL x l=some v->
 ∃v',(l'.foldlM Builtin.min2 x').run E.P w=.ok v' w/\VRel M v v':=by
 intro l
 induction l with
 | nil=>intro l' x x' v hx hl hr;cases l' with
   |nil=>cases hr;exact⟨x',by simp,hx⟩
   |cons=>have:=hl.1;simp at this
 | cons y l ih=>intro l' x x' v hx hl hr;cases l' with
   |nil=>have:=hl.1;simp at this
   | cons y' l'=>
     obtain⟨hy,fw⟩:=hl.uncons;unfold Q5B at hr
     split at hr
     · rename_i z hz;unfold QeL at hz
       split at hz
       · cases hx;cases hy;rw[QQ]at hz;cases hz;rename_i k a k' b;obtain⟨v',r,vr⟩:=ih l' _ (.int k (if b <a then b else a)) v (.int _ _) fw hr;exact⟨v',by simp[Builtin.min2,r],vr⟩
       cases hz
     cases hr
variable {E:Env}
def ORelV (M:Mp) (a b:Option Value):Prop:=
 match a,b with
 |none,none=>True
 |some v,some w=>VRel M v w
 |_,_=>False
theorem ORelV.map {M:Mp} {f g:Operand->Value} {o:Option Operand} (h: ∀x,o=some x->VRel M (f x) (g x)):ORelV M (o.map f) (o.map g):=by
 cases o with
 |none=>trivial
 |some x=>exact h x rfl
theorem Q05 {M:Mp} {w:World} {v v':Value} {n y:Nat} {code:BoundsCode} (hv:VRel M v v') (hn:JJ v=some n) (hle:n<=y):
 (Instr.sliceBound v' y code).run E.P w=.ok n w:=by
 obtain⟨k,rfl⟩:=Yx hn;cases hv;have:(0:Int)<=n/\(n:Int)<=y:=⟨by omega,by omega⟩;simp[Instr.sliceBound,asIntOf,this]
theorem YB {M:Mp} {w:World} {b:Bool} {len cap l r:Nat} {lo hi fW aX:Option Value} (hl:ORelV M lo fW) (hh:ORelV M hi aX)
 (nl:ZG 0 lo=some l) (nr:ZG len hi=some r) (h1:l<=r) (h2:r<=cap):
 (Instr.sliceBounds b len cap fW aX none).run E.P w=.ok (l,r,cap) w:=by
 unfold Instr.sliceBounds;cases lo with
 | none=>
   cases fW with
   |some _=>exact hl.elim
   | none=>
     simp[ZG]at nl;subst nl;cases hi with
     | none=>cases aX with
       |some _=>exact hh.elim
       |none=>simp[ZG]at nr;subst nr;simp
     | some v=>cases aX with
       |none=>exact hh.elim
       |some v'=>simp[Q05 hh nr h2]
 | some u=>
   cases fW with
   |none=>exact hl.elim
   | some u'=>
     cases hi with
     | none=>cases aX with
       |some _=>exact hh.elim
       | none=>
         simp[ZG]at nr;subst nr;simp[Q05 hl nl h1]
     | some v=>cases aX with
       |none=>exact hh.elim
       |some v'=>simp[Q05 hh nr h2,Q05 hl nl h1]
theorem ZR {l r m:Nat}:Yg l r m=true↔l<=r/\r<=m:=by simp[Yg]
section
variable {W:World} {B:Nat->Prop} {M:Mp} {h:Hp} {w:World} (H:HRel W B M h w)
include H
theorem Ja {a:Addr} {m:Nat} (hk:M.K a.block) (hm:ZP h a=some m):
 ∃b δ S,M.ρ a.block=some (b,δ,S)/\((m<=1/\M.md a.block=0)\/ ∃s,m=s+2/\M.md a.block=s+1):=by
 unfold ZP at hm
 split at hm
 · rename_i c e m' hg;cases hm;obtain⟨b,δ,S,x,hρ,hx,c',fr,rfl,hS,hle,hc,hmm⟩:=H.place hk hg (by simp);refine⟨b,δ,S,hρ,?_⟩;rcases hmm with⟨h1,h2,_⟩| ⟨h1,h2,_⟩| ⟨⟨s,h1,h2⟩,_⟩
   · exact .inl ⟨by omega,h2⟩
   · exact .inl ⟨by omega,h2⟩
   exact .inr ⟨s,h1,h2⟩
 cases hm
omit H in
theorem block_add (a:Addr) (n:Nat):(a.add n).block=a.block:=by unfold Addr.add;split<;>rfl
theorem Q4R {t:TypeId} {x x' v:Value} {lo hi mx fW aX lD:Option Value} (hx:VRel M x x') (hl:ORelV M lo fW) (hh:ORelV M hi aX) (hm:ORelV M mx lD)
 (hr:YF E h t x lo hi mx=some v): ∃v',(Instr.sliceAt t x' fW aX lD).run E.P w=.ok v' w/\VRel M v v':=by
 unfold YF at hr
 split at hr
 · rename_i hu
   split at hr
   · rename_i s;cases hx;cases lD with
     |some _=>exact hm.elim
     |none=>
     split at hr
     · rename_i l r nl nr;obtain⟨hb,hr⟩:=Qd hr;cases hr;obtain⟨h1,h2⟩:=ZR.1 hb;have:=YB (E:=E) (w:=w) (b:=false) hl hh nl nr h1 h2;exact⟨.string (s.extract l r),by simp[Instr.sliceAt,Instr.slice,Qe hu,this],.string _⟩
     cases hr
   cases hr
 · rename_i e hu
   split at hr
   · rename_i z hz;cases hx;cases lD with
     |some _=>exact hm.elim
     |none=>
     split at hr
     · rename_i nl nr;cases hr;have:=YB (E:=E) (w:=w) (b:=true) (cap:=0) hl hh nl nr (v0b _) (v0b _);exact⟨.slice none 0 0,by simp[Instr.sliceAt,Instr.slice,Qe hu,this,QG hz],.nils _ _⟩
     cases hr
   · rename_i a n c z hz;cases hx with
     |sl hs=>
     rename_i a' c';cases lD with
     |some _=>exact hm.elim
     |none=>
     have emp: ∀l r,Q3o a n l r c=some v->ZG 0 lo=some l->ZG n hi=some r-> ∃v',(Instr.sliceAt t (.slice (some a') n c') fW aX none).run E.P w=.ok v' w/\VRel M v v':=by
      intro l r he nl nr;obtain⟨rfl,rfl,rfl,rfl⟩:=Q2x he;have run:=YB (E:=E) (w:=w) (b:=true) (cap:=c') hl hh nl nr (v0b _) (Nat.zero_le _);refine⟨.slice (some a') 0 c',?_,.sl hs⟩;simp[Instr.sliceAt,Instr.slice,Qe hu,run,QG hz,Q0A]
      try (split<;>rfl)
     split at hr
     · rename_i l r s nl nr nm;cases hb:(Yg l r c&&v0d s z)with
       | false=>
         rw[hb,cond_false]at hr;exact emp l r hr nl nr
       |true=>
       rw[hb,cond_true]at hr;cases hr;simp only[v0g,ZR,Qz]at hb;obtain⟨⟨h1,h2⟩,rfl⟩:=hb;obtain⟨b,δ,S,hρ,bQ⟩:=Ja H hs.1 nm;rcases bQ with⟨ai,_⟩| ⟨s',he,bQ⟩
       · omega
       have es:s'=s:=by omega
       subst es;rcases hs.2 b δ S hρ with⟨h0,_⟩| ⟨s2,aK,az⟩
       · omega
       have es2:s2=s':=by omega
       subst es2;have hc:c<=c':=by rcases az with⟨_,h3,_⟩| ⟨_,h3,h4⟩<;>omega
       have run:=YB (E:=E) (w:=w) (b:=true) (cap:=c') hl hh nl nr h1 (by omega);refine⟨.slice (some (if c'=l then a' else a'.add (l*s2))) (r -l) (c' -l),by simp[Instr.sliceAt,Instr.slice,Qe hu,run,QG hz];split<;>rfl,.sl ⟨by rw[block_add];exact hs.1,fun b2 δ2 S2 hρ2=>?_⟩⟩;rw[block_add,hρ]at hρ2;cases hρ2;refine .inr ⟨s2,by rw[block_add];exact bQ,?_⟩;rcases az with⟨ha,h3,h4⟩| ⟨h3,h4,h5⟩
       · by_cases e:c'=l
         · right;refine⟨by omega,by omega,by omega⟩
         left;rw[if_neg e];refine⟨?_,by omega,?_⟩
         · have:=(AddrRel.add (M:= {ρ:=fun _=>some (b,δ,S),K:=fun _=>True,md:=M.md}) (a:=a) (a':=a') ⟨trivial,fun b3 δ3 S3 h6=>by cases h6;exact ha⟩ (l*s2)).2 b δ S rfl;simpa[block_add]using this
         have:(a.add (l*s2)).off=a.off+l*s2:=by
          unfold Addr.add;split
          · rename_i e0;rw[e0];rfl
          rfl
         rw[this];have e1:(c' -l)*s2=c'*s2 -l*s2:=Nat.sub_mul _ _ _;have e2:l*s2<=c'*s2:=Nat.mul_le_mul_right _ (by omega);omega
       right;refine⟨by omega,by omega,by omega⟩
     · rename_i l r m bF nl nr nm;obtain⟨hb,hr⟩:=Qd hr;cases hr;obtain⟨h1,h2⟩:=ZR.1 hb;obtain⟨b,δ,S,hρ,bQ⟩:=Ja H hs.1 nm
       have bQ:M.md a.block=0:=by
        rcases bQ with⟨_,h0⟩| ⟨s',he,_⟩
        · exact h0
        subst he;exact absurd rfl (bF s')
       have az:a'=⟨b,δ+a.off,a.spot⟩/\c'=c:=by
        rcases hs.2 b δ S hρ with⟨_,h3,h4⟩| ⟨s2,aK,_⟩
        · exact⟨h3,h4⟩
        omega
       obtain⟨ha,rfl⟩:=az;have run:=YB (E:=E) (w:=w) (b:=true) (cap:=c') hl hh nl nr h1 h2;refine⟨.slice (some (if c'=l then a' else a'.add (l*z))) (r -l) (c' -l),by simp[Instr.sliceAt,Instr.slice,Qe hu,run,QG hz];split<;>rfl,?_⟩;have hA:AddrRel M a a':=⟨hs.1,fun b2 δ2 S2 h6=>by rw[hρ]at h6;cases h6;exact ha⟩
       have gen: ∀A A',AddrRel M A A'->A.block=a.block->VRel M (.slice (some A) (r -l) (c' -l)) (.slice (some A') (r -l) (c' -l)):=fun A A' hA hbk=>
        .sl ⟨hA.1,fun b2 δ2 S2 h6=>.inl ⟨by rw[hbk];exact bQ,hA.2 b2 δ2 S2 h6,rfl⟩⟩
       by_cases e:c'=l
       · rw[if_pos e,(Qz _ _).2 e,cond_true];exact gen _ _ hA rfl
       rw[if_neg e,(Qw _ _).2 e,cond_false];exact gen _ _ (hA.add _) (block_add a _)
     · rename_i l r nl nr _;exact emp l r hr nl nr
     cases hr
   cases hr
 · rename_i n e hu
   split at hr
   · rename_i a z hz;cases hx with
     |ptr ha=>
     rename_i a';cases lD with
     |some _=>exact hm.elim
     |none=>
     split at hr
     · rename_i l r nm nl nr;obtain⟨hb,hr⟩:=Qd hr;cases hr;obtain⟨h1,h2⟩:=ZR.1 hb;obtain⟨b,δ,S,hρ,bQ⟩:=Ja H ha.1 nm
       have bQ:M.md a.block=0:=by
        rcases bQ with⟨_,h0⟩| ⟨s',he,_⟩
        · exact h0
        omega
       have run:=YB (E:=E) (w:=w) (b:=false) (cap:=n) hl hh nl nr h1 h2;refine⟨.slice (some (if n=l then a' else a'.add (l*z))) (r -l) (n -l),by simp[Instr.sliceAt,Qe hu,run,QG hz,Instr.sureAddr],?_⟩
       have gen: ∀A A',AddrRel M A A'->A.block=a.block->VRel M (.slice (some A) (r -l) (n -l)) (.slice (some A') (r -l) (n -l)):=fun A A' hA hbk=>
        .sl ⟨hA.1,fun b2 δ2 S2 h6=>.inl ⟨by rw[hbk];exact bQ,hA.2 b2 δ2 S2 h6,rfl⟩⟩
       by_cases e:n=l
       · rw[if_pos e,(Qz _ _).2 e,cond_true];exact gen _ _ ha rfl
       rw[if_neg e,(Qw _ _).2 e,cond_false];exact gen _ _ (ha.add _) (block_add a _)
     cases hr
   cases hr
 cases hr
omit H in
theorem Q3g {d:TypeDesc} {k k':Value} (hf:Zw d k=true) (hk:VRel M k k'):k'=k:=by
 cases d<;>cases k<;>first|(simp[Zw]at hf;done)|(cases hk;rfl)
omit H in
theorem Q8l {k k':Value} (hf:Yb k=true) (hk:VRel M k k'):k'=k:=by
 cases k<;>first|(simp[Yb]at hf;done)|(cases hk;rfl)
omit H in
theorem Q30: ∀(l l':List Value),l.all Yb=true->VsRel M l l'->l'=l:=by
 intro l
 induction l with
 | nil=>intro l' _ hv;cases l' with
   |nil=>rfl
   |cons=>have:=hv.1;simp at this
 | cons v l ih=>intro l' hs hv;cases l' with
   |nil=>have:=hv.1;simp at this
   | cons v' l'=>
     simp only[v1e,v0g]at hs;obtain⟨h1,h2⟩:=hv.uncons;rw[Q8l hs.1 h1,ih l' hs.2 h2]
omit H in
theorem Q0g {kt:TypeId} {k k':Value} (hf:Y8 E kt k=true) (hk:VRel M k k'):k'=k:=by
 unfold Y8 at hf
 split at hf
 · split at hf
   · rename_i cs;simp only[v0g]at hf;cases hk with
     |agg ha ka=>
     rename_i cs';have:=Q30 _ _ hf.1 ⟨ha,ka⟩;obtain⟨cs⟩:=cs;obtain⟨cs'⟩:=cs';simp at this;rw[this]
   cases hf
 · exact Q3g hf hk
 cases hf
omit H in
theorem Q31 {d:TypeDesc} {k e:Value} (hk:Zw d k=true) (he:Zw d e=true):Instr.sameNow d k e=some (sameV 2 k e):=by
 cases d<;>cases k<;>first
  |(simp[Zw]at hk;done)
  |skip
 all_goals cases e<;>first
  |(simp[Zw]at he;done)
  |skip
 · rename_i a b;simp[Instr.sameNow,sameV]
 · simp only[Zw,YC]at hk he;subst hk;subst he;rename_i a b;simp only[Instr.sameNow,sameV,Zc,if_true,v0C,v0h.injEq];rw[v1W];simp
 rename_i a b;obtain⟨⟨a⟩⟩:=a;obtain⟨⟨b⟩⟩:=b;simp only[Instr.sameNow,sameV,v0h.injEq];show((⟨a⟩:Array UInt8)==⟨b⟩)=(a==b);simp
omit H in
theorem Q3F {n:Nat} {t:TypeId} {d:TypeDesc} {b:Bool} {v:Value} (hu:E.und t=some d) (hs:Q6f d=true):
 (Instr.checkKey b (n+1) t v).run E.P w=.ok () w:=by
 have bp:=Qe hu w
 cases d<;>first
  |(simp[Q6f]at hs;done)
  |simp[Instr.checkKey,bp]
omit H in
theorem Q9n {cs:Array Value} (hs:cs.toList.all Yb=true):VsRel ({ρ:=fun _=>none,K:=fun _=>True,md:=fun _=>0}:Mp) cs.toList cs.toList:=by
 refine⟨rfl,fun i a b ha hb=>?_⟩;rw[ha]at hb;cases hb;have:=v0u.1 hs a (v0m ha);cases a<;>first|(simp[Yb]at this;done)|constructor
omit H in
theorem Q7n {t:TypeId} {cs:Array Value} {o:Nat} {v:Value} (hs:cs.toList.all Yb=true) (hv:Q09 E t cs o=some v):(part t cs o).run E.P w=.ok v w:=by
 obtain⟨v',r,hr⟩:=YI (E:=E) (w:=w) (Q9n hs) hv
 have:v'=v:=by
  unfold Q09 at hv
  split at hv
  · cases hv
  split at hv
  · split at hv
    · cases hv
    cases hv;rename_i n _;cases hr with
    |agg ha ka=>
    rename_i c
    have au:(cs.extract o (o+n)).toList.all Yb=true:=v0u.2 fun u hu=>by
     rw[Array.toList_extract]at hu;exact v0u.1 hs u (List.mem_of_mem_drop (List.mem_of_mem_take (by simpa using hu)))
    have:=Q30 _ _ au ⟨ha,ka⟩;obtain⟨c⟩:=c
    congr 1
    exact Array.ext' this
  rename_i d _ _;have fq:=v0m (show cs.toList[o]?=some v by simpa using hv);have hsc:=v0u.1 hs v fq;cases v<;>first|(simp[Yb]at hsc;done)|(cases hr;rfl)
 rw[<-this];exact r
omit H in
theorem Q1d {b:Bool}: ∀(n m:Nat) {cs:Array Value} {f:Field},n<=m->cs.toList.all Yb=true->Q0n E n cs f=true-> ∃v,(part f.type cs f.offset).run E.P w=.ok v w/\(Instr.checkKey b m f.type v).run E.P w=.ok () w
 |0,_,_,_,_,_,hf=>by simp[Q0n]at hf
 |n+1,0,_,_,hn,_,_=>by omega
 | n + 1,m+1,cs,f,hn,hs,hf=>by
   unfold Q0n at hf
   split at hf
   · rename_i gs hu
     split at hf
     · rename_i ds hp;simp only[v0g]at hf;refine⟨_,Q7n hs hp,?_⟩;have bp:=Qe hu w;rw[Instr.checkKey];simp only[Sem.run_bind,bp,Result.andThen_ok];rw[<-Array.forIn_toList];have au:=hf.2;generalize gs.toList=l at au
       induction l with
       |nil=>simp
       | cons g l ih=>
         simp only[v1e,v0g]at au;simp only[List.forIn_cons,Sem.run_bind];obtain⟨v,h1,h2⟩:=Q1d (b:=b) n m (by omega) hf.1 au.1;by_cases hn:g.name= "_"
         · simp only[hn,ne_eq,not_true_eq_false,if_false,Sem.run_pure,Result.andThen_ok];exact ih au.2
         simp only[hn,ne_eq,not_false_eq_true,if_true,Sem.run_bind,h1,Result.andThen_ok,h2,Sem.run_pure];exact ih au.2
     cases hf
   · rename_i d _ hu;simp only[v0g]at hf;obtain⟨v,hv⟩:=Option.isSome_iff_exists.1 hf.2;exact⟨v,Q7n hs hv,Q3F hu hf.1⟩
   cases hf
omit H in
theorem Q5N {kt:TypeId} {k:Value} {b:Bool} (n:Nat) (hk:Y8 E kt k=true):
 (Instr.checkKey b (n+4) kt k).run E.P w=.ok () w:=by
 unfold Y8 at hk
 split at hk
 · rename_i fs hu
   split at hk
   · rename_i cs;simp only[v0g]at hk;have bp:=Qe hu w;rw[Instr.checkKey];simp only[Sem.run_bind,bp,Result.andThen_ok];rw[<-Array.forIn_toList];have au:=hk.2;generalize fs.toList=l at au
     induction l with
     |nil=>simp
     | cons f l ih=>
       simp only[v1e,v0g]at au;simp only[List.forIn_cons,Sem.run_bind];obtain⟨v,h1,h2⟩:=Q1d (E:=E) (w:=w) (b:=b) 3 (n+3) (by omega) hk.1 au.1;by_cases hn:f.name= "_"
       · simp only[hn,ne_eq,not_true_eq_false,if_false,Sem.run_pure,Result.andThen_ok];exact ih au.2
       simp only[hn,ne_eq,not_false_eq_true,if_true,Sem.run_bind,h1,Result.andThen_ok,h2,Sem.run_pure];exact ih au.2
   cases hk
 · rename_i d bF hu;have bp:=Qe hu w
   cases d<;>cases k<;>first
    |(simp[Zw]at hk;done)
    |(rw[Instr.checkKey];simp[bp])
 cases hk
omit H in
theorem YM {kt:TypeId} {k:Value} {b:Bool} (hk:Y8 E kt k=true):
 (Instr.checkKey b 10000 kt k).run E.P w=.ok () w:=Q5N 9996 hk
theorem Q5m {kt:TypeId} {k e e':Value} {b:Bool} (hk:VRel M k k) (he:VRel M e e') (hr:KV E h kt k e=some b):
 (Op.equal kt k e').run E.P w=.ok b w/\(∀d,E.und kt=some d->(∀fs,d≠ .struct fs)->Instr.sameNow d k e'=some b)/\(b=true->k=e):=by
 unfold KV at hr
 split at hr
 · rename_i fs hu
   split at hr
   · rename_i xs ys;cases av:E.P.stoodInHeld kt with
     |true=>rw[av]at hr;cases hr
     | false=>
       rw[av,cond_false]at hr;cases hk with
       |agg hka hkb=>
       cases he with
       |agg ha ka=>
       rename_i fS;have hs:=run_equalIn_struct (P:=E.P) w 9999 kt xs fS (by rw[Ye hu];exact Q2V hu) av;rw[Ye hu]at hs
       have fin: ∀q,ZH E h xs ys fs.toList=some q->(Op.equal kt (.agg xs) (.agg fS)).run E.P w=.ok q w:=by
        intro q hq;have:=YX (d:=9998) H (by omega) ⟨hka,hkb⟩ ⟨ha,ka⟩ hq;rw[this]at hs;simp only[Op.equal,Op.maxDepth];exact hs
       split at hr
       · rename_i hq;obtain⟨dw,hr⟩:=Qd hr;cases hr;exact⟨fin _ hq,fun d hd hn=>by rw[hu]at hd;cases hd;exact absurd rfl (hn _),fun _=>Q3B 4 _ _ dw⟩
       · rename_i hq;cases hr;exact⟨fin _ hq,fun d hd hn=>by rw[hu]at hd;cases hd;exact absurd rfl (hn _),fun h0=>by cases h0⟩
       cases hr
   cases hr
 · rename_i d bF hu;obtain⟨hf,hr⟩:=Qd hr;simp only[v0h.injEq]at hr;simp only[v0g]at hf;have ee:=Q3g hf.2 he;subst ee;refine⟨?_,fun d' hd hn=>by rw[hu]at hd;cases hd;rw[Q31 hf.1 hf.2,hr],fun h0=>Q3B 2 _ _ (by rw[hr];exact h0)⟩;have kK:=Q31 hf.1 hf.2;rw[hr]at kK;have bp:=Q2V hu
   cases d<;>cases k<;>first
    |(simp[Zw]at hf;done)
    |skip
   all_goals cases e'<;>first
    |(simp[Zw]at hf;done)
    |skip
   · simp[Instr.sameNow]at kK;simp only[Op.equal,Op.maxDepth];rw[run_equalIn_bool' w 9999 kt _ _ bp,kK]
   · simp only[Zw,YC]at hf;obtain⟨hf1,hf2⟩:=hf;subst hf1;subst hf2;simp[Instr.sameNow]at kK;simp only[Op.equal,Op.maxDepth];rw[run_equalIn_int w 9999 kt _ _ _ _ bp,kK]
   simp[Instr.sameNow]at kK;simp only[Op.equal,Op.maxDepth];rw[run_equalIn_string w 9999 kt _ _ bp,<-beq_toListBytes,kK]
 cases hr
theorem Q8L {kt:TypeId} {k:Value} {d:TypeDesc} (hu:E.und kt=some d) (hk:VRel M k k): ∀(es ak:List MapEntry) (i:Nat) (r:Option (Nat×Value)),EsRel M es ak->JU E h kt k es i=some r->
 ∃ r',(r=none/\r'=none\/ ∃j e e',r=some (i+j,e.val)/\r'=some (i+j,e'.val)/\es[j]?=some e/\ak[j]?=some e'/\ERel M e e'/\e.key=k)/\
   ((∃fs,d=.struct fs)->(Instr.findAsking kt k ak i).run E.P w=.ok r' w)/\((∀fs,d≠ .struct fs)->Instr.findNow d k ak i=some r'):=by
 intro es
 induction es with
 | nil=>
   intro ak i r he hr;cases ak with
   |nil=>cases hr;exact⟨none,.inl ⟨rfl,rfl⟩,fun _=>by simp[Instr.findAsking],fun _=>rfl⟩
   |cons=>have:=he.1;simp at this
 | cons e es ih=>
   intro ak i r he hr;cases ak with
   |nil=>have:=he.1;simp at this
   | cons e' ak=>
     have h0:ERel M e e':=he.2 0 e e' rfl rfl;have fI:EsRel M es ak:=⟨by have:=he.1;simpa using this,fun j a b ha hb=>he.2 (j+1) a b (by simpa using ha) (by simpa using hb)⟩;unfold JU at hr
     split at hr
     · rename_i hq;cases hr;obtain⟨r1,r2,r3⟩:=Q5m (E:=E) H hk h0.1 hq;refine⟨some (i,e'.val),.inr ⟨0,e,e',by simp,by simp,rfl,rfl,h0,(r3 rfl).symm⟩,fun _=>by simp[Instr.findAsking,r1],fun hn=>?_⟩;simp only[Instr.findNow,r2 d hu hn]
     · rename_i hq;obtain⟨r1,r2,_⟩:=Q5m (E:=E) H hk h0.1 hq;obtain⟨r',az,hA,hN⟩:=ih ak (i+1) r fI hr;refine⟨r',?_,fun hs=>by simp[Instr.findAsking,r1,hA hs],fun hn=>by simp only[Instr.findNow,r2 d hu hn];exact hN hn⟩;rcases az with⟨h1,h2⟩| ⟨j,a,a',h1,h2,h3,h4,h5,h6⟩
       · exact .inl ⟨h1,h2⟩
       refine .inr ⟨j+1,a,a',?_,?_,by simpa using h3,by simpa using h4,h5,h6⟩
       · rw[h1];congr 2;omega
       rw[h2];congr 2;omega
     cases hr
theorem Zy {kt:TypeId} {k:Value} {es ak:List MapEntry} {r:Option (Nat×Value)} (aT:Y8 E kt k=true) (hk:VRel M k k) (he:EsRel M es ak) (hr:JU E h kt k es 0=some r):
 ∃r',(Instr.findKey kt k ak).run E.P w=.ok r' w/\(r=none/\r'=none\/ ∃j e e',r=some (j,e.val)/\r'=some (j,e'.val)/\es[j]?=some e/\ak[j]?=some e'/\ERel M e e'/\e.key=k):=by
 cases hu:E.und kt with
 |none=>unfold Y8 at aT;rw[hu]at aT;cases aT
 | some d=>
   obtain⟨r',az,hA,hN⟩:=Q8L (E:=E) H hu hk es ak 0 r he hr
   have ld:(r=none/\r'=none\/ ∃j e e',r=some (j,e.val)/\r'=some (j,e'.val)/\es[j]?=some e/\ak[j]?=some e'/\ERel M e e'/\e.key=k):=by
    rcases az with h1| ⟨j,e,e',h1,h2,h3⟩
    · exact .inl h1
    exact .inr ⟨j,e,e',by rw[h1];simp,by rw[h2];simp,h3⟩
   refine⟨r',?_,ld⟩;have bp:=Qe hu w;by_cases hs: ∃fs,d=.struct fs
   · obtain⟨fs,rfl⟩:=hs;have ha:=hA ⟨fs,rfl⟩;cases ak with
     | nil=>
       have:r'=none:=by simpa[Instr.findAsking]using(Eq.symm ha)
       subst this;simp[Instr.findKey,bp,Instr.findNow]
     | cons e0 es0=>
       have:Instr.findNow (.struct fs) k (e0::es0) 0=none:=by
        simp only[Instr.findNow];have:Instr.sameNow (.struct fs) k e0.key=none:=by cases k<;>rfl
        rw[this]
       simp[Instr.findKey,bp,this,ha]
   have hn:=hN (fun fs fy=>hs ⟨fs,fy⟩);simp[Instr.findKey,bp,hn]
theorem Q3Z {t:TypeId} {m k m' k' v:Value} {ok:Bool} (hm:VRel M m m') (hk:VRel M k k') (hr:K4 E h t m k ok=some v):
 ∃v',(Instr.lookup t m' k' ok).run E.P w=.ok v' w/\VRel M v v':=by
 unfold K4 at hr
 split at hr
 · rename_i kt et es hu hmo;obtain⟨cT,hr⟩:=Qd hr;have ek:=Q0g cT hk;subst ek
   have core: ∀ak:Array MapEntry,EsRel M es ak.toList-> ∃r' v',(Instr.findKey kt k' ak.toList).run E.P w=.ok r' w/\VRel M v v'/\
    ((∃i u,r'=some (i,u)/\v'=(if ok=true then .tuple #[u,.bool true]else u))\/(r'=none/\ ∃z,E.zero et=some z/\v'=(if ok=true then .tuple #[z,.bool false]else z))):=by
    intro ak he
    split at hr
    · rename_i i v0 hf;obtain⟨r',cQ,hc⟩:=Zy (E:=E) H cT hk he hf;rcases hc with⟨h1,_⟩| ⟨j,e,e',h1,h2,_,_,h5,_⟩
      · cases h1
      cases h1;subst h2;cases ok with
      |true=>cases hr;exact⟨_,.tuple #[e'.val,.bool true],cQ,.tuple' (.cons h5.2.1 (.cons (.bool _) (.nil M))),.inl ⟨_,_,rfl,rfl⟩⟩
      |false=>cases hr;exact⟨_,e'.val,cQ,h5.2.1,.inl ⟨_,_,rfl,rfl⟩⟩
    · rename_i hf;obtain⟨r',cQ,hc⟩:=Zy (E:=E) H cT hk he hf;rcases hc with⟨_,rfl⟩| ⟨j,e,e',h1,_⟩
      · split at hr
        · rename_i z hz;cases ok with
          |true=>cases hr;exact⟨none,.tuple #[z,.bool false],cQ,.tuple' (.cons (ZV hz M) (.cons (.bool _) (.nil M))),.inr ⟨rfl,z,hz,rfl⟩⟩
          |false=>cases hr;exact⟨none,z,cQ,ZV hz M,.inr ⟨rfl,z,hz,rfl⟩⟩
        cases hr
      cases h1
    cases hr
   have bp:=Qe hu w;rcases Q7N (E:=E) H hm hmo with⟨rfl,rfl⟩| ⟨r,i,ak,cl,rfl,rfl,hg,he⟩
   · obtain⟨r',v',cQ,hv,hc⟩:=core #[] ⟨rfl,by intro i a b ha;simp at ha⟩;have fP:(Instr.checkKey (#[]:Array MapEntry).isEmpty 10000 kt k').run E.P w=.ok () w:=YM cT;refine⟨v',?_,hv⟩;rcases hc with⟨i,u,rfl,rfl⟩| ⟨rfl,z,hz,rfl⟩
     · simp only[Instr.lookup,Sem.run_bind,bp,Result.andThen_ok,Sem.run_pure,fP,cQ]
     simp only[Instr.lookup,Sem.run_bind,bp,Result.andThen_ok,Sem.run_pure,fP,cQ,Y2 hz]
   obtain⟨r',v',cQ,hv,hc⟩:=core ak he;have fP:(Instr.checkKey ak.isEmpty 10000 kt k').run E.P w=.ok () w:=YM cT;refine⟨v',?_,hv⟩;rcases hc with⟨i,u,rfl,rfl⟩| ⟨rfl,z,hz,rfl⟩
   · simp only[Instr.lookup,Sem.run_bind,bp,Result.andThen_ok,hg,Sem.run_pure,fP,cQ]
   simp only[Instr.lookup,Sem.run_bind,bp,Result.andThen_ok,hg,Sem.run_pure,fP,cQ,Y2 hz]
 cases hr
omit H in
theorem Q0D {x x' v:Value} {t a:TypeId} {ok:Bool} (hx:VRel M x x') (hr:Km E x t a ok=some v):
 ∃v',(Instr.typeAssert x' t a ok).run E.P w=.ok v' w/\VRel M v v':=by
 unfold Km at hr
 split at hr
 · cases hr
 · rename_i d u v0 bF hu;cases hx with
   |iface hv=>
   rename_i v1;cases hb:v0d u a with
   | true=>
     have:=(Qz _ _).1 hb;subst this;rw[hb,cond_true]at hr;cases ok with
     |true=>cases hr;exact⟨.tuple #[v1,.bool true],by cases d<;>first|(exact absurd rfl (bF _))|simp[Instr.typeAssert,Qe hu],.tuple' (.cons hv (.cons (.bool _) (.nil M)))⟩
     |false=>cases hr;exact⟨v1,by cases d<;>first|(exact absurd rfl (bF _))|simp[Instr.typeAssert,Qe hu],hv⟩
   | false=>
     have ao:=(Qw _ _).1 hb;rw[hb,cond_false]at hr;obtain⟨rfl,hr⟩:=Qd hr
     split at hr
     · rename_i z hz;cases hr;exact⟨.tuple #[z,.bool false],by cases d<;>first|(exact absurd rfl (bF _))|simp[Instr.typeAssert,Qe hu,ao,Y2 hz],.tuple' (.cons (ZV hz M) (.cons (.bool _) (.nil M)))⟩
     cases hr
 · rename_i d bF hu;cases hx;obtain⟨rfl,hr⟩:=Qd hr
   split at hr
   · rename_i z hz;cases hr;exact⟨.tuple #[z,.bool false],by cases d<;>first|(exact absurd rfl (bF _))|simp[Instr.typeAssert,Qe hu,Y2 hz],.tuple' (.cons (ZV hz M) (.cons (.bool _) (.nil M)))⟩
   cases hr
 cases hr
omit H in
theorem Qeo {cs cs':List Value} {v v':Value} (i:Nat) (hc:VsRel M cs cs') (hv:VRel M v v'):VsRel M (cs.set i v) (cs'.set i v'):=by
 refine⟨by simp[hc.1],fun j a b ha hb=>?_⟩;rw[List.getElem?_set]at ha hb
 split at ha
 · rename_i e;rw[if_pos e]at hb;have hl:=hc.1
   split at ha
   · rw[if_pos (by omega)]at hb;cases ha;cases hb;exact hv
   cases ha
 rename_i e;rw[if_neg e]at hb;exact hc.2 j a b ha hb
omit H in
theorem QcS {M:Mp} (off:Nat): ∀(l l':List (Value×Nat)) (cs cs':Array Value),l.length=l'.length->(∀(i:Nat) (a b:Value×Nat),l[i]?=some a->l'[i]?=some b->VRel M a.1 b.1/\a.2=b.2)->
 VsRel M cs.toList cs'.toList->
 VsRel M (l.foldl (fun(cs:Array Value) (p:Value×Nat)=>cs.setIfInBounds (off+p.2) p.1) cs).toList (l'.foldl (fun(cs:Array Value) (p:Value×Nat)=>cs.setIfInBounds (off+p.2) p.1) cs').toList:=by
 intro l
 induction l with
 | nil=>intro l' cs cs' hl _ hc;cases l' with
   |nil=>exact hc
   |cons=>simp at hl
 | cons a l ih=>
   intro l' cs cs' hl hr hc;cases l' with
   |nil=>simp at hl
   | cons b l'=>
     obtain⟨h1,h2⟩:=hr 0 a b rfl rfl;simp only[List.foldl_cons];refine ih l' _ _ (by simpa using hl) (fun i x y hx hy=>hr (i+1) x y (by simpa using hx) (by simpa using hy)) ?_;rw[h2];simp only[Array.toList_setIfInBounds];exact Qeo _ hc h1
omit H in
theorem Q4i {M:Mp} (place:Nat->Option (Nat×Nat)): ∀(ps iX:List (Nat×Value)) (cs cs':Array Value) (r:Array Value),ps.length=iX.length->
 (∀(i:Nat) (a b:Nat×Value),ps[i]?=some a->iX[i]?=some b->a.1=b.1/\VRel M a.2 b.2)->VsRel M cs.toList cs'.toList->Instr.fill place cs ps=some r->
 ∃r',Instr.fill place cs' iX=some r'/\VsRel M r.toList r'.toList:=by
 intro ps
 induction ps with
 | nil=>intro iX cs cs' r hl _ hc hf;cases iX with
   |nil=>simp[Instr.fill]at hf;subst hf;exact⟨cs',by simp[Instr.fill],hc⟩
   |cons=>simp at hl
 | cons p ps ih=>
   intro iX cs cs' r hl hr hc hf;cases iX with
   |nil=>simp at hl
   | cons p' iX=>
     obtain⟨i,v⟩:=p;obtain⟨i',v'⟩:=p';obtain⟨h1,h2⟩:=hr 0 _ _ rfl rfl;simp only at h1 h2;subst h1;unfold Instr.fill at hf ⊢
     split at hf
     · cases hf
     rename_i off size hp;have aV:=h2.cells;have cq:v'.cells.size=v.cells.size:=by have:=aV.1;simp at this;exact this.symm
     have hsz2:cs'.size=cs.size:=by have:=hc.1;simp at this;exact this.symm
     split at hf
     · cases hf
     rename_i cV;rw[cq,hsz2,if_neg cV];refine ih iX _ _ r (by simpa using hl) (fun j x y hx hy=>hr (j+1) x y (by simpa using hx) (by simpa using hy)) ?_ hf;rw[<-Array.foldl_toList,<-Array.foldl_toList];refine QcS off _ _ _ _ (by simp[cq]) (fun j x y hx hy=>?_) hc;simp only[Array.toList_zipIdx,List.getElem?_zipIdx,v1H]at hx hy;obtain⟨u,hu,rfl⟩:=hx;obtain⟨u',bp,rfl⟩:=hy;exact⟨aV.2 j u u' hu bp,rfl⟩
end
variable {E:Env}
theorem Qa7 {l:List Field} {pl:List (Nat×Nat)} {w:World}:(l.mapM fun f=>(E.size f.type).map fun n=>(f.offset,n))=some pl->
 (l.mapM fun f=>(do pure (f.offset,<-sizeOf f.type):Sem (Nat×Nat))).run E.P w=.ok pl w:=by
 induction l generalizing pl with
 |nil=>intro hh;simp at hh;subst hh;simp
 | cons f l ih=>
   intro hh;simp only[List.mapM_cons]at hh ⊢;cases hs:E.size f.type with
   |none=>rw[hs]at hh;simp at hh
   | some n=>
     rw[hs]at hh;cases hm:(l.mapM fun f=>(E.size f.type).map fun n=>(f.offset,n))with
     |none=>rw[hm]at hh;simp at hh
     | some kB=>
       rw[hm]at hh;simp at hh;subst hh;have:=ih hm;rw[Sem.run_bind,Sem.run_bind,QG hs,Result.andThen_ok,Sem.run_pure,Result.andThen_ok,Sem.run_bind,this,Result.andThen_ok,Sem.run_pure]
section
variable {W:World} {B:Nat->Prop} {M:Mp} {h:Hp} {w:World} (H:HRel W B M h w)
include H
theorem Q23 {tm:Tr Value} {ρ:Operand->Value} {o:Oper} {v:Value} (hE: ∀x∈o.op.operands,VRel M (ev tm x) (ρ x)) (hr:QL E tm o h=some v):
 ∃v',(execOp ρ o).run E.P w=.ok (.value v') w/\VRel M v v':=by
 obtain⟨dst,op,type,pos,after,guard⟩:=o;simp only at hE
 have up: ∀ {s:Sem Value} {v':Value},s.run E.P w=.ok v' w->((do pure (.value (<-s)):Sem Next)).run E.P w=.ok (.value v') w:=by
  intro s v' hs;simp[hs]
 cases op<;>simp only[QL]at hr<;>simp only[Op.operands]at hE
 case move x=>cases hr;exact⟨_,by simp[execOp],hE x (by simp)⟩
 case assign x=>cases hr;exact⟨_,by simp[execOp],hE x (by simp)⟩
 case pick c a b=>
  have hc:=hE c (by simp)
  split at hr
  · rename_i t heq;rw[heq]at hc;cases hr;generalize ρ c=rc at hc;have mP:ρ c=ρ c:=rfl;cases t with
    |true=>exact⟨ρ a,by simp[execOp];have:=hE c (by simp);rw[heq]at this;generalize ρ c=q at this;cases this;simp[asBool],hE a (by simp)⟩
    |false=>exact⟨ρ b,by simp[execOp];have:=hE c (by simp);rw[heq]at this;generalize ρ c=q at this;cases this;simp[asBool],hE b (by simp)⟩
  cases hr
 case build t ps=>
  have lK: ∀(i:Nat) (a b:Nat×Value),(ps.toList.map fun(i,x)=>(i,ev tm x))[i]?=some a->(ps.toList.map fun(i,x)=>(i,ρ x))[i]?=some b->a.1=b.1/\VRel M a.2 b.2:=by
   intro i a b ha hb;simp only[List.getElem?_map,v1H]at ha hb;obtain⟨p,hp,rfl⟩:=ha;obtain⟨p',eG,rfl⟩:=hb;rw[hp]at eG;cases eG;refine⟨rfl,hE p.2 ?_⟩;simp only[List.mem_toArray,List.mem_map];exact⟨p,v0m hp,rfl⟩
  have hlen:(ps.toList.map fun(i,x)=>(i,ev tm x)).length=(ps.toList.map fun(i,x)=>(i,ρ x)).length:=by simp
  split at hr
  · rename_i z fs hz hu;have hzr:=(ZV hz M).cells
    split at hr
    · rename_i pl bM
      split at hr
      · rename_i cs hf;cases hr;obtain⟨cs',cJ,hv⟩:=Q4i _ _ _ _ _ _ hlen lK hzr hf;refine⟨.agg cs',up ?_,.agg' hv⟩;have hpl':=Qa7 (E:=E) (w:=w) bM
        have hm:(fs.mapM fun f=>(do pure (f.offset,<-sizeOf f.type):Sem (Nat×Nat))).run E.P w=.ok pl.toArray w:=by
         rw[Array.mapM_eq_mapM_toList,Sem.run_map,hpl'];rfl
        simp only[Instr.build,Sem.run_bind,Y2 hz,Result.andThen_ok,Qe hu w,hm];have e1:(ps.map fun(p:Nat×Operand)=>(p.1,ρ p.2)).toList=(ps.toList.map fun(i,x)=>(i,ρ x)):=by simp
        have e2:(fun(i:Nat)=>pl.toArray[i]?)=(fun(i:Nat)=>pl[i]?):=by funext i;simp
        rw[e2];rw[<-e1]at cJ;simp only[cJ,Sem.run_pure]
      cases hr
    cases hr
  · rename_i z n e hz hu;have hzr:=(ZV hz M).cells
    split at hr
    · rename_i n' hn
      split at hr
      · rename_i cs hf;cases hr;obtain⟨cs',cJ,hv⟩:=Q4i _ _ _ _ _ _ hlen lK hzr hf;refine⟨.agg cs',up ?_,.agg' hv⟩;have e1:(ps.map fun(p:Nat×Operand)=>(p.1,ρ p.2)).toList=(ps.toList.map fun(i,x)=>(i,ρ x)):=by simp
        rw[<-e1]at cJ;simp only[Instr.build,Sem.run_bind,Y2 hz,Result.andThen_ok,Qe hu w,QG hn,cJ,Sem.run_pure]
      cases hr
    cases hr
  cases hr
 case load t a=>
  have ha:=hE a (by simp)
  split at hr
  · rename_i p heq;rw[heq]at ha
    obtain⟨v',r,hv⟩: ∃v',(Instr.loadAt t (ρ a)).run E.P w=.ok v' w/\VRel M v v':=by
     generalize ρ a=q at ha;cases ha with
     |ptr hp=>
     obtain⟨v',r,hv⟩:=Q2g (E:=E) H hp hr;exact⟨v',by simp[Instr.loadAt,Instr.sureAddr,r],hv⟩
    exact⟨v',up r,hv⟩
  cases hr
 case nilCheck x=>
  have hx:=hE x (by simp);simp only[execOp];generalize ρ x=q at hx;generalize ev tm x=u at hx hr
  split at hr
  · cases hr;cases hx with|ptr hp=>exact⟨_,by simp,.ptr hp⟩
  · rename_i f a b;cases hr;cases hx with
    |func hf ha hb ka kb=>
    rename_i f' c d;cases f'<;>simp only[FnRel]at hf<;>first|(cases hf;done)|skip
    cases hf;exact⟨_,by simp,.func rfl ha hb ka kb⟩
  · rename_i f a b;cases hr;cases hx with
    |func hf ha hb ka kb=>
    rename_i f' c d;cases f'<;>simp only[FnRel]at hf<;>first|(exact hf.elim)|skip
    rename_i l';exact⟨.func (.yield l') c d,by simp,.func (f:=.yield f) (f':=.yield l') hf ha hb ka kb⟩
  · cases hr;cases hx with|iface hv=>exact⟨_,by simp,.iface hv⟩
  cases hr
 case binOp op t x y u=>
  obtain⟨v',r,hv⟩:=Q8R (E:=E) H (hE x (by simp)) (hE y (by simp)) hr;exact⟨v',up r,hv⟩
 case unOp op t x=>
  have hx:=hE x (by simp)
  suffices hs: ∃v',(Op.unary op (ρ x)).run E.P w=.ok v' w/\VRel M v v' by
   obtain⟨v',r,hv⟩:=hs;exact⟨v',up r,hv⟩
  generalize ρ x=q at hx;generalize ev tm x=u at hx hr;unfold unX at hr
  split at hr
  · cases hx;rw[QQ,ZW]at hr;cases hr;exact⟨_,by simp only[Op.unary,Op.intArith,Sem.run_pure],.int _ _⟩
  · cases hx;rename_i k n;simp only[Y4,QQ,ZW]at hr;cases hr;exact⟨_,by simp only[Op.unary,Op.intBits,Sem.run_pure],.int _ _⟩
  · cases hx;rw[QO]at hr;cases hr;exact⟨_,by simp only[Op.unary,Sem.run_pure],.bool _⟩
  cases hr
 case convert s d x=>
  obtain⟨v',r,hv⟩:=Q2Q (E:=E) H (hE x (by simp)) hr;exact⟨v',up r,hv⟩
 case makeInterface t x=>
  have hx:=hE x (by simp)
  split at hr
  · cases hr
  · rename_i d bF hu;cases hr;refine⟨.iface t (ρ x),up ?_,.iface hx⟩
    cases d<;>first
     |(rename_i bp _;exact absurd rfl (bF _))
     |simp[Instr.makeInterface,Qe hu]
     |(exact absurd rfl (bF _))
  cases hr
 case makeFunc fn a b=>
  split at hr
  · cases hr
  rename_i bF;cases hr;refine⟨.func fn (a.map ρ) (b.map ρ),by simp[execOp,Instr.makeFunc],.func' ?_ ?_ ?_⟩
  · cases fn<;>first|rfl|(exact absurd rfl (bF _))
  · rw[v1y,v1y];exact .map _ _ _ fun x hx=>hE x (by simp;exact .inl (by simpa using hx))
  rw[v1y,v1y];exact .map _ _ _ fun x hx=>hE x (by simp;exact .inr (by simpa using hx))
 case slice t x lo hi mx=>
  obtain⟨v',r,hv⟩:=Q4R (E:=E) H (hE x (by simp))
   (ORelV.map (o:=lo) (f:=ev tm) (g:=ρ) fun y hy=>hE y (by subst hy;simp)) (ORelV.map (o:=hi) (f:=ev tm) (g:=ρ) fun y hy=>hE y (by subst hy;simp))
   (ORelV.map (o:=mx) (f:=ev tm) (g:=ρ) fun y hy=>hE y (by subst hy;simp)) hr
  exact⟨v',up r,hv⟩
 case fieldAddr t x i=>
  obtain⟨v',r,hv⟩:=Q1s (E:=E) (w:=w) (hE x (by simp)) hr;exact⟨v',up r,hv⟩
 case field t x i=>
  obtain⟨v',r,hv⟩:=Q5D (E:=E) (w:=w) (hE x (by simp)) hr;exact⟨v',up r,hv⟩
 case indexAddr t x i=>
  obtain⟨v',r,hv⟩:=Q1r (E:=E) (w:=w) (hE x (by simp)) (hE i (by simp)) hr;exact⟨v',up r,hv⟩
 case index t x i=>
  obtain⟨v',r,hv⟩:=Q5u (E:=E) (w:=w) (hE x (by simp)) (hE i (by simp)) hr;exact⟨v',up r,hv⟩
 case lookup t m k ok=>
  obtain⟨v',r,hv⟩:=Q3Z (E:=E) H (hE m (by simp)) (hE k (by simp)) hr;exact⟨v',up r,hv⟩
 case typeAssert x t a ok=>
  obtain⟨v',r,hv⟩:=Q0D (E:=E) (w:=w) (hE x (by simp)) hr;exact⟨v',up r,hv⟩
 case extract x i=>
  have hx:=hE x (by simp)
  suffices hs: ∃v',(Instr.extract (ρ x) i).run E.P w=.ok v' w/\VRel M v v' by
   obtain⟨v',r,hv⟩:=hs;exact⟨v',up r,hv⟩
  generalize ρ x=q at hx;generalize ev tm x=u at hx hr
  split at hr
  · rename_i vs;cases hx with
    |tuple ha ka=>
    rename_i fE;have ai:i <vs.size:=(v0V.1 hr).1;have ie:i <fE.size:=by simp at ha;omega
    exact⟨fE[i],by simp[Instr.extract,ie],ka i v _ (by simpa using hr) (by simp[ie])⟩
  cases hr
 case call c=>
  obtain⟨callee,args,argTypes⟩:=c;cases callee with
  |value f=>cases hr
  |invoke r m=>cases hr
  | builtin b=>
    simp only[Call.operands]at hE;have ax:VsRel M (args.toList.map (ev tm)) (args.toList.map ρ):=.map _ _ _ fun x hx=>hE x (by simpa using hx);simp only at hr
    have res:(resolve ρ {callee:=.builtin b,args:=args,argTypes:=argTypes} type).run E.P w=.ok {target:=.builtin b argTypes type (args.map fun| .const _=>true|_=>false),args:=args.map ρ} w:=by
     simp only[resolve,Sem.run_pure];rfl
    have e0:(args.map ρ).toList=args.toList.map ρ:=by simp
    split at hr
    · rename_i t x l ht hl;rw[hl]at ax;cases aR:args.toList.map ρ with
      |nil=>rw[aR]at ax;have:=ax.1;simp at this
      | cons x' l'=>
        rw[aR]at ax;have ha:(args.map ρ)[0]?=some x':=by rw[<-Array.getElem?_toList,e0,aR];rfl
        obtain⟨v',r,hv⟩:=Q8E (E:=E) H (ts:=argTypes) (ty:=type) ax.uncons.1 ht ha hr;exact⟨v',by simp only[execOp,Sem.run_bind,res,Result.andThen_ok,invoke,builtin,r,Sem.run_pure],hv⟩
    · rename_i x l hl;rw[hl]at ax;cases aR:args.toList.map ρ with
      |nil=>rw[aR]at ax;have:=ax.1;simp at this
      | cons x' l'=>
        rw[aR]at ax;obtain⟨v',r,hv⟩:=QaL (E:=E) (w:=w) l l' x x' v ax.uncons.1 ax.uncons.2 hr;exact⟨v',by simp only[execOp,Sem.run_bind,res,Result.andThen_ok,invoke,builtin,Builtin.max_,e0,aR,r,Sem.run_pure],hv⟩
    · rename_i x l hl;rw[hl]at ax;cases aR:args.toList.map ρ with
      |nil=>rw[aR]at ax;have:=ax.1;simp at this
      | cons x' l'=>
        rw[aR]at ax;obtain⟨v',r,hv⟩:=QaK (E:=E) (w:=w) l l' x x' v ax.uncons.1 ax.uncons.2 hr;exact⟨v',by simp only[execOp,Sem.run_bind,res,Result.andThen_ok,invoke,builtin,Builtin.min_,e0,aR,r,Sem.run_pure],hv⟩
    cases hr
 all_goals cases hr
end
end Go.X
