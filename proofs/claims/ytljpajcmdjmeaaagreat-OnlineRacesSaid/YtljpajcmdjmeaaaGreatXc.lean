/- The calculus of memory and steps, part Xc. Conditions: none. -/
import Derived.Test.YtljpajcmdjmeaaaGreatXb
import Derived.Test.YtljpajcmdjmeaaaGreatXa
import Derived.Sort.Grow
import Derived.Deep.Draws
import Derived.OpenVars
import Derived.Deep.Slices
import Derived.Lib.LaidTab
import Derived.OpenShut
import Derived.Lib.SlKeysI
import Derived.Maps.Own
open List renaming append_assoc → v0B, cons_append → v06, nil_append → v1b, drop_eq_getElem_cons → v1K, range → v0o, drop_zero → v0R, getElem?_cons_succ → v1r, all_eq_true → v0v, map_cons → v0G, map_nil → v1h, getElem?_toArray → v2w, getElem?_cons_zero → v0S, getElem?_eq_some_iff → v0z, mem_cons → v0w, all_cons → v1n, mem_cons_of_mem → v0E, take_append_drop → v00, getElem?_map → v0y, append_nil → v0k, ext_getElem? → v09, take_of_length_le → v1A, nodup_cons → v0W, length_map → v0s, getElem?_eq_getElem → v0c, mem_of_mem_drop → v2v, mem_of_mem_take → v2h, getElem?_drop → v1l, getElem?_eq_none → v02, getElem?_take → v1o, pairwise_cons → v2m, eq_nil_of_length_eq_zero → v1x, ext_getElem → v2b, getElem_map → v1M, mem_of_getElem? → v0m
open Nat renaming beq → v0d, beq_refl → v0N, blt → v0a, le_refl → v0b, le_trans → v0p, lt_of_lt_of_le → v0u, ble → v0r, zero_add → v0f
open Int renaming le_trans → v12
open Bool renaming cond_eq_ite → v0Q, and_eq_true → v0h, or_eq_true → v0H, not_eq_true' → v0I, not_false → v1q, and_true → v1i
open Option renaming some → v0i
open Array renaming getElem?_eq_getElem → v17, mem_of_getElem? → v2a, getElem?_toList → v1J, getElem?_eq_none → v2f, getElem?_eq_some_iff → v0X, toList_inj → v1Z
namespace Go.X
abbrev Kn:=List (Nat×Value)
def lk:Kn->Nat->Option Value
 | [],_=>none
 |(k,v)::r,t=>cond (v0d k t) (some v) (lk r t)
def Ag (tm:Tr Value) (l:Kn):Prop:= ∀t v,lk l t=some v->tm.get t=some v
def Sub:Kn->Kn->Prop
 | [],_=>True
 |(t,v)::r,l=>lk l t=some v/\Sub r l
def evl (l:Kn):Operand->Option Value
 | .tmp t=>lk l t
 | .const v=>some v
 | .global g=>some (.pointer (some ⟨g,0,none⟩))
 | .func f=>some (.func (.func f) #[] #[])
theorem Ag.ev {tm:Tr Value} {l:Kn} (a:Ag tm l) {o:Operand} {v:Value} (h:evl l o=some v):ev tm o=v:=by
 cases o with
 |tmp t=>simp only[evl]at h;simp only[Go.X.ev,a t v h]
 |const c=>simp only[evl,v0i.injEq]at h;exact h
 |global g=>simp only[evl,v0i.injEq]at h;exact h
 |func f=>simp only[evl,v0i.injEq]at h;exact h
theorem Zm (k:Nat) (v:Value) (r:Kn) (t:Nat):lk ((k,v)::r) t=if k=t then some v else lk r t:=by
 simp only[lk];by_cases h:k=t
 · subst h;simp[v0N]
 rw[(QC k t).2 h,if_neg h];rfl
theorem Ag.put {tm:Tr Value} {l:Kn} (a:Ag tm l) (nt d:Nat) (v:Value) (hd:v0a d nt=true):Ag (setT nt tm d v) ((d,v)::l):=by
 intro t u h;rw[Zm]at h;rw[Q1J];by_cases e:d=t
 · rw[if_pos e]at h;rw[if_pos ⟨e,(Zg _ _).1 hd⟩];exact h
 rw[if_neg e]at h;rw[if_neg (fun x=>e x.1)];exact a t u h
theorem Sub.ag {tm:Tr Value}: ∀ {l' l:Kn},Sub l' l->Ag tm l->Ag tm l'
 | [],_,_,_=>fun t v h=>by simp[lk]at h
 | (k,w)::r,l,s,a=>fun t v h=>by
   rw[Zm]at h
   split at h
   · rename_i e;subst e;cases h;exact a _ _ s.1
   exact Sub.ag s.2 a t v h
inductive Out where
 |next
 |ret
 |exit (id:Nat)
def Lands (E:Env) (s:St) (fn:FuncId) (nt:Nat) (tm:Tr Value) (k:List It) (df:List Deferred) (kd:CallKind) (ro:Option Nat) (cs:List Fr) (h:Hp):Out->Prop
 | .next=>Runs E s ⟨⟨fn,nt,tm,k,df,.run,kd,ro⟩,cs,h⟩
 | .exit id=> ∃k',ZN id k'=ZN id k/\Runs E s ⟨⟨fn,nt,tm,.code (.exit id)::k',df,.run,kd,ro⟩,cs,h⟩
 | .ret=> ∃k',Runs E s ⟨⟨fn,nt,tm,.code .ret::k',df,.run,kd,ro⟩,cs,h⟩
def Q40:Code->Bool
 | .seq a b=>Q40 a&&Q40 b
 | .cond _ a b=>Q40 a&&Q40 b
 | .block _ b=>Q40 b
 | .loop b=>Q40 b
 | .scope b=>Q40 b
 | .rangeFunc _ _ _ _=>false
 |_=>true
def Q2L:It->Bool
 | .code c=>Q40 c
 | .inLoop b=>Q40 b
 |_=>true
def KD (h h':Hp):Prop:=h.n<=h'.n/\ ∀b,b <h.n-> ∀d,h.get b=some (.deferred d)->h'.get b=some (.deferred d)
theorem KD.refl (h:Hp):KD h h:=⟨v0b _,fun _ _ _ e=>e⟩
theorem KD.trans {a b c:Hp} (x:KD a b) (y:KD b c):KD a c:=⟨v0p x.1 y.1,fun i hi d e=>y.2 i (v0u hi x.1) d (x.2 i hi d e)⟩
theorem KD.alloc (h:Hp) (o:AObj):KD h (h.alloc o):=⟨by rw[Hp.n_alloc];omega,fun i hi d e=>by rw[Hp.get_alloc,if_neg (by omega)];exact e⟩
theorem KD.put {h:Hp} {b:Nat} (o:AObj) (hb: ∀d,h.get b≠some (.deferred d)):KD h (h.put b o):=
 ⟨by rw[Hp.n_put];omega,fun i _ d e=>by
  rw[Hp.get_put]
  split
  · rename_i e';subst e';exact absurd e (hb d)
  exact e⟩
def Dd (h h':Hp) (ds:List Nat):Prop:=KD h h'/\ds.Nodup/\ ∀b,b∈ds->h.n<=b/\b <h'.n/\h'.get b=some (.deferred (some []))
theorem Dd.nil {h h':Hp} (k:KD h h'):Dd h h' []:=⟨k,.nil,fun b hb=>by cases hb⟩
theorem Dd.comp {a b c:Hp} {d1 d2:List Nat} (x:Dd a b d1) (y:Dd b c d2):Dd a c (d2++d1):=by
 refine⟨x.1.trans y.1,?_,fun i hi=>?_⟩
 · rw[List.nodup_append];refine⟨y.2.1,x.2.1,fun i hi j hj e=>?_⟩;have h1:=(y.2.2 i hi).1;have h2:=(x.2.2 j hj).2.1;omega
 rcases List.mem_append.1 hi with hi|hi
 · obtain⟨p,q,r⟩:=y.2.2 i hi;exact⟨v0p x.1.1 p,q,r⟩
 obtain⟨p,q,r⟩:=x.2.2 i hi;exact⟨p,v0u q y.1.1,y.1.2 i q _ r⟩
theorem Dd.pre {a b c:Hp} {d:List Nat} (x:KD a b) (y:Dd b c d):Dd a c d:=by simpa using(Dd.nil x).comp y
def marks (ds:List Nat):List Deferred:=ds.map fun b=> {target:=.collected b,args:= #[]}
theorem QaE (a b:List Nat) (df:List Deferred):marks (a++b)++df=marks a++(marks b++df):=by simp[marks]
theorem JA {h h':Hp} {a:Addr} {l:List Value} (e:Zp h a l=some h'):KD h h':=by
 unfold Zp at e
 split at e
 · cases e
 split at e
 · rename_i hg;rw[v0Q]at e
   split at e
   · cases e;exact KD.put _ (by intro d hd;rw[hg]at hd;cases hd)
   cases e
 cases e
theorem Q5v {E:Env} {h h':Hp} {t:TypeId} {m k v:Value} (e:Ky E h t m k v=some h'):KD h h':=by
 unfold Ky at e
 split at e
 · split at e
   · rename_i hg;rw[v0Q]at e
     split at e
     · split at e
       · cases e;exact KD.put _ (by intro d hd;rw[hg]at hd;cases hd)
       · cases e;exact KD.put _ (by intro d hd;rw[hg]at hd;cases hd)
       cases e
     cases e
   cases e
 cases e
theorem Q6S {E:Env} {h h':Hp} {t:TypeId} {m k v:Value} (e:Kg E h t m k=some (v,h')):KD h h':=by
 unfold Kg at e
 split at e
 · split at e
   · rename_i hg;rw[v0Q]at e
     split at e
     · split at e
       · split at e
         · cases e;exact KD.put _ (by intro d hd;rw[hg]at hd;cases hd)
         cases e
       · split at e
         · cases e;exact KD.put _ (by intro d hd;rw[hg]at hd;cases hd)
         cases e
       cases e
     cases e
   cases e
 cases e
theorem Q4s {h h':Hp} {m k v:Value} (e:ZO h m k v=some h'):KD h h':=by
 unfold ZO at e
 split at e
 · split at e
   · rename_i hg
     split at e
     · cases e;exact KD.put _ (by intro d hd;rw[hg]at hd;cases hd)
     cases e
   cases e
 cases e
theorem QbE {E:Env} {h h':Hp} {t:TypeId} {m k:Value} (e:Q19 E h t m k=some h'):KD h h':=by
 unfold Q19 at e
 split at e
 · split at e
   · rename_i hg;rw[v0Q]at e
     split at e
     · split at e
       · cases e;exact KD.put _ (by intro d hd;rw[hg]at hd;cases hd)
       · cases e;exact KD.refl _
       cases e
     cases e
   cases e
 cases e
theorem Q6Y {E:Env} {h h':Hp} {e:TypeId} {z b n:Nat} {old xs:List Value} {v:Value} (q:growX E h e z b n old xs=some (v,h')):KD h h':=by
 unfold growX at q
 split at q
 · rw[v0Q]at q
   split at q
   · cases q;exact KD.alloc _ _
   cases q
 cases q
theorem Qc6 {E:Env} {h h':Hp} {t t':TypeId} {s x v:Value} (e:Zh E h t t' s x=some (v,h')):KD h h':=by
 unfold Zh at e
 split at e
 · split at e
   · cases e
   · split at e
     · rw[v0Q]at e
       split at e
       · cases e;exact KD.refl _
       exact Q6Y e
     · rw [v0Q]at e
       split at e
       · split at e
         · rw[v0Q]at e
           split at e
           · cases e;exact KD.refl _
           cases e
         cases e
       rw[v0Q]at e
       split at e
       · split at e
         · rename_i hs;rw[v0Q]at e
           split at e
           · cases e;exact JA hs
           cases e
         cases e
       split at e
       · rename_i hg;rw[v0Q]at e
         split at e
         · split at e
           · rw[v0Q]at e
             split at e
             · exact(KD.put _ (by intro d hd;rw[hg]at hd;cases hd)).trans (Q6Y e)
             cases e
           exact Q6Y e
         cases e
       cases e
     cases e
   cases e
 cases e
theorem Qge {E:Env} {h h':Hp} {t:TypeId} {a b v:Value} (e:QbM E h t a b=some (v,h')):KD h h':=by
 unfold QbM at e
 split at e
 · split at e
   · split at e
     · rw[v0Q]at e
       split at e
       · split at e
         · rename_i hs;cases e;exact JA hs
         cases e
       cases e
     cases e
   · cases e;exact KD.refl _
   cases e
 cases e
theorem QdK {h h':Hp} {as:List Value} {v:Value} (e:Q3t h as=some (.value v h')\/Q3t h as=some (.skip h')):KD h h':=by
 unfold Q3t at e
 split at e
 · split at e
   · rcases e with e|e
     · cases e;exact KD.alloc _ _
     cases e
   rcases e with e|e<;>cases e
 rcases e with e|e<;>cases e
theorem Q64 {E:Env} {h h':Hp} {f:FuncId} {as:Array Value} {v:Value} (e:YN E h f as=some (.value v h')\/YN E h f as=some (.skip h')):KD h h':=by
 unfold YN at e;rw[v0Q]at e
 split at e
 · exact QdK e
 split at e
 · rw[v0Q]at e
   split at e<;>rcases e with e|e<;>cases e
 rcases e with e|e<;>cases e
theorem Qb2 {E:Env} {h h':Hp} {d:Deferred} {v:Value} (e:ZA E h d=some (.value v h')\/ZA E h d=some (.skip h')):KD h h':=by
 unfold ZA at e
 split at e
 · exact Q64 e
 · rcases e with e|e<;>cases e
 · split at e
   · split at e
     · exact Q64 e
     rcases e with e|e<;>cases e
   rcases e with e|e<;>cases e
 · split at e
   · split at e
     · split at e
       · rename_i hs;rcases e with e|e
         · cases e;exact Qc6 hs
         cases e
       rcases e with e|e<;>cases e
     rcases e with e|e<;>cases e
   · split at e
     · rename_i hs;rcases e with e|e
       · cases e;exact Qge hs
       cases e
     rcases e with e|e<;>cases e
   · split at e
     · rename_i hs;rcases e with e|e
       · cases e;exact QbE hs
       cases e
     rcases e with e|e<;>cases e
   · rcases e with e|e<;>cases e
   · split at e<;>rcases e with e|e<;>cases e
   rcases e with e|e<;>cases e
 rcases e with e|e<;>cases e
theorem Q7h {E:Env} {tm:Tr Value} {o:Oper} {h h':Hp} {v:Value} (e:Z3 E tm o h=some (.value v h')\/Z3 E tm o h=some (.skip h')):KD h h':=by
 unfold Z3 at e
 split at e
 · split at e
   · split at e
     · rename_i hs;rcases e with e|e
       · cases e
       cases e;unfold Q1V at hs
       split at hs
       · rw[v0Q]at hs
         split at hs
         · exact JA hs
         cases hs
       cases hs
     rcases e with e|e<;>cases e
   rcases e with e|e<;>cases e
 · split at e
   · rename_i hs;rcases e with e|e<;>cases e;exact Q5v hs
   rcases e with e|e<;>cases e
 · split at e
   · rename_i hs;rcases e with e|e<;>cases e;exact Q5v hs
   rcases e with e|e<;>cases e
 · split at e
   · rename_i hs;rcases e with e|e<;>cases e;exact Q6S hs
   rcases e with e|e<;>cases e
 · split at e
   · rename_i hs;rcases e with e|e<;>cases e;exact Q4s hs
   rcases e with e|e<;>cases e
 · split at e
   · rcases e with e|e<;>cases e;exact KD.alloc _ _
   · rcases e with e|e<;>cases e;exact KD.alloc _ _
   · split at e
     · rcases e with e|e<;>cases e;exact KD.alloc _ _
     rcases e with e|e<;>cases e
   rcases e with e|e<;>cases e
 · split at e
   · split at e
     · rename_i hg;rw[v0Q]at e
       split at e<;>rcases e with e|e<;>cases e
       · exact KD.put _ (by intro d hd;rw[hg]at hd;cases hd)
       exact KD.refl _
     rcases e with e|e<;>cases e
   rcases e with e|e<;>cases e
 · split at e
   · split at e
     · rcases e with e|e<;>cases e;exact KD.alloc _ _
     rcases e with e|e<;>cases e
   · rw[v0Q]at e
     split at e
     · split at e
       · rename_i hg;rcases e with e|e<;>cases e;exact KD.put _ (by intro d hd;rw[hg]at hd;cases hd)
       rcases e with e|e<;>cases e
     rcases e with e|e<;>cases e
   rcases e with e|e<;>cases e
 · split at e
   · exact Qb2 e
   rcases e with e|e<;>cases e
 · split at e<;>rcases e with e|e<;>cases e
 · split at e<;>rcases e with e|e<;>cases e
 rcases e with e|e<;>cases e
def T (E:Env) (fn:FuncId) (nt:Nat) (is:List It) (l:Kn) (h:Hp) (Q:Out->Kn->Hp->Prop):Prop:=
 ∀ tm,Ag tm l-> ∃o l' h' gK ds,Q o l' h'/\Ag gK l'/\(is.all Q2L=true->ds=[])/\Dd h h' ds/\
   ∀k df kd ro cs,(is.all Q2L=true\/ro=none)->Lands E ⟨⟨fn,nt,tm,is++k,df,.run,kd,ro⟩,cs,h⟩ fn nt gK k (marks ds++df) kd ro cs h' o
def W (E:Env) (fn:FuncId) (nt:Nat) (c:Code) (l:Kn) (h:Hp) (Q:Out->Kn->Hp->Prop):Prop:=T E fn nt [.code c] l h Q
section
variable {E:Env} {fn:FuncId} {nt:Nat} {l l':Kn} {h h':Hp} {Q:Out->Kn->Hp->Prop} {is is':List It} {k:List It}
theorem Lands.pre {s s':St} {tm:Tr Value} {df:List Deferred} {kd:CallKind} {ro:Option Nat} {cs:List Fr} {o:Out} (r:Runs E s s') (h:Lands E s' fn nt tm k df kd ro cs h' o):Lands E s fn nt tm k df kd ro cs h' o:=by
 cases o with
 |next=>exact r.trans h
 |exit id=>obtain⟨k',e,h⟩:=h;exact⟨k',e,r.trans h⟩
 |ret=>obtain⟨k',h⟩:=h;exact⟨k',r.trans h⟩
theorem T.done (q:Q .next l h):T E fn nt [] l h Q:=fun tm a=>⟨.next,l,h,tm,[],q,a,fun _=>rfl,.nil (.refl h),fun _ _ _ _ _ _=>.refl _ _⟩
theorem T.pre (hn:is.all Q2L=true->is'.all Q2L=true) (hk:KD h h') (hs: ∀tm,Ag tm l-> ∃bu,Ag bu l'/\ ∀k df kd ro cs,Runs E ⟨⟨fn,nt,tm,is++k,df,.run,kd,ro⟩,cs,h⟩ ⟨⟨fn,nt,bu,is'++k,df,.run,kd,ro⟩,cs,h'⟩)
 (q:T E fn nt is' l' h' Q):T E fn nt is l h Q:=by
 intro tm a;obtain⟨bu,a2,r⟩:=hs tm a;obtain⟨o,l3,h3,cL,ds,q3,a3,n3,d3,r3⟩:=q bu a2;exact⟨o,l3,h3,cL,ds,q3,a3,fun e=>n3 (hn e),.pre hk d3,fun k df kd ro cs ho=>(r3 k df kd ro cs (ho.imp hn id)).pre (r k df kd ro cs)⟩
theorem T.step (hs: ∀tm k df kd ro cs,Ag tm l->stepX E ⟨⟨fn,nt,tm,is++k,df,.run,kd,ro⟩,cs,h⟩=some ⟨⟨fn,nt,tm,is'++k,df,.run,kd,ro⟩,cs,h'⟩)
 (q:T E fn nt is' l h' Q) (hk:KD h h':=by exact KD.refl _) (hn:is.all Q2L=true->is'.all Q2L=true:=by simp[Q2L,Q40]):T E fn nt is l h Q:=
 .pre hn hk (fun tm a=>⟨tm,a,fun k df kd ro cs=>.step (hs tm k df kd ro cs a) (.refl _ _)⟩) q
theorem T.mono {Q':Out->Kn->Hp->Prop} (q:T E fn nt is l h Q) (hq: ∀o l h,Q o l h->Q' o l h):T E fn nt is l h Q':=by
 intro tm a;obtain⟨o,l3,h3,cL,ds,q3,r3⟩:=q tm a;exact⟨o,l3,h3,cL,ds,hq _ _ _ q3,r3⟩
theorem T.weak (s:Sub l' l) (q:T E fn nt is l' h Q):T E fn nt is l h Q:=fun tm a=>q tm (s.ag a)
theorem T.seq {i2:It} (hx: ∀id k,ZN id (i2::k)=ZN id k) (q:T E fn nt is l h fun o l h=>match o with| .next=>T E fn nt [i2] l h Q|o=>Q o l h):T E fn nt (is++[i2]) l h Q:=by
 intro tm a;obtain⟨o,l3,h3,cL,ds,q3,a3,n3,d3,r3⟩:=q tm a;have hn:(is++[i2]).all Q2L=true->is.all Q2L=true/\[i2].all Q2L=true:=fun e=>by rw[List.all_append,v0h]at e;exact e
 cases o with
 | next=>
   obtain⟨o,l4,h4,tm4,ds4,q4,a4,n4,d4,r4⟩:=q3 cL a3;refine⟨o,l4,h4,tm4,ds4++ds,q4,a4,fun e=>by rw[n3 (hn e).1,n4 (hn e).2];rfl,d3.comp d4,fun k df kd ro cs ho=>?_⟩;have:=r3 (i2::k) df kd ro cs (ho.imp (fun e=>(hn e).1) id);rw[v0B,QaE];exact(r4 k _ kd ro cs (ho.imp (fun e=>(hn e).2) id)).pre this
 | ret=>
   refine⟨.ret,l3,h3,cL,ds,q3,a3,fun e=>n3 (hn e).1,d3,fun k df kd ro cs ho=>?_⟩;rw[v0B];exact r3 (i2::k) df kd ro cs (ho.imp (fun e=>(hn e).1) id)
 | exit id=>
   refine⟨.exit id,l3,h3,cL,ds,q3,a3,fun e=>n3 (hn e).1,d3,fun k df kd ro cs ho=>?_⟩;rw[v0B];obtain⟨k',e,r⟩:=r3 (i2::k) df kd ro cs (ho.imp (fun e=>(hn e).1) fun e=>e);exact⟨k',by rw[e,hx],r⟩
def Thn (E:Env) (fn:FuncId) (nt:Nat) (b:Code) (Q:Out->Kn->Hp->Prop):Out->Kn->Hp->Prop
 | .next,l,h=>W E fn nt b l h Q
 | .ret,l,h=>Q .ret l h
 | .exit i,l,h=>Q (.exit i) l h
theorem Q5 {a b:Code} (q:W E fn nt a l h (Thn E fn nt b Q)):W E fn nt (.seq a b) l h Q:=by
 have q':T E fn nt [.code a] l h (Thn E fn nt b Q):=q;refine .step (is':=[.code a]++[.code b]) (fun tm k df kd ro cs _=>rfl) (.seq (fun _ _=>rfl) (q'.mono fun o l h q=>?_));cases o<;>exact q
theorem Q4 (q:Q .next l h):W E fn nt .skip l h Q:=.step (is':=[]) (fun _tm _k _df _kd _ro _cs _=>rfl) (.done q)
theorem Q8 (q:Q .ret l h):W E fn nt .ret l h Q:=fun tm a=>⟨.ret,l,h,tm,[],q,a,fun _=>rfl,.nil (.refl h),fun k _df _kd _ro _cs _=>⟨k,.refl _ _⟩⟩
theorem Qp {id:Nat} (q:Q (.exit id) l h):W E fn nt (.exit id) l h Q:=fun tm a=>⟨.exit id,l,h,tm,[],q,a,fun _=>rfl,.nil (.refl h),fun k _df _kd _ro _cs _=>⟨k,rfl,.refl _ _⟩⟩
theorem Q3 {c:Operand} {a b:Code} {t:Bool} (hc:evl l c=some (.bool t)) (qa:t=true->W E fn nt a l h Q) (qb:t=false->W E fn nt b l h Q):W E fn nt (.cond c a b) l h Q:=by
 cases t with
 |true=>exact .step (is':=[.code a]) (fun tm k df kd ro cs ag=>by simp only[stepX,Z0,v06,v1b,ag.ev hc,cond_true]) (qa rfl) (hn:=fun e=>by simp[Q2L,Q40]at e ⊢;exact e.1)
 |false=>exact .step (is':=[.code b]) (fun tm k df kd ro cs ag=>by simp only[stepX,Z0,v06,v1b,ag.ev hc,cond_false]) (qb rfl) (hn:=fun e=>by simp[Q2L,Q40]at e ⊢;exact e.2)
theorem Q1n (id i:Nat) (k:List It):ZN id (.inBlock i::k)=if i=id then some k else ZN id k:=by
 show cond (v0d i id) (some k) (ZN id k)=_;by_cases e:i=id
 · subst e;simp[v0N]
 rw[(QC i id).2 e,if_neg e];rfl
def Blk (id:Nat) (Q:Out->Kn->Hp->Prop):Out->Kn->Hp->Prop
 | .next,l,h=>Q .next l h
 | .ret,l,h=>Q .ret l h
 | .exit i,l,h=>if i=id then Q .next l h else Q (.exit i) l h
theorem Q7 {id:Nat} {b:Code} (q:W E fn nt b l h (Blk id Q)):W E fn nt (.block id b) l h Q:=by
 intro tm a;obtain⟨o,l3,h3,cL,ds,q3,a3,n3,d3,r3⟩:=q tm a;cases o with
 | next=>
   refine⟨.next,l3,h3,cL,ds,q3,a3,n3,d3,fun k df kd ro cs ho=>?_⟩;exact .step rfl (Runs.trans (r3 (.inBlock id::k) df kd ro cs ho) (.step rfl (.refl _ _)))
 | ret=>
   refine⟨.ret,l3,h3,cL,ds,q3,a3,n3,d3,fun k df kd ro cs ho=>?_⟩;obtain⟨k',r⟩:=r3 (.inBlock id::k) df kd ro cs ho;exact⟨k',.step rfl r⟩
 | exit i=>
   by_cases e:i=id
   · simp only[Blk,if_pos e]at q3;refine⟨.next,l3,h3,cL,ds,q3,a3,n3,d3,fun k df kd ro cs ho=>?_⟩;obtain⟨k',e2,r⟩:=r3 (.inBlock id::k) df kd ro cs ho;rw[Q1n,if_pos e.symm]at e2;refine .step rfl (Runs.trans r (.step (b:=⟨⟨fn,nt,cL,k,marks ds++df,.run,kd,ro⟩,cs,h3⟩) ?_ (.refl _ _)));show(match ZN i k' with|some k'=>_|none=>_)=_;rw[e2]
   simp only[Blk,if_neg e]at q3;refine⟨.exit i,l3,h3,cL,ds,q3,a3,n3,d3,fun k df kd ro cs ho=>?_⟩;obtain⟨k',e2,r⟩:=r3 (.inBlock id::k) df kd ro cs ho;rw[Q1n,if_neg (fun x=>e x.symm)]at e2;exact⟨k',e2,.step rfl r⟩
def Rnd (I:Nat->Kn->Hp->Prop) (n:Nat) (Q:Out->Kn->Hp->Prop):Out->Kn->Hp->Prop
 | .next,l,h=> ∃m,m <n/\ ∃l',Sub l' l/\I m l' h
 | .ret,l,h=>Q .ret l h
 | .exit i,l,h=>Q (.exit i) l h
theorem Q9n {b:Code} (I:Nat->Kn->Hp->Prop) {n:Nat} (start:I n l h)
 (round: ∀n l h,I n l h->W E fn nt b l h (Rnd I n Q)):W E fn nt (.loop b) l h Q:=by
 have key: ∀n l h,I n l h->T E fn nt [.code b,.inLoop b] l h Q:=by
  intro n
  induction n using Nat.strongRecOn with
  | _ n ih=>
    intro l h hI;refine T.seq (is:=[.code b]) (fun _ _=>rfl) (T.mono (round n l h hI) fun o l2 h2 q=>?_);cases o with
    | next=>
      obtain⟨m,hm,l3,s,hI3⟩:=q;exact .step (is':=[.code b,.inLoop b]) (fun tm k df kd ro cs _=>rfl) (.weak s (ih m hm l3 h2 hI3))
    |ret=>exact q
    |exit i=>exact q
 exact .step (is':=[.code b,.inLoop b]) (fun tm k df kd ro cs _=>rfl) (key n l h start)
def Rs (E:Env) (ops:Array Oper) (dr:Bool):List Nat->List (Oper×List Oper)->Prop
 | [],[]=>True
 |i::t,(o,lt)::r=>ops[i]?=some o/\(dr=true->cls E o=2-> ∀j,j∈QgH E ops i t-> ∃q,q∈lt/\ops[j]?=some q)/\Rs E ops dr t r
 |_,_=>False
def Q0O (dr:Bool) (ops:Array Oper) (todo:List Nat):It:=match dr with
 |true=>.draw ops todo
 |false=>.inRegion ops todo
def WL (E:Env) (fn:FuncId) (nt:Nat) (dr:Bool) (ops:Array Oper) (fin its:List (Oper×List Oper)) (l:Kn) (h:Hp) (Q:Kn->Hp->Prop):Prop:=
 ∀ todo,Rs E ops dr todo its-> ∀tm,Ag tm l-> ∃l' h' gK todo',Q l' h'/\Ag gK l'/\Rs E ops dr todo' fin/\KD h h'/\
   ∀k df kd ro cs,Runs E ⟨⟨fn,nt,tm,Q0O dr ops todo::k,df,.run,kd,ro⟩,cs,h⟩ ⟨⟨fn,nt,gK,Q0O dr ops todo'::k,df,.run,kd,ro⟩,cs,h'⟩
theorem WL.pre {E:Env} {fn:FuncId} {nt:Nat} {dr:Bool} {ops:Array Oper} {fin its mE:List (Oper×List Oper)} {l l':Kn} {h h':Hp} {Q:Kn->Hp->Prop} (hk:KD h h')
 (hs: ∀todo,Rs E ops dr todo its-> ∃todo',Rs E ops dr todo' mE/\ ∀tm,Ag tm l-> ∃bu,Ag bu l'/\ ∀k df kd ro cs,Runs E ⟨⟨fn,nt,tm,Q0O dr ops todo::k,df,.run,kd,ro⟩,cs,h⟩ ⟨⟨fn,nt,bu,Q0O dr ops todo'::k,df,.run,kd,ro⟩,cs,h'⟩)
 (q:WL E fn nt dr ops fin mE l' h' Q):WL E fn nt dr ops fin its l h Q:=by
 intro todo hr tm a;obtain⟨todo',fR,r⟩:=hs todo hr;obtain⟨bu,a2,r2⟩:=r tm a;obtain⟨l3,h3,cL,t3,q3,a3,jk,k3,r3⟩:=q todo' fR bu a2;exact⟨l3,h3,cL,t3,q3,a3,jk,hk.trans k3,fun k df kd ro cs=>(r2 k df kd ro cs).trans (r3 k df kd ro cs)⟩
theorem WL.done {E:Env} {fn:FuncId} {nt:Nat} {dr:Bool} {ops:Array Oper} {its:List (Oper×List Oper)} {l:Kn} {h:Hp} {Q:Out->Kn->Hp->Prop}
 (q:WL E fn nt dr ops [] its l h (Q .next)) {todo:List Nat} (hr:Rs E ops dr todo its):T E fn nt [Q0O dr ops todo] l h Q:=by
 intro tm a;obtain⟨l3,h3,cL,t3,q3,a3,jk,k3,r3⟩:=q todo hr tm a;refine⟨.next,l3,h3,cL,[],q3,a3,fun _=>rfl,.nil k3,fun k df kd ro cs _=>Runs.trans (r3 k df kd ro cs) (.step ?_ (.refl _ _))⟩;cases t3 with
 |cons i t=>exact jk.elim
 |nil=>cases dr<;>rfl
theorem Q7w (E:Env) (ops:Array Oper): ∀(n k:Nat),k+n=ops.size->Rs E ops false ((List.range' k n)) ((ops.toList.drop k).map fun o=>(o,[]))
 | 0,k,e=>by
   have:ops.toList.drop k=[]:=by rw[List.drop_eq_nil_iff];simp;omega
   rw[this];trivial
 | n+1,k,e=>by
   have hk:k <ops.toList.length:=by simp;omega
   rw[v1K hk,List.range'_succ];refine⟨?_,fun h=>by(cases h),Q7w E ops n (k+1) (by omega)⟩;simp[v17 (show k <ops.size by omega)]
theorem Q2 {id:Nat} {ops:Array Oper} (hc:QU ops=true) (q:WL E fn nt false ops [] (ops.toList.map fun o=>(o,[])) l h (Q .next)):W E fn nt (.region id ops false) l h Q:=by
 have hr:Rs E ops false (v0o ops.size) (ops.toList.map fun o=>(o,[])):=by
  have:=Q7w E ops ops.size 0 (by omega);rwa[v0R,<-List.range_eq_range']at this
 refine .step (is':=[.inRegion ops (v0o ops.size)]) (fun tm k df kd ro cs _=>?_) (WL.done q hr) (hn:=fun _=>rfl);simp only[stepX,Z0,v06,v1b,hc,cond_true,cond_false]
def pk (ops:List Oper):Nat->Oper
 |0=>ops.headD default
 |n+1=>pk ops.tail n
def resolve (ops:Array Oper) (sp:List (Nat×List Nat)):List (Oper×List Oper):=sp.map fun p=>(pk ops.toList p.1,p.2.map (pk ops.toList))
def dOk (E:Env) (ops:Array Oper):List (Nat×List Nat)->Bool
 | []=>true
 |(i,lt)::r=>v0a i ops.size&&(!v0d (cls E (pk ops.toList i)) 2||(QgH E ops i (r.map (·.1))).all (fun j=>v0a j ops.size&&Q4L j lt))&&dOk E ops r
theorem Qef (ops:List Oper): ∀(i:Nat),i <ops.length->ops[i]?=some (pk ops i):=by
 induction ops with
 |nil=>intro i h;simp at h
 | cons o r ih=>
   intro i h;cases i with
   |zero=>rfl
   |succ n=>simp only[v1r,pk,List.tail_cons];exact ih n (by simpa using h)
theorem pkA (ops:Array Oper) (i:Nat) (h:i <ops.size):ops[i]?=some (pk ops.toList i):=by
 rw[<-Qef ops.toList i (by simpa using h)];simp
theorem Q9U (E:Env) (ops:Array Oper): ∀sp,dOk E ops sp=true->Rs E ops true (sp.map (·.1)) (resolve ops sp)
 | [],_=>trivial
 | (i,lt)::r,h=>by
   simp only[dOk,v0h,v0H,v0I,QC,v0v,Kx,Zg]at h;refine⟨pkA ops i h.1.1,fun _ hc j hj=>?_,Q9U E ops r h.2⟩;obtain⟨h1,h2⟩:=(h.1.2.resolve_left fun hn=>hn hc) j hj;exact⟨_,List.mem_map_of_mem h2,pkA ops j h1⟩
theorem ZZ {id:Nat} {ops:Array Oper} (sp:List (Nat×List Nat)) (hc:QU ops=true) (hk:J8 E ops=true) (hs:canon E ops=sp.map (·.1)) (hd:dOk E ops sp=true)
 (q:WL E fn nt true ops [] (resolve ops sp) l h (Q .next)):W E fn nt (.region id ops true) l h Q:=by
 refine .step (is':=[.draw ops (canon E ops)]) (fun tm k df kd ro cs _=>?_) (WL.done q (by rw[hs];exact Q9U E ops sp hd)) (hn:=fun _=>rfl);simp only[stepX,Z0,v06,v1b,hc,hk,cond_true]
variable {dr:Bool} {ops:Array Oper} {fin rest:List (Oper×List Oper)} {R:Kn->Hp->Prop} {lt:List Oper}
theorem Q0 (q:R l h):WL E fn nt dr ops rest rest l h R:=fun todo hr tm a=>⟨l,h,tm,todo,q,a,hr,.refl h,fun _ _ _ _ _=>.refl _ _⟩
theorem QG {dr:Bool} {ops bV:Array Oper} {rest:List (Oper×List Oper)} {id:Nat} {b:Code} (q:WL E fn nt false bV [] (bV.toList.map fun o=>(o,[])) l h (Thn E fn nt b Q .next)) (hc:QU bV=true:=by kernel_rfl):WL E fn nt dr ops rest rest l h (Thn E fn nt (.seq (.region id bV false) b) Q .next):=Q0 (Q5 (Q2 hc q))
theorem Z5 {dr:Bool} {ops bV:Array Oper} {rest:List (Oper×List Oper)} {id:Nat} {a b:Code} (q:WL E fn nt false bV [] (bV.toList.map fun o=>(o,[])) l h (Thn E fn nt a (Thn E fn nt b Q) .next)) (hc:QU bV=true:=by kernel_rfl):WL E fn nt dr ops rest rest l h (Thn E fn nt (.seq (.seq (.region id bV false) a) b) Q .next):=Q0 (Q5 (Q5 (Q2 hc q)))
theorem Q6 {bV:Array Oper} {id:Nat} {b:Code} (q:WL E fn nt false bV [] (bV.toList.map fun o=>(o,[])) l h (Thn E fn nt b Q .next)) (hc:QU bV=true:=by kernel_rfl):W E fn nt (.seq (.region id bV false) b) l h Q:=Q5 (Q2 hc q)
theorem WL.mono {its:List (Oper×List Oper)} {R':Kn->Hp->Prop} (q:WL E fn nt dr ops fin its l h R) (hq: ∀l h,R l h->R' l h):WL E fn nt dr ops fin its l h R':=by
 intro todo hr tm a;obtain⟨l3,h3,cL,t3,q3,r⟩:=q todo hr tm a;exact⟨l3,h3,cL,t3,hq _ _ q3,r⟩
theorem Qe2 {its mid:List (Oper×List Oper)} (q:WL E fn nt dr ops mid its l h fun l h=>WL E fn nt dr ops fin mid l h R):WL E fn nt dr ops fin its l h R:=by
 intro todo hr tm a;obtain⟨l3,h3,cL,t3,q3,a3,jk,k3,r3⟩:=q todo hr tm a;obtain⟨l4,h4,tm4,t4,q4,a4,hr4,k4,r4⟩:=q3 t3 jk cL a3;exact⟨l4,h4,tm4,t4,q4,a4,hr4,k3.trans k4,fun k df kd ro cs=>(r3 k df kd ro cs).trans (r4 k df kd ro cs)⟩
def Gd (ops:Array Oper) (l:Kn) (g:Option (Nat×Bool)):Prop:=
 match g with
 |none=>True
 |some (g,w)=> ∃og d,ops[g]?=some og/\og.dst=some d/\lk l d=some (.bool w)
theorem gn:Gd ops l none:=trivial
theorem gy {g d:Nat} {w b:Bool} (h1:(pk ops.toList g).dst=some d) (h0:v0a g ops.size=true) (h2:lk l d=some (.bool b)) (h3:b=w):Gd ops l (some (g,w)):=
 ⟨_,d,pkA ops g ((Zg _ _).1 h0),h1,h3▸h2⟩
theorem Gd.wanted {o:Oper} {tm:Tr Value} (g:Gd ops l o.guard) (a:Ag tm l):QH ops tm o=some true:=by
 unfold QH;generalize o.guard=x at g;cases x with
 |none=>rfl
 | some p=>
   obtain⟨i,w⟩:=p;obtain⟨og,d,h1,h2,h3⟩:=g;simp only[h1,h2,a _ _ h3];cases w<;>rfl
def Ng (ops:Array Oper) (l:Kn) (g:Option (Nat×Bool)):Prop:=
 match g with
 |none=>False
 |some (g,w)=> ∃og d v,ops[g]?=some og/\og.dst=some d/\lk l d=some v/\(v=.bool (!w)\/v=undef)
theorem ng {g d:Nat} {w b:Bool} (h1:(pk ops.toList g).dst=some d) (h0:v0a g ops.size=true) (h2:lk l d=some (.bool b)) (h3:b= !w):Ng ops l (some (g,w)):=
 ⟨_,d,_,pkA ops g ((Zg _ _).1 h0),h1,h2,.inl (by rw[h3])⟩
theorem ngu {g d:Nat} {w:Bool} (h1:(pk ops.toList g).dst=some d) (h0:v0a g ops.size=true) (h2:lk l d=some undef):Ng ops l (some (g,w)):=
 ⟨_,d,_,pkA ops g ((Zg _ _).1 h0),h1,h2,.inr rfl⟩
theorem Ng.wanted {o:Oper} {tm:Tr Value} (g:Ng ops l o.guard) (a:Ag tm l):QH ops tm o=some false:=by
 unfold QH;generalize o.guard=x at g;cases x with
 |none=>exact g.elim
 | some p=>
   obtain⟨i,w⟩:=p;obtain⟨og,d,v,h1,h2,h3,h4⟩:=g;simp only[h1,h2,a _ _ h3];rcases h4 with rfl|rfl
   · cases w<;>rfl
   rfl
def Wn (nt:Nat) (l:Kn) (d:Option Nat) (v:Value) (l':Kn):Prop:=match d with
 |none=>l'=l
 |some d=>v0a d nt=true/\l'=(d,v)::l
theorem Wn.put {d:Option Nat} {v:Value} (w:Wn nt l d v l') {tm:Tr Value} (a:Ag tm l):Ag (Q1v nt tm d v) l':=by
 cases d with
 |none=>exact w▸a
 |some d=>obtain⟨h1,rfl⟩:=w;exact a.put nt d v h1
theorem wn {d:Nat} {v:Value} (h:v0a d nt=true):Wn nt l (some d) v ((d,v)::l):=⟨h,rfl⟩
theorem wn0 {v:Value}:Wn nt l none v l:=rfl
theorem QeG {o:Oper} (g:Ng ops l o.guard) (w:Wn nt l o.dst undef l') (q:WL E fn nt dr ops fin rest l' h R):WL E fn nt dr ops fin ((o,lt)::rest) l h R:=by
 refine .pre (.refl h) (fun todo hr=>?_) q;cases todo with
 |nil=>exact hr.elim
 | cons i t=>
   obtain⟨h1,_,h3⟩:=hr;refine⟨t,h3,fun tm a=>⟨_,w.put a,fun k df kd ro cs=>.step ?_ (.refl _ _)⟩⟩;cases dr
   · simp only[Q0O,stepX,Z0,h1,g.wanted a]
   simp only[Q0O,stepX,Z0,Q97,h1,g.wanted a]
theorem QE {o:Oper} {v:Value} (g:Gd ops l o.guard) (hc:cls E o=0) (hv: ∀tm,Ag tm l->QQ E tm o h=some v) (w:Wn nt l o.dst v l') (q:WL E fn nt dr ops fin rest l' h R):
 WL E fn nt dr ops fin ((o,lt)::rest) l h R:=by
 refine .pre (.refl h) (fun todo hr=>?_) q;cases todo with
 |nil=>exact hr.elim
 | cons i t=>
   obtain⟨h1,_,h3⟩:=hr;refine⟨t,h3,fun tm a=>⟨_,w.put a,fun k df kd ro cs=>.step ?_ (.refl _ _)⟩⟩;cases dr
   · simp only[Q0O,stepX,Z0,h1,g.wanted a,Q8M,hc,hv tm a,Yd,QX]
   simp only[Q0O,stepX,Z0,Q97,h1,g.wanted a,hc,hv tm a]
theorem JW {o:Oper} {b:AObj} {f:Nat->Value} (g:Gd ops l o.guard) (hc:cls E o=1) (hv: ∀tm,Ag tm l->allocX E tm o=some (b,f)) (w:Wn nt l o.dst (f h.n) l')
 (q:WL E fn nt dr ops fin rest l' (h.alloc b) R):WL E fn nt dr ops fin ((o,lt)::rest) l h R:=by
 refine .pre (.alloc h b) (fun todo hr=>?_) q;cases todo with
 |nil=>exact hr.elim
 | cons i t=>
   obtain⟨h1,_,h3⟩:=hr;refine⟨t,h3,fun tm a=>⟨_,w.put a,fun k df kd ro cs=>.step ?_ (.refl _ _)⟩⟩;cases dr
   · simp only[Q0O,stepX,Z0,h1,g.wanted a,Q8M,hc,hv tm a,Yd,QX]
   simp only[Q0O,stepX,Z0,Q97,h1,g.wanted a,hc,hv tm a]
def Again (E:Env) (ops:Array Oper) (l:Kn) (h:Hp) (q:Oper):Prop:=
 Ng ops l q.guard\/(Gd ops l q.guard/\ ∃v d,q.dst=some d/\lk l d=some v/\sameV 20 v v=true/\ ∀tm,Ag tm l->QQ E tm q h=some v)
theorem Q8i {tm:Tr Value} {k:List It} {df:List Deferred} {kd:CallKind} {ro:Option Nat} {cs:List Fr} {rest:List Nat}: ∀(js:List Nat),(∀j,j∈js->Q2K E tm h ops j=true)->
 Runs E ⟨⟨fn,nt,tm,.chk ops js rest::k,df,.run,kd,ro⟩,cs,h⟩ ⟨⟨fn,nt,tm,.draw ops rest::k,df,.run,kd,ro⟩,cs,h⟩
 | [],_=>.step rfl (.refl _ _)
 |j::js,hj=>.step (by simp only[stepX,Z0,hj j (by simp),cond_true]) (Q8i js fun i hi=>hj i (by simp[hi]))
theorem Again.ok {tm:Tr Value} (a:Ag tm l) {q:Oper} {j:Nat} (hq:ops[j]?=some q) (g:Again E ops l h q):Q2K E tm h ops j=true:=by
 unfold Q2K;simp only[hq];rcases g with g| ⟨g,v,d,h1,h2,h3,h4⟩
 · simp only[g.wanted a]
 simp only[g.wanted a,h4 tm a,h1,a _ _ h2,h3]
theorem Q93 {i:Nat} {t:List Nat} {o:Oper} {v:Value} {tm:Tr Value} {k:List It} {df:List Deferred} {kd:CallKind} {ro:Option Nat} (h1:ops[i]?=some o):
 QX E ⟨fn,nt,tm,.inRegion ops (i::t)::k,df,.run,kd,ro⟩ v=some ⟨fn,nt,Q1v nt tm o.dst v,.inRegion ops t::k,df,.run,kd,ro⟩:=by
 simp only[QX,h1]
theorem Qdx {i:Nat} {t:List Nat} {o:Oper} {v:Value} {tm:Tr Value} {k:List It} {df:List Deferred} {kd:CallKind} {ro:Option Nat} (h1:ops[i]?=some o):
 QX E ⟨fn,nt,tm,.draw ops (i::t)::k,df,.run,kd,ro⟩ v=some ⟨fn,nt,Q1v nt tm o.dst v,.chk ops (QgH E ops i t) t::k,df,.run,kd,ro⟩:=by
 simp only[QX,h1]
theorem Q2W {o:Oper} {v:Value} (g:Gd ops l o.guard) (hk:KD h h')
 (hv: ∀tm fr cs az is k df kd ro,Ag tm l->fr=⟨fn,nt,tm,is::k,df,.run,kd,ro⟩->QX E fr v=some az->
  ∃s,(match Z3 E tm o h with|some n=>Yd E fr cs h n|none=>none)=some s/\Runs E s ⟨az,cs,h'⟩)
 (hc:cls E o=2) (w:Wn nt l o.dst v l') (ha: ∀q,q∈lt->Again E ops l' h' q) (q:WL E fn nt dr ops fin rest l' h' R):WL E fn nt dr ops fin ((o,lt)::rest) l h R:=by
 refine .pre hk (fun todo hr=>?_) q;cases todo with
 |nil=>exact hr.elim
 | cons i t=>
   obtain⟨h1,h2,h3⟩:=hr;cases dr
   · refine⟨t,h3,fun tm a=>⟨_,w.put a,fun k df kd ro cs=>?_⟩⟩;obtain⟨s,e1,e2⟩:=hv tm _ cs _ (.inRegion ops (i::t)) k df kd ro a rfl (Q93 h1);refine .step (b:=s) ?_ e2;simp only[Q0O,stepX,Z0,h1,g.wanted a,Q8M,hc];exact e1
   refine⟨t,h3,fun tm a=>⟨_,w.put a,fun k df kd ro cs=>?_⟩⟩;obtain⟨s,e1,e2⟩:=hv tm _ cs _ (.draw ops (i::t)) k df kd ro a rfl (Qdx h1);refine .step (b:=s) ?_ (e2.trans (Q8i _ fun j hj=>?_))
   · simp only[Q0O,stepX,Z0,Q97,h1,g.wanted a,hc];exact e1
   obtain⟨q,hq,hj⟩:=h2 rfl hc j hj;exact(ha q hq).ok (w.put a) hj
theorem Q1z {o:Oper} {v:Value} (g:Gd ops l o.guard) (hc:cls E o=2) (hv: ∀tm,Ag tm l->Z3 E tm o h=some (.value v h')) (w:Wn nt l o.dst v l') (ha: ∀q,q∈lt->Again E ops l' h' q)
 (q:WL E fn nt dr ops fin rest l' h' R):WL E fn nt dr ops fin ((o,lt)::rest) l h R:=fun todo hr tm a=>
 Q2W g (Q7h (.inl (hv tm a))) (fun tm fr cs az is k df kd ro a e hf=>⟨⟨az,cs,h'⟩,by simp only[hv tm a,Yd,hf],.refl _ _⟩) hc w ha q todo hr tm a
theorem Q0D {o:Oper} (g:Gd ops l o.guard) (hc:cls E o=2) (hv: ∀tm,Ag tm l->Z3 E tm o h=some (.skip h')) (w:Wn nt l o.dst undef l') (ha: ∀q,q∈lt->Again E ops l' h' q)
 (q:WL E fn nt dr ops fin rest l' h' R):WL E fn nt dr ops fin ((o,lt)::rest) l h R:=fun todo hr tm a=>
 Q2W g (Q7h (v:=undef) (.inr (hv tm a))) (fun tm fr cs az is k df kd ro a e hf=>⟨⟨az,cs,h'⟩,by simp only[hv tm a,Yd,hf],.refl _ _⟩) hc w ha q todo hr tm a
end
def C (E:Env) (f:FuncId) (args:List Value) (h:Hp) (Q:Value->Hp->Prop):Prop:=
 ∃ v h',Q v h'/\KD h h'/\ ∃fu tm eh vs,E.fn f=some fu/\Yu E f args .normal=some eh/\Zf E tm h' fu.results.toList=some vs/\oneOf vs=v/\
   ∀kd cs,∃todo,Runs E ⟨{eh with kind:=kd},cs,h⟩ ⟨⟨f,eh.nt,tm,todo,[],.returning,kd,none⟩,cs,h'⟩
theorem C.mono {E:Env} {f:FuncId} {args:List Value} {h:Hp} {Q Q':Value->Hp->Prop} (c:C E f args h Q) (hq: ∀v h',Q v h'->Q' v h'):C E f args h Q':=by
 obtain⟨v,h',q,r⟩:=c;exact⟨v,h',hq _ _ q,r⟩
def Q2V:List Value->Nat->Kn
 | [],_=>[]
 |v::r,i=>(i,v)::Q2V r (i+1)
theorem Q0x: ∀(vs:List Value) (i:Nat) (tm:Tr Value) (t:Nat) (v:Value),(if t <i then tm.get t=some v else lk (Q2V vs i) t=some v)->(Q0w vs i tm).get t=some v
 | [],i,tm,t,v,h=>by
   simp only[Q0w]
   split at h
   · exact h
   simp[Q2V,lk]at h
 | u::r,i,tm,t,v,h=>by
   simp only[Q0w];refine Q0x r (i+1) _ t v ?_
   split at h
   · rename_i aj;rw[if_pos (by omega),JO _ _ _ _ _ (by omega),if_neg (by omega)];exact h
   rename_i hge;simp only[Q2V]at h;rw[Zm]at h
   split at h
   · rename_i e;subst e;cases h;rw[if_pos (by omega),JO _ _ _ _ _ (by omega),if_pos rfl]
   rw[if_neg (by omega)];exact h
def resL (l:Kn):List ResultVar->Option (List Value)
 | []=>some []
 | .tmp t::r=>(match lk l t,resL l r with
   |some v,some vs=>some (v::vs)
   |_,_=>none)
 |_=>none
theorem Q9V {E:Env} {l:Kn} {tm:Tr Value} {h:Hp} (a:Ag tm l): ∀(rs:List ResultVar) (vs:List Value),resL l rs=some vs->Zf E tm h rs=some vs
 | [],vs,e=>e
 | .tmp t::r,vs,e=>by
   simp only[resL]at e
   split at e
   · rename_i v ws h1 h2;cases e;simp only[Zf,Q9V a r _ h2,a.ev (o:=.tmp t) h1]
   cases e
 | .cell a t::r,vs,e=>by simp[resL]at e
theorem Q9R {E:Env} {f:FuncId} {nt:Nat} {tm:Tr Value} {kd:CallKind} {cs:List Fr} {h:Hp} {s:St} {o:Out} (ho:o=.ret\/o=.next) (r:Lands E s f nt tm [] [] kd none cs h o):
 ∃todo,Runs E s ⟨⟨f,nt,tm,todo,[],.returning,kd,none⟩,cs,h⟩:=by
 rcases ho with rfl|rfl
 · obtain⟨k',r⟩:=r;exact⟨_,Runs.trans r (.step rfl (.refl _ _))⟩
 exact⟨_,Runs.trans r (.step rfl (.refl _ _))⟩
theorem Q9 {E:Env} {f:FuncId} {args:List Value} {h:Hp} {Q:Value->Hp->Prop} {fu:Func} {c:Code} (hf:E.fn f=some fu) (hb:fu.body=some c)
 (q:W E f (args.length+(fu.ntmps -args.length)) c (Q2V args 0) h fun o l h=>(o=.ret\/o=.next)/\ ∃vs,resL l fu.results.toList=some vs/\Q (oneOf vs) h) (hn:Q40 c=true:=by kernel_rfl):C E f args h Q:=by
 have ag:Ag (Q0w args 0 .leaf) (Q2V args 0):=fun t v e=>Q0x args 0 .leaf t v (by rw[if_neg (by omega)];exact e);obtain⟨o,l',h',gK,ds,⟨ho,vs,h1,h2⟩,a',n',d',r⟩:=q _ ag;have j8:=n' (by simp[Q2L,hn]);subst j8
 exact⟨_,h',h2,d'.1,fu,gK,⟨f,args.length+(fu.ntmps -args.length),Q0w args 0 .leaf,[.code c],[],.run,.normal,none⟩,vs,hf,by simp only[Yu,hf,hb],Q9V a' _ _ h1,rfl,
  fun kd cs=>Q9R ho (r [] [] kd none cs (.inr rfl))⟩
theorem C.back {E:Env} {f:FuncId} {args:List Value} {h:Hp} {Q:Value->Hp->Prop} (c:C E f args h Q):
 ∃v h',Q v h'/\KD h h'/\ ∃eh,Yu E f args .normal=some eh/\ ∀fr cs az,QX E fr v=some az->Runs E ⟨eh,fr::cs,h⟩ ⟨az,cs,h'⟩:=by
 obtain⟨v,h',q,hk,fu,tm,eh,vs,h1,h2,h3,h4,r⟩:=c;refine⟨v,h',q,hk,eh,h2,fun fr cs az hf=>?_⟩;obtain⟨todo,r⟩:=r .normal (fr::cs)
 have e:({eh with kind:=.normal}:Fr)=eh:=by
  unfold Yu at h2
  split at h2
  · split at h2
    · cases h2;rfl
    cases h2
  cases h2
 rw[e]at r;refine r.trans (.step ?_ (.refl _ _));subst h4;simp only[stepX,Q0E,h1,h3,YG,hf]
section
variable {E:Env} {fn:FuncId} {nt:Nat} {l l':Kn} {h h':Hp} {dr:Bool} {ops:Array Oper} {fin rest:List (Oper×List Oper)} {R:Kn->Hp->Prop} {lt:List Oper}
theorem Qcm {o:Oper} {f:FuncId} {args:List Value} (g:Gd ops l o.guard) (hc:cls E o=2) (ho:E.orc f=none) (hs:E.sm f=none) (hv: ∀tm,Ag tm l-> ∃as,as.toList=args/\Z3 E tm o h=some (.enter f as))
 (q:C E f args h fun v h'=> ∃l',Wn nt l o.dst v l'/\(∀q,q∈lt->Again E ops l' h' q)/\WL E fn nt dr ops fin rest l' h' R):WL E fn nt dr ops fin ((o,lt)::rest) l h R:=by
 obtain⟨v,h',⟨l',w,ha,q⟩,hk,eh,e1,r⟩:=q.back;refine Q2W g hk (fun tm fr cs az is k df kd ro a e hf=>?_) hc w ha q;obtain⟨as,has,hw⟩:=hv tm a;subst has;refine⟨⟨eh,fr::cs,h⟩,?_,r _ _ _ hf⟩;rw[hw];show Yd E fr cs h (.enter f as)=_
 show ((match E.orc f with
  |some v=>(match as.toList with
   | []=>(match QX E fr v with|some fr=>some (⟨fr,cs,h⟩:St)|none=>none)
   |_=>none)
  | none=>(match E.sm f with
    | some F=>(match F as.toList h with
      |some (v,h')=>(match QX E fr v with|some fr=>some (⟨fr,cs,h'⟩:St)|none=>none)
      |none=>none)
    |none=>(match Yu E f as.toList .normal with|some az=>some ⟨az,fr::cs,h⟩|none=>none))):Option St)=_
 rw[ho]
 show ((match E.sm f with
       | some F=>(match F as.toList h with
         |some (v,h')=>(match QX E fr v with|some fr=>some (⟨fr,cs,h'⟩:St)|none=>none)
         |none=>none)
       |none=>(match Yu E f as.toList .normal with|some az=>some ⟨az,fr::cs,h⟩|none=>none)):Option St)=_
 rw[hs];show((match Yu E f as.toList .normal with|some az=>some ⟨az,fr::cs,h⟩|none=>none):Option St)=_;rw[e1]
theorem wl_orc {o:Oper} {f:FuncId} {v:Value} (g:Gd ops l o.guard) (hc:cls E o=2) (ho:E.orc f=some v) (hv: ∀tm,Ag tm l->Z3 E tm o h=some (.enter f #[]))
 (w:Wn nt l o.dst v l') (ha: ∀q,q∈lt->Again E ops l' h q) (q:WL E fn nt dr ops fin rest l' h R):WL E fn nt dr ops fin ((o,lt)::rest) l h R:=by
 refine Q2W g (.refl h) (fun tm fr cs az is k df kd ro a e hf=>⟨⟨az,cs,h⟩,by simp only[hv tm a,Yd,ho,hf],.refl _ _⟩) hc w ha q
theorem wl_sm {o:Oper} {f:FuncId} {args:List Value} {F:List Value->Hp->Option (Value×Hp)} {v:Value} (g:Gd ops l o.guard) (hc:cls E o=2) (ho:E.orc f=none) (hs:E.sm f=some F) (hv: ∀tm,Ag tm l-> ∃as,as.toList=args/\Z3 E tm o h=some (.enter f as))
 (hF:F args h=some (v,h')) (hk:KD h h') (w:Wn nt l o.dst v l') (ha: ∀q,q∈lt->Again E ops l' h' q) (q:WL E fn nt dr ops fin rest l' h' R):WL E fn nt dr ops fin ((o,lt)::rest) l h R:=by
 refine Q2W g hk (fun tm fr cs az is k df kd ro a e hf=>?_) hc w ha q;obtain⟨as,has,hw⟩:=hv tm a;subst has;refine⟨⟨az,cs,h'⟩,?_,.refl _ _⟩;rw[hw];simp only[Yd,ho,hs,hF,hf]
end
theorem C.run {E:Env} {f:FuncId} {args:List Value} {h:Hp} {v0:Value} (c:C E f args h fun v _=>v=v0):
 ∃s0 n,Q1h E f args h=some s0/\Qex E f (Q69 E n s0)=some v0:=by
 obtain⟨v,h',rfl,_,fu,tm,eh,vs,h1,h2,h3,h4,r⟩:=c;obtain⟨todo,n,r⟩:=r .normal []
 have e:({eh with kind:=.normal}:Fr)=eh:=by
  unfold Yu at h2
  split at h2
  · split at h2
    · cases h2;rfl
    cases h2
  cases h2
 rw[e]at r;refine⟨⟨eh,[],h⟩,n,by simp only[Q1h,h2],?_⟩;rw[r];simp only[Qex,v0N,cond_true,h1,h3,h4]
section
variable {E:Env} {fn:FuncId} {nt:Nat} {l l':Kn} {h h':Hp} {dr:Bool} {ops:Array Oper} {fin rest:List (Oper×List Oper)} {R:Kn->Hp->Prop} {lt:List Oper}
variable {d:Nat} {ty:TypeId} {pos:String} {af:Array Edge} {gg:Option (Nat×Bool)} {x y z:Operand} {v u:Value} {t:TypeId}
theorem Qei (g:Gd ops l gg) (hd:v0a d nt=true) (hx:evl l x=some v) (q:WL E fn nt dr ops fin rest ((d,v)::l) h R):WL E fn nt dr ops fin ((⟨some d,.move x,ty,pos,af,gg⟩,lt)::rest) l h R:=
 QE g rfl (fun _ a=>congrArg some (a.ev hx)) (wn hd) q
theorem Q7M (g:Gd ops l gg) (hd:v0a d nt=true) (hx:evl l x=some v) (q:WL E fn nt dr ops fin rest ((d,v)::l) h R):WL E fn nt dr ops fin ((⟨some d,.assign x,ty,pos,af,gg⟩,lt)::rest) l h R:=
 QE g rfl (fun _ a=>congrArg some (a.ev hx)) (wn hd) q
theorem Q3X {b:Bool} (g:Gd ops l gg) (hd:v0a d nt=true) (hx:evl l x=some (.bool b)) (hb:b=true) (hy:evl l y=some v) (q:WL E fn nt dr ops fin rest ((d,v)::l) h R):
 WL E fn nt dr ops fin ((⟨some d,.pick x y z,ty,pos,af,gg⟩,lt)::rest) l h R:=
 QE g rfl (fun _ a=>by subst hb;simp only[QQ,a.ev hx,cond_true,a.ev hy]) (wn hd) q
theorem Q3Y {b:Bool} (g:Gd ops l gg) (hd:v0a d nt=true) (hx:evl l x=some (.bool b)) (hb:b=false) (hz:evl l z=some v) (q:WL E fn nt dr ops fin rest ((d,v)::l) h R):
 WL E fn nt dr ops fin ((⟨some d,.pick x y z,ty,pos,af,gg⟩,lt)::rest) l h R:=
 QE g rfl (fun _ a=>by subst hb;simp only[QQ,a.ev hx,cond_false,a.ev hz]) (wn hd) q
theorem o_not {b:Bool} (g:Gd ops l gg) (hd:v0a d nt=true) (hx:evl l x=some (.bool b)) (q:WL E fn nt dr ops fin rest ((d,.bool (!b))::l) h R):
 WL E fn nt dr ops fin ((⟨some d,.unOp .not t x,ty,pos,af,gg⟩,lt)::rest) l h R:=
 QE g rfl (fun _ a=>by simp only[QQ,a.ev hx,unX,QP]) (wn hd) q
section
variable {k:IntKind} {a b:Int} {op:BinOp} {aM:TypeId}
theorem KS (g:Gd ops l gg) (hd:v0a d nt=true) (hx:evl l x=some (.int k a)) (hy:evl l y=some (.int k b)) (hs:J0 op=false) (hv:ZS op k a b=some v)
 (q:WL E fn nt dr ops fin rest ((d,v)::l) h R):WL E fn nt dr ops fin ((⟨some d,.binOp op t x y aM,ty,pos,af,gg⟩,lt)::rest) l h R:=
 QE g rfl (fun _ ag=>by simp only[QQ,ag.ev hx,ag.ev hy,Q3v,hs,cond_false,Z8,cond_true,hv]) (wn hd) q
theorem o_lss (g:Gd ops l gg) (hd:v0a d nt=true) (hx:evl l x=some (.int k a)) (hy:evl l y=some (.int k b)) (q:WL E fn nt dr ops fin rest ((d,.bool (decide (a <b)))::l) h R):
 WL E fn nt dr ops fin ((⟨some d,.binOp .lss t x y aM,ty,pos,af,gg⟩,lt)::rest) l h R:=KS g hd hx hy rfl (by simp only[ZS,QP]) q
theorem o_leq (g:Gd ops l gg) (hd:v0a d nt=true) (hx:evl l x=some (.int k a)) (hy:evl l y=some (.int k b)) (q:WL E fn nt dr ops fin rest ((d,.bool (decide (a<=b)))::l) h R):
 WL E fn nt dr ops fin ((⟨some d,.binOp .leq t x y aM,ty,pos,af,gg⟩,lt)::rest) l h R:=KS g hd hx hy rfl (by simp only[ZS,QP]) q
theorem o_gtr (g:Gd ops l gg) (hd:v0a d nt=true) (hx:evl l x=some (.int k a)) (hy:evl l y=some (.int k b)) (q:WL E fn nt dr ops fin rest ((d,.bool (decide (b <a)))::l) h R):
 WL E fn nt dr ops fin ((⟨some d,.binOp .gtr t x y aM,ty,pos,af,gg⟩,lt)::rest) l h R:=KS g hd hx hy rfl (by simp only[ZS,QP,gt_iff_lt]) q
theorem o_geq (g:Gd ops l gg) (hd:v0a d nt=true) (hx:evl l x=some (.int k a)) (hy:evl l y=some (.int k b)) (q:WL E fn nt dr ops fin rest ((d,.bool (decide (b<=a)))::l) h R):
 WL E fn nt dr ops fin ((⟨some d,.binOp .geq t x y aM,ty,pos,af,gg⟩,lt)::rest) l h R:=KS g hd hx hy rfl (by simp only[ZS,QP,ge_iff_le]) q
theorem Qfm (g:Gd ops l gg) (hd:v0a d nt=true) (hx:evl l x=some (.int k a)) (hy:evl l y=some (.int k b)) (q:WL E fn nt dr ops fin rest ((d,.bool (decide (a=b)))::l) h R):
 WL E fn nt dr ops fin ((⟨some d,.binOp .eql t x y aM,ty,pos,af,gg⟩,lt)::rest) l h R:=KS g hd hx hy rfl (by simp only[ZS,QP];rfl) q
theorem o_nei (g:Gd ops l gg) (hd:v0a d nt=true) (hx:evl l x=some (.int k a)) (hy:evl l y=some (.int k b)) (q:WL E fn nt dr ops fin rest ((d,.bool (!decide (a=b)))::l) h R):
 WL E fn nt dr ops fin ((⟨some d,.binOp .neq t x y aM,ty,pos,af,gg⟩,lt)::rest) l h R:=KS g hd hx hy rfl (by simp only[ZS,QP];rfl) q
theorem wrap64 {n:Int} (h1: -9223372036854775808<=n) (h2:n <9223372036854775808):IntKind.i64.wrap n=n:=IntWalk.i64_in n ⟨by omega,by omega⟩
theorem o_add (g:Gd ops l gg) (hd:v0a d nt=true) (hx:evl l x=some (.int .i64 a)) (hy:evl l y=some (.int .i64 b)) (h1: -9223372036854775808<=a+b) (h2:a+b <9223372036854775808)
 (q:WL E fn nt dr ops fin rest ((d,.int .i64 (a+b))::l) h R):
 WL E fn nt dr ops fin ((⟨some d,.binOp .add t x y aM,ty,pos,af,gg⟩,lt)::rest) l h R:=KS g hd hx hy rfl (by simp only[ZS,QN,ZJ,wrap64 h1 h2]) q
theorem o_sub (g:Gd ops l gg) (hd:v0a d nt=true) (hx:evl l x=some (.int .i64 a)) (hy:evl l y=some (.int .i64 b)) (h1: -9223372036854775808<=a -b) (h2:a -b <9223372036854775808)
 (q:WL E fn nt dr ops fin rest ((d,.int .i64 (a -b))::l) h R):
 WL E fn nt dr ops fin ((⟨some d,.binOp .sub t x y aM,ty,pos,af,gg⟩,lt)::rest) l h R:=KS g hd hx hy rfl (by simp only[ZS,QN,ZJ,wrap64 h1 h2]) q
theorem o_max {as:Array TypeId} (g:Gd ops l gg) (hd:v0a d nt=true) (hx:evl l x=some (.int k a)) (hy:evl l y=some (.int k b)) (q:WL E fn nt dr ops fin rest ((d,.int k (max a b))::l) h R):
 WL E fn nt dr ops fin ((⟨some d,.call ⟨.builtin .max,#[x,y],as⟩,ty,pos,af,gg⟩,lt)::rest) l h R:=
 QE g rfl (fun _ ag=>by
  simp only[QQ,v0G,v1h,ag.ev hx,ag.ev hy,Q5Q,Qd7,QN];have:(if b>a then b else a)=max a b:=by rw[Int.max_def];split<;>split<;>omega
  rw[this]) (wn hd) q
end
def isB (E:Env) (t:TypeId):Bool:=match E.und t with|some .bool=>true|_=>false
def isP (E:Env) (t:TypeId):Bool:=match E.und t with|some (.pointer _)=>true|_=>false
def isS (E:Env) (t:TypeId):Bool:=match E.und t with|some (.slice _)=>true|_=>false
def isC (E:Env) (t:TypeId):Bool:=match E.und t with|some d=> !J4 d|_=>false
def isA (E:Env) (t:TypeId):Bool:=match E.und t with|some d=>J4 d|_=>false
def QbA (E:Env) (t:TypeId):Option Nat:=match E.und t with
 |some (.slice e)=>E.size e
 |_=>none
def arrZ (E:Env) (t:TypeId):Option (Nat×TypeId×Nat):=match E.und t with
 |some (.array n e)=>(match E.size e with|some z=>some (n,e,z)|none=>none)
 |_=>none
def fOff (E:Env) (t:TypeId) (i:Nat):Option Nat:=match E.und t with
 | some (.struct fs)=>(match fs[i]? with
   | some f=>(match E.size f.type with
     |some (_+1)=>some f.offset
     |_=>none)
   |none=>none)
 |_=>none
theorem QaZ (hp:isP E t=true): ∃e,E.und t=some (.pointer e):=by
 unfold isP at hp;split at hp
 · exact⟨_,‹_›⟩
 cases hp
theorem QaY (hp:isS E t=true): ∃e,E.und t=some (.slice e):=by
 unfold isS at hp;split at hp
 · exact⟨_,‹_›⟩
 cases hp
theorem Qb1 (hp:isB E t=true):E.und t=some .bool:=by
 unfold isB at hp;split at hp
 · assumption
 cases hp
theorem QfT (hp:isC E t=true): ∃e,E.und t=some e/\J4 e=false:=by
 unfold isC at hp;split at hp
 · exact⟨_,‹_›,by simpa using hp⟩
 cases hp
theorem QfU (hp:isA E t=true): ∃e,E.und t=some e/\J4 e=true:=by
 unfold isA at hp;split at hp
 · exact⟨_,‹_›,by simpa using hp⟩
 cases hp
theorem Qbz {n:Nat} (hp:QbA E t=some n): ∃e,E.und t=some (.slice e)/\E.size e=some n:=by
 unfold QbA at hp;split at hp
 · exact⟨_,‹_›,hp⟩
 cases hp
section
variable {op:BinOp} {aM:TypeId}
theorem o_eqb {a b:Bool} (g:Gd ops l gg) (hd:v0a d nt=true) (hx:evl l x=some (.bool a)) (hy:evl l y=some (.bool b)) (hb:isB E t=true)
 (q:WL E fn nt dr ops fin rest ((d,.bool (a==b))::l) h R):WL E fn nt dr ops fin ((⟨some d,.binOp .eql t x y aM,ty,pos,af,gg⟩,lt)::rest) l h R:=
 QE g rfl (fun _ ag=>by simp only[QQ,ag.ev hx,ag.ev hy,Q3v,Zj,Qb1 hb,QP]) (wn hd) q
theorem QcW {a b:Bool} (g:Gd ops l gg) (hd:v0a d nt=true) (hx:evl l x=some (.bool a)) (hy:evl l y=some (.bool b)) (hb:isB E t=true)
 (q:WL E fn nt dr ops fin rest ((d,.bool (!(a==b)))::l) h R):WL E fn nt dr ops fin ((⟨some d,.binOp .neq t x y aM,ty,pos,af,gg⟩,lt)::rest) l h R:=
 QE g rfl (fun _ ag=>by simp only[QQ,ag.ev hx,ag.ev hy,Q3v,Zj,Qb1 hb,QP]) (wn hd) q
theorem o_eqp {a:Option Addr} (g:Gd ops l gg) (hd:v0a d nt=true) (hx:evl l x=some (.pointer a)) (hy:evl l y=some (.pointer none)) (hb:isP E t=true)
 (q:WL E fn nt dr ops fin rest ((d,.bool a.isNone)::l) h R):WL E fn nt dr ops fin ((⟨some d,.binOp .eql t x y aM,ty,pos,af,gg⟩,lt)::rest) l h R:=
 QE g rfl (fun _ ag=>by
  obtain⟨e,he⟩:=QaZ hb
  cases a<;>simp only[QQ,ag.ev hx,ag.ev hy,Q3v,Zj,he,QP,Option.isNone]) (wn hd) q
theorem o_nep {a:Option Addr} (g:Gd ops l gg) (hd:v0a d nt=true) (hx:evl l x=some (.pointer a)) (hy:evl l y=some (.pointer none)) (hb:isP E t=true)
 (q:WL E fn nt dr ops fin rest ((d,.bool a.isSome)::l) h R):WL E fn nt dr ops fin ((⟨some d,.binOp .neq t x y aM,ty,pos,af,gg⟩,lt)::rest) l h R:=
 QE g rfl (fun _ ag=>by
  obtain⟨e,he⟩:=QaZ hb
  cases a<;>simp only[QQ,ag.ev hx,ag.ev hy,Q3v,Zj,he,QP,Option.isNone,Option.isSome,Bool.not_true,v1q]) (wn hd) q
end
theorem o_len {a:Option Addr} {n c:Nat} (g:Gd ops l gg) (hd:v0a d nt=true) (hx:evl l x=some (.slice a n c)) (hb:isS E t=true)
 (q:WL E fn nt dr ops fin rest ((d,.int .i64 (n:Nat))::l) h R):WL E fn nt dr ops fin ((⟨some d,.call ⟨.builtin .len,#[x],#[t]⟩,ty,pos,af,gg⟩,lt)::rest) l h R:=
 QE g rfl (fun _ ag=>by
  obtain⟨e,he⟩:=QaY hb
  simp only[QQ,v0G,v1h,ag.ev hx,Qer,he,QN,v2w,v0S]) (wn hd) q
theorem Q3d {a:Addr} (g:Gd ops l gg) (hd:v0a d nt=true) (hx:evl l x=some (.pointer (some a))) (q:WL E fn nt dr ops fin rest ((d,.pointer (some a))::l) h R):
 WL E fn nt dr ops fin ((⟨some d,.nilCheck x,ty,pos,af,gg⟩,lt)::rest) l h R:=
 QE g rfl (fun _ ag=>by simp only[QQ,ag.ev hx]) (wn hd) q
theorem addr_add (b o k:Nat):(⟨b,o,none⟩:Addr).add k=⟨b,o+k,none⟩:=by
 unfold Addr.add
 split
 · rename_i e;subst e;rfl
 rfl
theorem Q2d {b o i off:Nat} (g:Gd ops l gg) (hd:v0a d nt=true) (hx:evl l x=some (.pointer (some ⟨b,o,none⟩))) (ho:fOff E t i=some off)
 (q:WL E fn nt dr ops fin rest ((d,.pointer (some ⟨b,o+off,none⟩))::l) h R):WL E fn nt dr ops fin ((⟨some d,.fieldAddr t x i,ty,pos,af,gg⟩,lt)::rest) l h R:=
 QE g rfl (fun _ ag=>by
  unfold fOff at ho
  split at ho
  · rename_i fs hu
    split at ho
    · rename_i f hf
      split at ho
      · rename_i n hs;cases ho;simp only[QQ,ag.ev hx,Jh,hu,hf,hs,addr_add]
      cases ho
    cases ho
  cases ho) (wn hd) q
theorem Ym {k:IntKind} {j:Int} (hj:0<=j):JI (.int k j)=some j.toNat:=by
 cases j with
 |ofNat n=>rfl
 |negSucc n=>exact absurd hj (by omega)
theorem JH {b o n c zz:Nat} {k:IntKind} {j:Int} (g:Gd ops l gg) (hd:v0a d nt=true) (hx:evl l x=some (.slice (some ⟨b,o,none⟩) n c)) (hy:evl l y=some (.int k j))
 (hz:QbA E t=some zz) (h1:0<=j) (h2:j <n)
 (q:WL E fn nt dr ops fin rest ((d,.pointer (some ⟨b,o+j.toNat*zz,none⟩))::l) h R):WL E fn nt dr ops fin ((⟨some d,.indexAddr t x y,ty,pos,af,gg⟩,lt)::rest) l h R:=
 QE g rfl (fun _ ag=>by
  obtain⟨e,he,hs⟩:=Qbz hz;have aj:v0a j.toNat n=true:=(Zg _ _).2 (by omega)
  simp only[QQ,ag.ev hx,ag.ev hy,Kk,Ym h1,he,hs,aj,cond_true,addr_add]) (wn hd) q
theorem YT {b o n e zz:Nat} {k:IntKind} {j:Int} (g:Gd ops l gg) (hd:v0a d nt=true) (hx:evl l x=some (.pointer (some ⟨b,o,none⟩))) (hy:evl l y=some (.int k j))
 (hz:arrZ E t=some (n,e,zz)) (h1:0<=j) (h2:j <n)
 (q:WL E fn nt dr ops fin rest ((d,.pointer (some ⟨b,o+j.toNat*zz,none⟩))::l) h R):WL E fn nt dr ops fin ((⟨some d,.indexAddr t x y,ty,pos,af,gg⟩,lt)::rest) l h R:=
 QE g rfl (fun _ ag=>by
  unfold arrZ at hz
  split at hz
  · rename_i n' e' hu
    split at hz
    · rename_i z hs;cases hz;have aj:v0a j.toNat n=true:=(Zg _ _).2 (by omega);simp only[QQ,ag.ev hx,ag.ev hy,Kk,Ym h1,hu,hs,aj,cond_true,addr_add]
    cases hz
  cases hz) (wn hd) q
theorem Qak {cs:Array Value} {i:Nat} (g:Gd ops l gg) (hd:v0a d nt=true) (hx:evl l x=some (.agg cs)) (hv:Q8c E t (.agg cs) i=some v)
 (q:WL E fn nt dr ops fin rest ((d,v)::l) h R):WL E fn nt dr ops fin ((⟨some d,.field t x i,ty,pos,af,gg⟩,lt)::rest) l h R:=
 QE g rfl (fun _ ag=>by simp only[QQ,ag.ev hx,hv]) (wn hd) q
theorem Q3B {l:List Value} {o:Nat} {v:Value} (h:l[o]?=some v):(l.drop o).take 1=[v]:=by
 obtain⟨aj,rfl⟩:=v0z.1 h;rw[v1K aj];rfl
theorem Q3g {b o:Nat} {cs:List Value} {e:TypeId} {m:Nat} (hc:isC E t=true) (hg:h.get b=some (.cells cs e m)) (hv:cs[o]?=some v):JL E t ⟨b,o,none⟩ h=some v:=by
 obtain⟨e,he,ha⟩:=QfT hc;have aj:=(v0z.1 hv).1;have:v0r (o+1) cs.length=true:=(Qy _ _).2 aj;simp only[JL,he,ha,rowOf,hg,this,cond_true,Q3B hv]
theorem Kd {b o:Nat} {cs:List Value} {e:TypeId} {m:Nat} (g:Gd ops l gg) (hd:v0a d nt=true) (hx:evl l x=some (.pointer (some ⟨b,o,none⟩))) (hc:isC E t=true)
 (hg:h.get b=some (.cells cs e m)) (hv:cs[o]?=some v) (q:WL E fn nt dr ops fin rest ((d,v)::l) h R):
 WL E fn nt dr ops fin ((⟨some d,.load t x,ty,pos,af,gg⟩,lt)::rest) l h R:=
 QE g rfl (fun _ ag=>by simp only[QQ,ag.ev hx,Q3g hc hg hv]) (wn hd) q
theorem Q2k {b o n:Nat} {cs:List Value} {e:TypeId} {m:Nat} (hc:isA E t=true) (hn:E.size t=some n) (hg:h.get b=some (.cells cs e m)) (hv:o+n<=cs.length):
 JL E t ⟨b,o,none⟩ h=some (.agg ((cs.drop o).take n).toArray):=by
 obtain⟨e,he,ha⟩:=QfU hc;have:v0r (o+n) cs.length=true:=(Qy _ _).2 hv;simp only[JL,he,ha,hn,rowOf,hg,this,cond_true]
theorem QY {b o n:Nat} {cs:List Value} {e:TypeId} {m:Nat} (g:Gd ops l gg) (hd:v0a d nt=true) (hx:evl l x=some (.pointer (some ⟨b,o,none⟩))) (hc:isA E t=true) (hn:E.size t=some n)
 (hg:h.get b=some (.cells cs e m)) (hv:o+n<=cs.length) (q:WL E fn nt dr ops fin rest ((d,.agg ((cs.drop o).take n).toArray)::l) h R):
 WL E fn nt dr ops fin ((⟨some d,.load t x,ty,pos,af,gg⟩,lt)::rest) l h R:=
 QE g rfl (fun _ ag=>by simp only[QQ,ag.ev hx,Q2k hc hn hg hv]) (wn hd) q
theorem Yg {b o:Nat} {cs:List Value} {e:TypeId} {m:Nat} (g:Gd ops l gg) (hx:evl l x=some (.pointer (some ⟨b,o,none⟩))) (hc:isC E t=true)
 (hg:h.get b=some (.cells cs e m)) (hv:cs[o]?=some v) (hl:lk l d=some v) (hs:sameV 20 v v=true):Again E ops l h ⟨some d,.load t x,ty,pos,af,gg⟩:=
 .inr ⟨g,v,d,rfl,hl,hs,fun _ ag=>by simp only[QQ,ag.ev hx,Q3g hc hg hv]⟩
theorem ag_len {a:Option Addr} {n c:Nat} (g:Gd ops l gg) (hx:evl l x=some (.slice a n c)) (hb:isS E t=true) (hl:lk l d=some (.int .i64 (n:Nat))):
 Again E ops l h ⟨some d,.call ⟨.builtin .len,#[x],#[t]⟩,ty,pos,af,gg⟩:=
 .inr ⟨g,_,d,rfl,hl,by simp[sameV,Kh],fun _ ag=>by
  obtain⟨e,he⟩:=QaY hb
  simp only[QQ,v0G,v1h,ag.ev hx,Qer,he,QN,v2w,v0S]⟩
theorem ag0: ∀q,q∈([]:List Oper)->Again E ops l h q:=fun q hq=>by cases hq
theorem ag1 {q:Oper} {r:List Oper} (a:Again E ops l h q) (as: ∀q,q∈r->Again E ops l h q): ∀p,p∈q::r->Again E ops l h p:=fun p hp=>by
 rcases v0w.1 hp with rfl|hp
 · exact a
 exact as p hp
theorem Q1C {k:IntKind} {n:Int}:sameV 20 (.int k n) (.int k n)=true:=by simp[sameV,Z8]
theorem Ya {a:Option Addr} {n c:Nat}:sameV 20 (.slice a n c) (.slice a n c)=true:=by cases a<;>simp[sameV]
theorem QcA {a:Option Addr}:sameV 20 (.pointer a) (.pointer a)=true:=by cases a<;>simp[sameV]
theorem Qan {e:TypeId} {zv:Value} (g:Gd ops l gg) (hd:v0a d nt=true) (hz:E.zero e=some zv)
 (q:WL E fn nt dr ops fin rest ((d,.pointer (some ⟨h.n,0,none⟩))::l) (h.alloc (.cells zv.cells.toList e 0)) R):
 WL E fn nt dr ops fin ((⟨some d,.alloc e,ty,pos,af,gg⟩,lt)::rest) l h R:=
 JW (f:=ptrTo) g rfl (fun _ _=>by simp only[allocX,hz,YA]) (wn hd) q
theorem Qam {e:TypeId} (g:Gd ops l gg) (hd:v0a d nt=true) (hx:evl l x=some v)
 (q:WL E fn nt dr ops fin rest ((d,.pointer (some ⟨h.n,0,none⟩))::l) (h.alloc (.cells v.cells.toList e 0)) R):
 WL E fn nt dr ops fin ((⟨some d,.box e x,ty,pos,af,gg⟩,lt)::rest) l h R:=
 JW (f:=ptrTo) g rfl (fun _ ag=>by simp only[allocX,ag.ev hx,YA]) (wn hd) q
def partsOf (E:Env) (t:TypeId):Option (List (Nat×Nat)):=match E.und t with
 |some (.struct fs)=>fs.toList.mapM fun f=>(E.size f.type).map fun n=>(f.offset,n)
 |_=>none
theorem Q2w {tm:Tr Value} (ag:Ag tm l): ∀ {ps:List (Nat×Operand)} {pv:List (Nat×Value)},ps.map (fun p=>(p.1,evl l p.2))=pv.map (fun p=>(p.1,some p.2))->
 (ps.map fun(p:Nat×Operand)=>(p.1,ev tm p.2))=pv
 | [],[],_=>rfl
 | [],_::_,h=>by simp at h
 |_::_,[],h=>by simp at h
 | p::ps,q::pv,h=>by
   simp only[v0G,List.cons.injEq,Prod.mk.injEq]at h;rw[v0G,Q2w ag h.2,ag.ev h.1.2,h.1.1]
theorem Qs {ps:Array (Nat×Operand)} {pl:List (Nat×Nat)} {zv:Value} {cs:Array Value} (pv:List (Nat×Value)) (g:Gd ops l gg) (hd:v0a d nt=true) (hz:E.zero t=some zv)
 (hp:partsOf E t=some pl) (hv:ps.toList.map (fun p=>(p.1,evl l p.2))=pv.map (fun p=>(p.1,some p.2))) (hf:Instr.fill (fun i=>pl[i]?) zv.cells pv=some cs)
 (q:WL E fn nt dr ops fin rest ((d,.agg cs)::l) h R):WL E fn nt dr ops fin ((⟨some d,.build t ps,ty,pos,af,gg⟩,lt)::rest) l h R:=
 QE g rfl (fun _ ag=>by
  unfold partsOf at hp
  split at hp
  · rename_i fs hu;simp only[QQ,hz,hu,hp,Q2w ag hv,hf]
  cases hp) (wn hd) q
theorem Q5n {ps:Array (Nat×Operand)} {n:Nat} {e z:Nat} {zv:Value} {cs:Array Value} (pv:List (Nat×Value)) (g:Gd ops l gg) (hd:v0a d nt=true) (hu:E.und t=some (.slice e)) (hs:E.size e=some (z+1))
 (hz:E.zero e=some zv) (hn:(v0r (n*(z+1)) (2^24)&&v0d zv.cells.size (z+1))=true)
 (hv:ps.toList.map (fun p=>(p.1,evl l p.2))=pv.map (fun p=>(p.1,some p.2))) (hf:Instr.fill (fun i=>some (i*(z+1),z+1)) (Qi zv.cells.toList n).toArray pv=some cs)
 (q:WL E fn nt dr ops fin rest ((d,.slice (some ⟨h.n,0,none⟩) n n)::l) (h.alloc (.cells cs.toList e 0)) R):WL E fn nt dr ops fin ((⟨some d,.buildSlice t n ps,ty,pos,af,gg⟩,lt)::rest) l h R:=
 JW (f:=fun i=>.slice (some ⟨i,0,none⟩) n n) g rfl (fun _ ag=>by
  simp only[allocX,hu,hs,hz,hn,cond_true,Q2w ag hv,hf,YA]) (wn hd) q
theorem Q6G {k k':IntKind} {n c:Int} {e z by':Nat} {zv:Value} (g:Gd ops l gg) (hd:v0a d nt=true) (hx:evl l x=some (.int k n)) (hy:evl l y=some (.int k' c)) (hu:E.und t=some (.slice e)) (hs:E.size e=some (z+1))
 (hz:E.zero e=some zv) (hb:E.bytes e=some by') (lV:zv.cells.size=z+1) (h0:0<=n) (h1:n<=c) (h2:c<=1099511627776) (h3:by'*c.toNat<=140737488355328)
 (q:WL E fn nt dr ops fin rest ((d,.slice (some ⟨h.n,0,none⟩) n.toNat c.toNat)::l) (h.alloc (.cells (Qi zv.cells.toList c.toNat) e 0)) R):
 WL E fn nt dr ops fin ((⟨some d,.makeSlice t x y,ty,pos,af,gg⟩,lt)::rest) l h R:=
 JW (f:=fun i=>.slice (some ⟨i,0,none⟩) n.toNat c.toNat) g rfl (fun _ ag=>by
  have e1:v0r n.toNat c.toNat=true:=(Qy _ _).2 (by omega);have e2:v0r c.toNat (2^40)=true:=(Qy _ _).2 (by omega);have e3:v0r (by'*c.toNat) (2^47)=true:=(Qy _ _).2 (by omega)
  simp only[allocX,hu,hs,hz,hb,ag.ev hx,ag.ev hy,Ym h0,Ym (v12 h0 h1),e1,e2,e3,lV,v0N,v1i,cond_true,YA]) (wn hd) q
theorem set_eq {l:List Value} {o:Nat} {v:Value} (h:o <l.length):l.take o++[v]++l.drop (o+1)=l.set o v:=by
 rw[List.set_eq_take_append_cons_drop];simp[h]
theorem Q6F {b o:Nat} {cs:List Value} {e:TypeId} {m:Nat} (g:Gd ops l gg) (hx:evl l x=some (.pointer (some ⟨b,o,none⟩))) (hy:evl l y=some v) (hc:cellV v=true) (ht:E.size t=some 1)
 (hg:h.get b=some (.cells cs e m)) (hm:m≠1) (hv:o <cs.length) (ha: ∀q,q∈lt->Again E ops l (h.put b (.cells (cs.set o v) e m)) q)
 (q:WL E fn nt dr ops fin rest l (h.put b (.cells (cs.set o v) e m)) R):
 WL E fn nt dr ops fin ((⟨none,.store t x y,ty,pos,af,gg⟩,lt)::rest) l h R:=by
 refine Q0D g rfl (fun _ ag=>?_) wn0 ha q;have aW:v.cells= #[v]:=by cases v<;>first|rfl|simp[cellV]at hc
 have e1:v0r (o+1) cs.length=true:=(Qy _ _).2 hv;have e2:v0d m 1=false:=(QC _ _).2 hm
 simp only[Z3,ag.ev hx,ag.ev hy,Q1V,ht,aW,List.size_toArray,List.length_cons,List.length_nil,v0f,v0N,v1n,List.all_nil,hc,v1i,cond_true,Zp,hg,e1,e2,
  v1q,set_eq hv]
theorem Q1F {s w:Value} {t':TypeId} (g:Gd ops l gg) (hd:v0a d nt=true) (hx:evl l x=some s) (hy:evl l y=some w) (ha:Zh E h t t' s w=some (v,h'))
 (cI: ∀q,q∈lt->Again E ops ((d,v)::l) h' q)
 (q:WL E fn nt dr ops fin rest ((d,v)::l) h' R):WL E fn nt dr ops fin ((⟨some d,.call ⟨.builtin .append,#[x,y],#[t,t']⟩,ty,pos,af,gg⟩,lt)::rest) l h R:=
 Q1z g rfl (fun _ ag=>by
  simp only[Z3,ZK,ZA,v2w,v0S,v1r,List.map_toArray,v0G,v1h,ag.ev hx,ag.ev hy,ha]) (wn hd) cI q
def Q2H (E:Env) (f:FuncId):Bool:= !E.ext f&&(E.orc f).isNone&&(E.sm f).isNone&&match E.fn f with
 |some fn=>fn.body.isSome&& !(fn.name== "runtime.NumGoroutine")
 |none=>false
def QcP (E:Env) (f:FuncId):Bool:= !E.ext f&&match E.fn f with
 |some fn=>fn.body.isSome&& !(fn.name== "runtime.NumGoroutine")
 |none=>false
theorem Q4r {tm:Tr Value} (ag:Ag tm l): ∀ {ps:List Operand} {pv:List Value},ps.map (evl l)=pv.map some->ps.map (ev tm)=pv
 | [],[],_=>rfl
 | [],_::_,h=>by simp at h
 |_::_,[],h=>by simp at h
 | p::ps,q::pv,h=>by
   simp only[v0G,List.cons.injEq]at h;rw[v0G,Q4r ag h.2,ag.ev h.1]
theorem Jz {tm:Tr Value} {f:FuncId} {args:Array Operand} {as:Array TypeId} {vs:List Value} {first cap:Array Value} (ag:Ag tm l) (hf:evl l x=some (.func (.func f) first cap)) (hv:args.toList.map (evl l)=vs.map some)
 (ho:E.ext f=false) (hfn:(match E.fn f with|some fn=>fn.body.isSome&& !(fn.name== "runtime.NumGoroutine")|none=>false)=true):
 ∃as',as'.toList=first.toList++vs++cap.toList/\Z3 E tm ⟨some d,.call ⟨.value x,args,as⟩,ty,pos,af,gg⟩ h=some (.enter f as'):=by
 refine⟨(first++args.map (ev tm))++cap,by simp[Q4r ag hv],?_⟩;simp only[Z3,ZK,ag.ev hf,ZA,YN,ho,cond_false]
 revert hfn
 cases E.fn f with
 |none=>intro hfn;cases hfn
 |some fn=>intro hfn;simp only at hfn;simp only[hfn,cond_true]
theorem QZ {f:FuncId} {args:Array Operand} {as:Array TypeId} (vs:List Value) {first cap:Array Value} (g:Gd ops l gg) (hd:v0a d nt=true) (hf:evl l x=some (.func (.func f) first cap)) (ho:Q2H E f=true) (hv:args.toList.map (evl l)=vs.map some)
 (q:C E f (first.toList++vs++cap.toList) h fun v h'=>(∀q,q∈lt->Again E ops ((d,v)::l) h' q)/\WL E fn nt dr ops fin rest ((d,v)::l) h' R):
 WL E fn nt dr ops fin ((⟨some d,.call ⟨.value x,args,as⟩,ty,pos,af,gg⟩,lt)::rest) l h R:=by
 simp only[Q2H,v0h,v0I,Option.isNone_iff_eq_none]at ho;exact Qcm g rfl ho.1.1.2 ho.1.2 (fun _ ag=>Jz ag hf hv ho.1.1.1 ho.2) (q.mono fun v h' q=>⟨_,wn hd,q.1,q.2⟩)
theorem Qfk {f:FuncId} {as:Array TypeId} (g:Gd ops l gg) (hd:v0a d nt=true) (ho:QcP E f=true) (he:E.orc f=some v) (ha: ∀q,q∈lt->Again E ops ((d,v)::l) h q)
 (q:WL E fn nt dr ops fin rest ((d,v)::l) h R):
 WL E fn nt dr ops fin ((⟨some d,.call ⟨.value (.func f),#[],as⟩,ty,pos,af,gg⟩,lt)::rest) l h R:=by
 simp only[QcP,v0h,v0I]at ho;refine wl_orc (f:=f) g rfl he (fun _ ag=>?_) (wn hd) ha q;obtain⟨as',h1,h2⟩:=Jz (E:=E) (h:=h) (d:=d) (ty:=ty) (pos:=pos) (af:=af) (gg:=gg) (f:=f) (x:=.func f) (args:= #[]) (as:=as) (vs:=[]) (first:= #[]) (cap:= #[]) ag rfl rfl ho.1 ho.2;have:as'= #[]:=by simpa using h1
 rw[this]at h2;exact h2
theorem o_sm {f:FuncId} {args:Array Operand} {as:Array TypeId} (vs:List Value) {first cap:Array Value} {F:List Value->Hp->Option (Value×Hp)} (g:Gd ops l gg) (hd:v0a d nt=true) (hf:evl l x=some (.func (.func f) first cap)) (ho:QcP E f=true) (hn:E.orc f=none) (hs:E.sm f=some F) (hv:args.toList.map (evl l)=vs.map some)
 (hF:F (first.toList++vs++cap.toList) h=some (v,h')) (hk:KD h h') (ha: ∀q,q∈lt->Again E ops ((d,v)::l) h' q)
 (q:WL E fn nt dr ops fin rest ((d,v)::l) h' R):
 WL E fn nt dr ops fin ((⟨some d,.call ⟨.value x,args,as⟩,ty,pos,af,gg⟩,lt)::rest) l h R:=by
 simp only[QcP,v0h,v0I]at ho;exact wl_sm g rfl hn hs (fun _ ag=>Jz ag hf hv ho.1 ho.2) hF hk (wn hd) ha q
def disj:List Nat->List Nat->Bool
 | [],_=>true
 |a::r,l=> !Q4L a l&&disj r l
def QgE (nt:Nat) (ops:Array Oper) (dc:Nat) (w:Bool) (keys:List Nat):List Nat->List (Oper×List Oper)->Bool
 |_,[]=>true
 | done, (o,_)::r=>(match o.dst with
  | some d=>v0a d nt&& !Q4L d keys&& !Q4L d done&&
    (match o.guard with
     | some (i,w')=>(match(pk ops.toList i).dst with
       |some e=>v0a i ops.size&&((v0d e dc&&(w==w'))||Q4L e done)
       |none=>false)
     |none=>false)&&QgE nt ops dc w keys (d::done) r
  |none=>false)
theorem Q2l: ∀(l:Kn) (t:Nat) (v:Value),lk l t=some v->t∈l.map (·.1)
 | [],_,_,h=>by simp[lk]at h
 | (k,u)::r,t,v,h=>by
   rw[Zm]at h
   split at h
   · rename_i e;subst e;simp
   exact v0E _ (Q2l r t v h)
theorem YK: ∀(p l:Kn) (t:Nat),t∉p.map (·.1)->lk (p++l) t=lk l t
 | [],_,_,_=>rfl
 | (k,u)::r,l,t,h=>by
   rw[v06,Zm,if_neg (fun e=>h (by simp[e])),YK r l t (fun m=>h (v0E _ m))]
theorem Ag.split {tm:Tr Value} {p:Kn} (a:Ag tm (p++l)) (hd: ∀t,t∈p.map (·.1)->t∉l.map (·.1)):Ag tm l:=fun t v h=>
 a t v (by rw[YK _ _ _ fun m=>hd t m (Q2l _ _ _ h)];exact h)
theorem Q4u: ∀(a l:List Nat),disj a l=true-> ∀t,t∈a->t∉l
 | [],_,_,t,h=>by simp at h
 | k::r,l,hd,t,h=>by
   simp only[disj,v0h,v0I,Ke]at hd;rcases v0w.1 h with rfl|h
   · exact hd.1
   exact Q4u r l hd.2 t h
theorem Q7q {dc:Nat} {w b:Bool} (hb:lk l dc=some (.bool b)) (hw:b= !w) {its:List (Oper×List Oper)}: ∀(seg:List (Oper×List Oper)) (done:List Nat) (p:Kn),p.map (·.1)=done->(∀t v,(t,v)∈p->v=undef)->
 dc∉done->(∀t,t∈done->t∉l.map (·.1))->QgE nt ops dc w (l.map (·.1)) done seg=true->(∀p',(∀t,t∈p'.map (·.1)->t∉l.map (·.1))->WL E fn nt dr ops fin its (p'++l) h R)->WL E fn nt dr ops fin (seg++its) (p++l) h R
 | [],done,p,hp,hu,hn,hd,hs,q=>q p (hp▸hd)
 | (o, lt) ::r,done,p,hp,hu,hn,hd,hs,q=>by
   unfold QgE at hs;cases ho:o.dst with
   |none=>rw[ho]at hs;cases hs
   | some d=>
     rw[ho]at hs;simp only[v0h,v0I,Ke]at hs;obtain⟨⟨⟨⟨h1,h2⟩,h3⟩,h4⟩,h5⟩:=hs;have hdcl:dc∈l.map (·.1):=Q2l _ _ _ hb
     have jt: ∀e,e∈done-> ∃v,(e,v)∈p:=fun e he=>by
      rw[<-hp]at he;obtain⟨⟨a,b⟩,h6,h7⟩:=List.mem_map.1 he;exact⟨b,by rw[<-h7];exact h6⟩
     have hund: ∀(p:Kn) (e:Nat),(∀t v,(t,v)∈p->v=undef)->e∈p.map (·.1)->lk (p++l) e=some undef:=by
      intro p
      induction p with
      |nil=>intro e _ he;simp at he
      | cons x p ih=>
        intro e hu he;obtain⟨k,u⟩:=x;rw[v06,Zm];by_cases ek:k=e
        · rw[if_pos ek,hu k u (by simp)]
        rw[if_neg ek];refine ih e (fun t v h=>hu t v (by simp[h])) ?_;simp at he;rcases he with he|he
        · exact absurd he.symm ek
        simpa using he
     have hng:Ng ops (p++l) o.guard:=by
      cases hg:o.guard with
      |none=>rw[hg]at h4;cases h4
      | some gw=>
        obtain⟨i,w'⟩:=gw;rw[hg]at h4;simp only at h4;cases dj:(pk ops.toList i).dst with
        |none=>rw[dj]at h4;cases h4
        | some e=>
          rw[dj]at h4;simp only[v0h,v0H,QF,Kx,beq_iff_eq]at h4;obtain⟨h6,h7⟩:=h4;rcases h7 with⟨rfl,rfl⟩|h7
          · exact ng (b:=b) dj h6 (by rw[YK _ _ _ (hp▸hn)];exact hb) hw
          exact ngu dj h6 (hund p e hu (hp▸h7))
     refine QeG hng (l':=(d,undef)::(p++l)) (by rw[ho];exact wn h1) ?_;refine Q7q hb hw r (d::done) ((d,undef)::p) (by simp[hp]) (fun t v h=>?_) (fun h=>?_) (fun t ht=>?_) h5 q
     · rcases v0w.1 h with h|h
       · cases h;rfl
       exact hu t v h
     · rcases v0w.1 h with h|h
       · subst h;exact h2 hdcl
       exact hn h
     rcases v0w.1 ht with h|h
     · subst h;exact h2
     exact hd t h
theorem QS {dc tb n:Nat} {b B:Bool} {its:List (Oper×List Oper)} (hb:lk l dc=some (.bool b)) (je:QgE nt ops dc false (l.map (·.1)) [] (its.take n)=true)
 (hp:its.drop n=(⟨some d,.pick (.tmp dc) (.const (.bool true)) (.tmp tb),ty,pos,af,gg⟩,lt)::rest) (g:Gd ops l gg) (hd:v0a d nt=true)
 (q1:b=false->WL E fn nt dr ops (its.drop n) its l h fun l1 h1=>h1=h/\lk l1 tb=some (.bool B)/\ ∃k,l1.drop k=l/\disj ((l1.take k).map (·.1)) (l.map (·.1))=true)
 (q:WL E fn nt dr ops fin rest ((d,.bool (b||B))::l) h R):WL E fn nt dr ops fin its l h R:=by
 cases b with
 | false=>
   refine Qe2 ((q1 rfl).mono fun l1 h1 ⟨e1,e2,k,e3,e4⟩=>?_);subst e1
   have cg: ∀t v,lk l t=some v->lk l1 t=some v:=fun t v e=>by
    rw[<-v00 k l1,e3,YK _ _ _ (fun m=>Q4u _ _ e4 t m (Q2l _ _ _ e))];exact e
   rw[hp]
   have g':Gd ops l1 gg:=by
    unfold Gd at g ⊢;cases gg with
    |none=>trivial
    |some x=>obtain⟨og,d,a1,a2,a3⟩:=g;exact⟨og,d,a1,a2,cg _ _ a3⟩
   refine Q3Y (v:=.bool B) g' hd (cg dc _ hb) rfl e2 ?_;intro todo hr tm ag;refine q todo hr tm fun t v e=>?_;rw[Zm]at e;by_cases dN:d=t
   · rw[if_pos dN]at e;exact ag t v (by rw[Zm,if_pos dN];exact e)
   rw[if_neg dN]at e;exact ag t v (by rw[Zm,if_neg dN];exact cg _ _ e)
 | true=>
   rw[<-v00 n its];refine Q7q (p:=[]) hb rfl (its.take n) [] rfl (fun _ _ h=>by simp at h) (by simp) (fun _ h=>by simp at h) je fun p' fh=>?_;rw[hp]
   have cg: ∀t v,lk l t=some v->lk (p'++l) t=some v:=fun t v e=>by
    rw[YK _ _ _ (fun m=>fh t m (Q2l _ _ _ e))];exact e
   have g':Gd ops (p'++l) gg:=by
    unfold Gd at g ⊢;cases gg with
    |none=>trivial
    |some x=>obtain⟨og,d,a1,a2,a3⟩:=g;exact⟨og,d,a1,a2,cg _ _ a3⟩
   refine Q3X (v:=.bool true) g' hd (cg dc _ hb) rfl rfl ?_;intro todo hr tm ag;refine q todo hr tm fun t v e=>?_;rw[Zm]at e;by_cases dN:d=t
   · rw[if_pos dN]at e;exact ag t v (by rw[Zm,if_pos dN];exact e)
   rw[if_neg dN]at e;exact ag t v (by rw[Zm,if_neg dN];exact cg _ _ e)
theorem Qt {dc tb n:Nat} {b B:Bool} {its:List (Oper×List Oper)} (hb:lk l dc=some (.bool b)) (je:QgE nt ops dc true (l.map (·.1)) [] (its.take n)=true)
 (hp:its.drop n=(⟨some d,.pick (.tmp dc) (.tmp tb) (.const (.bool false)),ty,pos,af,gg⟩,lt)::rest) (g:Gd ops l gg) (hd:v0a d nt=true)
 (q1:b=true->WL E fn nt dr ops (its.drop n) its l h fun l1 h1=>h1=h/\lk l1 tb=some (.bool B)/\ ∃k,l1.drop k=l/\disj ((l1.take k).map (·.1)) (l.map (·.1))=true)
 (q:WL E fn nt dr ops fin rest ((d,.bool (b&&B))::l) h R):WL E fn nt dr ops fin its l h R:=by
 cases b with
 | true=>
   refine Qe2 ((q1 rfl).mono fun l1 h1 ⟨e1,e2,k,e3,e4⟩=>?_);subst e1
   have cg: ∀t v,lk l t=some v->lk l1 t=some v:=fun t v e=>by
    rw[<-v00 k l1,e3,YK _ _ _ (fun m=>Q4u _ _ e4 t m (Q2l _ _ _ e))];exact e
   rw[hp]
   have g':Gd ops l1 gg:=by
    unfold Gd at g ⊢;cases gg with
    |none=>trivial
    |some x=>obtain⟨og,d,a1,a2,a3⟩:=g;exact⟨og,d,a1,a2,cg _ _ a3⟩
   refine Q3X (v:=.bool B) g' hd (cg dc _ hb) rfl e2 ?_;intro todo hr tm ag;refine q todo hr tm fun t v e=>?_;rw[Zm]at e;by_cases dN:d=t
   · rw[if_pos dN]at e;exact ag t v (by rw[Zm,if_pos dN];exact e)
   rw[if_neg dN]at e;exact ag t v (by rw[Zm,if_neg dN];exact cg _ _ e)
 | false=>
   rw[<-v00 n its];refine Q7q (p:=[]) hb rfl (its.take n) [] rfl (fun _ _ h=>by simp at h) (by simp) (fun _ h=>by simp at h) je fun p' fh=>?_;rw[hp]
   have cg: ∀t v,lk l t=some v->lk (p'++l) t=some v:=fun t v e=>by
    rw[YK _ _ _ (fun m=>fh t m (Q2l _ _ _ e))];exact e
   have g':Gd ops (p'++l) gg:=by
    unfold Gd at g ⊢;cases gg with
    |none=>trivial
    |some x=>obtain⟨og,d,a1,a2,a3⟩:=g;exact⟨og,d,a1,a2,cg _ _ a3⟩
   refine Q3Y (v:=.bool false) g' hd (cg dc _ hb) rfl rfl ?_;intro todo hr tm ag;refine q todo hr tm fun t v e=>?_;rw[Zm]at e;by_cases dN:d=t
   · rw[if_pos dN]at e;exact ag t v (by rw[Zm,if_pos dN];exact e)
   rw[if_neg dN]at e;exact ag t v (by rw[Zm,if_neg dN];exact cg _ _ e)
theorem Z1 {dc:Nat} {b:Bool} {its:List (Oper×List Oper)} (_hb:lk l dc=some (.bool b)) (q1:b=true->WL E fn nt dr ops fin its l h R) (q2:b=false->WL E fn nt dr ops fin its l h R):WL E fn nt dr ops fin its l h R:=by
 cases b with
 |true=>exact q1 rfl
 |false=>exact q2 rfl
theorem ZD {dc n:Nat} {w b:Bool} {its:List (Oper×List Oper)} (hb:lk l dc=some (.bool b)) (hw:b= !w) (je:QgE nt ops dc w (l.map (·.1)) [] (its.take n)=true)
 (q:WL E fn nt dr ops fin (its.drop n) l h R):WL E fn nt dr ops fin its l h R:=by
 rw[<-v00 n its];refine Q7q (p:=[]) hb hw (its.take n) [] rfl (fun _ _ h=>by simp at h) (by simp) (fun _ h=>by simp at h) je fun p' fh=>?_;intro todo hr tm ag;exact q todo hr tm (ag.split fh)
end
section
variable {E:Env} {fn:FuncId} {nt:Nat} {l l':Kn} {h h':Hp} {Q:Out->Kn->Hp->Prop}
theorem Qo {id:Nat} (q:Q .next l h):Blk id Q (.exit id) l h:=by
 show if id=id then Q .next l h else Q (.exit id) l h
 rw[if_pos rfl];exact q
theorem Q3u {id i:Nat} (hi:i≠id) (q:Q (.exit i) l h):Blk id Q (.exit i) l h:=by
 show if i=id then Q .next l h else Q (.exit i) l h
 rw[if_neg hi];exact q
theorem Qc {b:Code} {i:Nat} (q:Q (.exit i) l h):Thn E fn nt b Q (.exit i) l h:=q
theorem Qe {I:Nat->Kn->Hp->Prop} {n i:Nat} (q:Q (.exit i) l h):Rnd I n Q (.exit i) l h:=q
theorem Q1N {c:Code} (l':Kn) (s:Sub l' l) (q:W E fn nt c l' h Q):W E fn nt c l h Q:=T.weak s q
def CP (E:Env) (f:FuncId) (args:List Value) (h:Hp) (v:Value):Prop:=C E f args h fun v' h'=>v'=v/\h'=h
theorem Qm {f:FuncId} {args:List Value} {v:Value} {P:Value->Hp->Prop} (c:CP E f args h v) (p:P v h):C E f args h P:=C.mono c fun _ _ ⟨e1,e2⟩=>by subst e1;subst e2;exact p
end
structure Ext (h h':Hp):Prop where
 n:h.n<=h'.n
 get: ∀i,i <h.n->h'.get i=h.get i
structure ExtB (bs:List Nat) (h h':Hp):Prop where
 n:h.n<=h'.n
 get: ∀i,i <h.n->i∉bs->h'.get i=h.get i
theorem Ext.refl (h:Hp):Ext h h:=⟨v0b _,fun _ _=>rfl⟩
theorem Ext.trans {a b c:Hp} (x:Ext a b) (y:Ext b c):Ext a c:=⟨v0p x.n y.n,fun i hi=>(y.get i (v0u hi x.n)).trans (x.get i hi)⟩
theorem Ext.alloc (h:Hp) (o:AObj):Ext h (h.alloc o):=⟨by rw[Hp.n_alloc];omega,fun i hi=>by rw[Hp.get_alloc,if_neg (by omega)]⟩
theorem Ext.b {h h':Hp} (x:Ext h h') (bs:List Nat):ExtB bs h h':=⟨x.n,fun i hi _=>x.get i hi⟩
theorem ExtB.refl (bs:List Nat) (h:Hp):ExtB bs h h:=⟨v0b _,fun _ _ _=>rfl⟩
theorem ExtB.trans {bs:List Nat} {a b c:Hp} (x:ExtB bs a b) (y:ExtB bs b c):ExtB bs a c:=
 ⟨v0p x.n y.n,fun i hi hb=>(y.get i (v0u hi x.n) hb).trans (x.get i hi hb)⟩
theorem ExtB.mono {as bs:List Nat} {h h':Hp} (x:ExtB as h h') (s: ∀i,i∈as->i <h.n->i∈bs):ExtB bs h h':=⟨x.n,fun i hi hb=>x.get i hi fun ha=>hb (s i ha hi)⟩
theorem ExtB.put (h:Hp) (b:Nat) (o:AObj):ExtB [b] h (h.put b o):=⟨by rw[Hp.n_put];omega,fun i hi hb=>by rw[Hp.get_put,if_neg (fun e=>hb (by simp[e]))]⟩
theorem ExtB.nil {h h':Hp} (x:ExtB [] h h'):Ext h h':=⟨x.n,fun i hi=>x.get i hi (by simp)⟩
theorem Hp.get_alloc_self (h:Hp) (o:AObj):(h.alloc o).get h.n=some o:=by rw[Hp.get_alloc,if_pos rfl]
theorem Hp.get_put_self (h:Hp) (b:Nat) (o:AObj):(h.put b o).get b=some o:=by rw[Hp.get_put,if_pos rfl]
def Sl (e:TypeId) (h:Hp) (s:Value) (vs:List Value) (bs:List Nat):Prop:=
 (s=.slice none 0 0/\vs=[]/\bs=[])\/ ∃b m,s=.slice (some ⟨b,0,none⟩) vs.length vs.length/\h.get b=some (.cells vs e m)/\(m=0\/m=3)/\b <h.n/\bs=[b]
theorem Sl.keep {e:TypeId} {h h':Hp} {s:Value} {vs:List Value} {bs cs:List Nat} (x:Sl e h s vs bs) (g:ExtB cs h h') (hd: ∀i,i∈bs->i∉cs):Sl e h' s vs bs:=by
 rcases x with x| ⟨b,m,h1,h2,h3,h4,rfl⟩
 · exact .inl x
 exact .inr ⟨b,m,h1,by rw[g.get b h4 (hd b (by simp))];exact h2,h3,v0u h4 g.n,rfl⟩
theorem Sl.at {e:TypeId} {h:Hp} {s:Value} {vs:List Value} {bs:List Nat} (x:Sl e h s vs bs) (hn:0 <vs.length):
 ∃b m,s=.slice (some ⟨b,0,none⟩) vs.length vs.length/\h.get b=some (.cells vs e m)/\(m=0\/m=3)/\b <h.n/\bs=[b]:=by
 rcases x with⟨_,rfl,_⟩|x
 · simp at hn
 exact x
theorem Sl.val {e:TypeId} {h:Hp} {s:Value} {vs:List Value} {bs:List Nat} (x:Sl e h s vs bs): ∃a,s=.slice a vs.length vs.length:=by
 rcases x with⟨rfl,rfl,_⟩| ⟨b,m,rfl,_⟩
 · exact⟨none,rfl⟩
 exact⟨_,rfl⟩
section
variable {E:Env} {h:Hp} {t e:TypeId} {by':Nat}
end
theorem bv {p q:Bool} (h:p=true↔q=true):Value.bool p=Value.bool q:=congrArg _ (Bool.eq_iff_iff.2 h)
open Go.RowKit Go.Sort
def Q6C:Value->Nat
 | .slice (some a) _ _=>a.block+1
 | .pointer (some a)=>a.block+1
 |_=>0
def maxB (l:List Value):Nat:=l.foldr (fun v n=>max (Q6C v) n) 0
theorem Q7T: ∀ {l:List Value} {v:Value},v∈l->Q6C v<=maxB l
 | u::r,v,h=>by
   show Q6C v<=max (Q6C u) (maxB r);rcases v0w.1 h with rfl|h
   · omega
   have:=Q7T h;omega
def objB:Obj->Nat
 | .cells cs _ _=>maxB cs.toList
 |_=>0
def Qg1 (l:List Obj):Nat:=l.foldr (fun o n=>max (objB o) n) 0
theorem Q5K: ∀ {l:List Obj} {o:Obj},o∈l->objB o<=Qg1 l
 | u::r,v,h=>by
   show objB v<=max (objB u) (Qg1 r);rcases v0w.1 h with rfl|h
   · omega
   have:=Q5K h;omega
def Q3x (w:World):Nat:=max (max w.heap.size 256) (Qg1 w.heap.toList)
theorem JZ (w:World):w.heap.size<=Q3x w:=by unfold Q3x;omega
theorem Qcp (w:World):256<=Q3x w:=by unfold Q3x;omega
theorem Q4P {w:World} {a:Addr} {v:Value} (h:w.cell? a=some v):Q6C v<=Q3x w:=by
 unfold World.cell? at h
 split at h
 · rename_i c e fr hx
   split at h
   · cases h
   have h1:Obj.cells c e fr∈w.heap.toList:=by
    rw[<-Array.mem_def];exact v2a hx
   have h2:=Q5K h1;have h3:v∈c.toList:=by rw[<-Array.mem_def];exact v2a h
   have h4:=Q7T h3;simp only[objB]at h2;unfold Q3x;omega
 cases h
def Mp.all (w:World):Mp where
 ρ i:=match w.heap[i]? with
   |some (.cells cs _ _)=>some (i,0,cs.size)
   |_=>Option.none
 K i:=i <Q3x w
 md _:=0
theorem Q4F (M:Mp): ∀v:Value,∃x,VRel M x v
 | .agg cs=>by
   have h: ∀i:Fin cs.size,∃x,VRel M x cs[i]:=fun i=>Q4F M cs[i];have hc:=fun i=>Classical.choose_spec (h i);refine⟨.agg (Array.ofFn fun i=>Classical.choose (h i)),.agg (by simp) fun i v w hv hw=>?_⟩;simp only[v1J,Array.getElem?_ofFn]at hv hw
   split at hv
   · rename_i hi;cases hv;rw[v17 hi]at hw;cases hw;exact hc ⟨i,hi⟩
   cases hv
 | .tuple cs=>by
   have h: ∀i:Fin cs.size,∃x,VRel M x cs[i]:=fun i=>Q4F M cs[i];have hc:=fun i=>Classical.choose_spec (h i);refine⟨.tuple (Array.ofFn fun i=>Classical.choose (h i)),.tuple (by simp) fun i v w hv hw=>?_⟩;simp only[v1J,Array.getElem?_ofFn]at hv hw
   split at hv
   · rename_i hi;cases hv;rw[v17 hi]at hw;cases hw;exact hc ⟨i,hi⟩
   cases hv
 | .bool b=>⟨_,.bool b⟩
 | .int k n=>⟨_,.int k n⟩
 | .float k n=>⟨_,.float k n⟩
 | .complex k a b=>⟨_,.complex k a b⟩
 | .string s=>⟨_,.string s⟩
 | .pointer a=>⟨_,.junk trivial⟩
 | .slice a n c=>⟨_,.junk trivial⟩
 | .map r=>⟨_,.junk trivial⟩
 | .chan r=>⟨_,.junk trivial⟩
 | .func f a b=>⟨_,.junk trivial⟩
 | .nilFunc=>⟨_,.nilFunc⟩
 | .iface t v=>⟨_,.junk trivial⟩
 | .nilIface=>⟨_,.nilIface⟩
termination_by v=>SizeOf.sizeOf v
decreasing_by all_goals (simp_wf;have:=Array.sizeOf_getElem cs i.1 i.2;omega)
open Classical in
noncomputable def JC (M:Mp) (v:Value):Value:=if VRel M v v then v else Classical.choose (Q4F M v)
theorem Q9L (M:Mp) (v:Value):VRel M (JC M v) v:=by
 unfold JC
 split
 · assumption
 exact Classical.choose_spec (Q4F M v)
theorem Yj {M:Mp} {v:Value} (h:VRel M v v):JC M v=v:=by rw[JC,if_pos h]
noncomputable def Jy (M:Mp) (w:World) (i:Nat):Option AObj:=match w.heap[i]? with
 |some (.cells cs e _)=>some (.cells (cs.toList.map (JC M)) e 1)
 |_=>Option.none
noncomputable def QgM (M:Mp) (w:World):Nat->Tr AObj
 |0=>.leaf
 | n+1=>match Jy M w n with
   |some o=>(QgM M w n).set (n+1) n o
   |Option.none=>QgM M w n
theorem Q4G (M:Mp) (w:World): ∀n i,(QgM M w n).get i=if i <n then Jy M w i else Option.none
 |0,i=>Q4k i
 | n +1,i=>by
   unfold QgM
   split
   · rename_i o ho;rw[JO _ _ _ _ _ (by omega),Q4G M w n i];by_cases h1:n=i
     · subst h1;rw[if_pos rfl,if_pos (by omega),ho]
     rw[if_neg h1];by_cases h2:i <n
     · rw[if_pos h2,if_pos (by omega)]
     rw[if_neg h2,if_neg (by omega)]
   rename_i ho;rw[Q4G M w n i];by_cases h1:n=i
   · subst h1;rw[if_neg (by omega),if_pos (by omega),ho]
   by_cases h2:i <n
   · rw[if_pos h2,if_pos (by omega)]
   rw[if_neg h2,if_neg (by omega)]
noncomputable def Hp.all (w:World):Hp:=⟨QgM (Mp.all w) w w.heap.size,Q3x w⟩
theorem Hp.all_get (w:World) (i:Nat):(Hp.all w).get i=Jy (Mp.all w) w i:=by
 show(QgM (Mp.all w) w w.heap.size).get i=_;rw[Q4G]
 split
 · rfl
 rename_i h;unfold Jy;rw[v2f (by omega)]
theorem HRel.all (w:World):HRel w (fun _=>False) (Mp.all w) (Hp.all w) w:=by
 have cf: ∀i b δ S,(Mp.all w).ρ i=some (b,δ,S)-> ∃cs e fr,w.heap[i]?=some (.cells cs e fr)/\b=i/\δ=0/\S=cs.size:=fun i b δ S h=>by
  simp only[Mp.all]at h
  split at h
  · rename_i cs e fr hx;cases h;exact⟨cs,e,fr,hx,rfl,rfl,rfl⟩
  cases h
 have aC: ∀i b δ S,(Mp.all w).ρ i=some (b,δ,S)->RO (Hp.all w) i:=fun i b δ S h=>by
  obtain⟨cs,e,fr,hx,_⟩:=cf i b δ S h;exact⟨cs.toList.map (JC (Mp.all w)),e,by rw[Hp.all_get,Jy,hx]⟩
 refine⟨fun i b δ S h=>?_,fun i j b δ S δ' S' h _=>.inr (aC i b δ S h),fun i hi=>hi,fun i hi=>?_,fun i _ h=>?_,rfl,⟨rfl,fun _=>v0b _⟩,rfl,v0b _,fun b _ _=>rfl,fun i b δ S h _=>.inr (aC i b δ S h),fun i hi=>⟨?_,fun b δ S h=>?_⟩⟩
 · obtain⟨cs,e,fr,hx,rfl,rfl,rfl⟩:=cf i b δ S h;have aj:=(v0X.1 hx).1;refine⟨show b <Q3x w by have:=JZ w;omega,.cells (cs.toList.map (JC (Mp.all w))) e 1,_,by rw[Hp.all_get,Jy,hx],hx,cs,fr,rfl,rfl,by simp,fun j v hj=>?_,.inr (.inl ⟨rfl,rfl,rfl,by simp⟩)⟩;rw[v0y]at hj;cases hc:cs.toList[j]? with
   |none=>rw[hc]at hj;cases hj
   | some u=>
     rw[hc]at hj;cases hj;exact⟨u,by rw[v0f];simpa using hc,Q9L _ _⟩
 · have:Q3x w<=i:=hi;have:=JZ w;rw[Hp.all_get,Jy,v2f (by omega)]
 · rw[Hp.all_get,Jy];simp only[Mp.all]at h
   split at h
   · cases h
   rename_i hx;exact .inl rfl
 · show i <Q3x w;have:=Qcp w;omega
 obtain⟨cs,e,fr,hx,rfl,rfl,rfl⟩:=cf i b δ S h;exact⟨rfl,rfl⟩
section
variable {w:World}
theorem Q1d (a:Addr) (n c:Nat) (h:a.block <Q3x w):VRel (Mp.all w) (.slice (some a) n c) (.slice (some a) n c):=by
 refine .sl ⟨h,fun b δ S hb=>.inl ⟨rfl,?_,rfl⟩⟩;simp only[Mp.all]at hb
 split at hb
 · cases hb;simp
 cases hb
theorem Qc7 (a:Addr) (n c:Nat) (h:a.block <w.heap.size):VRel (Mp.all w) (.slice (some a) n c) (.slice (some a) n c):=Q1d a n c (v0u h (JZ w))
end
theorem Q8N (E:Env) (hm:E.P.follows .mixedOrders=true) {f:FuncId} {args:List Value} {ad:Array Value} {w:World} (hv:VsRel (Mp.all w) args ad.toList)
 (c:C E f args (Hp.all w) fun v _=>v=.bool true):Calls E.P f ad w fun e w'=>e=.returned (.bool true)/\Below w.heap.size w w':=by
 obtain⟨s0,n,hs,he⟩:=c.run;exact Q9S E hm (HRel.all w) hv hs he
open Go.ChangeShapes Go.WideShapes Go.ChangeAt Go.Deep
section
variable {H:Type} {enc:TypeId×Value->H} {P:Program} {W W':World}
theorem JY (hl:laidOutB P=true) (hb:Below W.heap.size W W'): ∀ {ts:List TypeId} {vs:List Value} {ds:List (DataW H)} {ps:List MemPlace},ts.all (fun t=>P.readableRec t&&decide (t <P.types.size))=true->
 (∀x∈ps,x.block <W.heap.size)->DataW.TrodAll enc P W 0 (fun _=>true) true ts vs ds ps->DataW.TrodAll enc P W' 0 (fun b=>decide (b <W.heap.size)) true ts vs ds ps
 | [],[],[],_,_,_,h=>h
 | [],_::_,_,_,_,_,h=>h.elim
 | [],[],_::_,_,_,_,h=>h.elim
 |_::_,[],_,_,_,_,h=>h.elim
 |_::_,_::_,[],_,_,_,h=>h.elim
 | t::ts,v::vs,d::ds,ps,hr,aj,⟨p,q,h1,h2,e⟩=>by
   subst e;simp only[v1n,v0h,decide_eq_true_eq]at hr;exact⟨p,q,Below.trod hl hr.1.1 hr.1.2 h1 hb (fun x hx=>aj x (by simp[hx])),JY hl hb hr.2 (fun x hx=>aj x (by simp[hx])) h2,rfl⟩
theorem Q1O: ∀ {w:World} {base:Nat} {spare:Nat->Bool} {held:Bool} {ts:List TypeId} {vs:List Value} {ds:List (DataW H)} {ps:List MemPlace},DataW.TrodAll enc P w base spare held ts vs ds ps->ds.length=ts.length
 |_,_,_,_,[],[],[],_,_=>rfl
 |_,_,_,_,[],_::_,_,_,h=>h.elim
 |_,_,_,_,[],[],_::_,_,h=>h.elim
 |_,_,_,_,_::_,[],_,_,h=>h.elim
 |_,_,_,_,_::_,_::_,[],_,h=>h.elim
 |_,_,_,_,t::ts,v::vs,d::ds,ps,⟨p,q,h1,h2,e⟩=>by simp[Q1O h2]
theorem Qae {f:Func} {s:ChangeSpec} {fresh handsOn apart:Bool} {t:TypeId} {ds gs:List (DataW H)} {before:List MemPlace} {args:Array Value}
 (hl:laidOutB P=true) (hrd:f.params.toList.all (fun t=>P.readableRec t&&decide (t <P.types.size))=true) (hv:s.vars=[]) (hr:f.resultTypes= #[t]) (ht:P.underlying t=some .bool)
 (hs: ∀ds:List (DataW H),ds.length=f.params.toList.length->(s.fn H ds).results=[.lit (.bool true)]/\(s.fn H ds).args=ds/\(s.fn H ds).vars=[])
 (hW:DataW.Whole enc P f.params.toList s.vars apart W args.toList ds gs before) (hb:Below W.heap.size W W'):
 s.post enc P f apart fresh handsOn false W args (.bool true) W':=by
 have hW':=hW;obtain⟨p,q,hA,hV,rfl,nP,fE⟩:=hW;rw[hv]at hV;obtain⟨rfl,rfl⟩:=trodVars_none hV;obtain⟨h1,h2,h3⟩:=hs ds (Q1O hA);have aj: ∀x∈p,x.block <W.heap.size:=fun x hx=>hW'.lt x (by simp[hx]);refine⟨ds,[],_,[],p,[],hW',?_,?_,?_,hb.frame _,fun h=>by cases h⟩
 · simp only[v0k,h1,hr];exact trodAll_mk1 (shut_bool ht true)
 · simp only[v0k,h2];exact JY hl hb hrd aj hA
 simp only[v0k,h3,hv];rfl
theorem Qag {t e:TypeId} {r:Reach} {base:Nat} {v:Value} (ht:P.underlying t=some (.slice e)) (h:Value.okWide P W r base t v):
 v=.slice none 0 0\/ ∃a len cap,v=.slice (some a) len cap/\a.block <W.heap.size:=by
 simp only[Value.okWide,ht,Cell.okWide]at h;cases v<;>simp only[Cell.ok,ht]at h<;>try exact h.elim
 rename_i a len cap;cases a with
 | none=>
   left;cases len with
   | zero=>
     cases cap with
     |zero=>rfl
     |succ n=>exact h.elim
   |succ n=>exact h.elim
 | some a=>
   right;refine⟨a,len,cap,rfl,?_⟩;obtain⟨_,_,_,_,row,cells,jf,_⟩:=h;unfold World.shape? at jf
   split at jf
   · rename_i hx;exact(v0X.1 hx).1
   cases jf
end
abbrev Ms:=List (Int×Value×Nat)
def ent (x:Int×Value×Nat):MapEntry:= {key:=.int .i64 x.1,val:=x.2.1,born:=x.2.2}
def fi (k:Int):Ms->Nat->Option (Nat×Value)
 | [],_=>none
 |(a,v,_)::r,i=>if a=k then some (i,v)else fi k r (i+1)
def Q4M (M:Ms) (k:Int):Option Value:=(fi k M 0).map (·.2)
theorem Q5D {E:Env} {h:Hp} {kt:TypeId} (hk:E.und kt=some (.int .i64)) (a b:Int):KW E h kt (.int .i64 a) (.int .i64 b)=some (decide (a=b)):=by
 simp[KW,hk,Zz,Kh,sameV]
theorem Q0m {E:Env} {h:Hp} {kt:TypeId} (hk:E.und kt=some (.int .i64)) (k:Int): ∀(M:Ms) (i:Nat),JQ E h kt (.int .i64 k) (M.map ent) i=some (fi k M i)
 | [],_=>rfl
 | (a,v,n)::r,i=>by
   simp only[v0G,JQ,ent,Q5D hk,fi];by_cases e:a=k
   · subst e;simp
   have:decide (k=a)=false:=by simp;exact fun x=>e x.symm
   simp only[this,if_neg e];exact Q0m hk k r (i+1)
theorem Q16 {k:Int}: ∀ {M:Ms} {i j:Nat} {v:Value},fi k M i=some (j,v)-> ∃p,j=i+p/\p <M.length/\ ∃n,M[p]?=some (k,v,n)
 | [],_,_,_,h=>by simp[fi]at h
 | (a,u,n)::r,i,j,v,h=>by
   simp only[fi]at h;by_cases e:a=k
   · rw[if_pos e]at h;cases h;exact⟨0,rfl,by simp,n,by simp[e]⟩
   rw[if_neg e]at h;obtain⟨p,h1,h2,m,h3⟩:=Q16 h;exact⟨p+1,by omega,by simp;omega,m,by simpa using h3⟩
def Q4K (M:Ms) (k:Int) (v:Value) (cl:Nat):Ms×Nat:=match fi k M 0 with
 |some (i,_)=>(M.modify i fun x=>(k,v,x.2.2),cl)
 |none=>(M++[(k,v,cl)],cl+1)
theorem Q5V {k k':Int} {v:Value}: ∀(M:Ms) (s p:Nat) (u:Value),fi k M s=some (s+p,u)->
 (fi k' (M.modify p fun x=>(k,v,x.2.2)) s).map (·.2)=if k'=k then some v else(fi k' M s).map (·.2)
 | [],_,_,_,h=>by simp[fi]at h
 | (a,w,n)::r,s,p,u,h=>by
   simp only[fi]at h;by_cases e:a=k
   · rw[if_pos e]at h;have hp:p=0:=by simp at h;omega
     subst hp;simp only[List.modify_zero_cons,fi];by_cases e':k=k'
     · subst e';simp
     rw[if_neg e',if_neg (fun x=>e' x.symm),if_neg (fun x=>e' (e▸x))]
   rw[if_neg e]at h;cases p with
   | zero=>
     obtain⟨q,h1,_⟩:=Q16 h;omega
   | succ p=>
     simp only[List.modify_succ_cons,fi];by_cases e':a=k'
     · rw[if_pos e',if_pos e',if_neg (fun x=>e (e'.trans x))]
     rw[if_neg e',if_neg e'];exact Q5V r (s+1) p u (by rw[h];congr 2;omega)
theorem Q5W {k k':Int} {v:Value} {c:Nat}: ∀(M:Ms) (s:Nat),fi k M s=none->(fi k' (M++[(k,v,c)]) s).map (·.2)=if k'=k then some v else(fi k' M s).map (·.2)
 | [],s,_=>by
   simp only[v1b,fi];by_cases e:k=k'
   · subst e;simp
   rw[if_neg e,if_neg (fun x=>e x.symm)]
 | (a,w,n)::r,s,h=>by
   simp only[fi]at h;by_cases e:a=k
   · rw[if_pos e]at h;cases h
   rw[if_neg e]at h;simp only[v06,fi];by_cases e':a=k'
   · rw[if_pos e',if_pos e',if_neg (fun x=>e (e'.trans x))]
   rw[if_neg e',if_neg e'];exact Q5W r (s+1) h
theorem get_put (M:Ms) (k k':Int) (v:Value) (cl:Nat):Q4M (Q4K M k v cl).1 k'=if k'=k then some v else Q4M M k':=by
 unfold Q4K Q4M;cases h:fi k M 0 with
 |none=>exact Q5W M 0 h
 | some x=>
   obtain⟨i,u⟩:=x;exact Q5V M 0 i u (by rw[h,v0f])
section
variable {E:Env} {fn:FuncId} {nt:Nat} {l l':Kn} {h h':Hp} {dr:Bool} {ops:Array Oper} {fin rest:List (Oper×List Oper)} {R:Kn->Hp->Prop} {lt:List Oper}
variable {d:Nat} {ty:TypeId} {pos:String} {af:Array Edge} {gg:Option (Nat×Bool)} {x y z:Operand} {v u:Value} {t:TypeId}
structure MapT (E:Env) (t kt et:TypeId):Prop where
 und:E.und t=some (.map kt et)
 key:E.und kt=some (.int .i64)
theorem Q0f {kt:TypeId} (hk:E.und kt=some (.int .i64)) (k:Int):Y6 E kt (.int .i64 k)=true:=by simp[Y6,hk,Zz,Kh]
theorem Q6V {kt et:TypeId} {M:Ms} {cl r:Nat} {k:Int} {zv:Value} (m:MapT E t kt et) (hg:h.get r=some (.map (M.map ent) cl)) (hz:E.zero et=some zv) (ok:Bool):
 K5 E h t (.map (some r)) (.int .i64 k) ok=some (match Q4M M k with|some v=>cond ok (.tuple #[v,.bool true]) v|none=>cond ok (.tuple #[zv,.bool false]) zv):=by
 simp only[K5,m.und,mapOf,hg,Q0f m.key,cond_true,Q0m m.key,Q4M];cases fi k M 0 with
 |none=>simp[hz]
 |some x=>rfl
theorem Q3Z {kt et:TypeId} {M:Ms} {cl r:Nat} {k:Int} {zv:Value} (m:MapT E t kt et) (g:Gd ops l gg) (hd:v0a d nt=true) (hx:evl l x=some (.map (some r))) (hy:evl l y=some (.int .i64 k))
 (hg:h.get r=some (.map (M.map ent) cl)) (hz:E.zero et=some zv) (q:WL E fn nt dr ops fin rest ((d,(Q4M M k).getD zv)::l) h R):
 WL E fn nt dr ops fin ((⟨some d,.lookup t x y false,ty,pos,af,gg⟩,lt)::rest) l h R:=
 QE g rfl (fun _ ag=>by
  simp only[QQ,ag.ev hx,ag.ev hy,Q6V m hg hz]
  cases Q4M M k<;>rfl) (wn hd) q
theorem Q2c {kt et:TypeId} {M:Ms} {cl r:Nat} {k:Int} (m:MapT E t kt et) (g:Gd ops l gg) (hx:evl l x=some (.map (some r))) (hy:evl l y=some (.int .i64 k)) (hz:evl l z=some v)
 (hg:h.get r=some (.map (M.map ent) cl)) (ha: ∀q,q∈lt->Again E ops l (h.put r (.map ((Q4K M k v cl).1.map ent) (Q4K M k v cl).2)) q)
 (q:WL E fn nt dr ops fin rest l (h.put r (.map ((Q4K M k v cl).1.map ent) (Q4K M k v cl).2)) R):
 WL E fn nt dr ops fin ((⟨none,.mapUpdate t x y z,ty,pos,af,gg⟩,lt)::rest) l h R:=by
 refine Q0D g rfl (fun _ ag=>?_) wn0 ha q;simp only[Z3,ag.ev hx,ag.ev hy,ag.ev hz,Ky,m.und,hg,Q0f m.key,cond_true,Q0m m.key,Q4K];cases hf:fi k M 0 with
 |none=>simp[ent]
 | some x=>
   obtain⟨i,w⟩:=x;simp only[v0i.injEq,Nx.skip.injEq]
   congr 2
   apply v09;intro j;simp only[List.getElem?_modify,v0y];cases M[j]? with
   |none=>rfl
   |some y=>by_cases e:i=j<;>simp[e,ent]
theorem Q5m (g:Gd ops l gg) (hd:v0a d nt=true) (q:WL E fn nt dr ops fin rest ((d,.map (some h.n))::l) (h.alloc (.map (([]:Ms).map ent) 0)) R):
 WL E fn nt dr ops fin ((⟨some d,.makeMap t none,ty,pos,af,gg⟩,lt)::rest) l h R:=
 JW (f:=fun i=>.map (some i)) g rfl (fun _ _=>rfl) (wn hd) q
theorem o_eqm {a:Option Nat} {aM:TypeId} {kt et:TypeId} (g:Gd ops l gg) (hd:v0a d nt=true) (hx:evl l x=some (.map a)) (hy:evl l y=some (.map none)) (hb:E.und t=some (.map kt et))
 (q:WL E fn nt dr ops fin rest ((d,.bool a.isNone)::l) h R):WL E fn nt dr ops fin ((⟨some d,.binOp .eql t x y aM,ty,pos,af,gg⟩,lt)::rest) l h R:=
 QE g rfl (fun _ ag=>by
  cases a<;>simp only[QQ,ag.ev hx,ag.ev hy,Q3v,Zj,hb,QP,Option.isNone]) (wn hd) q
theorem Qal {vs:Array Value} {i:Nat} (g:Gd ops l gg) (hd:v0a d nt=true) (hx:evl l x=some (.tuple vs)) (hv:vs[i]?=some v) (q:WL E fn nt dr ops fin rest ((d,v)::l) h R):
 WL E fn nt dr ops fin ((⟨some d,.extract x i,ty,pos,af,gg⟩,lt)::rest) l h R:=
 QE g rfl (fun _ ag=>by simp only[QQ,ag.ev hx,hv]) (wn hd) q
theorem QcU {b n:Nat} {cs:List Value} {vs:Array Value} {e:TypeId} {m:Nat} (g:Gd ops l gg) (hx:evl l x=some (.pointer (some ⟨b,0,none⟩))) (hy:evl l y=some (.agg vs)) (hc:vs.toList.all cellV=true) (ht:E.size t=some n) (hn:vs.size=n)
 (hg:h.get b=some (.cells cs e m)) (hm:m≠1) (hv:cs.length=n) (ha: ∀q,q∈lt->Again E ops l (h.put b (.cells vs.toList e m)) q)
 (q:WL E fn nt dr ops fin rest l (h.put b (.cells vs.toList e m)) R):
 WL E fn nt dr ops fin ((⟨none,.store t x y,ty,pos,af,gg⟩,lt)::rest) l h R:=by
 refine Q0D g rfl (fun _ ag=>?_) wn0 ha q;have e1:v0r vs.toList.length cs.length=true:=(Qy _ _).2 (by simp;omega);have e2:v0d m 1=false:=(QC _ _).2 hm;have e3:v0d vs.size n=true:=(QF _ _).2 hn;have hd:cs.drop vs.toList.length=[]:=by rw[List.drop_eq_nil_iff];simp;omega
 simp only[Z3,ag.ev hx,ag.ev hy,Q1V,ht,Value.cells,e3,hc,v1i,cond_true,Zp,hg,v0f,e1,e2,v1q,List.take_zero,v1b,v0f,hd,v0k]
end
noncomputable def Q57 (E:Env) (l:Kn) (h:Hp):List ResultVar->Option (List Value)
 | []=>some []
 | .tmp t::r=>(match lk l t,Q57 E l h r with
   |some v,some vs=>some (v::vs)
   |_,_=>none)
 | .cell a t::r=>(match lk l a with
   | some (.pointer (some p))=>(match JL E t p h,Q57 E l h r with
     |some v,some vs=>some (v::vs)
     |_,_=>none)
   |_=>none)
theorem Q3L {E:Env} {l:Kn} {tm:Tr Value} {h:Hp} (a:Ag tm l): ∀(rs:List ResultVar) (vs:List Value),Q57 E l h rs=some vs->Zf E tm h rs=some vs
 | [],_,e=>e
 | .tmp t::r,vs,e=>by
   simp only[Q57]at e
   split at e
   · rename_i v ws h1 h2;cases e;simp only[Zf,Q3L a r _ h2,a.ev (o:=.tmp t) h1]
   cases e
 | .cell c t::r,vs,e=>by
   simp only[Q57]at e
   split at e
   · rename_i p h1
     split at e
     · rename_i v ws h2 h3;cases e;simp only[Zf,a.ev (o:=.tmp c) h1,h2,Q3L a r _ h3]
     cases e
   cases e
theorem YX {E:Env} {f:FuncId} {args:List Value} {h:Hp} {Q:Value->Hp->Prop} {fu:Func} {c:Code} (hf:E.fn f=some fu) (hb:fu.body=some c)
 (q:W E f (args.length+(fu.ntmps -args.length)) c (Q2V args 0) h fun o l h=>(o=.ret\/o=.next)/\ ∃vs,Q57 E l h fu.results.toList=some vs/\Q (oneOf vs) h) (hn:Q40 c=true:=by kernel_rfl):C E f args h Q:=by
 have ag:Ag (Q0w args 0 .leaf) (Q2V args 0):=fun t v e=>Q0x args 0 .leaf t v (by rw[if_neg (by omega)];exact e);obtain⟨o,l',h',gK,ds,⟨ho,vs,h1,h2⟩,a',n',d',r⟩:=q _ ag;have j8:=n' (by simp[Q2L,hn]);subst j8
 exact⟨_,h',h2,d'.1,fu,gK,⟨f,args.length+(fu.ntmps -args.length),Q0w args 0 .leaf,[.code c],[],.run,.normal,none⟩,vs,hf,by simp only[Yu,hf,hb],Q3L a' _ _ h1,rfl,
  fun kd cs=>Q9R ho (r [] [] kd none cs (.inr rfl))⟩
section
variable {E:Env} {l:Kn} {h:Hp} {r:List ResultVar} {vs:List Value} {v:Value} {a:Nat} {t:TypeId}
theorem Yw (h1:lk l a=some v) (h2:Q57 E l h r=some vs):Q57 E l h (.tmp a::r)=some (v::vs):=by simp only[Q57,h1,h2]
theorem Zr {b n:Nat} {cs:List Value} {e:TypeId} {m:Nat} (h1:lk l a=some (.pointer (some ⟨b,0,none⟩))) (hc:isA E t=true) (hn:E.size t=some n) (hg:h.get b=some (.cells cs e m)) (hl:cs.length=n)
 (h2:Q57 E l h r=some vs):Q57 E l h (.cell a t::r)=some (.agg cs.toArray::vs):=by
 have:=Q2k (o:=0) hc hn hg (by omega);simp only[v0R,v1A (Nat.le_of_eq hl)]at this;simp only[Q57,h1,this,h2]
end
theorem QeH {E:Env} {fn:FuncId} {nt:Nat} {l:Kn} {h:Hp} {dr:Bool} {ops:Array Oper} {fin its:List (Oper×List Oper)} {R:Kn->Hp->Prop} (P:Hp->Prop) (p:P h) (q: ∀h,P h->WL E fn nt dr ops fin its l h R):WL E fn nt dr ops fin its l h R:=q h p
theorem w_at {E:Env} {fn:FuncId} {nt:Nat} {l:Kn} {h:Hp} {c:Code} {Q:Out->Kn->Hp->Prop} (P:Hp->Prop) (p:P h) (q: ∀h,P h->W E fn nt c l h Q):W E fn nt c l h Q:=q h p
theorem Ext.of {h h1 h2:Hp} {cs:List Nat} (g:Ext h h1) (k:ExtB cs h1 h2) (d: ∀i,i∈cs->h.n<=i):Ext h h2:=
 ⟨v0p g.n k.n,fun i hi=>(k.get i (v0u hi g.n) fun hc=>absurd (d i hc) (by omega)).trans (g.get i hi)⟩
def Cut (P:Kn->Hp->Prop) (Q:Out->Kn->Hp->Prop):Out->Kn->Hp->Prop
 | .next,l,h=> ∃l',Sub l' l/\P l' h
 | .ret,l,h=>Q .ret l h
 | .exit i,l,h=>Q (.exit i) l h
theorem w_cut {E:Env} {fn:FuncId} {nt:Nat} {l:Kn} {h:Hp} {a b:Code} {Q:Out->Kn->Hp->Prop} (P:Kn->Hp->Prop) (q:W E fn nt a l h (Cut P Q)) (q2: ∀l h,P l h->W E fn nt b l h Q):W E fn nt (.seq a b) l h Q:=
 Q5 (T.mono q fun o l h hh=>by
  cases o with
  | next=>
    obtain⟨l',s,p⟩:=hh;exact Q1N l' s (q2 l' h p)
  |ret=>exact hh
  |exit i=>exact hh)
section
variable {E:Env} {fn:FuncId} {nt:Nat} {l:Kn} {h:Hp} {dr:Bool} {ops:Array Oper} {fin rest:List (Oper×List Oper)} {R:Kn->Hp->Prop} {lt:List Oper} {d:Nat} {ty t:TypeId} {pos:String} {af:Array Edge} {gg:Option (Nat×Bool)} {x:Operand} {v:Value}
theorem Qfl {kt et:TypeId} (g:Gd ops l gg) (hd:v0a d nt=true) (hx:evl l x=some v) (hr:E.und t=some (.map kt et))
 (q:WL E fn nt dr ops fin rest ((d,.iface t v)::l) h R):WL E fn nt dr ops fin ((⟨some d,.makeInterface t x,ty,pos,af,gg⟩,lt)::rest) l h R:=
 QE g rfl (fun _ ag=>by simp only[QQ,ag.ev hx,hr]) (wn hd) q
theorem QcY {a:TypeId} {kt et:TypeId} (g:Gd ops l gg) (hd:v0a d nt=true) (hx:evl l x=some (.iface a v)) (ha:E.und a=some (.map kt et)) (q:WL E fn nt dr ops fin rest ((d,v)::l) h R):
 WL E fn nt dr ops fin ((⟨some d,.typeAssert x t a false,ty,pos,af,gg⟩,lt)::rest) l h R:=
 QE g rfl (fun _ ag=>by simp only[QQ,ag.ev hx,Ks,ha,v0N,cond_true,cond_false]) (wn hd) q
theorem Qfn {f:FuncId} {r:Nat} {es:List MapEntry} {cl:Nat} {u:TypeId} {as:Array TypeId} (g:Gd ops l gg) (hd:v0a d nt=true) (he:E.ext f=true) (hx:evl l x=some (.iface u (.map (some r)))) (hg:h.get r=some (.map es cl))
 (cI: ∀q,q∈lt->Again E ops ((d,.iface u (.map (some h.n)))::l) (h.alloc (.map es cl)) q) (q:WL E fn nt dr ops fin rest ((d,.iface u (.map (some h.n)))::l) (h.alloc (.map es cl)) R):
 WL E fn nt dr ops fin ((⟨some d,.call ⟨.value (.func f),#[x],as⟩,ty,pos,af,gg⟩,lt)::rest) l h R:=
 Q1z g rfl (fun tm ag=>by
  have:ev tm (.func f)=.func (.func f) #[] #[]:=rfl
  simp[Z3,ZK,ZA,YN,he,ag.ev hx,Q3t,hg,this]) (wn hd) cI q
end
theorem JG {E:Env} {fn:FuncId} {nt:Nat} {l:Kn} {h:Hp} {dr:Bool} {ops:Array Oper} {fin rest:List (Oper×List Oper)} {R:Kn->Hp->Prop} {lt:List Oper} {d:Nat} {ty:TypeId} {pos:String} {af:Array Edge} {gg:Option (Nat×Bool)} {x:Operand} {v:Value} {f:FuncId}
 (g:Gd ops l gg) (hd:v0a d nt=true) (hx:evl l x=some v) (q:WL E fn nt dr ops fin rest ((d,.func (.func f) #[] #[v])::l) h R):
 WL E fn nt dr ops fin ((⟨some d,.makeFunc (.func f) #[] #[x],ty,pos,af,gg⟩,lt)::rest) l h R:=
 QE g rfl (fun _ ag=>by simp[QQ,ag.ev hx]) (wn hd) q
structure ElN (E:Env) (t e z by':Nat):Prop where
 und:E.und t=some (.slice e)
 size:E.size e=some (z+1)
 bytes:E.bytes e=some (by'+1)
 zero: ∃zv,E.zero e=some zv/\zv.cells.size=z+1
def SlN (e:TypeId) (z:Nat) (h:Hp) (s:Value) (cs:List Value) (n:Nat) (bs:List Nat):Prop:=
 (s=.slice none 0 0/\cs=[]/\n=0/\bs=[])\/ ∃b m,s=.slice (some ⟨b,0,none⟩) n n/\h.get b=some (.cells cs e m)/\(m=0\/m=z+3)/\b <h.n/\bs=[b]/\cs.length=n*(z+1)
theorem SlN.lt {e:TypeId} {z:Nat} {h:Hp} {s:Value} {cs:List Value} {n:Nat} {bs:List Nat} (x:SlN e z h s cs n bs): ∀i,i∈bs->i <h.n:=by
 rcases x with⟨_,_,_,rfl⟩| ⟨b,m,h1,h2,h3,h4,rfl,_⟩<;>simp
 exact h4
theorem SlN.nodup {e:TypeId} {z:Nat} {h:Hp} {s:Value} {cs:List Value} {n:Nat} {bs:List Nat} (x:SlN e z h s cs n bs):bs.Nodup:=by
 rcases x with⟨_,_,_,rfl⟩| ⟨_,_,_,_,_,_,rfl,_⟩<;>simp
theorem ElN.growX {E:Env} {t e z by':Nat} (x:ElN E t e z by') (h:Hp) (n:Nat) (old xs:List Value) (hn:n*(by'+1)<=1099511627776):
 growX E h e (z+1) (by'+1) n old xs=some (.slice (some ⟨h.n,0,none⟩) n n,h.alloc (.cells (old++xs) e (z+3))):=by
 obtain⟨zv,hz,hs⟩:=x.zero;have:v0r (n*(by'+1)) (2^40)=true:=(Qy _ _).2 (by omega);simp only[Go.X.growX,hz,hs,this,v0N,Bool.true_or,v1i,cond_true]
theorem ElN.growX2 {E:Env} {t e z by':Nat} (x:ElN E t e z by') (h:Hp) (n:Nat) (old xs:List Value) (hn:2*(n*(by'+1))+192*(by'+1)<=281474976710656):
 Go.X.growX E h e (z+1) (by'+1) n old xs=some (.slice (some ⟨h.n,0,none⟩) n n,h.alloc (.cells (old++xs) e (z+3))):=by
 obtain⟨zv,hz,hs⟩:=x.zero;have:v0r (2*(n*(by'+1))+192*(by'+1)) (2^48)=true:=(Qy _ _).2 (by omega);simp only[Go.X.growX,hz,hs,this,v0N,Bool.or_true,v1i,cond_true]
theorem Qgs {E:Env} {h:Hp} {t e z by':Nat} {s:Value} {cs xs:List Value} {n q m':Nat} {bs:List Nat} (x:ElN E t e z by') (hs:SlN e z h s cs n bs) (hq:h.get q=some (.cells xs e m')) (hx:xs.length=z+1) (hc:xs.all cellV=true)
 (hn:(n+1)*(by'+1)<=1099511627776):
 ∃v' h',Zh E h t t s (.slice (some ⟨q,0,none⟩) 1 1)=some (v',h')/\SlN e z h' v' (cs++xs) (n+1) [h.n]/\ExtB bs h h':=by
 have cw:Jv h (z+1) 1 (.slice (some ⟨q,0,none⟩) 1 1)=some xs:=by
  have e1:v0r (0+1*(z+1)) xs.length=true:=(Qy _ _).2 (by omega);have e2:v0r 1 1=true:=rfl;have e3:v0d 1 0=false:=rfl;simp only[Jv,e2,e3,cond_true,cond_false,rowOf,hq,e1,v0R];rw[v1A (by omega)]
 have e3:v0d 1 0=false:=rfl;rcases hs with⟨rfl,rfl,rfl,rfl⟩| ⟨b,m,rfl,hb,hm,aj,rfl,hl⟩
 · refine⟨_,_,?_,.inr ⟨h.n,z+3,rfl,Hp.get_alloc_self _ _,.inr rfl,by rw[Hp.n_alloc];omega,rfl,by simp[hx]⟩,(Ext.alloc h _).b _⟩;simp only[Zh,x.und,KU,x.size,x.bytes,cw,e3,cond_false];exact x.growX h 1 [] xs (by omega)
 have e1:v0r (n+1) n=false:=by
  cases hc:v0r (n+1) n with
  |false=>rfl
  |true=>have:=(Qy _ _).1 hc;omega
 have e2:v0r (0+n*(z+1)) cs.length=true:=(Qy _ _).2 (by omega)
 have ao:rowOf h ⟨b,0,none⟩ (n*(z+1))=some cs:=by
  simp only[rowOf,hb,e2,cond_true,v0R];rw[v1A (by omega)]
 have aS:(cs++xs).length=(n+1)*(z+1):=by rw[List.length_append,hl,hx,Nat.add_mul];omega
 rcases hm with rfl|rfl
 · refine⟨_,_,?_,.inr ⟨h.n,z+3,rfl,Hp.get_alloc_self _ _,.inr rfl,by rw[Hp.n_alloc];omega,rfl,aS⟩,(Ext.alloc h _).b _⟩;simp only[Zh,x.und,KU,x.size,x.bytes,cw,e3,cond_false,e1,ao,hb,hc,cond_true];exact x.growX h (n+1) cs xs hn
 refine⟨.slice (some ⟨h.n,0,none⟩) (n+1) (n+1),(h.put b .dead).alloc (.cells (cs++xs) e (z+3)),?_,.inr ⟨h.n,z+3,rfl,?_,.inr rfl,by rw[Hp.n_alloc,Hp.n_put];omega,rfl,aS⟩,(ExtB.put h b .dead).trans ((Ext.alloc _ _).b _)⟩
 · simp only[Zh,x.und,KU,x.size,x.bytes,cw,e3,cond_false,e1,ao,hb,hc,cond_true];have:=x.growX (h.put b .dead) (n+1) cs xs hn;rw[Hp.n_put]at this;simpa[v0N]using this
 rw[Hp.get_alloc,Hp.n_put,if_pos rfl]
noncomputable def QdI:List Nat->Hp->Hp
 | [],h=>h
 |b::r,h=>QdI r (h.put b (.deferred none))
theorem QbP: ∀(ds:List Nat) (h:Hp),(QdI ds h).n=h.n
 | [],_=>rfl
 |b::r,h=>by rw[QdI,QbP r,Hp.n_put]
theorem Q4x: ∀(ds:List Nat) (h:Hp) (i:Nat),i∉ds->(QdI ds h).get i=h.get i
 | [],_,_,_=>rfl
 | b::r,h,i,hi=>by
   rw[QdI,Q4x r _ i (fun m=>hi (v0E _ m)),Hp.get_put,if_neg (fun e=>hi (by simp[e]))]
def Co (h0 h h':Hp):Prop:=h'.n=h.n/\ ∀b,(b <h0.n\/ ∀d,h.get b≠some (.deferred d))->h'.get b=h.get b
theorem Co.cells {h0 h h':Hp} (x:Co h0 h h') {b:Nat} {c:List Value} {e:TypeId} {m:Nat} (g:h.get b=some (.cells c e m)):h'.get b=some (.cells c e m):=by
 rw[x.2 b (.inr fun d hd=>by rw[g]at hd;cases hd)];exact g
theorem Co.extB {h0 h h':Hp} {bs:List Nat} (x:Co h0 h h') (g:ExtB bs h0 h):ExtB bs h0 h':=
 ⟨by rw[x.1];exact g.n,fun i hi hb=>(x.2 i (.inl hi)).trans (g.get i hi hb)⟩
theorem Q8f {E:Env} {f:FuncId} {nt:Nat} {tm:Tr Value} {todo:List It} {kd:CallKind} {cs:List Fr}: ∀(ds:List Nat) (h:Hp),ds.Nodup->(∀b,b∈ds->h.get b=some (.deferred (some [])))->
 Runs E ⟨⟨f,nt,tm,todo,marks ds,.returning,kd,none⟩,cs,h⟩ ⟨⟨f,nt,tm,todo,[],.returning,kd,none⟩,cs,QdI ds h⟩
 | [],h,_,_=>.refl _ _
 | b::r,h,hn,hd=>by
   refine .step (b:=⟨⟨f,nt,tm,todo,marks r,.returning,kd,none⟩,cs,h.put b (.deferred none)⟩) ?_ (Q8f r _ (v0W.1 hn).2 fun i hi=>?_)
   · simp only[stepX,marks,v0G,Q0E,hd b (by simp),v1b]
   rw[Hp.get_put,if_neg (fun(e:b=i)=>(v0W.1 hn).1 (e▸hi))];exact hd i (v0E _ hi)
theorem Q7y {h h':Hp} (g: ∀b c e m,h.get b=some (.cells c e m)->h'.get b=some (.cells c e m)) {a:Addr} {n:Nat} {l:List Value} (e:rowOf h a n=some l):rowOf h' a n=some l:=by
 unfold rowOf at e ⊢
 split at e
 · cases e
 split at e
 · rename_i hg;simp only[g _ _ _ _ hg];exact e
 cases e
theorem Qdb {E:Env} {h h':Hp} (g: ∀b c e m,h.get b=some (.cells c e m)->h'.get b=some (.cells c e m)) {a:Addr} {t:TypeId} {v:Value} (e:JL E t a h=some v):JL E t a h'=some v:=by
 unfold JL at e ⊢
 split at e
 · cases e
 split at e
 · split at e
   · cases e
   split at e
   · cases e
   rename_i hr;rw[Q7y g hr];exact e
 split at e
 · rename_i hr;rw[Q7y g hr];exact e
 cases e
theorem Q6A {E:Env} {h h':Hp} {l:Kn} (g: ∀b c e m,h.get b=some (.cells c e m)->h'.get b=some (.cells c e m)): ∀(rs:List ResultVar) (vs:List Value),Q57 E l h rs=some vs->Q57 E l h' rs=some vs
 | [],_,e=>e
 | .tmp t::r,vs,e=>by
   simp only[Q57]at e ⊢
   split at e
   · rename_i h1 h2;rw[h1,Q6A g r _ h2];exact e
   cases e
 | .cell c t::r,vs,e=>by
   simp only[Q57]at e ⊢
   split at e
   · rename_i p h1
     split at e
     · rename_i h2 h3;simp only[Qdb g h2,Q6A g r _ h3];exact e
     cases e
   cases e
theorem QdO {E:Env} {f:FuncId} {args:List Value} {h:Hp} {Q:Value->Hp->Prop} {fu:Func} {c:Code} (hf:E.fn f=some fu) (hb:fu.body=some c)
 (q:W E f (args.length+(fu.ntmps -args.length)) c (Q2V args 0) h fun o l h1=>(o=.ret\/o=.next)/\ ∃vs,Q57 E l h1 fu.results.toList=some vs/\ ∀h2,Co h h1 h2->Q (oneOf vs) h2):C E f args h Q:=by
 have ag:Ag (Q0w args 0 .leaf) (Q2V args 0):=fun t v e=>Q0x args 0 .leaf t v (by rw[if_neg (by omega)];exact e);obtain⟨o,l',h',gK,ds,⟨ho,vs,h1,h2⟩,a',n',d',r⟩:=q _ ag
 have fp:Co h h' (QdI ds h'):=⟨QbP _ _,fun b hb=>Q4x _ _ _ fun hm=>by
  obtain⟨p,_,q⟩:=d'.2.2 b hm;rcases hb with hb|hb
  · omega
  exact hb _ q⟩
 have gA:KD h (QdI ds h'):=⟨by rw[QbP];exact d'.1.1,fun b hb d e=>by
  rw[Q4x _ _ _ fun hm=>by have:=(d'.2.2 b hm).1;omega]
  exact d'.1.2 b hb d e⟩
 refine⟨_,QdI ds h',h2 _ fp,gA,fu,gK,⟨f,args.length+(fu.ntmps -args.length),Q0w args 0 .leaf,[.code c],[],.run,.normal,none⟩,vs,hf,by simp only[Yu,hf,hb],
  Q3L a' _ _ (Q6A (fun _ _ _ _=>fp.cells) _ _ h1),rfl,fun kd cs=>?_⟩
 have hr:=fun todo=>Q8f (E:=E) (f:=f) (nt:=args.length+(fu.ntmps -args.length)) (tm:=gK) (todo:=todo) (kd:=kd) (cs:=cs) ds h' d'.2.1 fun b hm=>(d'.2.2 b hm).2.2;have:=r [] [] kd none cs (.inr rfl);simp only[v0k]at this;rcases ho with rfl|rfl
 · obtain⟨k',r⟩:=this;exact⟨_,Runs.trans r (.step rfl (hr _))⟩
 exact⟨_,Runs.trans this (.step rfl (hr _))⟩
def Rc (h:Hp) (x:Nat) (fn:FuncId) (nt:Nat) (tm:Tr Value) (ps:Array Tmp) (a b:Code) (d:Nat) (st:LoopState) (p:Option Code):Prop:=h.get x=some (.loop ⟨st,p,fn,nt,tm,ps,a,b,d⟩)
def Aft (Q:Out->Kn->Hp->Prop) (l:Kn) (h:Hp):Option Code->Prop
 |none=>Q .next l h
 |some .ret=>Q .ret l h
 |some (.exit i)=>Q (.exit i) l h
 |_=>False
def pend:Option Code->List It->List It
 |none,k=>k
 |some c,k=>.code c::k
section
variable {E:Env} {fn:FuncId} {nt:Nat} {l:Kn} {h:Hp} {Q:Out->Kn->Hp->Prop}
theorem QeJ {f:Operand} {ps:Array Tmp} {a b:Code} {g:FuncId} {first cap:Array Value} (hf:evl l f=some (.func (.func g) first cap)) (hc:Q2D f=true) (ho:Q2H E g=true)
 (q: ∀tm,Ag tm l->C E g (first.toList++[.func (.yield (h.n+1)) #[] #[]]++cap.toList) ((h.alloc (.deferred (some []))).alloc (.loop ⟨.ready,none,fn,nt,tm,ps,a,b,h.n⟩)) fun _ h'=>
  ∃st p,Rc h' (h.n+1) fn nt tm ps a b h.n st p/\st≠ .busy/\Aft Q l (h'.put (h.n+1) (.loop ⟨.exhausted,p,fn,nt,tm,ps,a,b,h.n⟩)) p):W E fn nt (.rangeFunc f ps a b) l h Q:=by
 intro tm ag;obtain⟨v,h',⟨st,p,mZ,av,jG⟩,hk,eh,e1,r⟩:=(q tm ag).back
 have gA:KD h (h'.put (h.n+1) (.loop ⟨.exhausted,p,fn,nt,tm,ps,a,b,h.n⟩)):=
  ((KD.alloc h _).trans (KD.alloc _ _)).trans (hk.trans (KD.put _ fun d hd=>by rw[mZ]at hd;cases hd))
 have hn:h.n+2<=h'.n:=by have:=hk.1;rw[Hp.n_alloc,Hp.n_alloc]at this;omega
 have hd:Dd h (h'.put (h.n+1) (.loop ⟨.exhausted,p,fn,nt,tm,ps,a,b,h.n⟩)) [h.n]:=by
  refine⟨gA,by simp,fun i hi=>?_⟩;obtain rfl:=List.mem_singleton.1 hi;refine⟨v0b _,by rw[Hp.n_put];omega,?_⟩;rw[Hp.get_put,if_neg (by omega)];refine hk.2 h.n (by rw[Hp.n_alloc,Hp.n_alloc];omega) _ ?_;rw[Hp.get_alloc,if_neg (by rw[Hp.n_alloc];omega),Hp.get_alloc,if_pos rfl]
 simp only[Q2H,v0h,v0I,Option.isNone_iff_eq_none]at ho
 have oh: ∀hh,YN E hh g (first++ #[.func (.yield (h.n+1)) #[] #[]]++cap)=some (.enter g (first++ #[.func (.yield (h.n+1)) #[] #[]]++cap)):=fun hh=>by
  have hfn:=ho.2;simp only[YN,ho.1.1,cond_false]
  revert hfn
  cases E.fn g with
  |none=>intro hfn;cases hfn
  |some fn=>intro hfn;simp only at hfn;simp only[hfn,cond_true]
 have aB: ∀k df kd cs,Runs E ⟨⟨fn,nt,tm,.code (.rangeFunc f ps a b)::k,df,.run,kd,none⟩,cs,h⟩
  ⟨⟨fn,nt,tm,pend p k,marks [h.n]++df,.run,kd,none⟩,cs,h'.put (h.n+1) (.loop ⟨.exhausted,p,fn,nt,tm,ps,a,b,h.n⟩)⟩:=by
  intro k df kd cs;refine .step (b:=⟨eh,⟨fn,nt,tm,.inRangeFunc (h.n+1)::k,marks [h.n]++df,.run,kd,none⟩::cs,(h.alloc (.deferred (some []))).alloc (.loop ⟨.ready,none,fn,nt,tm,ps,a,b,h.n⟩)⟩) ?_ ?_
  · have h1:((h.alloc (.deferred (some []))).n)=h.n+1:=Hp.n_alloc _ _;simp only[stepX,Z0,Q5b,hc,cond_true,Q0N,ZK,ag.ev hf,ZA,h1];have:(first++(#[Operand.const (.func (.yield (h.n+1)) #[] #[])]:Array Operand).map (ev tm)++cap)=first++ #[.func (.yield (h.n+1)) #[] #[]]++cap:=by simp[Go.X.ev]
    rw[this,oh];have e2:(first++ #[Value.func (.yield (h.n+1)) #[] #[]]++cap).toList=first.toList++[.func (.yield (h.n+1)) #[] #[]]++cap.toList:=by simp
    simp only[e2,e1];rfl
  refine Runs.trans (r _ cs ⟨fn,nt,tm,.endRangeFunc (h.n+1)::k,marks [h.n]++df,.run,kd,none⟩ rfl) (.step ?_ (.refl _ _));have hl:Yo h' (h.n+1)=some ⟨st,p,fn,nt,tm,ps,a,b,h.n⟩:=by simp only[Yo,show h'.get (h.n+1)=_ from mZ]
  simp only[stepX,Z0,hl];cases st<;>first|exact absurd rfl av|(cases p<;>rfl)
 have dA:([It.code (.rangeFunc f ps a b)].all Q2L=true)->False:=fun e=>by simp[Q2L,Q40]at e
 cases p with
 |none=>exact⟨.next,l,_,tm,[h.n],jG,ag,fun e=>(dA e).elim,hd,fun k df kd ro cs aC=>by
  rcases aC with e|rfl
  · exact(dA e).elim
  exact aB k df kd cs⟩
 | some c=>
   cases c with
   |ret=>exact⟨.ret,l,_,tm,[h.n],jG,ag,fun e=>(dA e).elim,hd,fun k df kd ro cs aC=>by
    rcases aC with e|rfl
    · exact(dA e).elim
    exact⟨k,aB k df kd cs⟩⟩
   |exit i=>exact⟨.exit i,l,_,tm,[h.n],jG,ag,fun e=>(dA e).elim,hd,fun k df kd ro cs aC=>by
    rcases aC with e|rfl
    · exact(dA e).elim
    exact⟨k,rfl,aB k df kd cs⟩⟩
   |_=>exact jG.elim
end
theorem Qgu {Q:Out->Kn->Hp->Prop} {l:Kn} {h:Hp} {p:Option Code} {id:Nat} (hp:p=none\/p=some (.exit id)) (q:Q .next l h):Aft (Blk id Q) l h p:=by
 rcases hp with rfl|rfl
 · exact q
 exact Qo q
def Y (E:Env) (x:Nat) (args:List Value) (h:Hp) (Q:Value->Hp->Prop):Prop:=
 ∃v h',Q v h'/\KD h h'/\ ∀fr cs az,QX E fr v=some az-> ∀as:Array Value,as.toList=args-> ∃s,Yd E fr cs h (.round x as)=some s/\Runs E s ⟨az,cs,h'⟩
theorem Y.mono {E:Env} {x:Nat} {args:List Value} {h:Hp} {Q Q':Value->Hp->Prop} (c:Y E x args h Q) (hq: ∀v h',Q v h'->Q' v h'):Y E x args h Q':=by
 obtain⟨v,h',q,r⟩:=c;exact⟨v,h',hq _ _ q,r⟩
theorem Qfj {E:Env} {fn:FuncId} {nt:Nat} {l:Kn} {h:Hp} {dr:Bool} {ops:Array Oper} {fin rest:List (Oper×List Oper)} {R:Kn->Hp->Prop} {lt:List Oper} {d:Nat} {ty:TypeId} {pos:String} {af:Array Edge} {gg:Option (Nat×Bool)} {x:Operand}
 {n:Nat} {args:Array Operand} {as:Array TypeId} (vs:List Value) (g:Gd ops l gg) (hd:v0a d nt=true) (hf:evl l x=some (.func (.yield n) #[] #[])) (hv:args.toList.map (evl l)=vs.map some)
 (q:Y E n vs h fun v h'=>(∀q,q∈lt->Again E ops ((d,v)::l) h' q)/\WL E fn nt dr ops fin rest ((d,v)::l) h' R):
 WL E fn nt dr ops fin ((⟨some d,.call ⟨.value x,args,as⟩,ty,pos,af,gg⟩,lt)::rest) l h R:=by
 obtain⟨v,h',q,hk,r⟩:=q;refine Q2W g hk (fun tm fr cs az is k df kd ro a e jA=>?_) rfl (wn hd) q.1 q.2;have:Z3 E tm ⟨some d,.call ⟨.value x,args,as⟩,ty,pos,af,gg⟩ h=some (.round n (#[]++args.map (ev tm))):=by simp only[Z3,ZK,a.ev hf,ZA]
 rw[this];exact r fr cs az jA _ (by simp[Q4r a hv])
noncomputable def parK:List Nat->List Value->Kn->Kn
 |t::ts,v::vs,l=>parK ts vs ((t,v)::l)
 |_,_,l=>l
theorem Qaa (nt:Nat): ∀(ts:List Nat) (vs:List Value) (tm:Tr Value) (l:Kn),ts.all (fun t=>v0a t nt)=true->Ag tm l->Ag (JF nt ts vs tm) (parK ts vs l)
 | [],_,_,_,_,a=>a
 |_::_,[],_,_,_,a=>a
 | t::ts,v::vs,tm,l,h,a=>by
   simp only[v1n,v0h]at h;exact Qaa nt ts vs _ _ h.2 (a.put nt t v h.1)
def RdR (x:Nat) (fn:FuncId) (nt:Nat) (tm:Tr Value) (ps:Array Tmp) (a b:Code) (d:Nat) (Q:Value->Hp->Prop) (o:Out) (h:Hp):Prop:=
 ∃ st p,Rc h x fn nt tm ps a b d st p/\match o with
   | .next=>Q (.bool true) (h.put x (.loop ⟨.ready,none,fn,nt,tm,ps,a,b,d⟩))
   | .ret=>Q (.bool false) (h.put x (.loop ⟨.done,some .ret,fn,nt,tm,ps,a,b,d⟩))
   | .exit i=>Q (.bool false) (h.put x (.loop ⟨.done,some (.exit i),fn,nt,tm,ps,a,b,d⟩))
def Rb (E:Env) (x:Nat) (fn:FuncId) (nt:Nat) (tm:Tr Value) (ps:Array Tmp) (a b:Code) (d:Nat) (Q:Value->Hp->Prop) (o:Out) (l:Kn) (h:Hp):Prop:=
 match o with
 | .next=> ∃p,Rc h x fn nt tm ps a b d .ready p/\W E fn nt b l (h.put x (.loop ⟨.busy,p,fn,nt,tm,ps,a,b,d⟩)) fun o _ h=>RdR x fn nt tm ps a b d Q o h
 |_=>False
theorem QeE {E:Env} {x:Nat} {fn:FuncId} {nt:Nat} {tm:Tr Value} {ps:Array Tmp} {a b:Code} {d:Nat} {p:Option Code} {args:List Value} {h:Hp} {l:Kn} {Q:Value->Hp->Prop}
 (hr:Rc h x fn nt tm ps a b d .ready p) (hl:v0d args.length ps.toList.length=true) (ag:Ag tm l) (hp:ps.toList.all (fun t=>v0a t nt)=true) (fj:Q40 a=true) (dB:Q40 b=true)
 (q:W E fn nt a (parK ps.toList args l) h fun o l h=>Rb E x fn nt tm ps a b d Q o l h):Y E x args h Q:=by
 obtain⟨o,l1,h1,tm1,oF,q1,a1,n1,d1,r1⟩:=q _ (Qaa nt ps.toList args tm l hp ag);have e1:=n1 (by simp[Q2L,fj]);subst e1;cases o with
 |ret=>exact q1.elim
 |exit i=>exact q1.elim
 | next=>
   obtain⟨p1,kS,q1⟩:=q1;obtain⟨o,l2,h2,bu,ds2,q2,a2,n2,d2,r2⟩:=q1 tm1 a1;have e2:=n2 (by simp[Q2L,dB]);subst e2;obtain⟨st,p2,bz,q2⟩:=q2;have hk:KD h h2:=d1.1.trans ((KD.put _ fun d hd=>by rw[show h1.get x=_ from kS]at hd;cases hd).trans d2.1)
   have start: ∀fr cs (as:Array Value),as.toList=args->Yd E fr cs h (.round x as)=some ⟨⟨fn,nt,JF nt ps.toList args tm,[.code a,.beginRound,.code b],[],.run,.normal,some x⟩,fr::cs,h⟩:=by
    intro fr cs as has;have ak:Yo h x=some ⟨.ready,p,fn,nt,tm,ps,a,b,d⟩:=by simp only[Yo,show h.get x=_ from hr]
    simp only[Yd,ak,has,hl,cond_true]
   have mid: ∀fr cs,Runs E ⟨⟨fn,nt,JF nt ps.toList args tm,[.code a,.beginRound,.code b],[],.run,.normal,some x⟩,fr::cs,h⟩
    ⟨⟨fn,nt,tm1,[.code b],[],.run,.normal,some x⟩,fr::cs,h1.put x (.loop ⟨.busy,p1,fn,nt,tm,ps,a,b,d⟩)⟩:=by
    intro fr cs;refine Runs.trans (r1 [.beginRound,.code b] [] .normal (some x) (fr::cs) (.inl (by simp[Q2L,fj]))) (.step ?_ (.refl _ _));have ak:Yo h1 x=some ⟨.ready,p1,fn,nt,tm,ps,a,b,d⟩:=by simp only[Yo,show h1.get x=_ from kS]
    simp only[stepX,Z0,ak];rfl
   have ak:Yo h2 x=some ⟨st,p2,fn,nt,tm,ps,a,b,d⟩:=by simp only[Yo,show h2.get x=_ from bz]
   have hkp: ∀o,KD h (h2.put x (.loop o)):=fun o=>hk.trans (KD.put _ fun d hd=>by rw[show h2.get x=_ from bz]at hd;cases hd);cases o with
   | next=>
     refine⟨_,_,q2,hkp _,fun fr cs az hf as has=>⟨_,start fr cs as has,(mid fr cs).trans (Runs.trans (r2 [] [] .normal (some x) (fr::cs) (.inl (by simp[Q2L,dB]))) (.step ?_ (.refl _ _)))⟩⟩;have dp:QX E fr (YO true)=some az:=hf;simp only[stepX,Z0,Ju,Kp,ak,Q6J,cond_true,YG,dp]
   | ret=>
     refine⟨_,_,q2,hkp _,fun fr cs az hf as has=>⟨_,start fr cs as has,?_⟩⟩;obtain⟨k',r2⟩:=r2 [] [] .normal (some x) (fr::cs) (.inl (by simp[Q2L,dB]));refine(mid fr cs).trans (Runs.trans r2 (.step ?_ (.refl _ _)));have dp:QX E fr (YO false)=some az:=hf;simp only[stepX,Z0,Ju,Kp,ak,Q6J,cond_false,YG,dp]
   | exit i=>
     refine⟨_,_,q2,hkp _,fun fr cs az hf as has=>⟨_,start fr cs as has,?_⟩⟩;obtain⟨k',e2,r2⟩:=r2 [] [] .normal (some x) (fr::cs) (.inl (by simp[Q2L,dB]));refine(mid fr cs).trans (Runs.trans r2 (.step ?_ (.refl _ _)));have dp:QX E fr (YO false)=some az:=hf;have e3:ZN i k'=none:=by rw[e2];rfl
     simp only[stepX,Z0,e3,Ju,Kp,ak,Q6J,cond_false,YG,dp]
def RdA (x:Nat) (rc:LoopState->Option Code->AObj) (Q:Value->Hp->Prop) (o:Out) (h:Hp):Prop:=
 ∃ st p,h.get x=some (rc st p)/\match o with
   | .next=>Q (.bool true) (h.put x (rc .ready none))
   | .ret=>Q (.bool false) (h.put x (rc .done (some .ret)))
   | .exit i=>Q (.bool false) (h.put x (rc .done (some (.exit i))))
def RbA (E:Env) (fn:FuncId) (nt:Nat) (b:Code) (x:Nat) (rc:LoopState->Option Code->AObj) (Q:Value->Hp->Prop) (o:Out) (l:Kn) (h:Hp):Prop:=
 match o with
 | .next=> ∃p,h.get x=some (rc .ready p)/\W E fn nt b l (h.put x (rc .busy p)) fun o _ h=>RdA x rc Q o h
 |_=>False
structure RangeAt (E:Env) (fn:FuncId) (nt:Nat) (l:Kn) (ps:Array Tmp) (a b:Code) (x:Nat) (rc:LoopState->Option Code->AObj):Prop where
 round: ∀ {args:List Value} {h:Hp} {Q:Value->Hp->Prop} {p:Option Code},h.get x=some (rc .ready p)->v0d args.length ps.toList.length=true->
  W E fn nt a (parK ps.toList args l) h (fun o l h=>RbA E fn nt b x rc Q o l h)->Y E x args h Q
theorem Qcn {E:Env} {fn:FuncId} {nt:Nat} {l:Kn} {h:Hp} {Q:Out->Kn->Hp->Prop} {f:Operand} {ps:Array Tmp} {a b:Code} {g:FuncId} {first cap:Array Value} (hf:evl l f=some (.func (.func g) first cap)) (hc:Q2D f=true) (ho:Q2H E g=true)
 (hp:ps.toList.all (fun t=>v0a t nt)=true) (fj:Q40 a=true) (dB:Q40 b=true)
 (q: ∀rc,RangeAt E fn nt l ps a b (h.n+1) rc-> ∀h0,Ext h h0->h0.n=h.n+2->h0.get (h.n+1)=some (rc .ready none)->C E g (first.toList++[.func (.yield (h.n+1)) #[] #[]]++cap.toList) h0 fun _ h'=>
  ∃st p,h'.get (h.n+1)=some (rc st p)/\st≠ .busy/\ ∀h2,ExtB [h.n+1] h' h2->h2.n=h'.n->Aft Q l h2 p):W E fn nt (.rangeFunc f ps a b) l h Q:=by
 refine QeJ hf hc ho fun tm ag=>?_
 refine C.mono (q (fun st p=>.loop ⟨st,p,fn,nt,tm,ps,a,b,h.n⟩) ⟨fun {args h1 Q1 p} hr hl hw=>?_⟩ _ ((Ext.alloc _ _).trans (Ext.alloc _ _)) (by rw[Hp.n_alloc,Hp.n_alloc]) (by
  rw[Hp.get_alloc,if_pos (Hp.n_alloc _ _)])) ?_
 · refine QeE (p:=p) (d:=h.n) hr hl ag hp fj dB (T.mono hw fun o l1 h1 q=>?_);cases o with
   | next=>
     obtain⟨p,e,w⟩:=q;refine⟨p,e,T.mono w fun o l2 h2 q=>?_⟩;obtain⟨st,p2,e2,q2⟩:=q;exact⟨st,p2,e2,by cases o<;>exact q2⟩
   |ret=>exact q.elim
   |exit i=>exact q.elim
 rintro v h' ⟨st,p,e,hs,hq⟩;exact⟨st,p,e,hs,hq _ (ExtB.put _ _ _) (Hp.n_put _ _ _)⟩
inductive Rd (P:Program) (h:Hp):TypeId->List Value->Prop
 |bool {t} (ht:P.underlying t=some .bool) (b:Bool):Rd P h t [.bool b]
 |int {t k} (ht:P.underlying t=some (.int k)) (n:Int) (hn:k.min<=n/\n<=k.max):Rd P h t [.int k n]
 |string {t} (ht:P.underlying t=some .string) (s:ByteArray) (hs:s.size<=maxLen):Rd P h t [.string s]
 |struct {t fs cs} (ht:P.underlying t=some (.struct fs)) (hl:cs.length=P.cellsOf t) (hf: ∀(i:Nat) (f:Field),fs[i]?=some f->Rd P h f.type ((cs.drop f.offset).take (P.cellsOf f.type))):Rd P h t cs
 |array {t n e cs} (ht:P.underlying t=some (.array n e)) (hl:cs.length=P.cellsOf t) (hf: ∀i,i <n->Rd P h e ((cs.drop (i*P.cellsOf e)).take (P.cellsOf e))):Rd P h t cs
 |nils {t e} (ht:P.underlying t=some (.slice e)):Rd P h t [.slice none 0 0]
 |slice0 {t e} (ht:P.underlying t=some (.slice e)) (a:Addr) (n c:Nat) (hn:n=0\/P.cellsOf e=0) (hm:n<=c/\c<=maxLen) (hb:a.block <h.n):Rd P h t [.slice (some a) n c]
 |slice {t e} (ht:P.underlying t=some (.slice e)) (b o n c:Nat) (cs:List Value) (u:TypeId) (hm:n<=c/\c<=maxLen) (hb:b <h.n) (hn:0 <n) (hg:h.get b=some (.cells cs u 1)) (hl:o+n*P.cellsOf e<=cs.length)
  (hr: ∀i,i <n->Rd P h e ((cs.drop (o+i*P.cellsOf e)).take (P.cellsOf e))):Rd P h t [.slice (some ⟨b,o,none⟩) n c]
 |other {t cs d} (ht:P.underlying t=some d) (hd:(match d with| .bool=>false| .int _=>false| .string=>false| .struct _=>false| .array _ _=>false| .slice _=>false|_=>true)=true):Rd P h t cs
section
variable {P:Program} {h:Hp} {t:TypeId} {cs:List Value}
theorem Rd.inv_bool (ht:P.underlying t=some .bool) (x:Rd P h t cs): ∃b,cs=[.bool b]:=by
 cases x with
 |bool _ b=>exact⟨b,rfl⟩
 |other aR hd=>rw[ht]at aR;cases aR;cases hd
 |_=>rename_i aR;first|(rw[ht]at aR;cases aR)|(simp_all)
theorem Rd.inv_int {k:IntKind} (ht:P.underlying t=some (.int k)) (x:Rd P h t cs): ∃n,cs=[.int k n]/\k.min<=n/\n<=k.max:=by
 cases x with
 |int aR n hn=>rw[ht]at aR;cases aR;exact⟨n,rfl,hn⟩
 |other aR hd=>rw[ht]at aR;cases aR;cases hd
 |_=>simp_all
theorem Rd.inv_string (ht:P.underlying t=some .string) (x:Rd P h t cs): ∃s,cs=[.string s]/\s.size<=maxLen:=by
 cases x with
 |string aR s hs=>exact⟨s,rfl,hs⟩
 |other aR hd=>rw[ht]at aR;cases aR;cases hd
 |_=>simp_all
theorem Rd.inv_struct {fs:Array Field} (ht:P.underlying t=some (.struct fs)) (x:Rd P h t cs):cs.length=P.cellsOf t/\ ∀(i:Nat) (f:Field),fs[i]?=some f->Rd P h f.type ((cs.drop f.offset).take (P.cellsOf f.type)):=by
 cases x with
 |struct aR hl hf=>rw[ht]at aR;cases aR;exact⟨hl,hf⟩
 |other aR hd=>rw[ht]at aR;cases aR;cases hd
 |_=>simp_all
theorem Rd.inv_array {n:Nat} {e:TypeId} (ht:P.underlying t=some (.array n e)) (x:Rd P h t cs):cs.length=P.cellsOf t/\ ∀i,i <n->Rd P h e ((cs.drop (i*P.cellsOf e)).take (P.cellsOf e)):=by
 cases x with
 |array aR hl hf=>rw[ht]at aR;cases aR;exact⟨hl,hf⟩
 |other aR hd=>rw[ht]at aR;cases aR;cases hd
 |_=>simp_all
theorem Rd.inv_slice {e:TypeId} (ht:P.underlying t=some (.slice e)) (hz:0 <P.cellsOf e) (x:Rd P h t cs):
 ∃ a n c,cs=[.slice a n c]/\n<=c/\c<=maxLen/\(a=none->n=0/\c=0)/\(∀a',a=some a'->a'.block <h.n)/\
   (n=0\/ ∃b o xs u,a=some ⟨b,o,none⟩/\b <h.n/\h.get b=some (.cells xs u 1)/\o+n*P.cellsOf e<=xs.length/\ ∀i,i <n->Rd P h e ((xs.drop (o+i*P.cellsOf e)).take (P.cellsOf e))):=by
 cases x with
 |nils aR=>exact⟨none,0,0,rfl,v0b _,Nat.zero_le _,fun _=>⟨rfl,rfl⟩,fun _ e=>(by cases e),.inl rfl⟩
 | slice0 aR a n c hn hm hb=>
   rw[ht]at aR;cases aR;exact⟨some a,n,c,rfl,hm.1,hm.2,fun e=>(by cases e),fun _ e=>(by cases e;exact hb),.inl (by omega)⟩
 | slice aR b o n c xs u hm hb hn hg hl hr=>
   rw[ht]at aR;cases aR;exact⟨_,n,c,rfl,hm.1,hm.2,fun e=>(by cases e),fun _ e=>(by cases e;exact hb),.inr ⟨b,o,xs,u,rfl,hb,hg,hl,hr⟩⟩
 |other aR hd=>rw[ht]at aR;cases aR;cases hd
 |_=>simp_all
end
section
variable {P:Program} {H:Type} {enc:TypeId×Value->H} {W:World}
theorem Kv {M:Mp} {v:Value} (h:VRel M v v):[v].map (JC M)=[v]:=by rw[v0G,v1h,Yj h]
theorem Kc: ∀(fuel:Nat) (t:TypeId) (cs:List Value) (x:DataW H×List MemPlace),(∀v,v∈cs->Q6C v<=Q3x W)->DataW.trod enc P W 0 (fun _=>true) true fuel t cs=some x->Rd P (Hp.all W) t (cs.map (JC (Mp.all W)))
 |0,_,_,_,_,h=>by simp[DataW.trod]at h
 | fuel+1,t,cs,x,hb,h=>by
   have hu: ∃d,P.underlying t=some d:=by
    cases hd:P.underlying t with
    |some d=>exact⟨d,rfl⟩
    |none=>unfold DataW.trod at h;rw[hd]at h;simp at h
   obtain⟨d,hd⟩:=hu;cases d with
   | bool=>
     obtain⟨b,rfl,_⟩:=DataW.trod_bool hd h;rw[Kv (.bool b)];exact .bool hd b
   | int k=>
     obtain⟨n,rfl,_,hw⟩:=DataW.trod_int hd h;rw[Kv (.int k n)];exact .int hd n (by simpa[Lit.wf]using hw)
   | string=>
     obtain⟨s,rfl,_,hs⟩:=DataW.trod_string hd h;rw[Kv (.string s)];exact .string hd s hs
   | struct fs=>
     obtain⟨xs,n,e,_,hl,fx,hf⟩:=DataW.trod_struct hd h;cases e;refine .struct hd (by rw[v0s];exact hl) fun i f hi=>?_;have aj:i <xs.length:=by rw[fx];exact(v0X.1 hi).1
     have h1:=hf i f hi;rw[v0c aj]at h1;rw[<-List.map_drop,<-List.map_take];exact Kc fuel _ _ _ (fun v hv=>hb v (v2v (v2h hv))) h1
   | array n e=>
     obtain⟨xs,m,e',_,hl,fx,hf⟩:=DataW.trod_array hd h;cases e';refine .array hd (by rw[v0s];exact hl) fun i hi=>?_;have h1:=hf i hi;rw[v0c (by omega)]at h1;rw[<-List.map_drop,<-List.map_take];exact Kc fuel _ _ _ (fun v hv=>hb v (v2v (v2h hv))) h1
   | slice e=>
     rcases DataW.trod_slice hd h with⟨rfl,_⟩| ⟨a,len,cap,elems,rest,n,en,rfl,_,_,hle,hm,hlen,hel,_,_⟩
     · rw[Kv (.nils 0 0)];exact .nils hd
     cases en;have cy:a.block <Q3x W:=by have:=hb _ (List.mem_singleton_self _);simp only[Q6C]at this;omega
     rw[Kv (Q1d a len cap cy)];by_cases h0:len=0\/P.cellsOf e=0
     · exact .slice0 hd a len cap h0 ⟨hle,hm⟩ cy
     have iS:0 <len:=by omega
     have hzp:0 <P.cellsOf e:=by omega
     have key: ∀i,i <len-> ∃cs',W.cells? 0 (a.add (i*P.cellsOf e)) (P.cellsOf e)=some cs'/\Rd P (Hp.all W) e (cs'.map (JC (Mp.all W))):=fun i hi=>by
      have h1:=hel i hi;rw[v0c (by omega)]at h1;cases hc:W.cells? 0 (a.add (i*P.cellsOf e)) (P.cellsOf e)with
      |none=>rw[hc]at h1;cases h1
      | some cs'=>
        rw[hc]at h1;obtain⟨_,aS,ke⟩:=World.cells?_some hc;refine⟨cs',rfl,Kc fuel e cs' _ (fun v hv=>?_) h1⟩;obtain⟨j,hj,rfl⟩:=List.mem_iff_getElem.1 hv;exact Q4P (a:=(a.add (i*P.cellsOf e)).add j) (by rw[ke j (by omega),v0c hj])
     have cell: ∀i j,i <len->j <P.cellsOf e-> ∃v,W.cell? ((a.add (i*P.cellsOf e)).add j)=some v:=fun i j hi hj=>by
      obtain⟨cs',hc,_⟩:=key i hi;obtain⟨_,aS,ke⟩:=World.cells?_some hc;exact⟨_,by rw[ke j hj,v0c (by omega)]⟩
     -- the block
     obtain⟨v0,jO⟩:=cell 0 0 iS hzp;have ea:(a.add (0*P.cellsOf e)).add 0=a:=by simp[Addr.add]
     rw[ea]at jO;obtain⟨b,o,sp⟩:=a;unfold World.cell? at jO
     split at jO
     · rename_i c u fr hx
       split at jO
       · cases jO
       rename_i hs;have hsp:sp=none:=by simpa using hs
       subst hsp;have hg:(Hp.all W).get b=some (.cells (c.toList.map (JC (Mp.all W))) u 1):=by rw[Hp.all_get,Jy,hx]
       have at': ∀i j,i <len->j <P.cellsOf e->W.cell? (((⟨b,o,none⟩:Addr).add (i*P.cellsOf e)).add j)=c.toList[o+i*P.cellsOf e+j]?:=fun i j _ _=>by
        rw[addr_add,addr_add];simp[World.cell?,hx]
       have cV:o+len*P.cellsOf e<=c.toList.length:=by
        obtain⟨v,hv⟩:=cell (len -1) (P.cellsOf e -1) (by omega) (by omega);rw[at' _ _ (by omega) (by omega)]at hv;have:=(v0z.1 hv).1
        have e1:len*P.cellsOf e=(len -1)*P.cellsOf e+P.cellsOf e:=by
         conv=>lhs;rw[show len=(len -1)+1 from by omega,Nat.add_mul,Nat.one_mul]
        omega
       refine .slice hd b o len cap _ u ⟨hle,hm⟩ cy iS hg (by rw[v0s];exact cV) fun i hi=>?_;obtain⟨cs',hc,hr⟩:=key i hi;obtain⟨_,aS,ke⟩:=World.cells?_some hc;rw[<-List.map_drop,<-List.map_take]
       have:(c.toList.drop (o+i*P.cellsOf e)).take (P.cellsOf e)=cs':=by
        apply v09;intro j;by_cases hj:j <P.cellsOf e
        · rw[List.getElem?_take_of_lt hj,v1l,<-at' i j hi hj,ke j hj]
        rw[v02 (by rw[List.length_take];omega),v02 (by omega)]
       rw[this];exact hr
     cases jO
   |_=>exact .other hd rfl
end
theorem Qf1 {α:Type} {n:Nat} {Q:Nat->α->Prop} (h: ∀i,i <n-> ∃x,Q i x): ∃xs:List α,xs.length=n/\ ∀i (hi:i <xs.length),Q i xs[i]:=by
 induction n with
 |zero=>exact⟨[],rfl,fun i hi=>by simp at hi⟩
 | succ n ih=>
   obtain⟨xs,hl,hq⟩:=ih fun i hi=>h i (by omega);obtain⟨x,hx⟩:=h n (by omega);refine⟨xs++[x],by simp[hl],fun i hi=>?_⟩;by_cases aj:i <xs.length
   · rw[List.getElem_append_left aj];exact hq i aj
   have:i=n:=by simp at hi;omega
   subst this;subst hl;simp;exact hx
theorem one_at {cs:List Value} {o:Nat} {u:Value} (h:(cs.drop o).take 1=[u]):cs[o]?=some u:=by
 have:=congrArg (fun l=>l[0]?) h;simpa[v1o,v1l]using this
section
variable {P:Program} {h:Hp} {s:TypeId} {fs:Array Field} {cs:List Value}
theorem Rd.fld (x:Rd P h s cs) (hs:P.underlying s=some (.struct fs)) (i o t:Nat) {f:Field} (hi:fs[i]?=some f) (hf:f.type=t/\f.offset=o):Rd P h t ((cs.drop o).take (P.cellsOf t)):=by
 have h1:=(x.inv_struct hs).2 i f hi;rwa[hf.1,hf.2]at h1
end
section
variable {E:Env} {fn:FuncId} {nt:Nat} {l:Kn} {h:Hp} {dr:Bool} {ops:Array Oper} {fin rest:List (Oper×List Oper)} {R:Kn->Hp->Prop} {lt:List Oper} {d:Nat} {ty t aM:TypeId} {pos:String} {af:Array Edge} {gg:Option (Nat×Bool)} {X Y:Operand}
end
section
variable {E:Env} {fn:FuncId} {nt:Nat} {l:Kn} {h:Hp} {Q:Out->Kn->Hp->Prop}
theorem QeL {n:Nat} (q:Q .next l h):W E fn nt (.label n) l h Q:=.step (is':=[]) (fun _tm _k _df _kd _ro _cs _=>rfl) (.done q)
theorem QeI {b:Code} (q:W E fn nt b l h Q):W E fn nt (.scope b) l h Q:=by
 intro tm a;obtain⟨o,l3,h3,cL,ds,q3,a3,n3,d3,r3⟩:=q tm a;refine⟨o,l3,h3,cL,ds,q3,a3,n3,d3,fun k df kd ro cs ho=>?_⟩;have:=r3 (.inScope b::k) df kd ro cs ho;cases o with
 |next=>exact .step rfl (Runs.trans this (.step rfl (.refl _ _)))
 |ret=>obtain⟨k',r⟩:=this;exact⟨k',.step rfl r⟩
 |exit i=>obtain⟨k',e,r⟩:=this;exact⟨k',e,.step rfl r⟩
end
open Go.Maps
def QfW (x:Int):List Int->List Int
 | []=>[x]
 |y::r=>cond (decide (x<=y)) (x::y::r) (y::QfW x r)
def Q1Y:List Int->List Int
 | []=>[]
 |x::r=>QfW x (Q1Y r)
theorem Q2o (x:Int): ∀l:List Int,(QfW x l).Perm (x::l)
 | []=>.refl _
 | y::r=>by
   rw[QfW];cases decide (x<=y)with
   |true=>exact .refl _
   |false=>exact((Q2o x r).cons y).trans (.swap x y r)
theorem J6: ∀l:List Int,(Q1Y l).Perm l
 | []=>.refl _
 |x::r=>(Q2o x (Q1Y r)).trans ((J6 r).cons x)
theorem Qb9 (x:Int): ∀l:List Int,l.Pairwise (· <= ·)->(QfW x l).Pairwise (· <= ·)
 | [],_=>by simp[QfW]
 | y ::r,h=>by
   rw[QfW];cases hd:decide (x<=y)with
   | true=>
     have hxy:x<=y:=of_decide_eq_true hd;refine v2m.2 ⟨fun z hz=>?_,h⟩;rcases v0w.1 hz with rfl|hz
     · exact hxy
     exact v12 hxy ((v2m.1 h).1 z hz)
   | false=>
     have hyx:y<=x:=by have:=of_decide_eq_false hd;omega
     refine v2m.2 ⟨fun z hz=>?_,Qb9 x r (v2m.1 h).2⟩;rcases v0w.1 ((Q2o x r).mem_iff.1 hz)with rfl|hz
     · exact hyx
     exact(v2m.1 h).1 z hz
theorem Q3E: ∀l:List Int,(Q1Y l).Pairwise (· <= ·)
 | []=>.nil
 |x::r=>Qb9 x _ (Q3E r)
theorem Q4Z {l l':List Int} (p:l.Perm l') (h:l.Pairwise (· <= ·)) (h':l'.Pairwise (· <= ·)):l=l':=
 p.eq_of_pairwise (le:=fun a b=>a<=b) (fun _ _ _ _=>Int.le_antisymm) h h'
theorem Q6p (l l':List Int) (p:l.Perm l'):l.mergeSort (fun x y=>decide (x<=y))=Q1Y l':=by
 have tr: ∀a b c:Int,decide (a<=b)=true->decide (b<=c)=true->decide (a<=c)=true:=fun a b c h1 h2=>by simp only[decide_eq_true_eq]at*;exact v12 h1 h2
 have to: ∀a b:Int,(decide (a<=b)||decide (b<=a))=true:=fun a b=>by simp only[v0H,decide_eq_true_eq];exact Int.le_total a b
 refine Q4Z ((List.mergeSort_perm l _).trans (p.trans (J6 l').symm)) ?_ (Q3E l');have:=List.pairwise_mergeSort tr to l;simpa using this
def keyI:MapEntry->Option Int
 | ⟨.int .i64 n,_,_⟩=>cond (decide ((Lit.int .i64 n).wf=true)) (some n) none
 |_=>none
def Q5B:List MapEntry->Option (List Int)
 | []=>some []
 | e::r=>match keyI e with
   |none=>none
   |some n=>(match Q5B r with|none=>none|some l=>some (n::l))
def Q3m {α:Type} [DecidableEq α]:List α->Bool
 | []=>true
 |x::r=>(r.all fun y=> !decide (x=y))&&Q3m r
theorem Kl {α:Type} [DecidableEq α]: ∀(l:List α),Q3m l=true↔l.Nodup
 | []=>by simp[Q3m]
 | x::r=>by
   rw[Q3m,v0h,Kl r,v0W];simp only[v0v,v0I,decide_eq_false_iff_not];exact and_congr ⟨fun h m=>h x m rfl,fun h y hy e=>h (e▸hy)⟩ Iff.rfl
def Q4Y (es:List MapEntry) (cl:Nat) (ks:List Int):Bool:=es.all (fun e=>v0a e.born cl)&&Q3m (es.map (·.born))&&Q3m ks&&v0r es.length 100000
theorem QaQ {e:MapEntry} {n:Int} (h:keyI e=some n):e.key=.int .i64 n/\(Lit.int .i64 n).wf=true:=by
 unfold keyI at h
 split at h
 · rename_i a _ _;cases hd:decide ((Lit.int .i64 a).wf=true)with
   |true=>rw[hd]at h;simp only[cond_true,v0i.injEq]at h;subst h;exact⟨rfl,of_decide_eq_true hd⟩
   |false=>rw[hd]at h;cases h
 cases h
theorem Q3h: ∀ {es:List MapEntry} {ks:List Int},Q5B es=some ks->es.length=ks.length/\ ∀(i:Nat) (e:MapEntry),es[i]?=some e-> ∃n,ks[i]?=some n/\e.key=.int .i64 n/\(Lit.int .i64 n).wf=true
 | [],ks,h=>by cases h;exact⟨rfl,fun i e he=>by simp at he⟩
 | e ::r,ks,h=>by
   rw[Q5B]at h;cases hk:keyI e with
   |none=>rw[hk]at h;cases h
   | some n=>
     rw[hk]at h;simp only at h;cases hr:Q5B r with
     |none=>rw[hr]at h;cases h
     | some l=>
       rw[hr]at h;cases h;obtain⟨h1,h2⟩:=Q3h hr;refine⟨by simp[h1],fun i e' he=>?_⟩;cases i with
       |zero=>simp at he;subst he;exact⟨n,rfl,QaQ hk⟩
       |succ i=>simp at he;simpa using h2 i e' he
noncomputable def Q1X (elem:Nat) (es:List MapEntry) (cl:Nat) (h:Hp):Option (Value×Hp):=match Q5B es with
 |none=>none
 | some ks=>cond (Q4Y es cl ks) (match Q1Y ks with
   | []=>some (.slice none 0 0,h)
   |x::ss=>some (.slice (some ⟨h.n,0,none⟩) (ss.length+1) (ss.length+1),h.alloc (.cells ((x::ss).map (Value.int .i64)) elem 3))) none
noncomputable def Qd9 (h:Hp) (c:Nat):Option (Option Nat):=match h.get c with
 |some (.cells [.map r] _ 0)=>some r
 |_=>none
def QcL:Value->Option Nat
 | .func _ _ b=>(match b.toList with
   | [.pointer (some ⟨c,0,none⟩)]=>some c
   |_=>none)
 |_=>none
def isFn (g:Nat):Value->Bool
 | .func (.func g') a _=>v0d g' g&&v0d a.toList.length 0
 |_=>false
noncomputable def JB (g elem:Nat) (args:List Value) (h:Hp):Option (Value×Hp):=match args with
 | [x] =>cond (isFn g x) (match QcL x with
   |none=>none
   | some c=>(match Qd9 h c with
     |none=>none
     |some none=>some (.slice none 0 0,h)
     | some (some r)=>(match h.get r with
       |some (.map es cl)=>Q1X elem es cl h
       |_=>none))) none
 |_=>none
theorem Q3f {h:Hp} {c:Nat} {r:Option Nat} (e:Qd9 h c=some r): ∃t,h.get c=some (.cells [.map r] t 0):=by
 unfold Qd9 at e
 split at e
 · rename_i hg;cases e;exact⟨_,hg⟩
 cases e
theorem Q8J {x:Value} {c:Nat} (e:QcL x=some c): ∃f a b,x=.func f a b/\b.toList=[.pointer (some ⟨c,0,none⟩)]:=by
 unfold QcL at e
 split at e
 · split at e
   · rename_i hb;cases e;exact⟨_,_,_,rfl,hb⟩
   cases e
 cases e
theorem Qb0 {x:Value} {g:Nat} (e:isFn g x=true): ∃a b,x=.func (.func g) a b/\a= #[]:=by
 unfold isFn at e
 split at e
 · simp only[v0h,QF]at e;obtain⟨rfl,e⟩:=e;exact⟨_,_,rfl,v1Z.1 (v1x e)⟩
 cases e
theorem VRel.func_inv {M:Mp} {f:Fn} {a b:Array Value} {u:Value} (h:VRel M (.func f a b) u): ∃f' c d,u=.func f' c d/\FnRel M f f'/\VsRel M a.toList c.toList/\VsRel M b.toList d.toList:=
 match u,h with
 |_,.func hf ha hb ka kb=>⟨_,_,_,rfl,hf,⟨ha,ka⟩,⟨hb,kb⟩⟩
theorem VRel.ptr_inv {M:Mp} {a:Addr} {u:Value} (h:VRel M (.pointer (some a)) u): ∃a',u=.pointer (some a')/\AddrRel M a a':=
 match u,h with
 |_,.ptr h=>⟨_,rfl,h⟩
theorem VRel.int_inv {M:Mp} {k:IntKind} {n:Int} {w:Value} (h:VRel M (.int k n) w):w=.int k n:=by cases h;rfl
structure SortKeys (P:Program) (f g kt:Nat):Prop where
 ty:P.underlying kt=some (.int .i64)
 yes : ∀(Bm b nn:Nat) (D0:DataW Nat) (R:Value->Option (DataW Nat×List MemPlace)) (w:World),Bm <w.heap.size->w.cell? ⟨Bm,0,none⟩=some (.map (some b))->w.ownsMap P kt R b nn D0->Maps.size D0<=maxLen->Maps.size D0*8<=140737488355328->
  Calls P f #[.func (.func g) #[] #[.pointer (some ⟨Bm,0,none⟩)]] w fun e w'=> ∃(v:Value) (ss:List Int),e=.returned v/\ss.Perm (intKeys D0)/\
   w'.ownsRow w.heap.size kt 1 v ss.length ((ss.mergeSort (fun x y=>decide (x<=y))).map encZ)/\(v=.slice none 0 0↔ss=[])/\Below w.heap.size w w'
 no: ∀(Bm:Nat) (w:World),Bm <w.heap.size->w.cell? ⟨Bm,0,none⟩=some (.map none)->
  Calls P f #[.func (.func g) #[] #[.pointer (some ⟨Bm,0,none⟩)]] w fun e w'=>e=.returned (.slice none 0 0)/\Below w.heap.size w w'
theorem insert_perm {H:Type} (x:Lit×DataW H): ∀l,(DataW.insert x l).Perm (x::l)
 | []=>.refl _
 | y::r=>by
   rw[DataW.insert]
   split
   · exact .refl _
   exact((insert_perm x r).cons y).trans (.swap x y r)
theorem Q1l {H:Type}: ∀l:List (Lit×DataW H),(l.foldr DataW.insert []).Perm l
 | []=>.refl _
 |x::r=>(insert_perm x _).trans ((Q1l r).cons x)
theorem HRel.place_new {W:World} {B:Nat->Prop} {M:Mp} {h:Hp} {w:World} (H:HRel W B M h w) {i b S m:Nat} {o:AObj} {x:Obj} (hn: ∀j c δ S',M.ρ j=some (c,δ,S')->c≠b) (hb:W.heap.size<=b)
 (hi: ¬M.K i) (aj:i <h.n) (hg:h.get i=some o) (hw:w.heap[b]?=some x) (hx:ORel (M.add i b 0 S m) i o 0 S x):HRel W B (M.add i b 0 S m) h w:=by
 have he:=Mp.add_ev M i b 0 S m hi;refine⟨fun j c δ S' hj=>?_,fun j k c δ S1 δ' S2 hj hk=>?_,fun j hj=>?_,H.fresh,fun j hk hj=>?_,H.os,H.tape,H.output,H.size,H.old,fun j c δ S' hj hc=>?_,H.glob.mono he⟩
 · by_cases e:j=i
   · subst e;simp only[Mp.add,if_true,v0i.injEq,Prod.mk.injEq]at hj;obtain⟨rfl,rfl,rfl⟩:=hj;exact⟨.inl rfl,o,x,hg,hw,hx⟩
   simp only[Mp.add,if_neg e]at hj;obtain⟨hk,o',x',h1,h2,h3⟩:=H.obj j c δ S' hj;exact⟨.inr hk,o',x',h1,h2,h3.mono he hk⟩
 · by_cases e:j=i<;>by_cases e':k=i
   · exact .inl (by rw[e,e'])
   · simp only[Mp.add,if_pos e,if_neg e',v0i.injEq,Prod.mk.injEq]at hj hk;exact absurd hj.1.symm (hn k c δ' S2 hk)
   · simp only[Mp.add,if_neg e,if_pos e',v0i.injEq,Prod.mk.injEq]at hj hk;exact absurd hk.1.symm (hn j c δ S1 hj)
   simp only[Mp.add,if_neg e,if_neg e']at hj hk;exact H.inj j k c δ S1 δ' S2 hj hk
 · rcases hj with rfl|hj
   · exact aj
   exact H.kn j hj
 · by_cases e:j=i
   · simp[Mp.add,e]at hj
   simp only[Mp.add,if_neg e]at hj;exact H.live j (hk.resolve_left e) hj
 by_cases e:j=i
 · simp only[Mp.add,if_pos e,v0i.injEq,Prod.mk.injEq]at hj;omega
 simp only[Mp.add,if_neg e]at hj;exact H.own j c δ S' hj hc
theorem HRel.low {W:World} {B:Nat->Prop} {M:Mp} {h:Hp} {w:World} (H:HRel W B M h w) {i b δ S:Nat} (hi:M.ρ i=some (b,δ,S)):b <w.heap.size:=by
 obtain⟨_,_,x,_,h2,_⟩:=H.obj i b δ S hi;exact(v0X.1 h2).1
theorem Qfb {P:Program} {kt:Nat} (ty:P.underlying kt=some (.int .i64)) {W:World} {b cl:Nat} {M:Mp} {es:List MapEntry} {au:Array MapEntry} {ks:List Int}
 (hb:W.heap[b]?=some (.map au cl)) (jB:EsRel M es au.toList) (hk:Q5B es=some ks) (hs:Q4Y es cl ks=true):
 ∃D0:DataW Nat,W.ownsMap P kt (fun _=>some (.nil,[])) b au.size D0/\(intKeys D0).Perm ks/\Maps.size D0=ks.length/\ks.length<=100000:=by
 obtain⟨k1,k2⟩:=Q3h hk;simp only[Q4Y,v0h,v0v,Zg,Qy]at hs;obtain⟨⟨⟨s1,s2⟩,s3⟩,s4⟩:=hs;have hlen:au.toList.length=ks.length:=by rw[<-jB.1,k1]
 have aW: ∀i (hi:i <au.toList.length),∃e n,es[i]?=some e/\ks[i]?=some n/\au.toList[i].key=.int .i64 n/\(Lit.int .i64 n).wf=true/\au.toList[i].born=e.born:=fun i hi=>by
  have aY:i <es.length:=by rw[jB.1];exact hi
  obtain⟨n,h1,h2,h3⟩:=k2 i es[i] (v0c aY);obtain⟨r1,r2,r3⟩:=jB.2 i es[i] au.toList[i] (v0c aY) (v0c hi);rw[h2]at r1;exact⟨es[i],n,v0c aY,h1,r1.int_inv,h3,r3⟩
 have oj:au.toList.map (·.born)=es.map (·.born):=v2b (by simp[jB.1]) fun i h1 h2=>by
  simp only[v0s]at h1 h2;obtain⟨e,n,q1,_,_,_,q5⟩:=aW i h1;rw[v1M,v1M,q5];rw[v0c h2]at q1;cases q1;rfl
 have hkey:au.toList.map (·.key)=ks.map (Value.int .i64):=v2b (by simp[hlen]) fun i h1 h2=>by
  simp only[v0s]at h1 h2;obtain⟨e,n,_,q2,q3,_,_⟩:=aW i h1;rw[v1M,v1M,q3];rw[v0c h2]at q2;cases q2;rfl
 have jT: ∀x∈au.toList,∃n,x.key=.int .i64 n/\WideElems.rd P kt (fun _=>some ((.nil:DataW Nat),[])) x=some (.int .i64 n,.nil):=fun x hx=>by
  obtain⟨i,hi,rfl⟩:=List.getElem_of_mem hx;obtain⟨e,n,_,q2,q3,q4,_⟩:=aW i hi;refine⟨n,q3,?_⟩;generalize au.toList[i]=xx at*;simp[WideElems.rd,keyOf,ty,mapKey,q3,q4]
 have bY:(au.toList.map (WideElems.rg P kt (fun _=>some ((.nil:DataW Nat),[])))).map (fun p=>intOf p.1)=ks:=by
  rw[List.map_map];refine v2b (by simp[hlen]) fun i h1 h2=>?_;simp only[v0s]at h1;obtain⟨e,n,_,q2,q3,q4,_⟩:=aW i h1;obtain⟨n',p1,p2⟩:=jT au.toList[i] (List.getElem_mem h1);rw[v1M,Function.comp,WideElems.rg_of p2];rw[q3]at p1;cases p1;rw[v0c h2]at q2;cases q2;rfl
 have hp:=Q1l (au.toList.map (WideElems.rg P kt (fun _=>some ((.nil:DataW Nat),[]))));refine⟨.map ((au.toList.map (WideElems.rg P kt (fun _=>some ((.nil:DataW Nat),[])))).foldr DataW.insert []),⟨au,cl,hb,⟨?_,?_,fun x hx=>?_⟩,v0b _,rfl⟩,?_,?_,?_⟩
 · have:au.size=es.length:=by rw[jB.1];simp
   have h2:(100000:Nat)<=maxLen:=by decide
   omega
 · refine⟨fun x hx=>?_,by rw[oj];exact(Kl _).1 s2,?_⟩
   · obtain⟨i,hi,rfl⟩:=List.getElem_of_mem hx;obtain⟨e,n,q1,_,_,_,q5⟩:=aW i hi;rw[q5];exact s1 e (v0m q1)
   rw[hkey];have:=(Kl _).1 s3;rw[List.Nodup,List.pairwise_map];exact this.imp fun an e=>an (by simpa using e)
 · obtain⟨n,_,h2⟩:=jT x hx;exact⟨_,h2⟩
 · show(List.map (fun(p:Lit×DataW Nat)=>intOf p.1) _).Perm ks;exact(hp.map _).trans (by rw[bY])
 · show List.length _=_;rw[hp.length_eq,v0s,hlen]
 rw[<-k1];exact s4
theorem Q6m {P:Program} {f g kt:Nat} (S:SortKeys P f g kt):QgB P f (JB g kt):=by
 intro W B M h w args ad v h' dB H hv hF;unfold JB at hF
 split at hF
 case h_2=>cases hF
 rename_i x0;obtain⟨hc,hF⟩:=Qh hF;obtain⟨a,b,rfl,rfl⟩:=Qb0 hc
 split at hF
 case h_1=>cases hF
 rename_i c ie;obtain⟨_,_,_,hq0,hb⟩:=Q8J ie;cases hq0
 -- the arguments
 have ay: ∃c',ad= #[.func (.func g) #[] #[.pointer (some c')]]/\AddrRel M ⟨c,0,none⟩ c':=by
  have h1:ad.toList.length=1:=by rw[<-hv.1];rfl
  match hq:ad.toList,h1 with
  | [u],_=>
    rw[hq]at hv;obtain⟨f',c1,d1,rfl,hf,hla,bP⟩:=hv.uncons.1.func_inv;obtain rfl:Fn.func g=f':=by simpa[FnRel]using hf
    have e1:c1= #[]:=v1Z.1 (v1x hla.1.symm);rw[hb]at bP
    match hd:d1.toList,bP.1 with
    | [y],_=>
      rw[hd]at bP;obtain⟨c',rfl,hy⟩:=bP.uncons.1.ptr_inv;refine⟨c',?_,hy⟩;subst e1;apply v1Z.1;rw[hq];have:d1= #[.pointer (some c')]:=v1Z.1 (by rw[hd]);rw[this]
 obtain⟨c',rfl,mo⟩:=ay
 split at hF
 case h_1=>cases hF
 ·
  rename_i hmi;obtain⟨e0,hg⟩:=Q3f hmi;cases hF;obtain⟨bb,δ,Sz,x,hρ,hx,cc,fr,rfl,hS,hle,cx,hm⟩:=H.place mo.1 hg (by simp)
  have hδ:δ=0:=by
   rcases hm with⟨_,_,h3,_⟩| ⟨h1,_⟩| ⟨⟨s,h1,_⟩,_⟩
   · exact h3
   · cases h1
   omega
  subst hδ;have ec:=mo.2 bb 0 Sz hρ;simp only[v0f]at ec;subst ec;obtain⟨w0,iY,dI⟩:=cx 0 _ rfl;cases dI;have aW:w.cell? ⟨bb,0,none⟩=some (.map none):=by simpa[World.cell?,hx]using iY
  refine(S.no bb w (H.low hρ) aW).mono fun e w' ⟨he,dZ⟩=>⟨_,M,he,.refl M,H.below dB dZ,.refl _ _ _,.nils _ _⟩
 rename_i r hmi;obtain⟨e0,hg⟩:=Q3f hmi
 split at hF
 case h_2=>cases hF
 rename_i es cl bN;unfold Q1X at hF
 split at hF
 case h_1=>cases hF
 rename_i ks nC;obtain⟨av,hF⟩:=Qh hF;obtain⟨bb,δ,Sz,x,hρ,hx,cc,fr,rfl,hS,hle,cx,hm⟩:=H.place mo.1 hg (by simp)
 have hδ:δ=0:=by
  rcases hm with⟨_,_,h3,_⟩| ⟨h1,_⟩| ⟨⟨s,h1,_⟩,_⟩
  · exact h3
  · cases h1
  omega
 subst hδ;have ec:=mo.2 bb 0 Sz hρ;simp only[v0f]at ec;subst ec;obtain⟨w0,iY,dI⟩:=cx 0 _ rfl;cases dI;rename_i r' bU;have aW:w.cell? ⟨bb,0,none⟩=some (.map (some r')):=by simpa[World.cell?,hx]using iY
 obtain⟨b2,δ2,S2,x2,hρ2,kE,rfl,au,rfl,jB⟩:=H.place bU.1 bN (by simp);have er:=bU.2 b2 0 S2 hρ2;subst er;obtain⟨D0,how,jU,cO,hle5⟩:=Qfb S.ty kE jB nC av;have hmx:(100000:Nat)<=maxLen:=by decide
 refine(S.yes bb r' au.size D0 _ w (H.low hρ) aW how (by omega) (by omega)).mono fun e w' ⟨u,ss,he,lX,ao,kZ,dZ⟩=>?_;have mN:=Q6p ss ks (lX.trans jU);have hlen:ss.length=(Q1Y ks).length:=by rw[(J6 ks).length_eq,(lX.trans jU).length_eq]
 split at hF
 · rename_i mP;cases hF;obtain rfl:=kZ.2 (v1x (by rw[hlen,mP];rfl));exact⟨_,M,he,.refl M,H.below dB dZ,.refl _ _ _,.nils _ _⟩
 rename_i y ys mP;cases hF;have k8:ss.length=ys.length+1:=by rw[hlen,mP];rfl
 rcases ao.2 with⟨rfl,hz⟩| ⟨gb,cap,cur,rfl,ou,hgb,r1,r2,r3,r4⟩
 · omega
 have hK: ¬M.K h.n:=fun hk=>by have:=H.kn _ hk;omega
 have ev:=Mp.add_ev M h.n gb 0 cap 2 hK;have H1:=(H.below dB dZ).allocX (.cells ((y::ys).map (Value.int .i64)) kt 3)
 refine⟨_,M.add h.n gb 0 cap 2,he,ev,H1.place_new (fun j c δ S' hj e=>?_) (v0p H.size ou) hK (by rw[Hp.n_alloc];omega) (Hp.get_alloc_self _ _) hgb ?_,⟨by rw[Hp.n_alloc];omega,fun i hi hk _=>⟨fun bh=>?_,by rw[Hp.get_alloc,if_neg (by omega)]⟩⟩,by rw[k8];exact .sl ⟨Or.inl rfl,fun b δ S' bk=>(by
  simp only[Mp.add,if_true,v0i.injEq,Prod.mk.injEq]at bk;obtain⟨rfl,rfl,rfl⟩:=bk
  exact .inr ⟨1,by simp[Mp.add],.inl ⟨rfl,by omega,by simp⟩⟩)⟩⟩
 · have:=H.low hj;omega
 · have cK:cur.toList.take ss.length=(y::ys).map (Value.int .i64):=by
    rw[Nat.mul_one]at r4;rw[r4,mN,mP]
   refine⟨cur,(0,0),rfl,by omega,by simp;omega,fun j v hj=>?_,.inr (.inr ⟨⟨1,rfl,by simp[Mp.add]⟩,fun j _=>by simp⟩)⟩;rw[<-cK,v1o]at hj
   split at hj
   · refine⟨v,by simpa using hj,?_⟩
     have:v∈(y::ys).map (Value.int .i64):=by
      rw[<-cK];exact v0m (i:=j) (by rw[v1o,if_pos (by assumption)];exact hj)
     obtain⟨n,_,rfl⟩:=List.mem_map.1 this;exact .int _ _
   cases hj
 rcases bh with e|bh
 · omega
 exact hk bh
noncomputable def envSm (E:Env) (g:Nat) (F:List Value->Hp->Option (Value×Hp)) (hl:QgB E.P g F):Env:=
 { E with
   sm:=fun f=>cond (v0d f g) (some F) (E.sm f)
   hsm :=fun f F' hf=>by
    cases hb:v0d f g with
    | true=>
      rw[hb]at hf;simp only[cond_true,v0i.injEq]at hf;subst hf;have:=(QF _ _).1 hb;subst this;exact hl
    |false=>rw[hb]at hf;exact E.hsm f F' hf
   q:=false
   hq:=fun h=>by cases h}
section
variable {E:Env} {fn:FuncId} {nt:Nat} {l l':Kn} {h h':Hp} {dr:Bool} {ops:Array Oper} {fin rest:List (Oper×List Oper)} {R:Kn->Hp->Prop} {lt:List Oper}
variable {d:Nat} {ty:TypeId} {pos:String} {af:Array Edge} {x y z:Operand} {v u:Value} {t aM:TypeId} {k:IntKind} {a b:Int}
theorem I1 (hx:evl l x=some v) (q:WL E fn nt dr ops fin rest ((d,v)::l) h R) (hd:v0a d nt=true:=by exact rfl):WL E fn nt dr ops fin ((⟨some d,.move x,ty,pos,af,none⟩,lt)::rest) l h R:=Qei trivial hd hx q
theorem D1 {gG gD:Nat} {gW gB:Bool} (bC:gB=gW) (hx:evl l x=some v) (q:WL E fn nt dr ops fin rest ((d,v)::l) h R) (h3g:(pk ops.toList gG).dst=some gD:=by exact rfl) (h0g:v0a gG ops.size=true:=by exact rfl) (h2g:lk l gD=some (.bool gB):=by exact rfl) (hd:v0a d nt=true:=by exact rfl):WL E fn nt dr ops fin ((⟨some d,.move x,ty,pos,af,some (gG,gW)⟩,lt)::rest) l h R:=Qei (gy h3g h0g h2g bC) hd hx q
theorem I2 (hx:evl l x=some v) (q:WL E fn nt dr ops fin rest ((d,v)::l) h R) (hd:v0a d nt=true:=by exact rfl):WL E fn nt dr ops fin ((⟨some d,.assign x,ty,pos,af,none⟩,lt)::rest) l h R:=Q7M trivial hd hx q
theorem I4 {b o:Nat} {cs:List Value} {e:TypeId} {m:Nat} (hx:evl l x=some (.pointer (some ⟨b,o,none⟩))) (hg:h.get b=some (.cells cs e m)) (hv:cs[o]?=some v) (q:WL E fn nt dr ops fin rest ((d,v)::l) h R) (hd:v0a d nt=true:=by exact rfl) (hc:isC E t=true:=by kernel_rfl):WL E fn nt dr ops fin ((⟨some d,.load t x,ty,pos,af,none⟩,lt)::rest) l h R:=Kd trivial hd hx hc hg hv q
theorem D4 {gG gD:Nat} {gW gB:Bool} {b o:Nat} {cs:List Value} {e:TypeId} {m:Nat} (bC:gB=gW) (hx:evl l x=some (.pointer (some ⟨b,o,none⟩))) (hg:h.get b=some (.cells cs e m)) (hv:cs[o]?=some v) (q:WL E fn nt dr ops fin rest ((d,v)::l) h R) (h3g:(pk ops.toList gG).dst=some gD:=by exact rfl) (h0g:v0a gG ops.size=true:=by exact rfl) (h2g:lk l gD=some (.bool gB):=by exact rfl) (hd:v0a d nt=true:=by exact rfl) (hc:isC E t=true:=by kernel_rfl):WL E fn nt dr ops fin ((⟨some d,.load t x,ty,pos,af,some (gG,gW)⟩,lt)::rest) l h R:=Kd (gy h3g h0g h2g bC) hd hx hc hg hv q
theorem I0 {b o i:Nat} (off:Nat) (hx:evl l x=some (.pointer (some ⟨b,o,none⟩))) (q:WL E fn nt dr ops fin rest ((d,.pointer (some ⟨b,o+off,none⟩))::l) h R) (hd:v0a d nt=true:=by exact rfl) (ho:fOff E t i=some off:=by kernel_rfl):WL E fn nt dr ops fin ((⟨some d,.fieldAddr t x i,ty,pos,af,none⟩,lt)::rest) l h R:=Q2d (off:=off) trivial hd hx ho q
theorem D0 {gG gD:Nat} {gW gB:Bool} {b o i:Nat} (off:Nat) (bC:gB=gW) (hx:evl l x=some (.pointer (some ⟨b,o,none⟩))) (q:WL E fn nt dr ops fin rest ((d,.pointer (some ⟨b,o+off,none⟩))::l) h R) (h3g:(pk ops.toList gG).dst=some gD:=by exact rfl) (h0g:v0a gG ops.size=true:=by exact rfl) (h2g:lk l gD=some (.bool gB):=by exact rfl) (hd:v0a d nt=true:=by exact rfl) (ho:fOff E t i=some off:=by kernel_rfl):WL E fn nt dr ops fin ((⟨some d,.fieldAddr t x i,ty,pos,af,some (gG,gW)⟩,lt)::rest) l h R:=Q2d (off:=off) (gy h3g h0g h2g bC) hd hx ho q
theorem I6 {a:Addr} (hx:evl l x=some (.pointer (some a))) (q:WL E fn nt dr ops fin rest ((d,.pointer (some a))::l) h R) (hd:v0a d nt=true:=by exact rfl):WL E fn nt dr ops fin ((⟨some d,.nilCheck x,ty,pos,af,none⟩,lt)::rest) l h R:=Q3d trivial hd hx q
theorem D6 {gG gD:Nat} {gW gB:Bool} {a:Addr} (bC:gB=gW) (hx:evl l x=some (.pointer (some a))) (q:WL E fn nt dr ops fin rest ((d,.pointer (some a))::l) h R) (h3g:(pk ops.toList gG).dst=some gD:=by exact rfl) (h0g:v0a gG ops.size=true:=by exact rfl) (h2g:lk l gD=some (.bool gB):=by exact rfl) (hd:v0a d nt=true:=by exact rfl):WL E fn nt dr ops fin ((⟨some d,.nilCheck x,ty,pos,af,some (gG,gW)⟩,lt)::rest) l h R:=Q3d (gy h3g h0g h2g bC) hd hx q
theorem I7 {a:Option Addr} {n c:Nat} (hx:evl l x=some (.slice a n c)) (q:WL E fn nt dr ops fin rest ((d,.int .i64 (n:Nat))::l) h R) (hd:v0a d nt=true:=by exact rfl) (hb:isS E t=true:=by kernel_rfl):WL E fn nt dr ops fin ((⟨some d,.call ⟨.builtin .len,#[x],#[t]⟩,ty,pos,af,none⟩,lt)::rest) l h R:=o_len trivial hd hx hb q
theorem D7 {gG gD:Nat} {gW gB:Bool} {a:Option Addr} {n c:Nat} (bC:gB=gW) (hx:evl l x=some (.slice a n c)) (q:WL E fn nt dr ops fin rest ((d,.int .i64 (n:Nat))::l) h R) (h3g:(pk ops.toList gG).dst=some gD:=by exact rfl) (h0g:v0a gG ops.size=true:=by exact rfl) (h2g:lk l gD=some (.bool gB):=by exact rfl) (hd:v0a d nt=true:=by exact rfl) (hb:isS E t=true:=by kernel_rfl):WL E fn nt dr ops fin ((⟨some d,.call ⟨.builtin .len,#[x],#[t]⟩,ty,pos,af,some (gG,gW)⟩,lt)::rest) l h R:=o_len (gy h3g h0g h2g bC) hd hx hb q
theorem I5o {b o n c:Nat} {k:IntKind} {j:Int} (zz:Nat) (hx:evl l x=some (.slice (some ⟨b,o,none⟩) n c)) (hy:evl l y=some (.int k j)) (q:WL E fn nt dr ops fin rest ((d,.pointer (some ⟨b,o+j.toNat*zz,none⟩))::l) h R) (hd:v0a d nt=true:=by exact rfl) (hz:QbA E t=some zz:=by kernel_rfl) (h1:0<=j:=by omega) (h2:j <n:=by omega):WL E fn nt dr ops fin ((⟨some d,.indexAddr t x y,ty,pos,af,none⟩,lt)::rest) l h R:=JH (zz:=zz) trivial hd hx hy hz h1 h2 q
theorem D5o {gG gD:Nat} {gW gB:Bool} {b o n c:Nat} {k:IntKind} {j:Int} (zz:Nat) (bC:gB=gW) (hx:evl l x=some (.slice (some ⟨b,o,none⟩) n c)) (hy:evl l y=some (.int k j)) (q:WL E fn nt dr ops fin rest ((d,.pointer (some ⟨b,o+j.toNat*zz,none⟩))::l) h R) (h3g:(pk ops.toList gG).dst=some gD:=by exact rfl) (h0g:v0a gG ops.size=true:=by exact rfl) (h2g:lk l gD=some (.bool gB):=by exact rfl) (hd:v0a d nt=true:=by exact rfl) (hz:QbA E t=some zz:=by kernel_rfl) (h1:0<=j:=by omega) (h2:j <n:=by omega):WL E fn nt dr ops fin ((⟨some d,.indexAddr t x y,ty,pos,af,some (gG,gW)⟩,lt)::rest) l h R:=JH (zz:=zz) (gy h3g h0g h2g bC) hd hx hy hz h1 h2 q
theorem Iao (hx:evl l x=some (.int .i64 a)) (hy:evl l y=some (.int .i64 b)) (q:WL E fn nt dr ops fin rest ((d,.int .i64 (a+b))::l) h R) (hd:v0a d nt=true:=by exact rfl) (h1: -9223372036854775808<=a+b:=by omega) (h2:a+b <9223372036854775808:=by omega):WL E fn nt dr ops fin ((⟨some d,.binOp .add t x y aM,ty,pos,af,none⟩,lt)::rest) l h R:=o_add trivial hd hx hy h1 h2 q
theorem Dao {gG gD:Nat} {gW gB:Bool} (bC:gB=gW) (hx:evl l x=some (.int .i64 a)) (hy:evl l y=some (.int .i64 b)) (q:WL E fn nt dr ops fin rest ((d,.int .i64 (a+b))::l) h R) (h3g:(pk ops.toList gG).dst=some gD:=by exact rfl) (h0g:v0a gG ops.size=true:=by exact rfl) (h2g:lk l gD=some (.bool gB):=by exact rfl) (hd:v0a d nt=true:=by exact rfl) (h1: -9223372036854775808<=a+b:=by omega) (h2:a+b <9223372036854775808:=by omega):WL E fn nt dr ops fin ((⟨some d,.binOp .add t x y aM,ty,pos,af,some (gG,gW)⟩,lt)::rest) l h R:=o_add (gy h3g h0g h2g bC) hd hx hy h1 h2 q
theorem Iso (hx:evl l x=some (.int .i64 a)) (hy:evl l y=some (.int .i64 b)) (q:WL E fn nt dr ops fin rest ((d,.int .i64 (a -b))::l) h R) (hd:v0a d nt=true:=by exact rfl) (h1: -9223372036854775808<=a -b:=by omega) (h2:a -b <9223372036854775808:=by omega):WL E fn nt dr ops fin ((⟨some d,.binOp .sub t x y aM,ty,pos,af,none⟩,lt)::rest) l h R:=o_sub trivial hd hx hy h1 h2 q
theorem Dso {gG gD:Nat} {gW gB:Bool} (bC:gB=gW) (hx:evl l x=some (.int .i64 a)) (hy:evl l y=some (.int .i64 b)) (q:WL E fn nt dr ops fin rest ((d,.int .i64 (a -b))::l) h R) (h3g:(pk ops.toList gG).dst=some gD:=by exact rfl) (h0g:v0a gG ops.size=true:=by exact rfl) (h2g:lk l gD=some (.bool gB):=by exact rfl) (hd:v0a d nt=true:=by exact rfl) (h1: -9223372036854775808<=a -b:=by omega) (h2:a -b <9223372036854775808:=by omega):WL E fn nt dr ops fin ((⟨some d,.binOp .sub t x y aM,ty,pos,af,some (gG,gW)⟩,lt)::rest) l h R:=o_sub (gy h3g h0g h2g bC) hd hx hy h1 h2 q
theorem Il (hx:evl l x=some (.int k a)) (hy:evl l y=some (.int k b)) (q:WL E fn nt dr ops fin rest ((d,.bool (decide (a <b)))::l) h R) (hd:v0a d nt=true:=by exact rfl):WL E fn nt dr ops fin ((⟨some d,.binOp .lss t x y aM,ty,pos,af,none⟩,lt)::rest) l h R:=o_lss trivial hd hx hy q
theorem Dl {gG gD:Nat} {gW gB:Bool} (bC:gB=gW) (hx:evl l x=some (.int k a)) (hy:evl l y=some (.int k b)) (q:WL E fn nt dr ops fin rest ((d,.bool (decide (a <b)))::l) h R) (h3g:(pk ops.toList gG).dst=some gD:=by exact rfl) (h0g:v0a gG ops.size=true:=by exact rfl) (h2g:lk l gD=some (.bool gB):=by exact rfl) (hd:v0a d nt=true:=by exact rfl):WL E fn nt dr ops fin ((⟨some d,.binOp .lss t x y aM,ty,pos,af,some (gG,gW)⟩,lt)::rest) l h R:=o_lss (gy h3g h0g h2g bC) hd hx hy q
theorem Im (hx:evl l x=some (.int k a)) (hy:evl l y=some (.int k b)) (q:WL E fn nt dr ops fin rest ((d,.bool (decide (a<=b)))::l) h R) (hd:v0a d nt=true:=by exact rfl):WL E fn nt dr ops fin ((⟨some d,.binOp .leq t x y aM,ty,pos,af,none⟩,lt)::rest) l h R:=o_leq trivial hd hx hy q
theorem Dm {gG gD:Nat} {gW gB:Bool} (bC:gB=gW) (hx:evl l x=some (.int k a)) (hy:evl l y=some (.int k b)) (q:WL E fn nt dr ops fin rest ((d,.bool (decide (a<=b)))::l) h R) (h3g:(pk ops.toList gG).dst=some gD:=by exact rfl) (h0g:v0a gG ops.size=true:=by exact rfl) (h2g:lk l gD=some (.bool gB):=by exact rfl) (hd:v0a d nt=true:=by exact rfl):WL E fn nt dr ops fin ((⟨some d,.binOp .leq t x y aM,ty,pos,af,some (gG,gW)⟩,lt)::rest) l h R:=o_leq (gy h3g h0g h2g bC) hd hx hy q
theorem Ig (hx:evl l x=some (.int k a)) (hy:evl l y=some (.int k b)) (q:WL E fn nt dr ops fin rest ((d,.bool (decide (b <a)))::l) h R) (hd:v0a d nt=true:=by exact rfl):WL E fn nt dr ops fin ((⟨some d,.binOp .gtr t x y aM,ty,pos,af,none⟩,lt)::rest) l h R:=o_gtr trivial hd hx hy q
theorem Dg {gG gD:Nat} {gW gB:Bool} (bC:gB=gW) (hx:evl l x=some (.int k a)) (hy:evl l y=some (.int k b)) (q:WL E fn nt dr ops fin rest ((d,.bool (decide (b <a)))::l) h R) (h3g:(pk ops.toList gG).dst=some gD:=by exact rfl) (h0g:v0a gG ops.size=true:=by exact rfl) (h2g:lk l gD=some (.bool gB):=by exact rfl) (hd:v0a d nt=true:=by exact rfl):WL E fn nt dr ops fin ((⟨some d,.binOp .gtr t x y aM,ty,pos,af,some (gG,gW)⟩,lt)::rest) l h R:=o_gtr (gy h3g h0g h2g bC) hd hx hy q
theorem Ih (hx:evl l x=some (.int k a)) (hy:evl l y=some (.int k b)) (q:WL E fn nt dr ops fin rest ((d,.bool (decide (b<=a)))::l) h R) (hd:v0a d nt=true:=by exact rfl):WL E fn nt dr ops fin ((⟨some d,.binOp .geq t x y aM,ty,pos,af,none⟩,lt)::rest) l h R:=o_geq trivial hd hx hy q
theorem Dh {gG gD:Nat} {gW gB:Bool} (bC:gB=gW) (hx:evl l x=some (.int k a)) (hy:evl l y=some (.int k b)) (q:WL E fn nt dr ops fin rest ((d,.bool (decide (b<=a)))::l) h R) (h3g:(pk ops.toList gG).dst=some gD:=by exact rfl) (h0g:v0a gG ops.size=true:=by exact rfl) (h2g:lk l gD=some (.bool gB):=by exact rfl) (hd:v0a d nt=true:=by exact rfl):WL E fn nt dr ops fin ((⟨some d,.binOp .geq t x y aM,ty,pos,af,some (gG,gW)⟩,lt)::rest) l h R:=o_geq (gy h3g h0g h2g bC) hd hx hy q
theorem Ie (hx:evl l x=some (.int k a)) (hy:evl l y=some (.int k b)) (q:WL E fn nt dr ops fin rest ((d,.bool (decide (a=b)))::l) h R) (hd:v0a d nt=true:=by exact rfl):WL E fn nt dr ops fin ((⟨some d,.binOp .eql t x y aM,ty,pos,af,none⟩,lt)::rest) l h R:=Qfm trivial hd hx hy q
theorem De {gG gD:Nat} {gW gB:Bool} (bC:gB=gW) (hx:evl l x=some (.int k a)) (hy:evl l y=some (.int k b)) (q:WL E fn nt dr ops fin rest ((d,.bool (decide (a=b)))::l) h R) (h3g:(pk ops.toList gG).dst=some gD:=by exact rfl) (h0g:v0a gG ops.size=true:=by exact rfl) (h2g:lk l gD=some (.bool gB):=by exact rfl) (hd:v0a d nt=true:=by exact rfl):WL E fn nt dr ops fin ((⟨some d,.binOp .eql t x y aM,ty,pos,af,some (gG,gW)⟩,lt)::rest) l h R:=Qfm (gy h3g h0g h2g bC) hd hx hy q
theorem In (hx:evl l x=some (.int k a)) (hy:evl l y=some (.int k b)) (q:WL E fn nt dr ops fin rest ((d,.bool (!decide (a=b)))::l) h R) (hd:v0a d nt=true:=by exact rfl):WL E fn nt dr ops fin ((⟨some d,.binOp .neq t x y aM,ty,pos,af,none⟩,lt)::rest) l h R:=o_nei trivial hd hx hy q
theorem Dn {gG gD:Nat} {gW gB:Bool} (bC:gB=gW) (hx:evl l x=some (.int k a)) (hy:evl l y=some (.int k b)) (q:WL E fn nt dr ops fin rest ((d,.bool (!decide (a=b)))::l) h R) (h3g:(pk ops.toList gG).dst=some gD:=by exact rfl) (h0g:v0a gG ops.size=true:=by exact rfl) (h2g:lk l gD=some (.bool gB):=by exact rfl) (hd:v0a d nt=true:=by exact rfl):WL E fn nt dr ops fin ((⟨some d,.binOp .neq t x y aM,ty,pos,af,some (gG,gW)⟩,lt)::rest) l h R:=o_nei (gy h3g h0g h2g bC) hd hx hy q
theorem I3 {b o:Nat} {cs:List Value} {e:TypeId} {m:Nat} (n:Nat) (hx:evl l x=some (.pointer (some ⟨b,o,none⟩))) (hg:h.get b=some (.cells cs e m)) (hv:o+n<=cs.length) (q:WL E fn nt dr ops fin rest ((d,.agg ((cs.drop o).take n).toArray)::l) h R) (hd:v0a d nt=true:=by exact rfl) (hc:isA E t=true:=by kernel_rfl) (hn:E.size t=some n:=by kernel_rfl):WL E fn nt dr ops fin ((⟨some d,.load t x,ty,pos,af,none⟩,lt)::rest) l h R:=QY (n:=n) trivial hd hx hc hn hg hv q
theorem D3 {gG gD:Nat} {gW gB:Bool} {b o:Nat} {cs:List Value} {e:TypeId} {m:Nat} (n:Nat) (bC:gB=gW) (hx:evl l x=some (.pointer (some ⟨b,o,none⟩))) (hg:h.get b=some (.cells cs e m)) (hv:o+n<=cs.length) (q:WL E fn nt dr ops fin rest ((d,.agg ((cs.drop o).take n).toArray)::l) h R) (h3g:(pk ops.toList gG).dst=some gD:=by exact rfl) (h0g:v0a gG ops.size=true:=by exact rfl) (h2g:lk l gD=some (.bool gB):=by exact rfl) (hd:v0a d nt=true:=by exact rfl) (hc:isA E t=true:=by kernel_rfl) (hn:E.size t=some n:=by kernel_rfl):WL E fn nt dr ops fin ((⟨some d,.load t x,ty,pos,af,some (gG,gW)⟩,lt)::rest) l h R:=QY (n:=n) (gy h3g h0g h2g bC) hd hx hc hn hg hv q
theorem Ib {b:Bool} (hx:evl l x=some (.bool b)) (q:WL E fn nt dr ops fin rest ((d,.bool (!b))::l) h R) (hd:v0a d nt=true:=by exact rfl):WL E fn nt dr ops fin ((⟨some d,.unOp .not t x,ty,pos,af,none⟩,lt)::rest) l h R:=o_not trivial hd hx q
theorem Db {gG gD:Nat} {gW gB:Bool} {b:Bool} (bC:gB=gW) (hx:evl l x=some (.bool b)) (q:WL E fn nt dr ops fin rest ((d,.bool (!b))::l) h R) (h3g:(pk ops.toList gG).dst=some gD:=by exact rfl) (h0g:v0a gG ops.size=true:=by exact rfl) (h2g:lk l gD=some (.bool gB):=by exact rfl) (hd:v0a d nt=true:=by exact rfl):WL E fn nt dr ops fin ((⟨some d,.unOp .not t x,ty,pos,af,some (gG,gW)⟩,lt)::rest) l h R:=o_not (gy h3g h0g h2g bC) hd hx q
theorem Ic {f:FuncId} {args:Array Operand} {as:Array TypeId} {first cap:Array Value} (vs:List Value) (hf:evl l x=some (.func (.func f) first cap)) (hv:args.toList.map (evl l)=vs.map some) (q:C E f (first.toList++vs++cap.toList) h fun v h'=>(∀q,q∈lt->Again E ops ((d,v)::l) h' q)/\WL E fn nt dr ops fin rest ((d,v)::l) h' R) (hd:v0a d nt=true:=by exact rfl) (ho:Q2H E f=true:=by kernel_rfl):WL E fn nt dr ops fin ((⟨some d,.call ⟨.value x,args,as⟩,ty,pos,af,none⟩,lt)::rest) l h R:=QZ vs trivial hd hf ho hv q
theorem Dc {gG gD:Nat} {gW gB:Bool} {f:FuncId} {args:Array Operand} {as:Array TypeId} {first cap:Array Value} (bC:gB=gW) (vs:List Value) (hf:evl l x=some (.func (.func f) first cap)) (hv:args.toList.map (evl l)=vs.map some) (q:C E f (first.toList++vs++cap.toList) h fun v h'=>(∀q,q∈lt->Again E ops ((d,v)::l) h' q)/\WL E fn nt dr ops fin rest ((d,v)::l) h' R) (h3g:(pk ops.toList gG).dst=some gD:=by exact rfl) (h0g:v0a gG ops.size=true:=by exact rfl) (h2g:lk l gD=some (.bool gB):=by exact rfl) (hd:v0a d nt=true:=by exact rfl) (ho:Q2H E f=true:=by kernel_rfl):WL E fn nt dr ops fin ((⟨some d,.call ⟨.value x,args,as⟩,ty,pos,af,some (gG,gW)⟩,lt)::rest) l h R:=QZ vs (gy h3g h0g h2g bC) hd hf ho hv q
theorem IT {b:Bool} (hx:evl l x=some (.bool b)) (hb:b=true) (hy:evl l y=some v) (q:WL E fn nt dr ops fin rest ((d,v)::l) h R) (hd:v0a d nt=true:=by exact rfl):WL E fn nt dr ops fin ((⟨some d,.pick x y z,ty,pos,af,none⟩,lt)::rest) l h R:=Q3X trivial hd hx hb hy q
theorem DT {gG gD:Nat} {gW gB:Bool} {b:Bool} (bC:gB=gW) (hx:evl l x=some (.bool b)) (hb:b=true) (hy:evl l y=some v) (q:WL E fn nt dr ops fin rest ((d,v)::l) h R) (h3g:(pk ops.toList gG).dst=some gD:=by exact rfl) (h0g:v0a gG ops.size=true:=by exact rfl) (h2g:lk l gD=some (.bool gB):=by exact rfl) (hd:v0a d nt=true:=by exact rfl):WL E fn nt dr ops fin ((⟨some d,.pick x y z,ty,pos,af,some (gG,gW)⟩,lt)::rest) l h R:=Q3X (gy h3g h0g h2g bC) hd hx hb hy q
theorem Iu {b:Bool} (hx:evl l x=some (.bool b)) (hb:b=false) (hz:evl l z=some v) (q:WL E fn nt dr ops fin rest ((d,v)::l) h R) (hd:v0a d nt=true:=by exact rfl):WL E fn nt dr ops fin ((⟨some d,.pick x y z,ty,pos,af,none⟩,lt)::rest) l h R:=Q3Y trivial hd hx hb hz q
theorem Du {gG gD:Nat} {gW gB:Bool} {b:Bool} (bC:gB=gW) (hx:evl l x=some (.bool b)) (hb:b=false) (hz:evl l z=some v) (q:WL E fn nt dr ops fin rest ((d,v)::l) h R) (h3g:(pk ops.toList gG).dst=some gD:=by exact rfl) (h0g:v0a gG ops.size=true:=by exact rfl) (h2g:lk l gD=some (.bool gB):=by exact rfl) (hd:v0a d nt=true:=by exact rfl):WL E fn nt dr ops fin ((⟨some d,.pick x y z,ty,pos,af,some (gG,gW)⟩,lt)::rest) l h R:=Q3Y (gy h3g h0g h2g bC) hd hx hb hz q
theorem Ix {vs:Array Value} {i:Nat} (hx:evl l x=some (.tuple vs)) (hv:vs[i]?=some v) (q:WL E fn nt dr ops fin rest ((d,v)::l) h R) (hd:v0a d nt=true:=by exact rfl):WL E fn nt dr ops fin ((⟨some d,.extract x i,ty,pos,af,none⟩,lt)::rest) l h R:=Qal trivial hd hx hv q
theorem Ip {a:Option Addr} (hx:evl l x=some (.pointer a)) (hy:evl l y=some (.pointer none)) (q:WL E fn nt dr ops fin rest ((d,.bool a.isNone)::l) h R) (hd:v0a d nt=true:=by exact rfl) (hb:isP E t=true:=by kernel_rfl):WL E fn nt dr ops fin ((⟨some d,.binOp .eql t x y aM,ty,pos,af,none⟩,lt)::rest) l h R:=o_eqp trivial hd hx hy hb q
theorem Dp {gG gD:Nat} {gW gB:Bool} {a:Option Addr} (bC:gB=gW) (hx:evl l x=some (.pointer a)) (hy:evl l y=some (.pointer none)) (q:WL E fn nt dr ops fin rest ((d,.bool a.isNone)::l) h R) (h3g:(pk ops.toList gG).dst=some gD:=by exact rfl) (h0g:v0a gG ops.size=true:=by exact rfl) (h2g:lk l gD=some (.bool gB):=by exact rfl) (hd:v0a d nt=true:=by exact rfl) (hb:isP E t=true:=by kernel_rfl):WL E fn nt dr ops fin ((⟨some d,.binOp .eql t x y aM,ty,pos,af,some (gG,gW)⟩,lt)::rest) l h R:=o_eqp (gy h3g h0g h2g bC) hd hx hy hb q
theorem Iq {a:Option Addr} (hx:evl l x=some (.pointer a)) (hy:evl l y=some (.pointer none)) (q:WL E fn nt dr ops fin rest ((d,.bool a.isSome)::l) h R) (hd:v0a d nt=true:=by exact rfl) (hb:isP E t=true:=by kernel_rfl):WL E fn nt dr ops fin ((⟨some d,.binOp .neq t x y aM,ty,pos,af,none⟩,lt)::rest) l h R:=o_nep trivial hd hx hy hb q
theorem Dq {gG gD:Nat} {gW gB:Bool} {a:Option Addr} (bC:gB=gW) (hx:evl l x=some (.pointer a)) (hy:evl l y=some (.pointer none)) (q:WL E fn nt dr ops fin rest ((d,.bool a.isSome)::l) h R) (h3g:(pk ops.toList gG).dst=some gD:=by exact rfl) (h0g:v0a gG ops.size=true:=by exact rfl) (h2g:lk l gD=some (.bool gB):=by exact rfl) (hd:v0a d nt=true:=by exact rfl) (hb:isP E t=true:=by kernel_rfl):WL E fn nt dr ops fin ((⟨some d,.binOp .neq t x y aM,ty,pos,af,some (gG,gW)⟩,lt)::rest) l h R:=o_nep (gy h3g h0g h2g bC) hd hx hy hb q
theorem I9r (l:List Oper):((v0o l.length).map fun i=>(i,([]:List Nat))).map (fun p=>(pk l p.1,p.2.map (pk l)))=l.map fun o=>(o,[]):=by
 apply v2b
 · simp
 intro i h1 h2;have h3:i <l.length:=by simpa using h2
 have e:=Qef l i h3;rw[v0c h3]at e;simp[<-v0i.inj e]
theorem I9 {Q:Out->Kn->Hp->Prop} {id:Nat} {ops:Array Oper} (q:WL E fn nt true ops [] (ops.toList.map fun o=>(o,[])) l h (Q .next)) (hc:QU ops=true:=by kernel_rfl) (hk:J8 E ops=true:=by kernel_rfl) (hs:canon E ops=((v0o ops.toList.length).map fun i=>(i,([]:List Nat))).map (·.1):=by kernel_rfl) (hd:dOk E ops ((v0o ops.toList.length).map fun i=>(i,([]:List Nat)))=true:=by kernel_rfl):W E fn nt (.region id ops true) l h Q:=
 ZZ _ hc hk hs hd (by unfold resolve;rw[I9r];exact q)
end
end Go.X
