/- A calculus over the machine X: what a piece of code comes to from what is known of its temporaries and of the memory; code, regions, calls. Conditions: none. The calculus' rules for the operations: reads, reckoning, new blocks, stores. Conditions: none. The calculus: pure calls, blocks left, slices of a call's own; growing. Conditions: none. A start from the whole of the old memory: X has all of its blocks, and only reads them. Conditions: none. The row's end of a call that reads its arguments and answers true; what slices of the arguments are. Conditions: none. A start from one package-level table, that X only reads: the row's end of a call without arguments. Conditions: the table lies in the memory. The calculus: maps keyed by integers; results of several values; blocks that are values. Conditions: none. The calculus: functions whose results lie in cells; division; strings compared. Conditions: none. The calculus: slices of one's own whose elements are of several cells; appending to them. Conditions: none. The calculus: ranges over functions: the record of a range, its rounds, the calls of what it yields. Conditions: none. What lies behind a law's argument, as X has it: values, structs, arrays, slices of such. Conditions: none. The calculus: words of 64 bits; quotients; scopes and labels. Conditions: none. The calculus: slices.Sorted over maps.Keys of a map keyed by integers, a call that is not gone through. Conditions: the library's contract at the program. -/
import Derived.Test.YteinandjhpnceaaXb
import Derived.Test.YteinandjhpnceaaXa
import Derived.Sort.Grow
import Derived.Deep.Draws
import Derived.OpenVars
import Derived.Deep.Slices
import Derived.Lib.LaidTab
import Derived.OpenShut
import Derived.Lib.SlKeysI
import Derived.Maps.Own
namespace Go.X
abbrev Kn:=List (Nat×Value)
def lk:Kn->Nat->Option Value
 | [],_=>none
 |(k,v)::r,t=>cond (Nat.beq k t) (some v) (lk r t)
def Ag (tm:Tr Value) (l:Kn):Prop:= ∀t v,lk l t=some v->tm.get t=some v
def Sub:Kn->Kn->Prop
 | [],_=>True
 |(t,v)::r,l=>lk l t=some v/\Sub r l
def evl (l:Kn):Operand->Option Value
 | .tmp t=>lk l t
 | .const v=>some v
 | .global g=>some (.pointer (some ⟨g,0,none⟩))
 | .func f=>some (.func (.func f) #[] #[])
theorem Ag.ev {tm:Tr Value} {l:Kn} (a:Ag tm l) {o:Operand} {v:Value} (h:evl l o=some v):ev tm o=v:=by
 cases o with
 |tmp t=>simp only[evl]at h;simp only[Go.X.ev,a t v h]
 |const c=>simp only[evl,Option.some.injEq]at h;exact h
 |global g=>simp only[evl,Option.some.injEq]at h;exact h
 |func f=>simp only[evl,Option.some.injEq]at h;exact h
theorem Zl (k:Nat) (v:Value) (r:Kn) (t:Nat):lk ((k,v)::r) t=if k=t then some v else lk r t:=by
 simp only[lk];by_cases h:k=t
 · subst h;simp[Nat.beq_refl]
 rw[(QC k t).2 h,if_neg h];rfl
theorem Ag.put {tm:Tr Value} {l:Kn} (a:Ag tm l) (nt d:Nat) (v:Value) (hd:Nat.blt d nt=true):Ag (setT nt tm d v) ((d,v)::l):=by
 intro t u h;rw[Zl]at h;rw[Q1B];by_cases e:d=t
 · rw[if_pos e]at h;rw[if_pos ⟨e,(Zy _ _).1 hd⟩];exact h
 rw[if_neg e]at h;rw[if_neg (fun x=>e x.1)];exact a t u h
theorem Sub.ag {tm:Tr Value}: ∀ {l' l:Kn},Sub l' l->Ag tm l->Ag tm l'
 | [],_,_,_=>fun t v h=>by simp[lk]at h
 | (k,w)::r,l,s,a=>fun t v h=>by
   rw[Zl]at h
   split at h
   · rename_i e;subst e;cases h;exact a _ _ s.1
   exact Sub.ag s.2 a t v h
inductive Out where
 |next
 |ret
 |exit (id:Nat)
def Lands (E:Env) (s:St) (fn:FuncId) (nt:Nat) (tm:Tr Value) (k:List It) (df:List Deferred) (kd:CallKind) (ro:Option Nat) (cs:List Fr) (h:Hp):Out->Prop
 | .next=>Runs E s ⟨⟨fn,nt,tm,k,df,.run,kd,ro⟩,cs,h⟩
 | .exit id=> ∃k',ZD id k'=ZD id k/\Runs E s ⟨⟨fn,nt,tm,.code (.exit id)::k',df,.run,kd,ro⟩,cs,h⟩
 | .ret=> ∃k',Runs E s ⟨⟨fn,nt,tm,.code .ret::k',df,.run,kd,ro⟩,cs,h⟩
def Q85:Code->Bool
 | .seq a b=>Q85 a&&Q85 b
 | .cond _ a b=>Q85 a&&Q85 b
 | .block _ b=>Q85 b
 | .loop b=>Q85 b
 | .scope b=>Q85 b
 | .rangeFunc _ _ _ _=>false
 |_=>true
def Q86:It->Bool
 | .code c=>Q85 c
 | .inLoop b=>Q85 b
 |_=>true
def KD (h h':Hp):Prop:=h.n<=h'.n/\ ∀b,b <h.n-> ∀d,h.get b=some (.deferred d)->h'.get b=some (.deferred d)
theorem KD.refl (h:Hp):KD h h:=⟨Nat.le_refl _,fun _ _ _ e=>e⟩
theorem KD.trans {a b c:Hp} (x:KD a b) (y:KD b c):KD a c:=⟨Nat.le_trans x.1 y.1,fun i hi d e=>y.2 i (Nat.lt_of_lt_of_le hi x.1) d (x.2 i hi d e)⟩
theorem KD.alloc (h:Hp) (o:AObj):KD h (h.alloc o):=⟨by rw[Hp.n_alloc];omega,fun i hi d e=>by rw[Hp.get_alloc,if_neg (by omega)];exact e⟩
theorem KD.put {h:Hp} {b:Nat} (o:AObj) (hb: ∀d,h.get b≠some (.deferred d)):KD h (h.put b o):=
 ⟨by rw[Hp.n_put];omega,fun i _ d e=>by
  rw[Hp.get_put]
  split
  · rename_i e';subst e';exact absurd e (hb d)
  exact e⟩
def Dd (h h':Hp) (ds:List Nat):Prop:=KD h h'/\ds.Nodup/\ ∀b,b∈ds->h.n<=b/\b <h'.n/\h'.get b=some (.deferred (some []))
theorem Dd.nil {h h':Hp} (k:KD h h'):Dd h h' []:=⟨k,.nil,fun b hb=>by cases hb⟩
theorem Dd.comp {a b c:Hp} {d1 d2:List Nat} (x:Dd a b d1) (y:Dd b c d2):Dd a c (d2++d1):=by
 refine⟨x.1.trans y.1,?_,fun i hi=>?_⟩
 · rw[List.nodup_append];refine⟨y.2.1,x.2.1,fun i hi j hj e=>?_⟩;have h1:=(y.2.2 i hi).1;have h2:=(x.2.2 j hj).2.1;omega
 rcases List.mem_append.1 hi with hi|hi
 · obtain⟨p,q,r⟩:=y.2.2 i hi;exact⟨Nat.le_trans x.1.1 p,q,r⟩
 obtain⟨p,q,r⟩:=x.2.2 i hi;exact⟨p,Nat.lt_of_lt_of_le q y.1.1,y.1.2 i q _ r⟩
theorem Dd.pre {a b c:Hp} {d:List Nat} (x:KD a b) (y:Dd b c d):Dd a c d:=by simpa using(Dd.nil x).comp y
def marks (ds:List Nat):List Deferred:=ds.map fun b=> {target:=.collected b,args:= #[]}
theorem Qb3 (a b:List Nat) (df:List Deferred):marks (a++b)++df=marks a++(marks b++df):=by simp[marks]
theorem Ju {h h':Hp} {a:Addr} {l:List Value} (e:Zg h a l=some h'):KD h h':=by
 unfold Zg at e
 split at e
 · cases e
 split at e
 · rename_i hg;rw[Bool.cond_eq_ite]at e
   split at e
   · cases e;exact KD.put _ (by intro d hd;rw[hg]at hd;cases hd)
   cases e
 cases e
theorem Q5x {E:Env} {h h':Hp} {t:TypeId} {m k v:Value} (e:JC E h t m k v=some h'):KD h h':=by
 unfold JC at e
 split at e
 · split at e
   · rename_i hg;rw[Bool.cond_eq_ite]at e
     split at e
     · split at e
       · cases e;exact KD.put _ (by intro d hd;rw[hg]at hd;cases hd)
       · cases e;exact KD.put _ (by intro d hd;rw[hg]at hd;cases hd)
       cases e
     cases e
   cases e
 cases e
theorem Q74 {E:Env} {h h':Hp} {t:TypeId} {m k v:Value} (e:Kf E h t m k=some (v,h')):KD h h':=by
 unfold Kf at e
 split at e
 · split at e
   · rename_i hg;rw[Bool.cond_eq_ite]at e
     split at e
     · split at e
       · split at e
         · cases e;exact KD.put _ (by intro d hd;rw[hg]at hd;cases hd)
         cases e
       · split at e
         · cases e;exact KD.put _ (by intro d hd;rw[hg]at hd;cases hd)
         cases e
       cases e
     cases e
   cases e
 cases e
theorem Q4x {h h':Hp} {m k v:Value} (e:ZL h m k v=some h'):KD h h':=by
 unfold ZL at e
 split at e
 · split at e
   · rename_i hg
     split at e
     · cases e;exact KD.put _ (by intro d hd;rw[hg]at hd;cases hd)
     cases e
   cases e
 cases e
theorem Qc1 {E:Env} {h h':Hp} {t:TypeId} {m k:Value} (e:Q2C E h t m k=some h'):KD h h':=by
 unfold Q2C at e
 split at e
 · split at e
   · rename_i hg;rw[Bool.cond_eq_ite]at e
     split at e
     · split at e
       · cases e;exact KD.put _ (by intro d hd;rw[hg]at hd;cases hd)
       · cases e;exact KD.refl _
       cases e
     cases e
   cases e
 cases e
theorem Q78 {E:Env} {h h':Hp} {e:TypeId} {z b n:Nat} {old xs:List Value} {v:Value} (q:growX E h e z b n old xs=some (v,h')):KD h h':=by
 unfold growX at q
 split at q
 · rw[Bool.cond_eq_ite]at q
   split at q
   · cases q;exact KD.alloc _ _
   cases q
 cases q
theorem Qcp {E:Env} {h h':Hp} {t t':TypeId} {s x v:Value} (e:Zh E h t t' s x=some (v,h')):KD h h':=by
 unfold Zh at e
 split at e
 · split at e
   · cases e
   · split at e
     · rw[Bool.cond_eq_ite]at e
       split at e
       · cases e;exact KD.refl _
       exact Q78 e
     · rw [Bool.cond_eq_ite]at e
       split at e
       · split at e
         · rw[Bool.cond_eq_ite]at e
           split at e
           · cases e;exact KD.refl _
           cases e
         cases e
       rw[Bool.cond_eq_ite]at e
       split at e
       · split at e
         · rename_i hs;rw[Bool.cond_eq_ite]at e
           split at e
           · cases e;exact Ju hs
           cases e
         cases e
       split at e
       · rename_i hg;rw[Bool.cond_eq_ite]at e
         split at e
         · split at e
           · rw[Bool.cond_eq_ite]at e
             split at e
             · exact(KD.put _ (by intro d hd;rw[hg]at hd;cases hd)).trans (Q78 e)
             cases e
           exact Q78 e
         cases e
       cases e
     cases e
   cases e
 cases e
theorem Qg6 {E:Env} {h h':Hp} {t:TypeId} {a b v:Value} (e:Qc9 E h t a b=some (v,h')):KD h h':=by
 unfold Qc9 at e
 split at e
 · split at e
   · split at e
     · rw[Bool.cond_eq_ite]at e
       split at e
       · split at e
         · rename_i hs;cases e;exact Ju hs
         cases e
       cases e
     cases e
   · cases e;exact KD.refl _
   cases e
 cases e
theorem Qe3 {h h':Hp} {as:List Value} {v:Value} (e:Q65 h as=some (.value v h')\/Q65 h as=some (.skip h')):KD h h':=by
 unfold Q65 at e
 split at e
 · split at e
   · rcases e with e|e
     · cases e;exact KD.alloc _ _
     cases e
   rcases e with e|e<;>cases e
 rcases e with e|e<;>cases e
theorem Q6a {E:Env} {h h':Hp} {f:FuncId} {as:Array Value} {v:Value} (e:J0 E h f as=some (.value v h')\/J0 E h f as=some (.skip h')):KD h h':=by
 unfold J0 at e;rw[Bool.cond_eq_ite]at e
 split at e
 · exact Qe3 e
 split at e
 · rw[Bool.cond_eq_ite]at e
   split at e<;>rcases e with e|e<;>cases e
 rcases e with e|e<;>cases e
theorem Qbo {E:Env} {h h':Hp} {d:Deferred} {v:Value} (e:Ya E h d=some (.value v h')\/Ya E h d=some (.skip h')):KD h h':=by
 unfold Ya at e
 split at e
 · exact Q6a e
 · rcases e with e|e<;>cases e
 · split at e
   · split at e
     · exact Q6a e
     rcases e with e|e<;>cases e
   rcases e with e|e<;>cases e
 · split at e
   · split at e
     · split at e
       · rename_i hs;rcases e with e|e
         · cases e;exact Qcp hs
         cases e
       rcases e with e|e<;>cases e
     rcases e with e|e<;>cases e
   · split at e
     · rename_i hs;rcases e with e|e
       · cases e;exact Qg6 hs
       cases e
     rcases e with e|e<;>cases e
   · split at e
     · rename_i hs;rcases e with e|e
       · cases e;exact Qc1 hs
       cases e
     rcases e with e|e<;>cases e
   · rcases e with e|e<;>cases e
   · split at e<;>rcases e with e|e<;>cases e
   rcases e with e|e<;>cases e
 rcases e with e|e<;>cases e
theorem Q7r {E:Env} {tm:Tr Value} {o:Oper} {h h':Hp} {v:Value} (e:Zn E tm o h=some (.value v h')\/Zn E tm o h=some (.skip h')):KD h h':=by
 unfold Zn at e
 split at e
 · split at e
   · split at e
     · rename_i hs;rcases e with e|e
       · cases e
       cases e;unfold Q15 at hs
       split at hs
       · rw[Bool.cond_eq_ite]at hs
         split at hs
         · exact Ju hs
         cases hs
       cases hs
     rcases e with e|e<;>cases e
   rcases e with e|e<;>cases e
 · split at e
   · rename_i hs;rcases e with e|e<;>cases e;exact Q5x hs
   rcases e with e|e<;>cases e
 · split at e
   · rename_i hs;rcases e with e|e<;>cases e;exact Q5x hs
   rcases e with e|e<;>cases e
 · split at e
   · rename_i hs;rcases e with e|e<;>cases e;exact Q74 hs
   rcases e with e|e<;>cases e
 · split at e
   · rename_i hs;rcases e with e|e<;>cases e;exact Q4x hs
   rcases e with e|e<;>cases e
 · split at e
   · rcases e with e|e<;>cases e;exact KD.alloc _ _
   · rcases e with e|e<;>cases e;exact KD.alloc _ _
   · split at e
     · rcases e with e|e<;>cases e;exact KD.alloc _ _
     rcases e with e|e<;>cases e
   rcases e with e|e<;>cases e
 · split at e
   · split at e
     · rename_i hg;rw[Bool.cond_eq_ite]at e
       split at e<;>rcases e with e|e<;>cases e
       · exact KD.put _ (by intro d hd;rw[hg]at hd;cases hd)
       exact KD.refl _
     rcases e with e|e<;>cases e
   rcases e with e|e<;>cases e
 · split at e
   · split at e
     · rcases e with e|e<;>cases e;exact KD.alloc _ _
     rcases e with e|e<;>cases e
   · rw[Bool.cond_eq_ite]at e
     split at e
     · split at e
       · rename_i hg;rcases e with e|e<;>cases e;exact KD.put _ (by intro d hd;rw[hg]at hd;cases hd)
       rcases e with e|e<;>cases e
     rcases e with e|e<;>cases e
   rcases e with e|e<;>cases e
 · split at e
   · exact Qbo e
   rcases e with e|e<;>cases e
 · split at e<;>rcases e with e|e<;>cases e
 · split at e<;>rcases e with e|e<;>cases e
 rcases e with e|e<;>cases e
def T (E:Env) (fn:FuncId) (nt:Nat) (is:List It) (l:Kn) (h:Hp) (Q:Out->Kn->Hp->Prop):Prop:=
 ∀ tm,Ag tm l-> ∃o l' h' tm' ds,Q o l' h'/\Ag tm' l'/\(is.all Q86=true->ds=[])/\Dd h h' ds/\
   ∀k df kd ro cs,(is.all Q86=true\/ro=none)->Lands E ⟨⟨fn,nt,tm,is++k,df,.run,kd,ro⟩,cs,h⟩ fn nt tm' k (marks ds++df) kd ro cs h' o
def W (E:Env) (fn:FuncId) (nt:Nat) (c:Code) (l:Kn) (h:Hp) (Q:Out->Kn->Hp->Prop):Prop:=T E fn nt [.code c] l h Q
section
variable {E:Env} {fn:FuncId} {nt:Nat} {l l':Kn} {h h':Hp} {Q:Out->Kn->Hp->Prop} {is is':List It} {k:List It}
theorem Lands.pre {s s':St} {tm:Tr Value} {df:List Deferred} {kd:CallKind} {ro:Option Nat} {cs:List Fr} {o:Out} (r:Runs E s s') (h:Lands E s' fn nt tm k df kd ro cs h' o):Lands E s fn nt tm k df kd ro cs h' o:=by
 cases o with
 |next=>exact r.trans h
 |exit id=>obtain⟨k',e,h⟩:=h;exact⟨k',e,r.trans h⟩
 |ret=>obtain⟨k',h⟩:=h;exact⟨k',r.trans h⟩
theorem T.done (q:Q .next l h):T E fn nt [] l h Q:=fun tm a=>⟨.next,l,h,tm,[],q,a,fun _=>rfl,.nil (.refl h),fun _ _ _ _ _ _=>.refl _ _⟩
theorem T.pre (hn:is.all Q86=true->is'.all Q86=true) (hk:KD h h') (hs: ∀tm,Ag tm l-> ∃tm2,Ag tm2 l'/\ ∀k df kd ro cs,Runs E ⟨⟨fn,nt,tm,is++k,df,.run,kd,ro⟩,cs,h⟩ ⟨⟨fn,nt,tm2,is'++k,df,.run,kd,ro⟩,cs,h'⟩)
 (q:T E fn nt is' l' h' Q):T E fn nt is l h Q:=by
 intro tm a;obtain⟨tm2,a2,r⟩:=hs tm a;obtain⟨o,l3,h3,tm3,ds,q3,a3,n3,d3,r3⟩:=q tm2 a2;exact⟨o,l3,h3,tm3,ds,q3,a3,fun e=>n3 (hn e),.pre hk d3,fun k df kd ro cs ho=>(r3 k df kd ro cs (ho.imp hn id)).pre (r k df kd ro cs)⟩
theorem T.step (hs: ∀tm k df kd ro cs,Ag tm l->stepX E ⟨⟨fn,nt,tm,is++k,df,.run,kd,ro⟩,cs,h⟩=some ⟨⟨fn,nt,tm,is'++k,df,.run,kd,ro⟩,cs,h'⟩)
 (q:T E fn nt is' l h' Q) (hk:KD h h':=by exact KD.refl _) (hn:is.all Q86=true->is'.all Q86=true:=by simp[Q86,Q85]):T E fn nt is l h Q:=
 .pre hn hk (fun tm a=>⟨tm,a,fun k df kd ro cs=>.step (hs tm k df kd ro cs a) (.refl _ _)⟩) q
theorem T.mono {Q':Out->Kn->Hp->Prop} (q:T E fn nt is l h Q) (hq: ∀o l h,Q o l h->Q' o l h):T E fn nt is l h Q':=by
 intro tm a;obtain⟨o,l3,h3,tm3,ds,q3,r3⟩:=q tm a;exact⟨o,l3,h3,tm3,ds,hq _ _ _ q3,r3⟩
theorem T.weak (s:Sub l' l) (q:T E fn nt is l' h Q):T E fn nt is l h Q:=fun tm a=>q tm (s.ag a)
theorem T.seq {i2:It} (hx: ∀id k,ZD id (i2::k)=ZD id k) (q:T E fn nt is l h fun o l h=>match o with| .next=>T E fn nt [i2] l h Q|o=>Q o l h):T E fn nt (is++[i2]) l h Q:=by
 intro tm a;obtain⟨o,l3,h3,tm3,ds,q3,a3,n3,d3,r3⟩:=q tm a;have hn:(is++[i2]).all Q86=true->is.all Q86=true/\[i2].all Q86=true:=fun e=>by rw[List.all_append,Bool.and_eq_true]at e;exact e
 cases o with
 | next=>
   obtain⟨o,l4,h4,tm4,ds4,q4,a4,n4,d4,r4⟩:=q3 tm3 a3;refine⟨o,l4,h4,tm4,ds4++ds,q4,a4,fun e=>by rw[n3 (hn e).1,n4 (hn e).2];rfl,d3.comp d4,fun k df kd ro cs ho=>?_⟩;have:=r3 (i2::k) df kd ro cs (ho.imp (fun e=>(hn e).1) id);rw[List.append_assoc,Qb3];exact(r4 k _ kd ro cs (ho.imp (fun e=>(hn e).2) id)).pre this
 | ret=>
   refine⟨.ret,l3,h3,tm3,ds,q3,a3,fun e=>n3 (hn e).1,d3,fun k df kd ro cs ho=>?_⟩;rw[List.append_assoc];exact r3 (i2::k) df kd ro cs (ho.imp (fun e=>(hn e).1) id)
 | exit id=>
   refine⟨.exit id,l3,h3,tm3,ds,q3,a3,fun e=>n3 (hn e).1,d3,fun k df kd ro cs ho=>?_⟩;rw[List.append_assoc];obtain⟨k',e,r⟩:=r3 (i2::k) df kd ro cs (ho.imp (fun e=>(hn e).1) fun e=>e);exact⟨k',by rw[e,hx],r⟩
def Thn (E:Env) (fn:FuncId) (nt:Nat) (b:Code) (Q:Out->Kn->Hp->Prop):Out->Kn->Hp->Prop
 | .next,l,h=>W E fn nt b l h Q
 | .ret,l,h=>Q .ret l h
 | .exit i,l,h=>Q (.exit i) l h
theorem Q3 {a b:Code} (q:W E fn nt a l h (Thn E fn nt b Q)):W E fn nt (.seq a b) l h Q:=by
 have q':T E fn nt [.code a] l h (Thn E fn nt b Q):=q;refine .step (is':=[.code a]++[.code b]) (fun tm k df kd ro cs _=>rfl) (.seq (fun _ _=>rfl) (q'.mono fun o l h q=>?_));cases o<;>exact q
theorem Q4 (q:Q .next l h):W E fn nt .skip l h Q:=.step (is':=[]) (fun _tm _k _df _kd _ro _cs _=>rfl) (.done q)
theorem Q7 (q:Q .ret l h):W E fn nt .ret l h Q:=fun tm a=>⟨.ret,l,h,tm,[],q,a,fun _=>rfl,.nil (.refl h),fun k _df _kd _ro _cs _=>⟨k,.refl _ _⟩⟩
theorem Ql {id:Nat} (q:Q (.exit id) l h):W E fn nt (.exit id) l h Q:=fun tm a=>⟨.exit id,l,h,tm,[],q,a,fun _=>rfl,.nil (.refl h),fun k _df _kd _ro _cs _=>⟨k,rfl,.refl _ _⟩⟩
theorem Q2 {c:Operand} {a b:Code} {t:Bool} (hc:evl l c=some (.bool t)) (qa:t=true->W E fn nt a l h Q) (qb:t=false->W E fn nt b l h Q):W E fn nt (.cond c a b) l h Q:=by
 cases t with
 |true=>exact .step (is':=[.code a]) (fun tm k df kd ro cs ag=>by simp only[stepX,QD,List.cons_append,List.nil_append,ag.ev hc,cond_true]) (qa rfl) (hn:=fun e=>by simp[Q86,Q85]at e ⊢;exact e.1)
 |false=>exact .step (is':=[.code b]) (fun tm k df kd ro cs ag=>by simp only[stepX,QD,List.cons_append,List.nil_append,ag.ev hc,cond_false]) (qb rfl) (hn:=fun e=>by simp[Q86,Q85]at e ⊢;exact e.2)
theorem Q1a (id i:Nat) (k:List It):ZD id (.inBlock i::k)=if i=id then some k else ZD id k:=by
 show cond (Nat.beq i id) (some k) (ZD id k)=_;by_cases e:i=id
 · subst e;simp[Nat.beq_refl]
 rw[(QC i id).2 e,if_neg e];rfl
def Blk (id:Nat) (Q:Out->Kn->Hp->Prop):Out->Kn->Hp->Prop
 | .next,l,h=>Q .next l h
 | .ret,l,h=>Q .ret l h
 | .exit i,l,h=>if i=id then Q .next l h else Q (.exit i) l h
theorem Q5 {id:Nat} {b:Code} (q:W E fn nt b l h (Blk id Q)):W E fn nt (.block id b) l h Q:=by
 intro tm a;obtain⟨o,l3,h3,tm3,ds,q3,a3,n3,d3,r3⟩:=q tm a;cases o with
 | next=>
   refine⟨.next,l3,h3,tm3,ds,q3,a3,n3,d3,fun k df kd ro cs ho=>?_⟩;exact .step rfl (Runs.trans (r3 (.inBlock id::k) df kd ro cs ho) (.step rfl (.refl _ _)))
 | ret=>
   refine⟨.ret,l3,h3,tm3,ds,q3,a3,n3,d3,fun k df kd ro cs ho=>?_⟩;obtain⟨k',r⟩:=r3 (.inBlock id::k) df kd ro cs ho;exact⟨k',.step rfl r⟩
 | exit i=>
   by_cases e:i=id
   · simp only[Blk,if_pos e]at q3;refine⟨.next,l3,h3,tm3,ds,q3,a3,n3,d3,fun k df kd ro cs ho=>?_⟩;obtain⟨k',e2,r⟩:=r3 (.inBlock id::k) df kd ro cs ho;rw[Q1a,if_pos e.symm]at e2;refine .step rfl (Runs.trans r (.step (b:=⟨⟨fn,nt,tm3,k,marks ds++df,.run,kd,ro⟩,cs,h3⟩) ?_ (.refl _ _)));show(match ZD i k' with|some k'=>_|none=>_)=_;rw[e2]
   simp only[Blk,if_neg e]at q3;refine⟨.exit i,l3,h3,tm3,ds,q3,a3,n3,d3,fun k df kd ro cs ho=>?_⟩;obtain⟨k',e2,r⟩:=r3 (.inBlock id::k) df kd ro cs ho;rw[Q1a,if_neg (fun x=>e x.symm)]at e2;exact⟨k',e2,.step rfl r⟩
def Rnd (I:Nat->Kn->Hp->Prop) (n:Nat) (Q:Out->Kn->Hp->Prop):Out->Kn->Hp->Prop
 | .next,l,h=> ∃m,m <n/\ ∃l',Sub l' l/\I m l' h
 | .ret,l,h=>Q .ret l h
 | .exit i,l,h=>Q (.exit i) l h
theorem Qei {b:Code} (I:Nat->Kn->Hp->Prop) {n:Nat} (start:I n l h)
 (round: ∀n l h,I n l h->W E fn nt b l h (Rnd I n Q)):W E fn nt (.loop b) l h Q:=by
 have key: ∀n l h,I n l h->T E fn nt [.code b,.inLoop b] l h Q:=by
  intro n
  induction n using Nat.strongRecOn with
  | _ n ih=>
    intro l h hI;refine T.seq (is:=[.code b]) (fun _ _=>rfl) (T.mono (round n l h hI) fun o l2 h2 q=>?_);cases o with
    | next=>
      obtain⟨m,hm,l3,s,hI3⟩:=q;exact .step (is':=[.code b,.inLoop b]) (fun tm k df kd ro cs _=>rfl) (.weak s (ih m hm l3 h2 hI3))
    |ret=>exact q
    |exit i=>exact q
 exact .step (is':=[.code b,.inLoop b]) (fun tm k df kd ro cs _=>rfl) (key n l h start)
def Rs (E:Env) (ops:Array Oper) (dr:Bool):List Nat->List (Oper×List Oper)->Prop
 | [],[]=>True
 |i::t,(o,lt)::r=>ops[i]?=some o/\(dr=true->cls E o=2-> ∀j,j∈Qgr E ops i t-> ∃q,q∈lt/\ops[j]?=some q)/\Rs E ops dr t r
 |_,_=>False
def Q0F (dr:Bool) (ops:Array Oper) (todo:List Nat):It:=match dr with
 |true=>.draw ops todo
 |false=>.inRegion ops todo
def WL (E:Env) (fn:FuncId) (nt:Nat) (dr:Bool) (ops:Array Oper) (fin its:List (Oper×List Oper)) (l:Kn) (h:Hp) (Q:Kn->Hp->Prop):Prop:=
 ∀ todo,Rs E ops dr todo its-> ∀tm,Ag tm l-> ∃l' h' tm' todo',Q l' h'/\Ag tm' l'/\Rs E ops dr todo' fin/\KD h h'/\
   ∀k df kd ro cs,Runs E ⟨⟨fn,nt,tm,Q0F dr ops todo::k,df,.run,kd,ro⟩,cs,h⟩ ⟨⟨fn,nt,tm',Q0F dr ops todo'::k,df,.run,kd,ro⟩,cs,h'⟩
theorem WL.pre {E:Env} {fn:FuncId} {nt:Nat} {dr:Bool} {ops:Array Oper} {fin its its':List (Oper×List Oper)} {l l':Kn} {h h':Hp} {Q:Kn->Hp->Prop} (hk:KD h h')
 (hs: ∀todo,Rs E ops dr todo its-> ∃todo',Rs E ops dr todo' its'/\ ∀tm,Ag tm l-> ∃tm2,Ag tm2 l'/\ ∀k df kd ro cs,Runs E ⟨⟨fn,nt,tm,Q0F dr ops todo::k,df,.run,kd,ro⟩,cs,h⟩ ⟨⟨fn,nt,tm2,Q0F dr ops todo'::k,df,.run,kd,ro⟩,cs,h'⟩)
 (q:WL E fn nt dr ops fin its' l' h' Q):WL E fn nt dr ops fin its l h Q:=by
 intro todo hr tm a;obtain⟨todo',hr',r⟩:=hs todo hr;obtain⟨tm2,a2,r2⟩:=r tm a;obtain⟨l3,h3,tm3,t3,q3,a3,hr3,k3,r3⟩:=q todo' hr' tm2 a2;exact⟨l3,h3,tm3,t3,q3,a3,hr3,hk.trans k3,fun k df kd ro cs=>(r2 k df kd ro cs).trans (r3 k df kd ro cs)⟩
theorem WL.done {E:Env} {fn:FuncId} {nt:Nat} {dr:Bool} {ops:Array Oper} {its:List (Oper×List Oper)} {l:Kn} {h:Hp} {Q:Out->Kn->Hp->Prop}
 (q:WL E fn nt dr ops [] its l h (Q .next)) {todo:List Nat} (hr:Rs E ops dr todo its):T E fn nt [Q0F dr ops todo] l h Q:=by
 intro tm a;obtain⟨l3,h3,tm3,t3,q3,a3,hr3,k3,r3⟩:=q todo hr tm a;refine⟨.next,l3,h3,tm3,[],q3,a3,fun _=>rfl,.nil k3,fun k df kd ro cs _=>Runs.trans (r3 k df kd ro cs) (.step ?_ (.refl _ _))⟩;cases t3 with
 |cons i t=>exact hr3.elim
 |nil=>cases dr<;>rfl
theorem Q7K (E:Env) (ops:Array Oper): ∀(n k:Nat),k+n=ops.size->Rs E ops false ((List.range' k n)) ((ops.toList.drop k).map fun o=>(o,[]))
 | 0,k,e=>by
   have:ops.toList.drop k=[]:=by rw[List.drop_eq_nil_iff];simp;omega
   rw[this];trivial
 | n+1,k,e=>by
   have hk:k <ops.toList.length:=by simp;omega
   rw[List.drop_eq_getElem_cons hk,List.range'_succ];refine⟨?_,fun h=>by(cases h),Q7K E ops n (k+1) (by omega)⟩;simp[Array.getElem?_eq_getElem (show k <ops.size by omega)]
theorem Q1 {id:Nat} {ops:Array Oper} (hc:QK ops=true) (q:WL E fn nt false ops [] (ops.toList.map fun o=>(o,[])) l h (Q .next)):W E fn nt (.region id ops false) l h Q:=by
 have hr:Rs E ops false (List.range ops.size) (ops.toList.map fun o=>(o,[])):=by
  have:=Q7K E ops ops.size 0 (by omega);rwa[List.drop_zero,<-List.range_eq_range']at this
 refine .step (is':=[.inRegion ops (List.range ops.size)]) (fun tm k df kd ro cs _=>?_) (WL.done q hr) (hn:=fun _=>rfl);simp only[stepX,QD,List.cons_append,List.nil_append,hc,cond_true,cond_false]
def pk (ops:List Oper):Nat->Oper
 |0=>ops.headD default
 |n+1=>pk ops.tail n
def resolve (ops:Array Oper) (sp:List (Nat×List Nat)):List (Oper×List Oper):=sp.map fun p=>(pk ops.toList p.1,p.2.map (pk ops.toList))
def dOk (E:Env) (ops:Array Oper):List (Nat×List Nat)->Bool
 | []=>true
 |(i,lt)::r=>Nat.blt i ops.size&&(!Nat.beq (cls E (pk ops.toList i)) 2||(Qgr E ops i (r.map (·.1))).all (fun j=>Nat.blt j ops.size&&Q46 j lt))&&dOk E ops r
theorem Qer (ops:List Oper): ∀(i:Nat),i <ops.length->ops[i]?=some (pk ops i):=by
 induction ops with
 |nil=>intro i h;simp at h
 | cons o r ih=>
   intro i h;cases i with
   |zero=>rfl
   |succ n=>simp only[List.getElem?_cons_succ,pk,List.tail_cons];exact ih n (by simpa using h)
theorem pkA (ops:Array Oper) (i:Nat) (h:i <ops.size):ops[i]?=some (pk ops.toList i):=by
 rw[<-Qer ops.toList i (by simpa using h)];simp
theorem Qab (E:Env) (ops:Array Oper): ∀sp,dOk E ops sp=true->Rs E ops true (sp.map (·.1)) (resolve ops sp)
 | [],_=>trivial
 | (i,lt)::r,h=>by
   simp only[dOk,Bool.and_eq_true,Bool.or_eq_true,Bool.not_eq_true',QC,List.all_eq_true,Ye,Zy]at h;refine⟨pkA ops i h.1.1,fun _ hc j hj=>?_,Qab E ops r h.2⟩;obtain⟨h1,h2⟩:=(h.1.2.resolve_left fun hn=>hn hc) j hj;exact⟨_,List.mem_map_of_mem h2,pkA ops j h1⟩
theorem Yq {id:Nat} {ops:Array Oper} (sp:List (Nat×List Nat)) (hc:QK ops=true) (hk:YT E ops=true) (hs:canon E ops=sp.map (·.1)) (hd:dOk E ops sp=true)
 (q:WL E fn nt true ops [] (resolve ops sp) l h (Q .next)):W E fn nt (.region id ops true) l h Q:=by
 refine .step (is':=[.draw ops (canon E ops)]) (fun tm k df kd ro cs _=>?_) (WL.done q (by rw[hs];exact Qab E ops sp hd)) (hn:=fun _=>rfl);simp only[stepX,QD,List.cons_append,List.nil_append,hc,hk,cond_true]
variable {dr:Bool} {ops:Array Oper} {fin rest:List (Oper×List Oper)} {R:Kn->Hp->Prop} {lt:List Oper}
theorem Q0 (q:R l h):WL E fn nt dr ops rest rest l h R:=fun todo hr tm a=>⟨l,h,tm,todo,q,a,hr,.refl h,fun _ _ _ _ _=>.refl _ _⟩
theorem QL {dr:Bool} {ops ops':Array Oper} {rest:List (Oper×List Oper)} {id:Nat} {b:Code} (q:WL E fn nt false ops' [] (ops'.toList.map fun o=>(o,[])) l h (Thn E fn nt b Q .next)) (hc:QK ops'=true:=by kernel_rfl):WL E fn nt dr ops rest rest l h (Thn E fn nt (.seq (.region id ops' false) b) Q .next):=Q0 (Q3 (Q1 hc q))
theorem Z7 {dr:Bool} {ops ops':Array Oper} {rest:List (Oper×List Oper)} {id:Nat} {a b:Code} (q:WL E fn nt false ops' [] (ops'.toList.map fun o=>(o,[])) l h (Thn E fn nt a (Thn E fn nt b Q) .next)) (hc:QK ops'=true:=by kernel_rfl):WL E fn nt dr ops rest rest l h (Thn E fn nt (.seq (.seq (.region id ops' false) a) b) Q .next):=Q0 (Q3 (Q3 (Q1 hc q)))
theorem Q6 {ops':Array Oper} {id:Nat} {b:Code} (q:WL E fn nt false ops' [] (ops'.toList.map fun o=>(o,[])) l h (Thn E fn nt b Q .next)) (hc:QK ops'=true:=by kernel_rfl):W E fn nt (.seq (.region id ops' false) b) l h Q:=Q3 (Q1 hc q)
theorem WL.mono {its:List (Oper×List Oper)} {R':Kn->Hp->Prop} (q:WL E fn nt dr ops fin its l h R) (hq: ∀l h,R l h->R' l h):WL E fn nt dr ops fin its l h R':=by
 intro todo hr tm a;obtain⟨l3,h3,tm3,t3,q3,r⟩:=q todo hr tm a;exact⟨l3,h3,tm3,t3,hq _ _ q3,r⟩
theorem Qeh {its mid:List (Oper×List Oper)} (q:WL E fn nt dr ops mid its l h fun l h=>WL E fn nt dr ops fin mid l h R):WL E fn nt dr ops fin its l h R:=by
 intro todo hr tm a;obtain⟨l3,h3,tm3,t3,q3,a3,hr3,k3,r3⟩:=q todo hr tm a;obtain⟨l4,h4,tm4,t4,q4,a4,hr4,k4,r4⟩:=q3 t3 hr3 tm3 a3;exact⟨l4,h4,tm4,t4,q4,a4,hr4,k3.trans k4,fun k df kd ro cs=>(r3 k df kd ro cs).trans (r4 k df kd ro cs)⟩
def Gd (ops:Array Oper) (l:Kn) (g:Option (Nat×Bool)):Prop:=
 match g with
 |none=>True
 |some (g,w)=> ∃og d,ops[g]?=some og/\og.dst=some d/\lk l d=some (.bool w)
theorem gn:Gd ops l none:=trivial
theorem gy {g d:Nat} {w b:Bool} (h1:(pk ops.toList g).dst=some d) (h0:Nat.blt g ops.size=true) (h2:lk l d=some (.bool b)) (h3:b=w):Gd ops l (some (g,w)):=
 ⟨_,d,pkA ops g ((Zy _ _).1 h0),h1,h3▸h2⟩
theorem Gd.wanted {o:Oper} {tm:Tr Value} (g:Gd ops l o.guard) (a:Ag tm l):Qy ops tm o=some true:=by
 unfold Qy;generalize o.guard=x at g;cases x with
 |none=>rfl
 | some p=>
   obtain⟨i,w⟩:=p;obtain⟨og,d,h1,h2,h3⟩:=g;simp only[h1,h2,a _ _ h3];cases w<;>rfl
def Ng (ops:Array Oper) (l:Kn) (g:Option (Nat×Bool)):Prop:=
 match g with
 |none=>False
 |some (g,w)=> ∃og d v,ops[g]?=some og/\og.dst=some d/\lk l d=some v/\(v=.bool (!w)\/v=undef)
theorem ng {g d:Nat} {w b:Bool} (h1:(pk ops.toList g).dst=some d) (h0:Nat.blt g ops.size=true) (h2:lk l d=some (.bool b)) (h3:b= !w):Ng ops l (some (g,w)):=
 ⟨_,d,_,pkA ops g ((Zy _ _).1 h0),h1,h2,.inl (by rw[h3])⟩
theorem ngu {g d:Nat} {w:Bool} (h1:(pk ops.toList g).dst=some d) (h0:Nat.blt g ops.size=true) (h2:lk l d=some undef):Ng ops l (some (g,w)):=
 ⟨_,d,_,pkA ops g ((Zy _ _).1 h0),h1,h2,.inr rfl⟩
theorem Ng.wanted {o:Oper} {tm:Tr Value} (g:Ng ops l o.guard) (a:Ag tm l):Qy ops tm o=some false:=by
 unfold Qy;generalize o.guard=x at g;cases x with
 |none=>exact g.elim
 | some p=>
   obtain⟨i,w⟩:=p;obtain⟨og,d,v,h1,h2,h3,h4⟩:=g;simp only[h1,h2,a _ _ h3];rcases h4 with rfl|rfl
   · cases w<;>rfl
   rfl
def Wn (nt:Nat) (l:Kn) (d:Option Nat) (v:Value) (l':Kn):Prop:=match d with
 |none=>l'=l
 |some d=>Nat.blt d nt=true/\l'=(d,v)::l
theorem Wn.put {d:Option Nat} {v:Value} (w:Wn nt l d v l') {tm:Tr Value} (a:Ag tm l):Ag (Q0G nt tm d v) l':=by
 cases d with
 |none=>exact w▸a
 |some d=>obtain⟨h1,rfl⟩:=w;exact a.put nt d v h1
theorem wn {d:Nat} {v:Value} (h:Nat.blt d nt=true):Wn nt l (some d) v ((d,v)::l):=⟨h,rfl⟩
theorem wn0 {v:Value}:Wn nt l none v l:=rfl
theorem QeQ {o:Oper} (g:Ng ops l o.guard) (w:Wn nt l o.dst undef l') (q:WL E fn nt dr ops fin rest l' h R):WL E fn nt dr ops fin ((o,lt)::rest) l h R:=by
 refine .pre (.refl h) (fun todo hr=>?_) q;cases todo with
 |nil=>exact hr.elim
 | cons i t=>
   obtain⟨h1,_,h3⟩:=hr;refine⟨t,h3,fun tm a=>⟨_,w.put a,fun k df kd ro cs=>.step ?_ (.refl _ _)⟩⟩;cases dr
   · simp only[Q0F,stepX,QD,h1,g.wanted a]
   simp only[Q0F,stepX,QD,Q4A,h1,g.wanted a]
theorem QP {o:Oper} {v:Value} (g:Gd ops l o.guard) (hc:cls E o=0) (hv: ∀tm,Ag tm l->QJ E tm o h=some v) (w:Wn nt l o.dst v l') (q:WL E fn nt dr ops fin rest l' h R):
 WL E fn nt dr ops fin ((o,lt)::rest) l h R:=by
 refine .pre (.refl h) (fun todo hr=>?_) q;cases todo with
 |nil=>exact hr.elim
 | cons i t=>
   obtain⟨h1,_,h3⟩:=hr;refine⟨t,h3,fun tm a=>⟨_,w.put a,fun k df kd ro cs=>.step ?_ (.refl _ _)⟩⟩;cases dr
   · simp only[Q0F,stepX,QD,h1,g.wanted a,Q3X,hc,hv tm a,Y8,QU]
   simp only[Q0F,stepX,QD,Q4A,h1,g.wanted a,hc,hv tm a]
theorem JM {o:Oper} {b:AObj} {f:Nat->Value} (g:Gd ops l o.guard) (hc:cls E o=1) (hv: ∀tm,Ag tm l->allocX E tm o=some (b,f)) (w:Wn nt l o.dst (f h.n) l')
 (q:WL E fn nt dr ops fin rest l' (h.alloc b) R):WL E fn nt dr ops fin ((o,lt)::rest) l h R:=by
 refine .pre (.alloc h b) (fun todo hr=>?_) q;cases todo with
 |nil=>exact hr.elim
 | cons i t=>
   obtain⟨h1,_,h3⟩:=hr;refine⟨t,h3,fun tm a=>⟨_,w.put a,fun k df kd ro cs=>.step ?_ (.refl _ _)⟩⟩;cases dr
   · simp only[Q0F,stepX,QD,h1,g.wanted a,Q3X,hc,hv tm a,Y8,QU]
   simp only[Q0F,stepX,QD,Q4A,h1,g.wanted a,hc,hv tm a]
def Again (E:Env) (ops:Array Oper) (l:Kn) (h:Hp) (q:Oper):Prop:=
 Ng ops l q.guard\/(Gd ops l q.guard/\ ∃v d,q.dst=some d/\lk l d=some v/\sameV 20 v v=true/\ ∀tm,Ag tm l->QJ E tm q h=some v)
theorem Q8z {tm:Tr Value} {k:List It} {df:List Deferred} {kd:CallKind} {ro:Option Nat} {cs:List Fr} {rest:List Nat}: ∀(js:List Nat),(∀j,j∈js->Q2M E tm h ops j=true)->
 Runs E ⟨⟨fn,nt,tm,.chk ops js rest::k,df,.run,kd,ro⟩,cs,h⟩ ⟨⟨fn,nt,tm,.draw ops rest::k,df,.run,kd,ro⟩,cs,h⟩
 | [],_=>.step rfl (.refl _ _)
 |j::js,hj=>.step (by simp only[stepX,QD,hj j (by simp),cond_true]) (Q8z js fun i hi=>hj i (by simp[hi]))
theorem Again.ok {tm:Tr Value} (a:Ag tm l) {q:Oper} {j:Nat} (hq:ops[j]?=some q) (g:Again E ops l h q):Q2M E tm h ops j=true:=by
 unfold Q2M;simp only[hq];rcases g with g| ⟨g,v,d,h1,h2,h3,h4⟩
 · simp only[g.wanted a]
 simp only[g.wanted a,h4 tm a,h1,a _ _ h2,h3]
theorem Q9h {i:Nat} {t:List Nat} {o:Oper} {v:Value} {tm:Tr Value} {k:List It} {df:List Deferred} {kd:CallKind} {ro:Option Nat} (h1:ops[i]?=some o):
 QU E ⟨fn,nt,tm,.inRegion ops (i::t)::k,df,.run,kd,ro⟩ v=some ⟨fn,nt,Q0G nt tm o.dst v,.inRegion ops t::k,df,.run,kd,ro⟩:=by
 simp only[QU,h1]
theorem QdS {i:Nat} {t:List Nat} {o:Oper} {v:Value} {tm:Tr Value} {k:List It} {df:List Deferred} {kd:CallKind} {ro:Option Nat} (h1:ops[i]?=some o):
 QU E ⟨fn,nt,tm,.draw ops (i::t)::k,df,.run,kd,ro⟩ v=some ⟨fn,nt,Q0G nt tm o.dst v,.chk ops (Qgr E ops i t) t::k,df,.run,kd,ro⟩:=by
 simp only[QU,h1]
theorem Q7t {o:Oper} {v:Value} (g:Gd ops l o.guard) (hk:KD h h')
 (hv: ∀tm fr cs fr' is k df kd ro,Ag tm l->fr=⟨fn,nt,tm,is::k,df,.run,kd,ro⟩->QU E fr v=some fr'->
  ∃s,(match Zn E tm o h with|some n=>Y8 E fr cs h n|none=>none)=some s/\Runs E s ⟨fr',cs,h'⟩)
 (hc:cls E o=2) (w:Wn nt l o.dst v l') (ha: ∀q,q∈lt->Again E ops l' h' q) (q:WL E fn nt dr ops fin rest l' h' R):WL E fn nt dr ops fin ((o,lt)::rest) l h R:=by
 refine .pre hk (fun todo hr=>?_) q;cases todo with
 |nil=>exact hr.elim
 | cons i t=>
   obtain⟨h1,h2,h3⟩:=hr;cases dr
   · refine⟨t,h3,fun tm a=>⟨_,w.put a,fun k df kd ro cs=>?_⟩⟩;obtain⟨s,e1,e2⟩:=hv tm _ cs _ (.inRegion ops (i::t)) k df kd ro a rfl (Q9h h1);refine .step (b:=s) ?_ e2;simp only[Q0F,stepX,QD,h1,g.wanted a,Q3X,hc];exact e1
   refine⟨t,h3,fun tm a=>⟨_,w.put a,fun k df kd ro cs=>?_⟩⟩;obtain⟨s,e1,e2⟩:=hv tm _ cs _ (.draw ops (i::t)) k df kd ro a rfl (QdS h1);refine .step (b:=s) ?_ (e2.trans (Q8z _ fun j hj=>?_))
   · simp only[Q0F,stepX,QD,Q4A,h1,g.wanted a,hc];exact e1
   obtain⟨q,hq,hj⟩:=h2 rfl hc j hj;exact(ha q hq).ok (w.put a) hj
theorem Q7s {o:Oper} {v:Value} (g:Gd ops l o.guard) (hc:cls E o=2) (hv: ∀tm,Ag tm l->Zn E tm o h=some (.value v h')) (w:Wn nt l o.dst v l') (ha: ∀q,q∈lt->Again E ops l' h' q)
 (q:WL E fn nt dr ops fin rest l' h' R):WL E fn nt dr ops fin ((o,lt)::rest) l h R:=fun todo hr tm a=>
 Q7t g (Q7r (.inl (hv tm a))) (fun tm fr cs fr' is k df kd ro a e hf=>⟨⟨fr',cs,h'⟩,by simp only[hv tm a,Y8,hf],.refl _ _⟩) hc w ha q todo hr tm a
theorem Q3x {o:Oper} (g:Gd ops l o.guard) (hc:cls E o=2) (hv: ∀tm,Ag tm l->Zn E tm o h=some (.skip h')) (w:Wn nt l o.dst undef l') (ha: ∀q,q∈lt->Again E ops l' h' q)
 (q:WL E fn nt dr ops fin rest l' h' R):WL E fn nt dr ops fin ((o,lt)::rest) l h R:=fun todo hr tm a=>
 Q7t g (Q7r (v:=undef) (.inr (hv tm a))) (fun tm fr cs fr' is k df kd ro a e hf=>⟨⟨fr',cs,h'⟩,by simp only[hv tm a,Y8,hf],.refl _ _⟩) hc w ha q todo hr tm a
end
def C (E:Env) (f:FuncId) (args:List Value) (h:Hp) (Q:Value->Hp->Prop):Prop:=
 ∃ v h',Q v h'/\KD h h'/\ ∃fu tm fr0 vs,E.fn f=some fu/\YO E f args .normal=some fr0/\Z0 E tm h' fu.results.toList=some vs/\oneOf vs=v/\
   ∀kd cs,∃todo,Runs E ⟨{fr0 with kind:=kd},cs,h⟩ ⟨⟨f,fr0.nt,tm,todo,[],.returning,kd,none⟩,cs,h'⟩
theorem C.mono {E:Env} {f:FuncId} {args:List Value} {h:Hp} {Q Q':Value->Hp->Prop} (c:C E f args h Q) (hq: ∀v h',Q v h'->Q' v h'):C E f args h Q':=by
 obtain⟨v,h',q,r⟩:=c;exact⟨v,h',hq _ _ q,r⟩
def Q6d:List Value->Nat->Kn
 | [],_=>[]
 |v::r,i=>(i,v)::Q6d r (i+1)
theorem Q2L: ∀(vs:List Value) (i:Nat) (tm:Tr Value) (t:Nat) (v:Value),(if t <i then tm.get t=some v else lk (Q6d vs i) t=some v)->(Q1o vs i tm).get t=some v
 | [],i,tm,t,v,h=>by
   simp only[Q1o]
   split at h
   · exact h
   simp[Q6d,lk]at h
 | u::r,i,tm,t,v,h=>by
   simp only[Q1o];refine Q2L r (i+1) _ t v ?_
   split at h
   · rename_i hlt;rw[if_pos (by omega),KW _ _ _ _ _ (by omega),if_neg (by omega)];exact h
   rename_i hge;simp only[Q6d]at h;rw[Zl]at h
   split at h
   · rename_i e;subst e;cases h;rw[if_pos (by omega),KW _ _ _ _ _ (by omega),if_pos rfl]
   rw[if_neg (by omega)];exact h
def resL (l:Kn):List ResultVar->Option (List Value)
 | []=>some []
 | .tmp t::r=>(match lk l t,resL l r with
   |some v,some vs=>some (v::vs)
   |_,_=>none)
 |_=>none
theorem Qae {E:Env} {l:Kn} {tm:Tr Value} {h:Hp} (a:Ag tm l): ∀(rs:List ResultVar) (vs:List Value),resL l rs=some vs->Z0 E tm h rs=some vs
 | [],vs,e=>e
 | .tmp t::r,vs,e=>by
   simp only[resL]at e
   split at e
   · rename_i v ws h1 h2;cases e;simp only[Z0,Qae a r _ h2,a.ev (o:=.tmp t) h1]
   cases e
 | .cell a t::r,vs,e=>by simp[resL]at e
theorem Qa7 {E:Env} {f:FuncId} {nt:Nat} {tm:Tr Value} {kd:CallKind} {cs:List Fr} {h:Hp} {s:St} {o:Out} (ho:o=.ret\/o=.next) (r:Lands E s f nt tm [] [] kd none cs h o):
 ∃todo,Runs E s ⟨⟨f,nt,tm,todo,[],.returning,kd,none⟩,cs,h⟩:=by
 rcases ho with rfl|rfl
 · obtain⟨k',r⟩:=r;exact⟨_,Runs.trans r (.step rfl (.refl _ _))⟩
 exact⟨_,Runs.trans r (.step rfl (.refl _ _))⟩
theorem Q8 {E:Env} {f:FuncId} {args:List Value} {h:Hp} {Q:Value->Hp->Prop} {fu:Func} {c:Code} (hf:E.fn f=some fu) (hb:fu.body=some c)
 (q:W E f (args.length+(fu.ntmps -args.length)) c (Q6d args 0) h fun o l h=>(o=.ret\/o=.next)/\ ∃vs,resL l fu.results.toList=some vs/\Q (oneOf vs) h) (hn:Q85 c=true:=by kernel_rfl):C E f args h Q:=by
 have ag:Ag (Q1o args 0 .leaf) (Q6d args 0):=fun t v e=>Q2L args 0 .leaf t v (by rw[if_neg (by omega)];exact e);obtain⟨o,l',h',tm',ds,⟨ho,vs,h1,h2⟩,a',n',d',r⟩:=q _ ag;have hds:=n' (by simp[Q86,hn]);subst hds
 exact⟨_,h',h2,d'.1,fu,tm',⟨f,args.length+(fu.ntmps -args.length),Q1o args 0 .leaf,[.code c],[],.run,.normal,none⟩,vs,hf,by simp only[YO,hf,hb],Qae a' _ _ h1,rfl,
  fun kd cs=>Qa7 ho (r [] [] kd none cs (.inr rfl))⟩
theorem C.back {E:Env} {f:FuncId} {args:List Value} {h:Hp} {Q:Value->Hp->Prop} (c:C E f args h Q):
 ∃v h',Q v h'/\KD h h'/\ ∃fr0,YO E f args .normal=some fr0/\ ∀fr cs fr',QU E fr v=some fr'->Runs E ⟨fr0,fr::cs,h⟩ ⟨fr',cs,h'⟩:=by
 obtain⟨v,h',q,hk,fu,tm,fr0,vs,h1,h2,h3,h4,r⟩:=c;refine⟨v,h',q,hk,fr0,h2,fun fr cs fr' hf=>?_⟩;obtain⟨todo,r⟩:=r .normal (fr::cs)
 have e:({fr0 with kind:=.normal}:Fr)=fr0:=by
  unfold YO at h2
  split at h2
  · split at h2
    · cases h2;rfl
    cases h2
  cases h2
 rw[e]at r;refine r.trans (.step ?_ (.refl _ _));subst h4;simp only[stepX,Q0u,h1,h3,Kt,hf]
section
variable {E:Env} {fn:FuncId} {nt:Nat} {l l':Kn} {h h':Hp} {dr:Bool} {ops:Array Oper} {fin rest:List (Oper×List Oper)} {R:Kn->Hp->Prop} {lt:List Oper}
theorem QcL {o:Oper} {f:FuncId} {args:List Value} (g:Gd ops l o.guard) (hc:cls E o=2) (ho:E.orc f=none) (hs:E.sm f=none) (hv: ∀tm,Ag tm l-> ∃as,as.toList=args/\Zn E tm o h=some (.enter f as))
 (q:C E f args h fun v h'=> ∃l',Wn nt l o.dst v l'/\(∀q,q∈lt->Again E ops l' h' q)/\WL E fn nt dr ops fin rest l' h' R):WL E fn nt dr ops fin ((o,lt)::rest) l h R:=by
 obtain⟨v,h',⟨l',w,ha,q⟩,hk,fr0,e1,r⟩:=q.back;refine Q7t g hk (fun tm fr cs fr' is k df kd ro a e hf=>?_) hc w ha q;obtain⟨as,has,hw⟩:=hv tm a;subst has;refine⟨⟨fr0,fr::cs,h⟩,?_,r _ _ _ hf⟩;rw[hw];show Y8 E fr cs h (.enter f as)=_
 show ((match E.orc f with
  |some v=>(match as.toList with
   | []=>(match QU E fr v with|some fr=>some (⟨fr,cs,h⟩:St)|none=>none)
   |_=>none)
  | none=>(match E.sm f with
    | some F=>(match F as.toList h with
      |some (v,h')=>(match QU E fr v with|some fr=>some (⟨fr,cs,h'⟩:St)|none=>none)
      |none=>none)
    |none=>(match YO E f as.toList .normal with|some fr'=>some ⟨fr',fr::cs,h⟩|none=>none))):Option St)=_
 rw[ho]
 show ((match E.sm f with
       | some F=>(match F as.toList h with
         |some (v,h')=>(match QU E fr v with|some fr=>some (⟨fr,cs,h'⟩:St)|none=>none)
         |none=>none)
       |none=>(match YO E f as.toList .normal with|some fr'=>some ⟨fr',fr::cs,h⟩|none=>none)):Option St)=_
 rw[hs];show((match YO E f as.toList .normal with|some fr'=>some ⟨fr',fr::cs,h⟩|none=>none):Option St)=_;rw[e1]
theorem wl_orc {o:Oper} {f:FuncId} {v:Value} (g:Gd ops l o.guard) (hc:cls E o=2) (ho:E.orc f=some v) (hv: ∀tm,Ag tm l->Zn E tm o h=some (.enter f #[]))
 (w:Wn nt l o.dst v l') (ha: ∀q,q∈lt->Again E ops l' h q) (q:WL E fn nt dr ops fin rest l' h R):WL E fn nt dr ops fin ((o,lt)::rest) l h R:=by
 refine Q7t g (.refl h) (fun tm fr cs fr' is k df kd ro a e hf=>⟨⟨fr',cs,h⟩,by simp only[hv tm a,Y8,ho,hf],.refl _ _⟩) hc w ha q
end
theorem C.run {E:Env} {f:FuncId} {args:List Value} {h:Hp} {v0:Value} (c:C E f args h fun v _=>v=v0):
 ∃s0 n,Jn E f args h=some s0/\QcF E f (Q57 E n s0)=some v0:=by
 obtain⟨v,h',rfl,_,fu,tm,fr0,vs,h1,h2,h3,h4,r⟩:=c;obtain⟨todo,n,r⟩:=r .normal []
 have e:({fr0 with kind:=.normal}:Fr)=fr0:=by
  unfold YO at h2
  split at h2
  · split at h2
    · cases h2;rfl
    cases h2
  cases h2
 rw[e]at r;refine⟨⟨fr0,[],h⟩,n,by simp only[Jn,h2],?_⟩;rw[r];simp only[QcF,Nat.beq_refl,cond_true,h1,h3,h4]
end Go.X
namespace Go.X
section
variable {E:Env} {fn:FuncId} {nt:Nat} {l l':Kn} {h h':Hp} {dr:Bool} {ops:Array Oper} {fin rest:List (Oper×List Oper)} {R:Kn->Hp->Prop} {lt:List Oper}
variable {d:Nat} {ty:TypeId} {pos:String} {af:Array Edge} {gg:Option (Nat×Bool)} {x y z:Operand} {v u:Value} {t:TypeId}
theorem Qew (g:Gd ops l gg) (hd:Nat.blt d nt=true) (hx:evl l x=some v) (q:WL E fn nt dr ops fin rest ((d,v)::l) h R):WL E fn nt dr ops fin ((⟨some d,.move x,ty,pos,af,gg⟩,lt)::rest) l h R:=
 QP g rfl (fun _ a=>congrArg some (a.ev hx)) (wn hd) q
theorem Q83 (g:Gd ops l gg) (hd:Nat.blt d nt=true) (hx:evl l x=some v) (q:WL E fn nt dr ops fin rest ((d,v)::l) h R):WL E fn nt dr ops fin ((⟨some d,.assign x,ty,pos,af,gg⟩,lt)::rest) l h R:=
 QP g rfl (fun _ a=>congrArg some (a.ev hx)) (wn hd) q
theorem Q3Z {b:Bool} (g:Gd ops l gg) (hd:Nat.blt d nt=true) (hx:evl l x=some (.bool b)) (hb:b=true) (hy:evl l y=some v) (q:WL E fn nt dr ops fin rest ((d,v)::l) h R):
 WL E fn nt dr ops fin ((⟨some d,.pick x y z,ty,pos,af,gg⟩,lt)::rest) l h R:=
 QP g rfl (fun _ a=>by subst hb;simp only[QJ,a.ev hx,cond_true,a.ev hy]) (wn hd) q
theorem Q40 {b:Bool} (g:Gd ops l gg) (hd:Nat.blt d nt=true) (hx:evl l x=some (.bool b)) (hb:b=false) (hz:evl l z=some v) (q:WL E fn nt dr ops fin rest ((d,v)::l) h R):
 WL E fn nt dr ops fin ((⟨some d,.pick x y z,ty,pos,af,gg⟩,lt)::rest) l h R:=
 QP g rfl (fun _ a=>by subst hb;simp only[QJ,a.ev hx,cond_false,a.ev hz]) (wn hd) q
theorem o_not {b:Bool} (g:Gd ops l gg) (hd:Nat.blt d nt=true) (hx:evl l x=some (.bool b)) (q:WL E fn nt dr ops fin rest ((d,.bool (!b))::l) h R):
 WL E fn nt dr ops fin ((⟨some d,.unOp .not t x,ty,pos,af,gg⟩,lt)::rest) l h R:=
 QP g rfl (fun _ a=>by simp only[QJ,a.ev hx,unX,QV]) (wn hd) q
section
variable {k:IntKind} {a b:Int} {op:BinOp} {ty2:TypeId}
theorem YK (g:Gd ops l gg) (hd:Nat.blt d nt=true) (hx:evl l x=some (.int k a)) (hy:evl l y=some (.int k b)) (hs:YN op=false) (hv:QZ op k a b=some v)
 (q:WL E fn nt dr ops fin rest ((d,v)::l) h R):WL E fn nt dr ops fin ((⟨some d,.binOp op t x y ty2,ty,pos,af,gg⟩,lt)::rest) l h R:=
 QP g rfl (fun _ ag=>by simp only[QJ,ag.ev hx,ag.ev hy,Q2K,hs,cond_false,Z5,cond_true,hv]) (wn hd) q
theorem o_lss (g:Gd ops l gg) (hd:Nat.blt d nt=true) (hx:evl l x=some (.int k a)) (hy:evl l y=some (.int k b)) (q:WL E fn nt dr ops fin rest ((d,.bool (decide (a <b)))::l) h R):
 WL E fn nt dr ops fin ((⟨some d,.binOp .lss t x y ty2,ty,pos,af,gg⟩,lt)::rest) l h R:=YK g hd hx hy rfl (by simp only[QZ,QV]) q
theorem o_leq (g:Gd ops l gg) (hd:Nat.blt d nt=true) (hx:evl l x=some (.int k a)) (hy:evl l y=some (.int k b)) (q:WL E fn nt dr ops fin rest ((d,.bool (decide (a<=b)))::l) h R):
 WL E fn nt dr ops fin ((⟨some d,.binOp .leq t x y ty2,ty,pos,af,gg⟩,lt)::rest) l h R:=YK g hd hx hy rfl (by simp only[QZ,QV]) q
theorem o_gtr (g:Gd ops l gg) (hd:Nat.blt d nt=true) (hx:evl l x=some (.int k a)) (hy:evl l y=some (.int k b)) (q:WL E fn nt dr ops fin rest ((d,.bool (decide (b <a)))::l) h R):
 WL E fn nt dr ops fin ((⟨some d,.binOp .gtr t x y ty2,ty,pos,af,gg⟩,lt)::rest) l h R:=YK g hd hx hy rfl (by simp only[QZ,QV,gt_iff_lt]) q
theorem o_geq (g:Gd ops l gg) (hd:Nat.blt d nt=true) (hx:evl l x=some (.int k a)) (hy:evl l y=some (.int k b)) (q:WL E fn nt dr ops fin rest ((d,.bool (decide (b<=a)))::l) h R):
 WL E fn nt dr ops fin ((⟨some d,.binOp .geq t x y ty2,ty,pos,af,gg⟩,lt)::rest) l h R:=YK g hd hx hy rfl (by simp only[QZ,QV,ge_iff_le]) q
theorem Qfq (g:Gd ops l gg) (hd:Nat.blt d nt=true) (hx:evl l x=some (.int k a)) (hy:evl l y=some (.int k b)) (q:WL E fn nt dr ops fin rest ((d,.bool (decide (a=b)))::l) h R):
 WL E fn nt dr ops fin ((⟨some d,.binOp .eql t x y ty2,ty,pos,af,gg⟩,lt)::rest) l h R:=YK g hd hx hy rfl (by simp only[QZ,QV];rfl) q
theorem o_nei (g:Gd ops l gg) (hd:Nat.blt d nt=true) (hx:evl l x=some (.int k a)) (hy:evl l y=some (.int k b)) (q:WL E fn nt dr ops fin rest ((d,.bool (!decide (a=b)))::l) h R):
 WL E fn nt dr ops fin ((⟨some d,.binOp .neq t x y ty2,ty,pos,af,gg⟩,lt)::rest) l h R:=YK g hd hx hy rfl (by simp only[QZ,QV];rfl) q
theorem wrap64 {n:Int} (h1: -9223372036854775808<=n) (h2:n <9223372036854775808):IntKind.i64.wrap n=n:=IntWalk.i64_in n ⟨by omega,by omega⟩
theorem o_add (g:Gd ops l gg) (hd:Nat.blt d nt=true) (hx:evl l x=some (.int .i64 a)) (hy:evl l y=some (.int .i64 b)) (h1: -9223372036854775808<=a+b) (h2:a+b <9223372036854775808)
 (q:WL E fn nt dr ops fin rest ((d,.int .i64 (a+b))::l) h R):
 WL E fn nt dr ops fin ((⟨some d,.binOp .add t x y ty2,ty,pos,af,gg⟩,lt)::rest) l h R:=YK g hd hx hy rfl (by simp only[QZ,QA,Z8,wrap64 h1 h2]) q
theorem o_sub (g:Gd ops l gg) (hd:Nat.blt d nt=true) (hx:evl l x=some (.int .i64 a)) (hy:evl l y=some (.int .i64 b)) (h1: -9223372036854775808<=a -b) (h2:a -b <9223372036854775808)
 (q:WL E fn nt dr ops fin rest ((d,.int .i64 (a -b))::l) h R):
 WL E fn nt dr ops fin ((⟨some d,.binOp .sub t x y ty2,ty,pos,af,gg⟩,lt)::rest) l h R:=YK g hd hx hy rfl (by simp only[QZ,QA,Z8,wrap64 h1 h2]) q
end
def isB (E:Env) (t:TypeId):Bool:=match E.und t with|some .bool=>true|_=>false
def isS (E:Env) (t:TypeId):Bool:=match E.und t with|some (.slice _)=>true|_=>false
def isC (E:Env) (t:TypeId):Bool:=match E.und t with|some d=> !Ka d|_=>false
def isA (E:Env) (t:TypeId):Bool:=match E.und t with|some d=>Ka d|_=>false
def QbX (E:Env) (t:TypeId):Option Nat:=match E.und t with
 |some (.slice e)=>E.size e
 |_=>none
def arrZ (E:Env) (t:TypeId):Option (Nat×TypeId×Nat):=match E.und t with
 |some (.array n e)=>(match E.size e with|some z=>some (n,e,z)|none=>none)
 |_=>none
def fOff (E:Env) (t:TypeId) (i:Nat):Option Nat:=match E.und t with
 | some (.struct fs)=>(match fs[i]? with
   | some f=>(match E.size f.type with
     |some (_+1)=>some f.offset
     |_=>none)
   |none=>none)
 |_=>none
theorem QfN (hp:isS E t=true): ∃e,E.und t=some (.slice e):=by
 unfold isS at hp;split at hp
 · exact⟨_,‹_›⟩
 cases hp
theorem Qbn (hp:isB E t=true):E.und t=some .bool:=by
 unfold isB at hp;split at hp
 · assumption
 cases hp
theorem QfO (hp:isC E t=true): ∃e,E.und t=some e/\Ka e=false:=by
 unfold isC at hp;split at hp
 · exact⟨_,‹_›,by simpa using hp⟩
 cases hp
theorem QfP (hp:isA E t=true): ∃e,E.und t=some e/\Ka e=true:=by
 unfold isA at hp;split at hp
 · exact⟨_,‹_›,by simpa using hp⟩
 cases hp
theorem QbW {n:Nat} (hp:QbX E t=some n): ∃e,E.und t=some (.slice e)/\E.size e=some n:=by
 unfold QbX at hp;split at hp
 · exact⟨_,‹_›,hp⟩
 cases hp
section
variable {op:BinOp} {ty2:TypeId}
theorem o_eqb {a b:Bool} (g:Gd ops l gg) (hd:Nat.blt d nt=true) (hx:evl l x=some (.bool a)) (hy:evl l y=some (.bool b)) (hb:isB E t=true)
 (q:WL E fn nt dr ops fin rest ((d,.bool (a==b))::l) h R):WL E fn nt dr ops fin ((⟨some d,.binOp .eql t x y ty2,ty,pos,af,gg⟩,lt)::rest) l h R:=
 QP g rfl (fun _ ag=>by simp only[QJ,ag.ev hx,ag.ev hy,Q2K,ZC,Qbn hb,QV]) (wn hd) q
theorem Qdm {a b:Bool} (g:Gd ops l gg) (hd:Nat.blt d nt=true) (hx:evl l x=some (.bool a)) (hy:evl l y=some (.bool b)) (hb:isB E t=true)
 (q:WL E fn nt dr ops fin rest ((d,.bool (!(a==b)))::l) h R):WL E fn nt dr ops fin ((⟨some d,.binOp .neq t x y ty2,ty,pos,af,gg⟩,lt)::rest) l h R:=
 QP g rfl (fun _ ag=>by simp only[QJ,ag.ev hx,ag.ev hy,Q2K,ZC,Qbn hb,QV]) (wn hd) q
end
theorem o_len {a:Option Addr} {n c:Nat} (g:Gd ops l gg) (hd:Nat.blt d nt=true) (hx:evl l x=some (.slice a n c)) (hb:isS E t=true)
 (q:WL E fn nt dr ops fin rest ((d,.int .i64 (n:Nat))::l) h R):WL E fn nt dr ops fin ((⟨some d,.call ⟨.builtin .len,#[x],#[t]⟩,ty,pos,af,gg⟩,lt)::rest) l h R:=
 QP g rfl (fun _ ag=>by
  obtain⟨e,he⟩:=QfN hb
  simp only[QJ,List.map_cons,List.map_nil,ag.ev hx,QeE,he,QA,List.getElem?_toArray,List.getElem?_cons_zero]) (wn hd) q
theorem Q3g {a:Addr} (g:Gd ops l gg) (hd:Nat.blt d nt=true) (hx:evl l x=some (.pointer (some a))) (q:WL E fn nt dr ops fin rest ((d,.pointer (some a))::l) h R):
 WL E fn nt dr ops fin ((⟨some d,.nilCheck x,ty,pos,af,gg⟩,lt)::rest) l h R:=
 QP g rfl (fun _ ag=>by simp only[QJ,ag.ev hx]) (wn hd) q
theorem addr_add (b o k:Nat):(⟨b,o,none⟩:Addr).add k=⟨b,o+k,none⟩:=by
 unfold Addr.add
 split
 · rename_i e;subst e;rfl
 rfl
theorem Q28 {b o i off:Nat} (g:Gd ops l gg) (hd:Nat.blt d nt=true) (hx:evl l x=some (.pointer (some ⟨b,o,none⟩))) (ho:fOff E t i=some off)
 (q:WL E fn nt dr ops fin rest ((d,.pointer (some ⟨b,o+off,none⟩))::l) h R):WL E fn nt dr ops fin ((⟨some d,.fieldAddr t x i,ty,pos,af,gg⟩,lt)::rest) l h R:=
 QP g rfl (fun _ ag=>by
  unfold fOff at ho
  split at ho
  · rename_i fs hu
    split at ho
    · rename_i f hf
      split at ho
      · rename_i n hs;cases ho;simp only[QJ,ag.ev hx,Yc,hu,hf,hs,addr_add]
      cases ho
    cases ho
  cases ho) (wn hd) q
theorem Yi {k:IntKind} {j:Int} (hj:0<=j):KF (.int k j)=some j.toNat:=by
 cases j with
 |ofNat n=>rfl
 |negSucc n=>exact absurd hj (by omega)
theorem Q27 {b o n c zz:Nat} {k:IntKind} {j:Int} (g:Gd ops l gg) (hd:Nat.blt d nt=true) (hx:evl l x=some (.slice (some ⟨b,o,none⟩) n c)) (hy:evl l y=some (.int k j))
 (hz:QbX E t=some zz) (h1:0<=j) (h2:j <n)
 (q:WL E fn nt dr ops fin rest ((d,.pointer (some ⟨b,o+j.toNat*zz,none⟩))::l) h R):WL E fn nt dr ops fin ((⟨some d,.indexAddr t x y,ty,pos,af,gg⟩,lt)::rest) l h R:=
 QP g rfl (fun _ ag=>by
  obtain⟨e,he,hs⟩:=QbW hz;have hlt:Nat.blt j.toNat n=true:=(Zy _ _).2 (by omega)
  simp only[QJ,ag.ev hx,ag.ev hy,ZP,Yi h1,he,hs,hlt,cond_true,addr_add]) (wn hd) q
theorem QW {b o n e zz:Nat} {k:IntKind} {j:Int} (g:Gd ops l gg) (hd:Nat.blt d nt=true) (hx:evl l x=some (.pointer (some ⟨b,o,none⟩))) (hy:evl l y=some (.int k j))
 (hz:arrZ E t=some (n,e,zz)) (h1:0<=j) (h2:j <n)
 (q:WL E fn nt dr ops fin rest ((d,.pointer (some ⟨b,o+j.toNat*zz,none⟩))::l) h R):WL E fn nt dr ops fin ((⟨some d,.indexAddr t x y,ty,pos,af,gg⟩,lt)::rest) l h R:=
 QP g rfl (fun _ ag=>by
  unfold arrZ at hz
  split at hz
  · rename_i n' e' hu
    split at hz
    · rename_i z hs;cases hz;have hlt:Nat.blt j.toNat n=true:=(Zy _ _).2 (by omega);simp only[QJ,ag.ev hx,ag.ev hy,ZP,Yi h1,hu,hs,hlt,cond_true,addr_add]
    cases hz
  cases hz) (wn hd) q
theorem Qfp {cs:Array Value} {i:Nat} (g:Gd ops l gg) (hd:Nat.blt d nt=true) (hx:evl l x=some (.agg cs)) (hv:Q5V E t (.agg cs) i=some v)
 (q:WL E fn nt dr ops fin rest ((d,v)::l) h R):WL E fn nt dr ops fin ((⟨some d,.field t x i,ty,pos,af,gg⟩,lt)::rest) l h R:=
 QP g rfl (fun _ ag=>by simp only[QJ,ag.ev hx,hv]) (wn hd) q
theorem Q3B {l:List Value} {o:Nat} {v:Value} (h:l[o]?=some v):(l.drop o).take 1=[v]:=by
 obtain⟨hlt,rfl⟩:=List.getElem?_eq_some_iff.1 h;rw[List.drop_eq_getElem_cons hlt];rfl
theorem Q3l {b o:Nat} {cs:List Value} {e:TypeId} {m:Nat} (hc:isC E t=true) (hg:h.get b=some (.cells cs e m)) (hv:cs[o]?=some v):Ji E t ⟨b,o,none⟩ h=some v:=by
 obtain⟨e,he,ha⟩:=QfO hc;have hlt:=(List.getElem?_eq_some_iff.1 hv).1;have:Nat.ble (o+1) cs.length=true:=(Qx _ _).2 hlt;simp only[Ji,he,ha,rowOf,hg,this,cond_true,Q3B hv]
theorem Y2 {b o:Nat} {cs:List Value} {e:TypeId} {m:Nat} (g:Gd ops l gg) (hd:Nat.blt d nt=true) (hx:evl l x=some (.pointer (some ⟨b,o,none⟩))) (hc:isC E t=true)
 (hg:h.get b=some (.cells cs e m)) (hv:cs[o]?=some v) (q:WL E fn nt dr ops fin rest ((d,v)::l) h R):
 WL E fn nt dr ops fin ((⟨some d,.load t x,ty,pos,af,gg⟩,lt)::rest) l h R:=
 QP g rfl (fun _ ag=>by simp only[QJ,ag.ev hx,Q3l hc hg hv]) (wn hd) q
theorem Q2i {b o n:Nat} {cs:List Value} {e:TypeId} {m:Nat} (hc:isA E t=true) (hn:E.size t=some n) (hg:h.get b=some (.cells cs e m)) (hv:o+n<=cs.length):
 Ji E t ⟨b,o,none⟩ h=some (.agg ((cs.drop o).take n).toArray):=by
 obtain⟨e,he,ha⟩:=QfP hc;have:Nat.ble (o+n) cs.length=true:=(Qx _ _).2 hv;simp only[Ji,he,ha,hn,rowOf,hg,this,cond_true]
theorem Z4 {b o n:Nat} {cs:List Value} {e:TypeId} {m:Nat} (g:Gd ops l gg) (hd:Nat.blt d nt=true) (hx:evl l x=some (.pointer (some ⟨b,o,none⟩))) (hc:isA E t=true) (hn:E.size t=some n)
 (hg:h.get b=some (.cells cs e m)) (hv:o+n<=cs.length) (q:WL E fn nt dr ops fin rest ((d,.agg ((cs.drop o).take n).toArray)::l) h R):
 WL E fn nt dr ops fin ((⟨some d,.load t x,ty,pos,af,gg⟩,lt)::rest) l h R:=
 QP g rfl (fun _ ag=>by simp only[QJ,ag.ev hx,Q2i hc hn hg hv]) (wn hd) q
theorem Kb {b o:Nat} {cs:List Value} {e:TypeId} {m:Nat} (g:Gd ops l gg) (hx:evl l x=some (.pointer (some ⟨b,o,none⟩))) (hc:isC E t=true)
 (hg:h.get b=some (.cells cs e m)) (hv:cs[o]?=some v) (hl:lk l d=some v) (hs:sameV 20 v v=true):Again E ops l h ⟨some d,.load t x,ty,pos,af,gg⟩:=
 .inr ⟨g,v,d,rfl,hl,hs,fun _ ag=>by simp only[QJ,ag.ev hx,Q3l hc hg hv]⟩
theorem ag0: ∀q,q∈([]:List Oper)->Again E ops l h q:=fun q hq=>by cases hq
theorem ag1 {q:Oper} {r:List Oper} (a:Again E ops l h q) (as: ∀q,q∈r->Again E ops l h q): ∀p,p∈q::r->Again E ops l h p:=fun p hp=>by
 rcases List.mem_cons.1 hp with rfl|hp
 · exact a
 exact as p hp
theorem Q3D {k:IntKind} {n:Int}:sameV 20 (.int k n) (.int k n)=true:=by simp[sameV,Z5]
theorem ZM {a:Option Addr} {n c:Nat}:sameV 20 (.slice a n c) (.slice a n c)=true:=by cases a<;>simp[sameV]
theorem Qfs {e:TypeId} {zv:Value} (g:Gd ops l gg) (hd:Nat.blt d nt=true) (hz:E.zero e=some zv)
 (q:WL E fn nt dr ops fin rest ((d,.pointer (some ⟨h.n,0,none⟩))::l) (h.alloc (.cells zv.cells.toList e 0)) R):
 WL E fn nt dr ops fin ((⟨some d,.alloc e,ty,pos,af,gg⟩,lt)::rest) l h R:=
 JM (f:=ptrTo) g rfl (fun _ _=>by simp only[allocX,hz,ZA]) (wn hd) q
theorem o_box {e:TypeId} (g:Gd ops l gg) (hd:Nat.blt d nt=true) (hx:evl l x=some v)
 (q:WL E fn nt dr ops fin rest ((d,.pointer (some ⟨h.n,0,none⟩))::l) (h.alloc (.cells v.cells.toList e 0)) R):
 WL E fn nt dr ops fin ((⟨some d,.box e x,ty,pos,af,gg⟩,lt)::rest) l h R:=
 JM (f:=ptrTo) g rfl (fun _ ag=>by simp only[allocX,ag.ev hx,ZA]) (wn hd) q
def partsOf (E:Env) (t:TypeId):Option (List (Nat×Nat)):=match E.und t with
 |some (.struct fs)=>fs.toList.mapM fun f=>(E.size f.type).map fun n=>(f.offset,n)
 |_=>none
theorem Q2u {tm:Tr Value} (ag:Ag tm l): ∀ {ps:List (Nat×Operand)} {pv:List (Nat×Value)},ps.map (fun p=>(p.1,evl l p.2))=pv.map (fun p=>(p.1,some p.2))->
 (ps.map fun(p:Nat×Operand)=>(p.1,ev tm p.2))=pv
 | [],[],_=>rfl
 | [],_::_,h=>by simp at h
 |_::_,[],h=>by simp at h
 | p::ps,q::pv,h=>by
   simp only[List.map_cons,List.cons.injEq,Prod.mk.injEq]at h;rw[List.map_cons,Q2u ag h.2,ag.ev h.1.2,h.1.1]
theorem Qz {ps:Array (Nat×Operand)} {pl:List (Nat×Nat)} {zv:Value} {cs:Array Value} (pv:List (Nat×Value)) (g:Gd ops l gg) (hd:Nat.blt d nt=true) (hz:E.zero t=some zv)
 (hp:partsOf E t=some pl) (hv:ps.toList.map (fun p=>(p.1,evl l p.2))=pv.map (fun p=>(p.1,some p.2))) (hf:Instr.fill (fun i=>pl[i]?) zv.cells pv=some cs)
 (q:WL E fn nt dr ops fin rest ((d,.agg cs)::l) h R):WL E fn nt dr ops fin ((⟨some d,.build t ps,ty,pos,af,gg⟩,lt)::rest) l h R:=
 QP g rfl (fun _ ag=>by
  unfold partsOf at hp
  split at hp
  · rename_i fs hu;simp only[QJ,hz,hu,hp,Q2u ag hv,hf]
  cases hp) (wn hd) q
theorem Q5r {ps:Array (Nat×Operand)} {n:Nat} {e z:Nat} {zv:Value} {cs:Array Value} (pv:List (Nat×Value)) (g:Gd ops l gg) (hd:Nat.blt d nt=true) (hu:E.und t=some (.slice e)) (hs:E.size e=some (z+1))
 (hz:E.zero e=some zv) (hn:(Nat.ble (n*(z+1)) (2^24)&&Nat.beq zv.cells.size (z+1))=true)
 (hv:ps.toList.map (fun p=>(p.1,evl l p.2))=pv.map (fun p=>(p.1,some p.2))) (hf:Instr.fill (fun i=>some (i*(z+1),z+1)) (Qd zv.cells.toList n).toArray pv=some cs)
 (q:WL E fn nt dr ops fin rest ((d,.slice (some ⟨h.n,0,none⟩) n n)::l) (h.alloc (.cells cs.toList e 0)) R):WL E fn nt dr ops fin ((⟨some d,.buildSlice t n ps,ty,pos,af,gg⟩,lt)::rest) l h R:=
 JM (f:=fun i=>.slice (some ⟨i,0,none⟩) n n) g rfl (fun _ ag=>by
  simp only[allocX,hu,hs,hz,hn,cond_true,Q2u ag hv,hf,ZA]) (wn hd) q
theorem Q6U {k k':IntKind} {n c:Int} {e z by':Nat} {zv:Value} (g:Gd ops l gg) (hd:Nat.blt d nt=true) (hx:evl l x=some (.int k n)) (hy:evl l y=some (.int k' c)) (hu:E.und t=some (.slice e)) (hs:E.size e=some (z+1))
 (hz:E.zero e=some zv) (hb:E.bytes e=some by') (hzs:zv.cells.size=z+1) (h0:0<=n) (h1:n<=c) (h2:c<=1099511627776) (h3:by'*c.toNat<=140737488355328)
 (q:WL E fn nt dr ops fin rest ((d,.slice (some ⟨h.n,0,none⟩) n.toNat c.toNat)::l) (h.alloc (.cells (Qd zv.cells.toList c.toNat) e 0)) R):
 WL E fn nt dr ops fin ((⟨some d,.makeSlice t x y,ty,pos,af,gg⟩,lt)::rest) l h R:=
 JM (f:=fun i=>.slice (some ⟨i,0,none⟩) n.toNat c.toNat) g rfl (fun _ ag=>by
  have e1:Nat.ble n.toNat c.toNat=true:=(Qx _ _).2 (by omega);have e2:Nat.ble c.toNat (2^40)=true:=(Qx _ _).2 (by omega);have e3:Nat.ble (by'*c.toNat) (2^47)=true:=(Qx _ _).2 (by omega)
  simp only[allocX,hu,hs,hz,hb,ag.ev hx,ag.ev hy,Yi h0,Yi (Int.le_trans h0 h1),e1,e2,e3,hzs,Nat.beq_refl,Bool.and_true,cond_true,ZA]) (wn hd) q
theorem set_eq {l:List Value} {o:Nat} {v:Value} (h:o <l.length):l.take o++[v]++l.drop (o+1)=l.set o v:=by
 rw[List.set_eq_take_append_cons_drop];simp[h]
theorem Q6S {b o:Nat} {cs:List Value} {e:TypeId} {m:Nat} (g:Gd ops l gg) (hx:evl l x=some (.pointer (some ⟨b,o,none⟩))) (hy:evl l y=some v) (hc:cellV v=true) (ht:E.size t=some 1)
 (hg:h.get b=some (.cells cs e m)) (hm:m≠1) (hv:o <cs.length) (ha: ∀q,q∈lt->Again E ops l (h.put b (.cells (cs.set o v) e m)) q)
 (q:WL E fn nt dr ops fin rest l (h.put b (.cells (cs.set o v) e m)) R):
 WL E fn nt dr ops fin ((⟨none,.store t x y,ty,pos,af,gg⟩,lt)::rest) l h R:=by
 refine Q3x g rfl (fun _ ag=>?_) wn0 ha q;have hcell:v.cells= #[v]:=by cases v<;>first|rfl|simp[cellV]at hc
 have e1:Nat.ble (o+1) cs.length=true:=(Qx _ _).2 hv;have e2:Nat.beq m 1=false:=(QC _ _).2 hm
 simp only[Zn,ag.ev hx,ag.ev hy,Q15,ht,hcell,List.size_toArray,List.length_cons,List.length_nil,Nat.zero_add,Nat.beq_refl,List.all_cons,List.all_nil,hc,Bool.and_true,cond_true,Zg,hg,e1,e2,
  Bool.not_false,set_eq hv]
theorem Q1u {s w:Value} {t':TypeId} (g:Gd ops l gg) (hd:Nat.blt d nt=true) (hx:evl l x=some s) (hy:evl l y=some w) (ha:Zh E h t t' s w=some (v,h'))
 (hag: ∀q,q∈lt->Again E ops ((d,v)::l) h' q)
 (q:WL E fn nt dr ops fin rest ((d,v)::l) h' R):WL E fn nt dr ops fin ((⟨some d,.call ⟨.builtin .append,#[x,y],#[t,t']⟩,ty,pos,af,gg⟩,lt)::rest) l h R:=
 Q7s g rfl (fun _ ag=>by
  simp only[Zn,YS,Ya,List.getElem?_toArray,List.getElem?_cons_zero,List.getElem?_cons_succ,List.map_toArray,List.map_cons,List.map_nil,ag.ev hx,ag.ev hy,ha]) (wn hd) hag q
def Q69 (E:Env) (f:FuncId):Bool:= !E.ext f&&(E.orc f).isNone&&(E.sm f).isNone&&match E.fn f with
 |some fn=>fn.body.isSome&& !(fn.name== "runtime.NumGoroutine")
 |none=>false
def orcOk (E:Env) (f:FuncId):Bool:= !E.ext f&&match E.fn f with
 |some fn=>fn.body.isSome&& !(fn.name== "runtime.NumGoroutine")
 |none=>false
theorem Q8w {tm:Tr Value} (ag:Ag tm l): ∀ {ps:List Operand} {pv:List Value},ps.map (evl l)=pv.map some->ps.map (ev tm)=pv
 | [],[],_=>rfl
 | [],_::_,h=>by simp at h
 |_::_,[],h=>by simp at h
 | p::ps,q::pv,h=>by
   simp only[List.map_cons,List.cons.injEq]at h;rw[List.map_cons,Q8w ag h.2,ag.ev h.1]
theorem Q1E {tm:Tr Value} {f:FuncId} {args:Array Operand} {as:Array TypeId} {vs:List Value} {first cap:Array Value} (ag:Ag tm l) (hf:evl l x=some (.func (.func f) first cap)) (hv:args.toList.map (evl l)=vs.map some)
 (ho:E.ext f=false) (hfn:(match E.fn f with|some fn=>fn.body.isSome&& !(fn.name== "runtime.NumGoroutine")|none=>false)=true):
 ∃as',as'.toList=first.toList++vs++cap.toList/\Zn E tm ⟨some d,.call ⟨.value x,args,as⟩,ty,pos,af,gg⟩ h=some (.enter f as'):=by
 refine⟨(first++args.map (ev tm))++cap,by simp[Q8w ag hv],?_⟩;simp only[Zn,YS,ag.ev hf,Ya,J0,ho,cond_false]
 revert hfn
 cases E.fn f with
 |none=>intro hfn;cases hfn
 |some fn=>intro hfn;simp only at hfn;simp only[hfn,cond_true]
theorem Z1 {f:FuncId} {args:Array Operand} {as:Array TypeId} (vs:List Value) {first cap:Array Value} (g:Gd ops l gg) (hd:Nat.blt d nt=true) (hf:evl l x=some (.func (.func f) first cap)) (ho:Q69 E f=true) (hv:args.toList.map (evl l)=vs.map some)
 (q:C E f (first.toList++vs++cap.toList) h fun v h'=>(∀q,q∈lt->Again E ops ((d,v)::l) h' q)/\WL E fn nt dr ops fin rest ((d,v)::l) h' R):
 WL E fn nt dr ops fin ((⟨some d,.call ⟨.value x,args,as⟩,ty,pos,af,gg⟩,lt)::rest) l h R:=by
 simp only[Q69,Bool.and_eq_true,Bool.not_eq_true',Option.isNone_iff_eq_none]at ho;exact QcL g rfl ho.1.1.2 ho.1.2 (fun _ ag=>Q1E ag hf hv ho.1.1.1 ho.2) (q.mono fun v h' q=>⟨_,wn hd,q.1,q.2⟩)
theorem Q94 {f:FuncId} {as:Array TypeId} (g:Gd ops l gg) (hd:Nat.blt d nt=true) (ho:orcOk E f=true) (he:E.orc f=some v) (ha: ∀q,q∈lt->Again E ops ((d,v)::l) h q)
 (q:WL E fn nt dr ops fin rest ((d,v)::l) h R):
 WL E fn nt dr ops fin ((⟨some d,.call ⟨.value (.func f),#[],as⟩,ty,pos,af,gg⟩,lt)::rest) l h R:=by
 simp only[orcOk,Bool.and_eq_true,Bool.not_eq_true']at ho;refine wl_orc (f:=f) g rfl he (fun _ ag=>?_) (wn hd) ha q;obtain⟨as',h1,h2⟩:=Q1E (E:=E) (h:=h) (d:=d) (ty:=ty) (pos:=pos) (af:=af) (gg:=gg) (f:=f) (x:=.func f) (args:= #[]) (as:=as) (vs:=[]) (first:= #[]) (cap:= #[]) ag rfl rfl ho.1 ho.2;have:as'= #[]:=by simpa using h1
 rw[this]at h2;exact h2
def disj:List Nat->List Nat->Bool
 | [],_=>true
 |a::r,l=> !Q46 a l&&disj r l
def Qgp (nt:Nat) (ops:Array Oper) (dc:Nat) (w:Bool) (keys:List Nat):List Nat->List (Oper×List Oper)->Bool
 |_,[]=>true
 | done, (o,_)::r=>(match o.dst with
  | some d=>Nat.blt d nt&& !Q46 d keys&& !Q46 d done&&
    (match o.guard with
     | some (i,w')=>(match(pk ops.toList i).dst with
       |some e=>Nat.blt i ops.size&&((Nat.beq e dc&&(w==w'))||Q46 e done)
       |none=>false)
     |none=>false)&&Qgp nt ops dc w keys (d::done) r
  |none=>false)
theorem Q2j: ∀(l:Kn) (t:Nat) (v:Value),lk l t=some v->t∈l.map (·.1)
 | [],_,_,h=>by simp[lk]at h
 | (k,u)::r,t,v,h=>by
   rw[Zl]at h
   split at h
   · rename_i e;subst e;simp
   exact List.mem_cons_of_mem _ (Q2j r t v h)
theorem YM: ∀(p l:Kn) (t:Nat),t∉p.map (·.1)->lk (p++l) t=lk l t
 | [],_,_,_=>rfl
 | (k,u)::r,l,t,h=>by
   rw[List.cons_append,Zl,if_neg (fun e=>h (by simp[e])),YM r l t (fun m=>h (List.mem_cons_of_mem _ m))]
theorem Ag.split {tm:Tr Value} {p:Kn} (a:Ag tm (p++l)) (hd: ∀t,t∈p.map (·.1)->t∉l.map (·.1)):Ag tm l:=fun t v h=>
 a t v (by rw[YM _ _ _ fun m=>hd t m (Q2j _ _ _ h)];exact h)
theorem Q4B: ∀(a l:List Nat),disj a l=true-> ∀t,t∈a->t∉l
 | [],_,_,t,h=>by simp at h
 | k::r,l,hd,t,h=>by
   simp only[disj,Bool.and_eq_true,Bool.not_eq_true',YB]at hd;rcases List.mem_cons.1 h with rfl|h
   · exact hd.1
   exact Q4B r l hd.2 t h
theorem Q7D {dc:Nat} {w b:Bool} (hb:lk l dc=some (.bool b)) (hw:b= !w) {its:List (Oper×List Oper)}: ∀(seg:List (Oper×List Oper)) (done:List Nat) (p:Kn),p.map (·.1)=done->(∀t v,(t,v)∈p->v=undef)->
 dc∉done->(∀t,t∈done->t∉l.map (·.1))->Qgp nt ops dc w (l.map (·.1)) done seg=true->(∀p',(∀t,t∈p'.map (·.1)->t∉l.map (·.1))->WL E fn nt dr ops fin its (p'++l) h R)->WL E fn nt dr ops fin (seg++its) (p++l) h R
 | [],done,p,hp,hu,hn,hd,hs,q=>q p (hp▸hd)
 | (o, lt) ::r,done,p,hp,hu,hn,hd,hs,q=>by
   unfold Qgp at hs;cases ho:o.dst with
   |none=>rw[ho]at hs;cases hs
   | some d=>
     rw[ho]at hs;simp only[Bool.and_eq_true,Bool.not_eq_true',YB]at hs;obtain⟨⟨⟨⟨h1,h2⟩,h3⟩,h4⟩,h5⟩:=hs;have hdcl:dc∈l.map (·.1):=Q2j _ _ _ hb
     have hmem: ∀e,e∈done-> ∃v,(e,v)∈p:=fun e he=>by
      rw[<-hp]at he;obtain⟨⟨a,b⟩,h6,h7⟩:=List.mem_map.1 he;exact⟨b,by rw[<-h7];exact h6⟩
     have hund: ∀(p:Kn) (e:Nat),(∀t v,(t,v)∈p->v=undef)->e∈p.map (·.1)->lk (p++l) e=some undef:=by
      intro p
      induction p with
      |nil=>intro e _ he;simp at he
      | cons x p ih=>
        intro e hu he;obtain⟨k,u⟩:=x;rw[List.cons_append,Zl];by_cases ek:k=e
        · rw[if_pos ek,hu k u (by simp)]
        rw[if_neg ek];refine ih e (fun t v h=>hu t v (by simp[h])) ?_;simp at he;rcases he with he|he
        · exact absurd he.symm ek
        simpa using he
     have hng:Ng ops (p++l) o.guard:=by
      cases hg:o.guard with
      |none=>rw[hg]at h4;cases h4
      | some gw=>
        obtain⟨i,w'⟩:=gw;rw[hg]at h4;simp only at h4;cases hpk:(pk ops.toList i).dst with
        |none=>rw[hpk]at h4;cases h4
        | some e=>
          rw[hpk]at h4;simp only[Bool.and_eq_true,Bool.or_eq_true,QM,Ye,beq_iff_eq]at h4;obtain⟨h6,h7⟩:=h4;rcases h7 with⟨rfl,rfl⟩|h7
          · exact ng (b:=b) hpk h6 (by rw[YM _ _ _ (hp▸hn)];exact hb) hw
          exact ngu hpk h6 (hund p e hu (hp▸h7))
     refine QeQ hng (l':=(d,undef)::(p++l)) (by rw[ho];exact wn h1) ?_;refine Q7D hb hw r (d::done) ((d,undef)::p) (by simp[hp]) (fun t v h=>?_) (fun h=>?_) (fun t ht=>?_) h5 q
     · rcases List.mem_cons.1 h with h|h
       · cases h;rfl
       exact hu t v h
     · rcases List.mem_cons.1 h with h|h
       · subst h;exact h2 hdcl
       exact hn h
     rcases List.mem_cons.1 ht with h|h
     · subst h;exact h2
     exact hd t h
theorem QT {dc tb n:Nat} {b B:Bool} {its:List (Oper×List Oper)} (hb:lk l dc=some (.bool b)) (hsk:Qgp nt ops dc false (l.map (·.1)) [] (its.take n)=true)
 (hp:its.drop n=(⟨some d,.pick (.tmp dc) (.const (.bool true)) (.tmp tb),ty,pos,af,gg⟩,lt)::rest) (g:Gd ops l gg) (hd:Nat.blt d nt=true)
 (q1:b=false->WL E fn nt dr ops (its.drop n) its l h fun l1 h1=>h1=h/\lk l1 tb=some (.bool B)/\ ∃k,l1.drop k=l/\disj ((l1.take k).map (·.1)) (l.map (·.1))=true)
 (q:WL E fn nt dr ops fin rest ((d,.bool (b||B))::l) h R):WL E fn nt dr ops fin its l h R:=by
 cases b with
 | false=>
   refine Qeh ((q1 rfl).mono fun l1 h1 ⟨e1,e2,k,e3,e4⟩=>?_);subst e1
   have hlk: ∀t v,lk l t=some v->lk l1 t=some v:=fun t v e=>by
    rw[<-List.take_append_drop k l1,e3,YM _ _ _ (fun m=>Q4B _ _ e4 t m (Q2j _ _ _ e))];exact e
   rw[hp]
   have g':Gd ops l1 gg:=by
    unfold Gd at g ⊢;cases gg with
    |none=>trivial
    |some x=>obtain⟨og,d,a1,a2,a3⟩:=g;exact⟨og,d,a1,a2,hlk _ _ a3⟩
   refine Q40 (v:=.bool B) g' hd (hlk dc _ hb) rfl e2 ?_;intro todo hr tm ag;refine q todo hr tm fun t v e=>?_;rw[Zl]at e;by_cases hdt:d=t
   · rw[if_pos hdt]at e;exact ag t v (by rw[Zl,if_pos hdt];exact e)
   rw[if_neg hdt]at e;exact ag t v (by rw[Zl,if_neg hdt];exact hlk _ _ e)
 | true=>
   rw[<-List.take_append_drop n its];refine Q7D (p:=[]) hb rfl (its.take n) [] rfl (fun _ _ h=>by simp at h) (by simp) (fun _ h=>by simp at h) hsk fun p' hp'=>?_;rw[hp]
   have hlk: ∀t v,lk l t=some v->lk (p'++l) t=some v:=fun t v e=>by
    rw[YM _ _ _ (fun m=>hp' t m (Q2j _ _ _ e))];exact e
   have g':Gd ops (p'++l) gg:=by
    unfold Gd at g ⊢;cases gg with
    |none=>trivial
    |some x=>obtain⟨og,d,a1,a2,a3⟩:=g;exact⟨og,d,a1,a2,hlk _ _ a3⟩
   refine Q3Z (v:=.bool true) g' hd (hlk dc _ hb) rfl rfl ?_;intro todo hr tm ag;refine q todo hr tm fun t v e=>?_;rw[Zl]at e;by_cases hdt:d=t
   · rw[if_pos hdt]at e;exact ag t v (by rw[Zl,if_pos hdt];exact e)
   rw[if_neg hdt]at e;exact ag t v (by rw[Zl,if_neg hdt];exact hlk _ _ e)
theorem Qp {dc tb n:Nat} {b B:Bool} {its:List (Oper×List Oper)} (hb:lk l dc=some (.bool b)) (hsk:Qgp nt ops dc true (l.map (·.1)) [] (its.take n)=true)
 (hp:its.drop n=(⟨some d,.pick (.tmp dc) (.tmp tb) (.const (.bool false)),ty,pos,af,gg⟩,lt)::rest) (g:Gd ops l gg) (hd:Nat.blt d nt=true)
 (q1:b=true->WL E fn nt dr ops (its.drop n) its l h fun l1 h1=>h1=h/\lk l1 tb=some (.bool B)/\ ∃k,l1.drop k=l/\disj ((l1.take k).map (·.1)) (l.map (·.1))=true)
 (q:WL E fn nt dr ops fin rest ((d,.bool (b&&B))::l) h R):WL E fn nt dr ops fin its l h R:=by
 cases b with
 | true=>
   refine Qeh ((q1 rfl).mono fun l1 h1 ⟨e1,e2,k,e3,e4⟩=>?_);subst e1
   have hlk: ∀t v,lk l t=some v->lk l1 t=some v:=fun t v e=>by
    rw[<-List.take_append_drop k l1,e3,YM _ _ _ (fun m=>Q4B _ _ e4 t m (Q2j _ _ _ e))];exact e
   rw[hp]
   have g':Gd ops l1 gg:=by
    unfold Gd at g ⊢;cases gg with
    |none=>trivial
    |some x=>obtain⟨og,d,a1,a2,a3⟩:=g;exact⟨og,d,a1,a2,hlk _ _ a3⟩
   refine Q3Z (v:=.bool B) g' hd (hlk dc _ hb) rfl e2 ?_;intro todo hr tm ag;refine q todo hr tm fun t v e=>?_;rw[Zl]at e;by_cases hdt:d=t
   · rw[if_pos hdt]at e;exact ag t v (by rw[Zl,if_pos hdt];exact e)
   rw[if_neg hdt]at e;exact ag t v (by rw[Zl,if_neg hdt];exact hlk _ _ e)
 | false=>
   rw[<-List.take_append_drop n its];refine Q7D (p:=[]) hb rfl (its.take n) [] rfl (fun _ _ h=>by simp at h) (by simp) (fun _ h=>by simp at h) hsk fun p' hp'=>?_;rw[hp]
   have hlk: ∀t v,lk l t=some v->lk (p'++l) t=some v:=fun t v e=>by
    rw[YM _ _ _ (fun m=>hp' t m (Q2j _ _ _ e))];exact e
   have g':Gd ops (p'++l) gg:=by
    unfold Gd at g ⊢;cases gg with
    |none=>trivial
    |some x=>obtain⟨og,d,a1,a2,a3⟩:=g;exact⟨og,d,a1,a2,hlk _ _ a3⟩
   refine Q40 (v:=.bool false) g' hd (hlk dc _ hb) rfl rfl ?_;intro todo hr tm ag;refine q todo hr tm fun t v e=>?_;rw[Zl]at e;by_cases hdt:d=t
   · rw[if_pos hdt]at e;exact ag t v (by rw[Zl,if_pos hdt];exact e)
   rw[if_neg hdt]at e;exact ag t v (by rw[Zl,if_neg hdt];exact hlk _ _ e)
theorem Ze {dc:Nat} {b:Bool} {its:List (Oper×List Oper)} (_hb:lk l dc=some (.bool b)) (q1:b=true->WL E fn nt dr ops fin its l h R) (q2:b=false->WL E fn nt dr ops fin its l h R):WL E fn nt dr ops fin its l h R:=by
 cases b with
 |true=>exact q1 rfl
 |false=>exact q2 rfl
theorem ZI {dc n:Nat} {w b:Bool} {its:List (Oper×List Oper)} (hb:lk l dc=some (.bool b)) (hw:b= !w) (hsk:Qgp nt ops dc w (l.map (·.1)) [] (its.take n)=true)
 (q:WL E fn nt dr ops fin (its.drop n) l h R):WL E fn nt dr ops fin its l h R:=by
 rw[<-List.take_append_drop n its];refine Q7D (p:=[]) hb hw (its.take n) [] rfl (fun _ _ h=>by simp at h) (by simp) (fun _ h=>by simp at h) hsk fun p' hp'=>?_;intro todo hr tm ag;exact q todo hr tm (ag.split hp')
end
end Go.X
namespace Go.X
section
variable {E:Env} {fn:FuncId} {nt:Nat} {l l':Kn} {h h':Hp} {Q:Out->Kn->Hp->Prop}
theorem Qm {id:Nat} (q:Q .next l h):Blk id Q (.exit id) l h:=by
 show if id=id then Q .next l h else Q (.exit id) l h
 rw[if_pos rfl];exact q
theorem QeK {id i:Nat} (hi:i≠id) (q:Q (.exit i) l h):Blk id Q (.exit i) l h:=by
 show if i=id then Q .next l h else Q (.exit i) l h
 rw[if_neg hi];exact q
theorem Q9 {b:Code} {i:Nat} (q:Q (.exit i) l h):Thn E fn nt b Q (.exit i) l h:=q
theorem Qc {I:Nat->Kn->Hp->Prop} {n i:Nat} (q:Q (.exit i) l h):Rnd I n Q (.exit i) l h:=q
theorem Q4Q {c:Code} (l':Kn) (s:Sub l' l) (q:W E fn nt c l' h Q):W E fn nt c l h Q:=T.weak s q
def CP (E:Env) (f:FuncId) (args:List Value) (h:Hp) (v:Value):Prop:=C E f args h fun v' h'=>v'=v/\h'=h
theorem Qr {f:FuncId} {args:List Value} {v:Value} {P:Value->Hp->Prop} (c:CP E f args h v) (p:P v h):C E f args h P:=C.mono c fun _ _ ⟨e1,e2⟩=>by subst e1;subst e2;exact p
end
structure Ext (h h':Hp):Prop where
 n:h.n<=h'.n
 get: ∀i,i <h.n->h'.get i=h.get i
structure ExtB (bs:List Nat) (h h':Hp):Prop where
 n:h.n<=h'.n
 get: ∀i,i <h.n->i∉bs->h'.get i=h.get i
theorem Ext.refl (h:Hp):Ext h h:=⟨Nat.le_refl _,fun _ _=>rfl⟩
theorem Ext.alloc (h:Hp) (o:AObj):Ext h (h.alloc o):=⟨by rw[Hp.n_alloc];omega,fun i hi=>by rw[Hp.get_alloc,if_neg (by omega)]⟩
theorem Ext.b {h h':Hp} (x:Ext h h') (bs:List Nat):ExtB bs h h':=⟨x.n,fun i hi _=>x.get i hi⟩
theorem ExtB.refl (bs:List Nat) (h:Hp):ExtB bs h h:=⟨Nat.le_refl _,fun _ _ _=>rfl⟩
theorem ExtB.trans {bs:List Nat} {a b c:Hp} (x:ExtB bs a b) (y:ExtB bs b c):ExtB bs a c:=
 ⟨Nat.le_trans x.n y.n,fun i hi hb=>(y.get i (Nat.lt_of_lt_of_le hi x.n) hb).trans (x.get i hi hb)⟩
theorem ExtB.put (h:Hp) (b:Nat) (o:AObj):ExtB [b] h (h.put b o):=⟨by rw[Hp.n_put];omega,fun i hi hb=>by rw[Hp.get_put,if_neg (fun e=>hb (by simp[e]))]⟩
theorem ExtB.nil {h h':Hp} (x:ExtB [] h h'):Ext h h':=⟨x.n,fun i hi=>x.get i hi (by simp)⟩
theorem Hp.get_alloc_self (h:Hp) (o:AObj):(h.alloc o).get h.n=some o:=by rw[Hp.get_alloc,if_pos rfl]
theorem Hp.get_put_self (h:Hp) (b:Nat) (o:AObj):(h.put b o).get b=some o:=by rw[Hp.get_put,if_pos rfl]
section
variable {E:Env} {h:Hp} {t e:TypeId} {by':Nat}
end
theorem bv {p q:Bool} (h:p=true↔q=true):Value.bool p=Value.bool q:=congrArg _ (Bool.eq_iff_iff.2 h)
end Go.X
namespace Go.X
open Go.RowKit Go.Sort
def Q6L:Value->Nat
 | .slice (some a) _ _=>a.block+1
 | .pointer (some a)=>a.block+1
 |_=>0
def maxB (l:List Value):Nat:=l.foldr (fun v n=>max (Q6L v) n) 0
theorem Q8d: ∀ {l:List Value} {v:Value},v∈l->Q6L v<=maxB l
 | u::r,v,h=>by
   show Q6L v<=max (Q6L u) (maxB r);rcases List.mem_cons.1 h with rfl|h
   · omega
   have:=Q8d h;omega
def objB:Obj->Nat
 | .cells cs _ _=>maxB cs.toList
 |_=>0
def QfV (l:List Obj):Nat:=l.foldr (fun o n=>max (objB o) n) 0
theorem Q5N: ∀ {l:List Obj} {o:Obj},o∈l->objB o<=QfV l
 | u::r,v,h=>by
   show objB v<=max (objB u) (QfV r);rcases List.mem_cons.1 h with rfl|h
   · omega
   have:=Q5N h;omega
def Q3z (w:World):Nat:=max (max w.heap.size 256) (QfV w.heap.toList)
theorem JP (w:World):w.heap.size<=Q3z w:=by unfold Q3z;omega
theorem QcP (w:World):256<=Q3z w:=by unfold Q3z;omega
theorem Q4T {w:World} {a:Addr} {v:Value} (h:w.cell? a=some v):Q6L v<=Q3z w:=by
 unfold World.cell? at h
 split at h
 · rename_i c e fr hx
   split at h
   · cases h
   have h1:Obj.cells c e fr∈w.heap.toList:=by
    rw[<-Array.mem_def];exact Array.mem_of_getElem? hx
   have h2:=Q5N h1;have h3:v∈c.toList:=by rw[<-Array.mem_def];exact Array.mem_of_getElem? h
   have h4:=Q8d h3;simp only[objB]at h2;unfold Q3z;omega
 cases h
def Mp.all (w:World):Mp where
 ρ i:=match w.heap[i]? with
   |some (.cells cs _ _)=>some (i,0,cs.size)
   |_=>Option.none
 K i:=i <Q3z w
 md _:=0
theorem Q4J (M:Mp): ∀v:Value,∃x,VRel M x v
 | .agg cs=>by
   have h: ∀i:Fin cs.size,∃x,VRel M x cs[i]:=fun i=>Q4J M cs[i];have hc:=fun i=>Classical.choose_spec (h i);refine⟨.agg (Array.ofFn fun i=>Classical.choose (h i)),.agg (by simp) fun i v w hv hw=>?_⟩;simp only[Array.getElem?_toList,Array.getElem?_ofFn]at hv hw
   split at hv
   · rename_i hi;cases hv;rw[Array.getElem?_eq_getElem hi]at hw;cases hw;exact hc ⟨i,hi⟩
   cases hv
 | .tuple cs=>by
   have h: ∀i:Fin cs.size,∃x,VRel M x cs[i]:=fun i=>Q4J M cs[i];have hc:=fun i=>Classical.choose_spec (h i);refine⟨.tuple (Array.ofFn fun i=>Classical.choose (h i)),.tuple (by simp) fun i v w hv hw=>?_⟩;simp only[Array.getElem?_toList,Array.getElem?_ofFn]at hv hw
   split at hv
   · rename_i hi;cases hv;rw[Array.getElem?_eq_getElem hi]at hw;cases hw;exact hc ⟨i,hi⟩
   cases hv
 | .bool b=>⟨_,.bool b⟩
 | .int k n=>⟨_,.int k n⟩
 | .float k n=>⟨_,.float k n⟩
 | .complex k a b=>⟨_,.complex k a b⟩
 | .string s=>⟨_,.string s⟩
 | .pointer a=>⟨_,.junk trivial⟩
 | .slice a n c=>⟨_,.junk trivial⟩
 | .map r=>⟨_,.junk trivial⟩
 | .chan r=>⟨_,.junk trivial⟩
 | .func f a b=>⟨_,.junk trivial⟩
 | .nilFunc=>⟨_,.nilFunc⟩
 | .iface t v=>⟨_,.junk trivial⟩
 | .nilIface=>⟨_,.nilIface⟩
termination_by v=>SizeOf.sizeOf v
decreasing_by all_goals (simp_wf;have:=Array.sizeOf_getElem cs i.1 i.2;omega)
open Classical in
noncomputable def Jv (M:Mp) (v:Value):Value:=if VRel M v v then v else Classical.choose (Q4J M v)
theorem Qa2 (M:Mp) (v:Value):VRel M (Jv M v) v:=by
 unfold Jv
 split
 · assumption
 exact Classical.choose_spec (Q4J M v)
theorem Yd {M:Mp} {v:Value} (h:VRel M v v):Jv M v=v:=by rw[Jv,if_pos h]
noncomputable def Jt (M:Mp) (w:World) (i:Nat):Option AObj:=match w.heap[i]? with
 |some (.cells cs e _)=>some (.cells (cs.toList.map (Jv M)) e 1)
 |_=>Option.none
noncomputable def Qgu (M:Mp) (w:World):Nat->Tr AObj
 |0=>.leaf
 | n+1=>match Jt M w n with
   |some o=>(Qgu M w n).set (n+1) n o
   |Option.none=>Qgu M w n
theorem Q4K (M:Mp) (w:World): ∀n i,(Qgu M w n).get i=if i <n then Jt M w i else Option.none
 |0,i=>Q4o i
 | n +1,i=>by
   unfold Qgu
   split
   · rename_i o ho;rw[KW _ _ _ _ _ (by omega),Q4K M w n i];by_cases h1:n=i
     · subst h1;rw[if_pos rfl,if_pos (by omega),ho]
     rw[if_neg h1];by_cases h2:i <n
     · rw[if_pos h2,if_pos (by omega)]
     rw[if_neg h2,if_neg (by omega)]
   rename_i ho;rw[Q4K M w n i];by_cases h1:n=i
   · subst h1;rw[if_neg (by omega),if_pos (by omega),ho]
   by_cases h2:i <n
   · rw[if_pos h2,if_pos (by omega)]
   rw[if_neg h2,if_neg (by omega)]
noncomputable def Hp.all (w:World):Hp:=⟨Qgu (Mp.all w) w w.heap.size,Q3z w⟩
theorem Hp.all_get (w:World) (i:Nat):(Hp.all w).get i=Jt (Mp.all w) w i:=by
 show(Qgu (Mp.all w) w w.heap.size).get i=_;rw[Q4K]
 split
 · rfl
 rename_i h;unfold Jt;rw[Array.getElem?_eq_none (by omega)]
theorem HRel.all (w:World):HRel w (fun _=>False) (Mp.all w) (Hp.all w) w:=by
 have hpl: ∀i b δ S,(Mp.all w).ρ i=some (b,δ,S)-> ∃cs e fr,w.heap[i]?=some (.cells cs e fr)/\b=i/\δ=0/\S=cs.size:=fun i b δ S h=>by
  simp only[Mp.all]at h
  split at h
  · rename_i cs e fr hx;cases h;exact⟨cs,e,fr,hx,rfl,rfl,rfl⟩
  cases h
 have hro: ∀i b δ S,(Mp.all w).ρ i=some (b,δ,S)->RO (Hp.all w) i:=fun i b δ S h=>by
  obtain⟨cs,e,fr,hx,_⟩:=hpl i b δ S h;exact⟨cs.toList.map (Jv (Mp.all w)),e,by rw[Hp.all_get,Jt,hx]⟩
 refine⟨fun i b δ S h=>?_,fun i j b δ S δ' S' h _=>.inr (hro i b δ S h),fun i hi=>hi,fun i hi=>?_,fun i _ h=>?_,rfl,⟨rfl,fun _=>Nat.le_refl _⟩,rfl,Nat.le_refl _,fun b _ _=>rfl,fun i b δ S h _=>.inr (hro i b δ S h),fun i hi=>⟨?_,fun b δ S h=>?_⟩⟩
 · obtain⟨cs,e,fr,hx,rfl,rfl,rfl⟩:=hpl i b δ S h;have hlt:=(Array.getElem?_eq_some_iff.1 hx).1;refine⟨show b <Q3z w by have:=JP w;omega,.cells (cs.toList.map (Jv (Mp.all w))) e 1,_,by rw[Hp.all_get,Jt,hx],hx,cs,fr,rfl,rfl,by simp,fun j v hj=>?_,.inr (.inl ⟨rfl,rfl,rfl,by simp⟩)⟩;rw[List.getElem?_map]at hj;cases hc:cs.toList[j]? with
   |none=>rw[hc]at hj;cases hj
   | some u=>
     rw[hc]at hj;cases hj;exact⟨u,by rw[Nat.zero_add];simpa using hc,Qa2 _ _⟩
 · have:Q3z w<=i:=hi;have:=JP w;rw[Hp.all_get,Jt,Array.getElem?_eq_none (by omega)]
 · rw[Hp.all_get,Jt];simp only[Mp.all]at h
   split at h
   · cases h
   rename_i hx;exact .inl rfl
 · show i <Q3z w;have:=QcP w;omega
 obtain⟨cs,e,fr,hx,rfl,rfl,rfl⟩:=hpl i b δ S h;exact⟨rfl,rfl⟩
section
variable {w:World}
theorem Q11 (a:Addr) (n c:Nat) (h:a.block <Q3z w):VRel (Mp.all w) (.slice (some a) n c) (.slice (some a) n c):=by
 refine .sl ⟨h,fun b δ S hb=>.inl ⟨rfl,?_,rfl⟩⟩;simp only[Mp.all]at hb
 split at hb
 · cases hb;simp
 cases hb
theorem Qcr (a:Addr) (n c:Nat) (h:a.block <w.heap.size):VRel (Mp.all w) (.slice (some a) n c) (.slice (some a) n c):=Q11 a n c (Nat.lt_of_lt_of_le h (JP w))
end
theorem Q3e (E:Env) (hm:E.P.follows .mixedOrders=true) {f:FuncId} {args:List Value} {args':Array Value} {w:World} (hv:VsRel (Mp.all w) args args'.toList)
 (c:C E f args (Hp.all w) fun v _=>v=.bool true):Calls E.P f args' w fun e w'=>e=.returned (.bool true)/\Below w.heap.size w w':=by
 obtain⟨s0,n,hs,he⟩:=c.run;exact Qa8 E hm (HRel.all w) hv hs he
end Go.X
namespace Go.X
open Go.ChangeShapes Go.WideShapes Go.ChangeAt Go.RowKit Go.Deep
section
variable {H:Type} {enc:TypeId×Value->H} {P:Program} {W W':World}
theorem JO (hl:laidOutB P=true) (hb:Below W.heap.size W W'): ∀ {ts:List TypeId} {vs:List Value} {ds:List (DataW H)} {ps:List MemPlace},ts.all (fun t=>P.readableRec t&&decide (t <P.types.size))=true->
 (∀x∈ps,x.block <W.heap.size)->DataW.TrodAll enc P W 0 (fun _=>true) true ts vs ds ps->DataW.TrodAll enc P W' 0 (fun b=>decide (b <W.heap.size)) true ts vs ds ps
 | [],[],[],_,_,_,h=>h
 | [],_::_,_,_,_,_,h=>h.elim
 | [],[],_::_,_,_,_,h=>h.elim
 |_::_,[],_,_,_,_,h=>h.elim
 |_::_,_::_,[],_,_,_,h=>h.elim
 | t::ts,v::vs,d::ds,ps,hr,hlt,⟨p,q,h1,h2,e⟩=>by
   subst e;simp only[List.all_cons,Bool.and_eq_true,decide_eq_true_eq]at hr;exact⟨p,q,Below.trod hl hr.1.1 hr.1.2 h1 hb (fun x hx=>hlt x (by simp[hx])),JO hl hb hr.2 (fun x hx=>hlt x (by simp[hx])) h2,rfl⟩
theorem Q1H: ∀ {w:World} {base:Nat} {spare:Nat->Bool} {held:Bool} {ts:List TypeId} {vs:List Value} {ds:List (DataW H)} {ps:List MemPlace},DataW.TrodAll enc P w base spare held ts vs ds ps->ds.length=ts.length
 |_,_,_,_,[],[],[],_,_=>rfl
 |_,_,_,_,[],_::_,_,_,h=>h.elim
 |_,_,_,_,[],[],_::_,_,h=>h.elim
 |_,_,_,_,_::_,[],_,_,h=>h.elim
 |_,_,_,_,_::_,_::_,[],_,h=>h.elim
 |_,_,_,_,t::ts,v::vs,d::ds,ps,⟨p,q,h1,h2,e⟩=>by simp[Q1H h2]
theorem Q5o {f:Func} {s:ChangeSpec} {fresh handsOn apart:Bool} {t:TypeId} {ds gs:List (DataW H)} {before:List MemPlace} {args:Array Value}
 (hl:laidOutB P=true) (hrd:f.params.toList.all (fun t=>P.readableRec t&&decide (t <P.types.size))=true) (hv:s.vars=[]) (hr:f.resultTypes= #[t]) (ht:P.underlying t=some .bool)
 (hs: ∀ds:List (DataW H),ds.length=f.params.toList.length->(s.fn H ds).results=[.lit (.bool true)]/\(s.fn H ds).args=ds/\(s.fn H ds).vars=[])
 (hW:DataW.Whole enc P f.params.toList s.vars apart W args.toList ds gs before) (hb:Below W.heap.size W W'):
 s.post enc P f apart fresh handsOn false W args (.bool true) W':=by
 have hW':=hW;obtain⟨p,q,hA,hV,rfl,hfz,hnd⟩:=hW;rw[hv]at hV;obtain⟨rfl,rfl⟩:=trodVars_none hV;obtain⟨h1,h2,h3⟩:=hs ds (Q1H hA);have hlt: ∀x∈p,x.block <W.heap.size:=fun x hx=>hW'.lt x (by simp[hx]);refine⟨ds,[],_,[],p,[],hW',?_,?_,?_,hb.frame _,fun h=>by cases h⟩
 · simp only[List.append_nil,h1,hr];exact trodAll_mk1 (shut_bool ht true)
 · simp only[List.append_nil,h2];exact JO hl hb hrd hlt hA
 simp only[List.append_nil,h3,hv];rfl
theorem Qaw {t e:TypeId} {r:Reach} {base:Nat} {v:Value} (ht:P.underlying t=some (.slice e)) (h:Value.okWide P W r base t v):
 v=.slice none 0 0\/ ∃a len cap,v=.slice (some a) len cap/\a.block <W.heap.size:=by
 simp only[Value.okWide,ht,Cell.okWide]at h;cases v<;>simp only[Cell.ok,ht]at h<;>try exact h.elim
 rename_i a len cap;cases a with
 | none=>
   left;cases len with
   | zero=>
     cases cap with
     |zero=>rfl
     |succ n=>exact h.elim
   |succ n=>exact h.elim
 | some a=>
   right;refine⟨a,len,cap,rfl,?_⟩;obtain⟨_,_,_,_,row,cells,hsh,_⟩:=h;unfold World.shape? at hsh
   split at hsh
   · rename_i hx;exact(Array.getElem?_eq_some_iff.1 hx).1
   cases hsh
end
end Go.X
namespace Go.X
open Go.RowKit
noncomputable def Q4S (E:Env) (f:FuncId) (n:Nat) (h:Hp):Bool:=
 match Jn E f [] h with
 | some s=>(match QcF E f (Q57 E n s)with
   |some (.bool b)=>b
   |_=>false)
 |none=>false
end Go.X
namespace Go.X
abbrev Ms:=List (Int×Value×Nat)
def ent (x:Int×Value×Nat):MapEntry:= {key:=.int .i64 x.1,val:=x.2.1,born:=x.2.2}
def fi (k:Int):Ms->Nat->Option (Nat×Value)
 | [],_=>none
 |(a,v,_)::r,i=>if a=k then some (i,v)else fi k r (i+1)
def Q4O (M:Ms) (k:Int):Option Value:=(fi k M 0).map (·.2)
theorem Qbj {E:Env} {h:Hp} {kt:TypeId} (hk:E.und kt=some (.int .i64)) (a b:Int):Jp E h kt (.int .i64 a) (.int .i64 b)=some (decide (a=b)):=by
 simp[Jp,hk,Zw,Kg,sameV]
theorem Q2s {E:Env} {h:Hp} {kt:TypeId} (hk:E.und kt=some (.int .i64)) (k:Int): ∀(M:Ms) (i:Nat),JF E h kt (.int .i64 k) (M.map ent) i=some (fi k M i)
 | [],_=>rfl
 | (a,v,n)::r,i=>by
   simp only[List.map_cons,JF,ent,Qbj hk,fi];by_cases e:a=k
   · subst e;simp
   have:decide (k=a)=false:=by simp;exact fun x=>e x.symm
   simp only[this,if_neg e];exact Q2s hk k r (i+1)
theorem QbP {k:Int}: ∀ {M:Ms} {i j:Nat} {v:Value},fi k M i=some (j,v)-> ∃p,j=i+p/\p <M.length/\ ∃n,M[p]?=some (k,v,n)
 | [],_,_,_,h=>by simp[fi]at h
 | (a,u,n)::r,i,j,v,h=>by
   simp only[fi]at h;by_cases e:a=k
   · rw[if_pos e]at h;cases h;exact⟨0,rfl,by simp,n,by simp[e]⟩
   rw[if_neg e]at h;obtain⟨p,h1,h2,m,h3⟩:=QbP h;exact⟨p+1,by omega,by simp;omega,m,by simpa using h3⟩
def Q9z (M:Ms) (k:Int) (v:Value) (cl:Nat):Ms×Nat:=match fi k M 0 with
 |some (i,_)=>(M.modify i fun x=>(k,v,x.2.2),cl)
 |none=>(M++[(k,v,cl)],cl+1)
theorem Q5W {k k':Int} {v:Value}: ∀(M:Ms) (s p:Nat) (u:Value),fi k M s=some (s+p,u)->
 (fi k' (M.modify p fun x=>(k,v,x.2.2)) s).map (·.2)=if k'=k then some v else(fi k' M s).map (·.2)
 | [],_,_,_,h=>by simp[fi]at h
 | (a,w,n)::r,s,p,u,h=>by
   simp only[fi]at h;by_cases e:a=k
   · rw[if_pos e]at h;have hp:p=0:=by simp at h;omega
     subst hp;simp only[List.modify_zero_cons,fi];by_cases e':k=k'
     · subst e';simp
     rw[if_neg e',if_neg (fun x=>e' x.symm),if_neg (fun x=>e' (e▸x))]
   rw[if_neg e]at h;cases p with
   | zero=>
     obtain⟨q,h1,_⟩:=QbP h;omega
   | succ p=>
     simp only[List.modify_succ_cons,fi];by_cases e':a=k'
     · rw[if_pos e',if_pos e',if_neg (fun x=>e (e'.trans x))]
     rw[if_neg e',if_neg e'];exact Q5W r (s+1) p u (by rw[h];congr 2;omega)
theorem Q5X {k k':Int} {v:Value} {c:Nat}: ∀(M:Ms) (s:Nat),fi k M s=none->(fi k' (M++[(k,v,c)]) s).map (·.2)=if k'=k then some v else(fi k' M s).map (·.2)
 | [],s,_=>by
   simp only[List.nil_append,fi];by_cases e:k=k'
   · subst e;simp
   rw[if_neg e,if_neg (fun x=>e x.symm)]
 | (a,w,n)::r,s,h=>by
   simp only[fi]at h;by_cases e:a=k
   · rw[if_pos e]at h;cases h
   rw[if_neg e]at h;simp only[List.cons_append,fi];by_cases e':a=k'
   · rw[if_pos e',if_pos e',if_neg (fun x=>e (e'.trans x))]
   rw[if_neg e',if_neg e'];exact Q5X r (s+1) h
theorem get_put (M:Ms) (k k':Int) (v:Value) (cl:Nat):Q4O (Q9z M k v cl).1 k'=if k'=k then some v else Q4O M k':=by
 unfold Q9z Q4O;cases h:fi k M 0 with
 |none=>exact Q5X M 0 h
 | some x=>
   obtain⟨i,u⟩:=x;exact Q5W M 0 i u (by rw[h,Nat.zero_add])
section
variable {E:Env} {fn:FuncId} {nt:Nat} {l l':Kn} {h h':Hp} {dr:Bool} {ops:Array Oper} {fin rest:List (Oper×List Oper)} {R:Kn->Hp->Prop} {lt:List Oper}
variable {d:Nat} {ty:TypeId} {pos:String} {af:Array Edge} {gg:Option (Nat×Bool)} {x y z:Operand} {v u:Value} {t:TypeId}
structure MapT (E:Env) (t kt et:TypeId):Prop where
 und:E.und t=some (.map kt et)
 key:E.und kt=some (.int .i64)
theorem Q5D {kt:TypeId} (hk:E.und kt=some (.int .i64)) (k:Int):Y3 E kt (.int .i64 k)=true:=by simp[Y3,hk,Zw,Kg]
theorem Q2g {kt et:TypeId} {M:Ms} {cl r:Nat} {k:Int} {zv:Value} (m:MapT E t kt et) (hg:h.get r=some (.map (M.map ent) cl)) (hz:E.zero et=some zv) (ok:Bool):
 YL E h t (.map (some r)) (.int .i64 k) ok=some (match Q4O M k with|some v=>cond ok (.tuple #[v,.bool true]) v|none=>cond ok (.tuple #[zv,.bool false]) zv):=by
 simp only[YL,m.und,mapOf,hg,Q5D m.key,cond_true,Q2s m.key,Q4O];cases fi k M 0 with
 |none=>simp[hz]
 |some x=>rfl
theorem Qdn {kt et:TypeId} {M:Ms} {cl r:Nat} {k:Int} {zv:Value} (m:MapT E t kt et) (g:Gd ops l gg) (hd:Nat.blt d nt=true) (hx:evl l x=some (.map (some r))) (hy:evl l y=some (.int .i64 k))
 (hg:h.get r=some (.map (M.map ent) cl)) (hz:E.zero et=some zv) (q:WL E fn nt dr ops fin rest ((d,(Q4O M k).getD zv)::l) h R):
 WL E fn nt dr ops fin ((⟨some d,.lookup t x y false,ty,pos,af,gg⟩,lt)::rest) l h R:=
 QP g rfl (fun _ ag=>by
  simp only[QJ,ag.ev hx,ag.ev hy,Q2g m hg hz]
  cases Q4O M k<;>rfl) (wn hd) q
theorem Q6T {kt et:TypeId} {M:Ms} {cl r:Nat} {k:Int} (m:MapT E t kt et) (g:Gd ops l gg) (hx:evl l x=some (.map (some r))) (hy:evl l y=some (.int .i64 k)) (hz:evl l z=some v)
 (hg:h.get r=some (.map (M.map ent) cl)) (ha: ∀q,q∈lt->Again E ops l (h.put r (.map ((Q9z M k v cl).1.map ent) (Q9z M k v cl).2)) q)
 (q:WL E fn nt dr ops fin rest l (h.put r (.map ((Q9z M k v cl).1.map ent) (Q9z M k v cl).2)) R):
 WL E fn nt dr ops fin ((⟨none,.mapUpdate t x y z,ty,pos,af,gg⟩,lt)::rest) l h R:=by
 refine Q3x g rfl (fun _ ag=>?_) wn0 ha q;simp only[Zn,ag.ev hx,ag.ev hy,ag.ev hz,JC,m.und,hg,Q5D m.key,cond_true,Q2s m.key,Q9z];cases hf:fi k M 0 with
 |none=>simp[ent]
 | some x=>
   obtain⟨i,w⟩:=x;simp only[Option.some.injEq,Nx.skip.injEq]
   congr 2
   apply List.ext_getElem?;intro j;simp only[List.getElem?_modify,List.getElem?_map];cases M[j]? with
   |none=>rfl
   |some y=>by_cases e:i=j<;>simp[e,ent]
theorem QaB (g:Gd ops l gg) (hd:Nat.blt d nt=true) (q:WL E fn nt dr ops fin rest ((d,.map (some h.n))::l) (h.alloc (.map (([]:Ms).map ent) 0)) R):
 WL E fn nt dr ops fin ((⟨some d,.makeMap t none,ty,pos,af,gg⟩,lt)::rest) l h R:=
 JM (f:=fun i=>.map (some i)) g rfl (fun _ _=>rfl) (wn hd) q
theorem QaD {vs:Array Value} {i:Nat} (g:Gd ops l gg) (hd:Nat.blt d nt=true) (hx:evl l x=some (.tuple vs)) (hv:vs[i]?=some v) (q:WL E fn nt dr ops fin rest ((d,v)::l) h R):
 WL E fn nt dr ops fin ((⟨some d,.extract x i,ty,pos,af,gg⟩,lt)::rest) l h R:=
 QP g rfl (fun _ ag=>by simp only[QJ,ag.ev hx,hv]) (wn hd) q
theorem Qdk {b n:Nat} {cs:List Value} {vs:Array Value} {e:TypeId} {m:Nat} (g:Gd ops l gg) (hx:evl l x=some (.pointer (some ⟨b,0,none⟩))) (hy:evl l y=some (.agg vs)) (hc:vs.toList.all cellV=true) (ht:E.size t=some n) (hn:vs.size=n)
 (hg:h.get b=some (.cells cs e m)) (hm:m≠1) (hv:cs.length=n) (ha: ∀q,q∈lt->Again E ops l (h.put b (.cells vs.toList e m)) q)
 (q:WL E fn nt dr ops fin rest l (h.put b (.cells vs.toList e m)) R):
 WL E fn nt dr ops fin ((⟨none,.store t x y,ty,pos,af,gg⟩,lt)::rest) l h R:=by
 refine Q3x g rfl (fun _ ag=>?_) wn0 ha q;have e1:Nat.ble vs.toList.length cs.length=true:=(Qx _ _).2 (by simp;omega);have e2:Nat.beq m 1=false:=(QC _ _).2 hm;have e3:Nat.beq vs.size n=true:=(QM _ _).2 hn;have hd:cs.drop vs.toList.length=[]:=by rw[List.drop_eq_nil_iff];simp;omega
 simp only[Zn,ag.ev hx,ag.ev hy,Q15,ht,Value.cells,e3,hc,Bool.and_true,cond_true,Zg,hg,Nat.zero_add,e1,e2,Bool.not_false,List.take_zero,List.nil_append,Nat.zero_add,hd,List.append_nil]
end
end Go.X
namespace Go.X
noncomputable def Q9x (E:Env) (l:Kn) (h:Hp):List ResultVar->Option (List Value)
 | []=>some []
 | .tmp t::r=>(match lk l t,Q9x E l h r with
   |some v,some vs=>some (v::vs)
   |_,_=>none)
 | .cell a t::r=>(match lk l a with
   | some (.pointer (some p))=>(match Ji E t p h,Q9x E l h r with
     |some v,some vs=>some (v::vs)
     |_,_=>none)
   |_=>none)
theorem Q6H {E:Env} {l:Kn} {tm:Tr Value} {h:Hp} (a:Ag tm l): ∀(rs:List ResultVar) (vs:List Value),Q9x E l h rs=some vs->Z0 E tm h rs=some vs
 | [],_,e=>e
 | .tmp t::r,vs,e=>by
   simp only[Q9x]at e
   split at e
   · rename_i v ws h1 h2;cases e;simp only[Z0,Q6H a r _ h2,a.ev (o:=.tmp t) h1]
   cases e
 | .cell c t::r,vs,e=>by
   simp only[Q9x]at e
   split at e
   · rename_i p h1
     split at e
     · rename_i v ws h2 h3;cases e;simp only[Z0,a.ev (o:=.tmp c) h1,h2,Q6H a r _ h3]
     cases e
   cases e
theorem YZ {E:Env} {f:FuncId} {args:List Value} {h:Hp} {Q:Value->Hp->Prop} {fu:Func} {c:Code} (hf:E.fn f=some fu) (hb:fu.body=some c)
 (q:W E f (args.length+(fu.ntmps -args.length)) c (Q6d args 0) h fun o l h=>(o=.ret\/o=.next)/\ ∃vs,Q9x E l h fu.results.toList=some vs/\Q (oneOf vs) h) (hn:Q85 c=true:=by kernel_rfl):C E f args h Q:=by
 have ag:Ag (Q1o args 0 .leaf) (Q6d args 0):=fun t v e=>Q2L args 0 .leaf t v (by rw[if_neg (by omega)];exact e);obtain⟨o,l',h',tm',ds,⟨ho,vs,h1,h2⟩,a',n',d',r⟩:=q _ ag;have hds:=n' (by simp[Q86,hn]);subst hds
 exact⟨_,h',h2,d'.1,fu,tm',⟨f,args.length+(fu.ntmps -args.length),Q1o args 0 .leaf,[.code c],[],.run,.normal,none⟩,vs,hf,by simp only[YO,hf,hb],Q6H a' _ _ h1,rfl,
  fun kd cs=>Qa7 ho (r [] [] kd none cs (.inr rfl))⟩
section
variable {E:Env} {l:Kn} {h:Hp} {r:List ResultVar} {vs:List Value} {v:Value} {a:Nat} {t:TypeId}
theorem Yw (h1:lk l a=some v) (h2:Q9x E l h r=some vs):Q9x E l h (.tmp a::r)=some (v::vs):=by simp only[Q9x,h1,h2]
theorem Zp {b n:Nat} {cs:List Value} {e:TypeId} {m:Nat} (h1:lk l a=some (.pointer (some ⟨b,0,none⟩))) (hc:isA E t=true) (hn:E.size t=some n) (hg:h.get b=some (.cells cs e m)) (hl:cs.length=n)
 (h2:Q9x E l h r=some vs):Q9x E l h (.cell a t::r)=some (.agg cs.toArray::vs):=by
 have:=Q2i (o:=0) hc hn hg (by omega);simp only[List.drop_zero,List.take_of_length_le (Nat.le_of_eq hl)]at this;simp only[Q9x,h1,this,h2]
end
def Cut (P:Kn->Hp->Prop) (Q:Out->Kn->Hp->Prop):Out->Kn->Hp->Prop
 | .next,l,h=> ∃l',Sub l' l/\P l' h
 | .ret,l,h=>Q .ret l h
 | .exit i,l,h=>Q (.exit i) l h
theorem w_cut {E:Env} {fn:FuncId} {nt:Nat} {l:Kn} {h:Hp} {a b:Code} {Q:Out->Kn->Hp->Prop} (P:Kn->Hp->Prop) (q:W E fn nt a l h (Cut P Q)) (q2: ∀l h,P l h->W E fn nt b l h Q):W E fn nt (.seq a b) l h Q:=
 Q3 (T.mono q fun o l h hh=>by
  cases o with
  | next=>
    obtain⟨l',s,p⟩:=hh;exact Q4Q l' s (q2 l' h p)
  |ret=>exact hh
  |exit i=>exact hh)
section
variable {E:Env} {fn:FuncId} {nt:Nat} {l:Kn} {h:Hp} {dr:Bool} {ops:Array Oper} {fin rest:List (Oper×List Oper)} {R:Kn->Hp->Prop} {lt:List Oper} {d:Nat} {ty t:TypeId} {pos:String} {af:Array Edge} {gg:Option (Nat×Bool)} {x:Operand} {v:Value}
end
theorem Q26 {E:Env} {fn:FuncId} {nt:Nat} {l:Kn} {h:Hp} {dr:Bool} {ops:Array Oper} {fin rest:List (Oper×List Oper)} {R:Kn->Hp->Prop} {lt:List Oper} {d:Nat} {ty:TypeId} {pos:String} {af:Array Edge} {gg:Option (Nat×Bool)} {x:Operand} {v:Value} {f:FuncId}
 (g:Gd ops l gg) (hd:Nat.blt d nt=true) (hx:evl l x=some v) (q:WL E fn nt dr ops fin rest ((d,.func (.func f) #[] #[v])::l) h R):
 WL E fn nt dr ops fin ((⟨some d,.makeFunc (.func f) #[] #[x],ty,pos,af,gg⟩,lt)::rest) l h R:=
 QP g rfl (fun _ ag=>by simp[QJ,ag.ev hx]) (wn hd) q
end Go.X
namespace Go.X
structure ElN (E:Env) (t e z by':Nat):Prop where
 und:E.und t=some (.slice e)
 size:E.size e=some (z+1)
 bytes:E.bytes e=some (by'+1)
 zero: ∃zv,E.zero e=some zv/\zv.cells.size=z+1
def SlN (e:TypeId) (z:Nat) (h:Hp) (s:Value) (cs:List Value) (n:Nat) (bs:List Nat):Prop:=
 (s=.slice none 0 0/\cs=[]/\n=0/\bs=[])\/ ∃b m,s=.slice (some ⟨b,0,none⟩) n n/\h.get b=some (.cells cs e m)/\(m=0\/m=z+3)/\b <h.n/\bs=[b]/\cs.length=n*(z+1)
theorem SlN.lt {e:TypeId} {z:Nat} {h:Hp} {s:Value} {cs:List Value} {n:Nat} {bs:List Nat} (x:SlN e z h s cs n bs): ∀i,i∈bs->i <h.n:=by
 rcases x with⟨_,_,_,rfl⟩| ⟨b,m,h1,h2,h3,h4,rfl,_⟩<;>simp
 exact h4
theorem SlN.nodup {e:TypeId} {z:Nat} {h:Hp} {s:Value} {cs:List Value} {n:Nat} {bs:List Nat} (x:SlN e z h s cs n bs):bs.Nodup:=by
 rcases x with⟨_,_,_,rfl⟩| ⟨_,_,_,_,_,_,rfl,_⟩<;>simp
theorem ElN.growX {E:Env} {t e z by':Nat} (x:ElN E t e z by') (h:Hp) (n:Nat) (old xs:List Value) (hn:n*(by'+1)<=1099511627776):
 growX E h e (z+1) (by'+1) n old xs=some (.slice (some ⟨h.n,0,none⟩) n n,h.alloc (.cells (old++xs) e (z+3))):=by
 obtain⟨zv,hz,hs⟩:=x.zero;have:Nat.ble (n*(by'+1)) (2^40)=true:=(Qx _ _).2 (by omega);simp only[Go.X.growX,hz,hs,this,Nat.beq_refl,Bool.true_or,Bool.and_true,cond_true]
theorem ElN.growX2 {E:Env} {t e z by':Nat} (x:ElN E t e z by') (h:Hp) (n:Nat) (old xs:List Value) (hn:2*(n*(by'+1))+192*(by'+1)<=281474976710656):
 Go.X.growX E h e (z+1) (by'+1) n old xs=some (.slice (some ⟨h.n,0,none⟩) n n,h.alloc (.cells (old++xs) e (z+3))):=by
 obtain⟨zv,hz,hs⟩:=x.zero;have:Nat.ble (2*(n*(by'+1))+192*(by'+1)) (2^48)=true:=(Qx _ _).2 (by omega);simp only[Go.X.growX,hz,hs,this,Nat.beq_refl,Bool.or_true,Bool.and_true,cond_true]
theorem Qgg {E:Env} {h:Hp} {t e z by':Nat} {s:Value} {cs xs:List Value} {n q m':Nat} {bs:List Nat} (x:ElN E t e z by') (hs:SlN e z h s cs n bs) (hq:h.get q=some (.cells xs e m')) (hx:xs.length=z+1) (hc:xs.all cellV=true)
 (hn:(n+1)*(by'+1)<=1099511627776):
 ∃v' h',Zh E h t t s (.slice (some ⟨q,0,none⟩) 1 1)=some (v',h')/\SlN e z h' v' (cs++xs) (n+1) [h.n]/\ExtB bs h h':=by
 have hfirst:Jq h (z+1) 1 (.slice (some ⟨q,0,none⟩) 1 1)=some xs:=by
  have e1:Nat.ble (0+1*(z+1)) xs.length=true:=(Qx _ _).2 (by omega);have e2:Nat.ble 1 1=true:=rfl;have e3:Nat.beq 1 0=false:=rfl;simp only[Jq,e2,e3,cond_true,cond_false,rowOf,hq,e1,List.drop_zero];rw[List.take_of_length_le (by omega)]
 have e3:Nat.beq 1 0=false:=rfl;rcases hs with⟨rfl,rfl,rfl,rfl⟩| ⟨b,m,rfl,hb,hm,hlt,rfl,hl⟩
 · refine⟨_,_,?_,.inr ⟨h.n,z+3,rfl,Hp.get_alloc_self _ _,.inr rfl,by rw[Hp.n_alloc];omega,rfl,by simp[hx]⟩,(Ext.alloc h _).b _⟩;simp only[Zh,x.und,KR,x.size,x.bytes,hfirst,e3,cond_false];exact x.growX h 1 [] xs (by omega)
 have e1:Nat.ble (n+1) n=false:=by
  cases hc:Nat.ble (n+1) n with
  |false=>rfl
  |true=>have:=(Qx _ _).1 hc;omega
 have e2:Nat.ble (0+n*(z+1)) cs.length=true:=(Qx _ _).2 (by omega)
 have hrow:rowOf h ⟨b,0,none⟩ (n*(z+1))=some cs:=by
  simp only[rowOf,hb,e2,cond_true,List.drop_zero];rw[List.take_of_length_le (by omega)]
 have hl':(cs++xs).length=(n+1)*(z+1):=by rw[List.length_append,hl,hx,Nat.add_mul];omega
 rcases hm with rfl|rfl
 · refine⟨_,_,?_,.inr ⟨h.n,z+3,rfl,Hp.get_alloc_self _ _,.inr rfl,by rw[Hp.n_alloc];omega,rfl,hl'⟩,(Ext.alloc h _).b _⟩;simp only[Zh,x.und,KR,x.size,x.bytes,hfirst,e3,cond_false,e1,hrow,hb,hc,cond_true];exact x.growX h (n+1) cs xs hn
 refine⟨.slice (some ⟨h.n,0,none⟩) (n+1) (n+1),(h.put b .dead).alloc (.cells (cs++xs) e (z+3)),?_,.inr ⟨h.n,z+3,rfl,?_,.inr rfl,by rw[Hp.n_alloc,Hp.n_put];omega,rfl,hl'⟩,(ExtB.put h b .dead).trans ((Ext.alloc _ _).b _)⟩
 · simp only[Zh,x.und,KR,x.size,x.bytes,hfirst,e3,cond_false,e1,hrow,hb,hc,cond_true];have:=x.growX (h.put b .dead) (n+1) cs xs hn;rw[Hp.n_put]at this;simpa[Nat.beq_refl]using this
 rw[Hp.get_alloc,Hp.n_put,if_pos rfl]
end Go.X
namespace Go.X
section
variable {E:Env} {fn:FuncId} {nt:Nat} {l:Kn} {h:Hp} {Q:Out->Kn->Hp->Prop}
end
def Y (E:Env) (x:Nat) (args:List Value) (h:Hp) (Q:Value->Hp->Prop):Prop:=
 ∃v h',Q v h'/\KD h h'/\ ∀fr cs fr',QU E fr v=some fr'-> ∀as:Array Value,as.toList=args-> ∃s,Y8 E fr cs h (.round x as)=some s/\Runs E s ⟨fr',cs,h'⟩
end Go.X
namespace Go.X
open Go.RowKit Go.Deep Go.ChangeShapes Go.WideShapes Go.ChangeAt
inductive Rd (P:Program) (h:Hp):TypeId->List Value->Prop
 |bool {t} (ht:P.underlying t=some .bool) (b:Bool):Rd P h t [.bool b]
 |int {t k} (ht:P.underlying t=some (.int k)) (n:Int) (hn:k.min<=n/\n<=k.max):Rd P h t [.int k n]
 |string {t} (ht:P.underlying t=some .string) (s:ByteArray) (hs:s.size<=maxLen):Rd P h t [.string s]
 |struct {t fs cs} (ht:P.underlying t=some (.struct fs)) (hl:cs.length=P.cellsOf t) (hf: ∀(i:Nat) (f:Field),fs[i]?=some f->Rd P h f.type ((cs.drop f.offset).take (P.cellsOf f.type))):Rd P h t cs
 |array {t n e cs} (ht:P.underlying t=some (.array n e)) (hl:cs.length=P.cellsOf t) (hf: ∀i,i <n->Rd P h e ((cs.drop (i*P.cellsOf e)).take (P.cellsOf e))):Rd P h t cs
 |nils {t e} (ht:P.underlying t=some (.slice e)):Rd P h t [.slice none 0 0]
 |slice0 {t e} (ht:P.underlying t=some (.slice e)) (a:Addr) (n c:Nat) (hn:n=0\/P.cellsOf e=0) (hm:n<=c/\c<=maxLen) (hb:a.block <h.n):Rd P h t [.slice (some a) n c]
 |slice {t e} (ht:P.underlying t=some (.slice e)) (b o n c:Nat) (cs:List Value) (u:TypeId) (hm:n<=c/\c<=maxLen) (hb:b <h.n) (hn:0 <n) (hg:h.get b=some (.cells cs u 1)) (hl:o+n*P.cellsOf e<=cs.length)
  (hr: ∀i,i <n->Rd P h e ((cs.drop (o+i*P.cellsOf e)).take (P.cellsOf e))):Rd P h t [.slice (some ⟨b,o,none⟩) n c]
 |other {t cs d} (ht:P.underlying t=some d) (hd:(match d with| .bool=>false| .int _=>false| .string=>false| .struct _=>false| .array _ _=>false| .slice _=>false|_=>true)=true):Rd P h t cs
section
variable {P:Program} {h:Hp} {t:TypeId} {cs:List Value}
theorem Rd.inv_bool (ht:P.underlying t=some .bool) (x:Rd P h t cs): ∃b,cs=[.bool b]:=by
 cases x with
 |bool _ b=>exact⟨b,rfl⟩
 |other ht' hd=>rw[ht]at ht';cases ht';cases hd
 |_=>rename_i ht';first|(rw[ht]at ht';cases ht')|(simp_all)
theorem Rd.inv_int {k:IntKind} (ht:P.underlying t=some (.int k)) (x:Rd P h t cs): ∃n,cs=[.int k n]/\k.min<=n/\n<=k.max:=by
 cases x with
 |int ht' n hn=>rw[ht]at ht';cases ht';exact⟨n,rfl,hn⟩
 |other ht' hd=>rw[ht]at ht';cases ht';cases hd
 |_=>simp_all
theorem Rd.inv_string (ht:P.underlying t=some .string) (x:Rd P h t cs): ∃s,cs=[.string s]/\s.size<=maxLen:=by
 cases x with
 |string ht' s hs=>exact⟨s,rfl,hs⟩
 |other ht' hd=>rw[ht]at ht';cases ht';cases hd
 |_=>simp_all
theorem Rd.inv_struct {fs:Array Field} (ht:P.underlying t=some (.struct fs)) (x:Rd P h t cs):cs.length=P.cellsOf t/\ ∀(i:Nat) (f:Field),fs[i]?=some f->Rd P h f.type ((cs.drop f.offset).take (P.cellsOf f.type)):=by
 cases x with
 |struct ht' hl hf=>rw[ht]at ht';cases ht';exact⟨hl,hf⟩
 |other ht' hd=>rw[ht]at ht';cases ht';cases hd
 |_=>simp_all
theorem Rd.inv_array {n:Nat} {e:TypeId} (ht:P.underlying t=some (.array n e)) (x:Rd P h t cs):cs.length=P.cellsOf t/\ ∀i,i <n->Rd P h e ((cs.drop (i*P.cellsOf e)).take (P.cellsOf e)):=by
 cases x with
 |array ht' hl hf=>rw[ht]at ht';cases ht';exact⟨hl,hf⟩
 |other ht' hd=>rw[ht]at ht';cases ht';cases hd
 |_=>simp_all
theorem Rd.inv_slice {e:TypeId} (ht:P.underlying t=some (.slice e)) (hz:0 <P.cellsOf e) (x:Rd P h t cs):
 ∃ a n c,cs=[.slice a n c]/\n<=c/\c<=maxLen/\(a=none->n=0/\c=0)/\(∀a',a=some a'->a'.block <h.n)/\
   (n=0\/ ∃b o xs u,a=some ⟨b,o,none⟩/\b <h.n/\h.get b=some (.cells xs u 1)/\o+n*P.cellsOf e<=xs.length/\ ∀i,i <n->Rd P h e ((xs.drop (o+i*P.cellsOf e)).take (P.cellsOf e))):=by
 cases x with
 |nils ht'=>exact⟨none,0,0,rfl,Nat.le_refl _,Nat.zero_le _,fun _=>⟨rfl,rfl⟩,fun _ e=>(by cases e),.inl rfl⟩
 | slice0 ht' a n c hn hm hb=>
   rw[ht]at ht';cases ht';exact⟨some a,n,c,rfl,hm.1,hm.2,fun e=>(by cases e),fun _ e=>(by cases e;exact hb),.inl (by omega)⟩
 | slice ht' b o n c xs u hm hb hn hg hl hr=>
   rw[ht]at ht';cases ht';exact⟨_,n,c,rfl,hm.1,hm.2,fun e=>(by cases e),fun _ e=>(by cases e;exact hb),.inr ⟨b,o,xs,u,rfl,hb,hg,hl,hr⟩⟩
 |other ht' hd=>rw[ht]at ht';cases ht';cases hd
 |_=>simp_all
end
section
variable {P:Program} {H:Type} {enc:TypeId×Value->H} {W:World}
theorem Kr {M:Mp} {v:Value} (h:VRel M v v):[v].map (Jv M)=[v]:=by rw[List.map_cons,List.map_nil,Yd h]
theorem Kd: ∀(fuel:Nat) (t:TypeId) (cs:List Value) (x:DataW H×List MemPlace),(∀v,v∈cs->Q6L v<=Q3z W)->DataW.trod enc P W 0 (fun _=>true) true fuel t cs=some x->Rd P (Hp.all W) t (cs.map (Jv (Mp.all W)))
 |0,_,_,_,_,h=>by simp[DataW.trod]at h
 | fuel+1,t,cs,x,hb,h=>by
   have hu: ∃d,P.underlying t=some d:=by
    cases hd:P.underlying t with
    |some d=>exact⟨d,rfl⟩
    |none=>unfold DataW.trod at h;rw[hd]at h;simp at h
   obtain⟨d,hd⟩:=hu;cases d with
   | bool=>
     obtain⟨b,rfl,_⟩:=DataW.trod_bool hd h;rw[Kr (.bool b)];exact .bool hd b
   | int k=>
     obtain⟨n,rfl,_,hw⟩:=DataW.trod_int hd h;rw[Kr (.int k n)];exact .int hd n (by simpa[Lit.wf]using hw)
   | string=>
     obtain⟨s,rfl,_,hs⟩:=DataW.trod_string hd h;rw[Kr (.string s)];exact .string hd s hs
   | struct fs=>
     obtain⟨xs,n,e,_,hl,hxs,hf⟩:=DataW.trod_struct hd h;cases e;refine .struct hd (by rw[List.length_map];exact hl) fun i f hi=>?_;have hlt:i <xs.length:=by rw[hxs];exact(Array.getElem?_eq_some_iff.1 hi).1
     have h1:=hf i f hi;rw[List.getElem?_eq_getElem hlt]at h1;rw[<-List.map_drop,<-List.map_take];exact Kd fuel _ _ _ (fun v hv=>hb v (List.mem_of_mem_drop (List.mem_of_mem_take hv))) h1
   | array n e=>
     obtain⟨xs,m,e',_,hl,hxs,hf⟩:=DataW.trod_array hd h;cases e';refine .array hd (by rw[List.length_map];exact hl) fun i hi=>?_;have h1:=hf i hi;rw[List.getElem?_eq_getElem (by omega)]at h1;rw[<-List.map_drop,<-List.map_take];exact Kd fuel _ _ _ (fun v hv=>hb v (List.mem_of_mem_drop (List.mem_of_mem_take hv))) h1
   | slice e=>
     rcases DataW.trod_slice hd h with⟨rfl,_⟩| ⟨a,len,cap,elems,rest,n,en,rfl,_,_,hle,hm,hlen,hel,_,_⟩
     · rw[Kr (.nils 0 0)];exact .nils hd
     cases en;have hab:a.block <Q3z W:=by have:=hb _ (List.mem_singleton_self _);simp only[Q6L]at this;omega
     rw[Kr (Q11 a len cap hab)];by_cases h0:len=0\/P.cellsOf e=0
     · exact .slice0 hd a len cap h0 ⟨hle,hm⟩ hab
     have hlp:0 <len:=by omega
     have hzp:0 <P.cellsOf e:=by omega
     have key: ∀i,i <len-> ∃cs',W.cells? 0 (a.add (i*P.cellsOf e)) (P.cellsOf e)=some cs'/\Rd P (Hp.all W) e (cs'.map (Jv (Mp.all W))):=fun i hi=>by
      have h1:=hel i hi;rw[List.getElem?_eq_getElem (by omega)]at h1;cases hc:W.cells? 0 (a.add (i*P.cellsOf e)) (P.cellsOf e)with
      |none=>rw[hc]at h1;cases h1
      | some cs'=>
        rw[hc]at h1;obtain⟨_,hl',hce⟩:=World.cells?_some hc;refine⟨cs',rfl,Kd fuel e cs' _ (fun v hv=>?_) h1⟩;obtain⟨j,hj,rfl⟩:=List.mem_iff_getElem.1 hv;exact Q4T (a:=(a.add (i*P.cellsOf e)).add j) (by rw[hce j (by omega),List.getElem?_eq_getElem hj])
     have cell: ∀i j,i <len->j <P.cellsOf e-> ∃v,W.cell? ((a.add (i*P.cellsOf e)).add j)=some v:=fun i j hi hj=>by
      obtain⟨cs',hc,_⟩:=key i hi;obtain⟨_,hl',hce⟩:=World.cells?_some hc;exact⟨_,by rw[hce j hj,List.getElem?_eq_getElem (by omega)]⟩
     -- the block
     obtain⟨v0,hv0⟩:=cell 0 0 hlp hzp;have ea:(a.add (0*P.cellsOf e)).add 0=a:=by simp[Addr.add]
     rw[ea]at hv0;obtain⟨b,o,sp⟩:=a;unfold World.cell? at hv0
     split at hv0
     · rename_i c u fr hx
       split at hv0
       · cases hv0
       rename_i hs;have hsp:sp=none:=by simpa using hs
       subst hsp;have hg:(Hp.all W).get b=some (.cells (c.toList.map (Jv (Mp.all W))) u 1):=by rw[Hp.all_get,Jt,hx]
       have at': ∀i j,i <len->j <P.cellsOf e->W.cell? (((⟨b,o,none⟩:Addr).add (i*P.cellsOf e)).add j)=c.toList[o+i*P.cellsOf e+j]?:=fun i j _ _=>by
        rw[addr_add,addr_add];simp[World.cell?,hx]
       have hfit:o+len*P.cellsOf e<=c.toList.length:=by
        obtain⟨v,hv⟩:=cell (len -1) (P.cellsOf e -1) (by omega) (by omega);rw[at' _ _ (by omega) (by omega)]at hv;have:=(List.getElem?_eq_some_iff.1 hv).1
        have e1:len*P.cellsOf e=(len -1)*P.cellsOf e+P.cellsOf e:=by
         conv=>lhs;rw[show len=(len -1)+1 from by omega,Nat.add_mul,Nat.one_mul]
        omega
       refine .slice hd b o len cap _ u ⟨hle,hm⟩ hab hlp hg (by rw[List.length_map];exact hfit) fun i hi=>?_;obtain⟨cs',hc,hr⟩:=key i hi;obtain⟨_,hl',hce⟩:=World.cells?_some hc;rw[<-List.map_drop,<-List.map_take]
       have:(c.toList.drop (o+i*P.cellsOf e)).take (P.cellsOf e)=cs':=by
        apply List.ext_getElem?;intro j;by_cases hj:j <P.cellsOf e
        · rw[List.getElem?_take_of_lt hj,List.getElem?_drop,<-at' i j hi hj,hce j hj]
        rw[List.getElem?_eq_none (by rw[List.length_take];omega),List.getElem?_eq_none (by omega)]
       rw[this];exact hr
     cases hv0
   |_=>exact .other hd rfl
end
theorem Qf2 {α:Type} {n:Nat} {Q:Nat->α->Prop} (h: ∀i,i <n-> ∃x,Q i x): ∃xs:List α,xs.length=n/\ ∀i (hi:i <xs.length),Q i xs[i]:=by
 induction n with
 |zero=>exact⟨[],rfl,fun i hi=>by simp at hi⟩
 | succ n ih=>
   obtain⟨xs,hl,hq⟩:=ih fun i hi=>h i (by omega);obtain⟨x,hx⟩:=h n (by omega);refine⟨xs++[x],by simp[hl],fun i hi=>?_⟩;by_cases hlt:i <xs.length
   · rw[List.getElem_append_left hlt];exact hq i hlt
   have:i=n:=by simp at hi;omega
   subst this;subst hl;simp;exact hx
theorem one_at {cs:List Value} {o:Nat} {u:Value} (h:(cs.drop o).take 1=[u]):cs[o]?=some u:=by
 have:=congrArg (fun l=>l[0]?) h;simpa[List.getElem?_take,List.getElem?_drop]using this
section
variable {P:Program} {h:Hp} {s:TypeId} {fs:Array Field} {cs:List Value}
theorem Rd.fld (x:Rd P h s cs) (hs:P.underlying s=some (.struct fs)) (i o t:Nat) {f:Field} (hi:fs[i]?=some f) (hf:f.type=t/\f.offset=o):Rd P h t ((cs.drop o).take (P.cellsOf t)):=by
 have h1:=(x.inv_struct hs).2 i f hi;rwa[hf.1,hf.2]at h1
end
end Go.X
namespace Go.X
abbrev uV (x:BitVec 64):Value:=.int .u64 (x.toNat:Int)
theorem wrapU (n:Int):IntKind.u64.wrap n=n%18446744073709551616:=by
 simp[IntKind.wrap,IntKind.signed,IntKind.bits]
theorem Qet (x:BitVec 64):BitVec.ofInt 64 (x.toNat:Int)=x:=by
 rw[BitVec.ofInt_natCast,BitVec.ofNat_toNat,BitVec.setWidth_eq]
section
variable {E:Env} {fn:FuncId} {nt:Nat} {l:Kn} {h:Hp} {dr:Bool} {ops:Array Oper} {fin rest:List (Oper×List Oper)} {R:Kn->Hp->Prop} {lt:List Oper} {d:Nat} {ty t ty2:TypeId} {pos:String} {af:Array Edge} {gg:Option (Nat×Bool)} {X Y:Operand}
theorem Q1F (x:BitVec 64):IntKind.u64.wrap (x.toNat:Int)=x.toNat:=by
 rw[wrapU];have:=x.isLt;omega
theorem o_andU (x y:BitVec 64) (g:Gd ops l gg) (hd:Nat.blt d nt=true) (hx:evl l X=some (uV x)) (hy:evl l Y=some (uV y)) (q:WL E fn nt dr ops fin rest ((d,uV (x&&& y))::l) h R):
 WL E fn nt dr ops fin ((⟨some d,.binOp .and t X Y ty2,ty,pos,af,gg⟩,lt)::rest) l h R:=
 YK g hd hx hy rfl (by simp only[QZ,IntKind.bits,Qet,Z8,QA,Q1F]<;>rfl) q
theorem o_orU (x y:BitVec 64) (g:Gd ops l gg) (hd:Nat.blt d nt=true) (hx:evl l X=some (uV x)) (hy:evl l Y=some (uV y)) (q:WL E fn nt dr ops fin rest ((d,uV (x|||y))::l) h R):
 WL E fn nt dr ops fin ((⟨some d,.binOp .or t X Y ty2,ty,pos,af,gg⟩,lt)::rest) l h R:=
 YK g hd hx hy rfl (by simp only[QZ,IntKind.bits,Qet,Z8,QA,Q1F]<;>rfl) q
theorem QaA {op:BinOp} {k k':IntKind} {a b:Int} {v:Value} (g:Gd ops l gg) (hd:Nat.blt d nt=true) (hx:evl l X=some (.int k a)) (hy:evl l Y=some (.int k' b)) (hs:YN op=true) (hv:Q31 op k a b=some v)
 (q:WL E fn nt dr ops fin rest ((d,v)::l) h R):WL E fn nt dr ops fin ((⟨some d,.binOp op t X Y ty2,ty,pos,af,gg⟩,lt)::rest) l h R:=
 QP g rfl (fun _ ag=>by simp only[QJ,ag.ev hx,ag.ev hy,Q2K,hs,cond_true,hv]) (wn hd) q
theorem o_shrU (x:BitVec 64) (n:Nat) {k:IntKind} (g:Gd ops l gg) (hd:Nat.blt d nt=true) (hx:evl l X=some (uV x)) (hy:evl l Y=some (.int k (n:Int))) (hn:n<=64) (q:WL E fn nt dr ops fin rest ((d,uV (x>>>n))::l) h R):
 WL E fn nt dr ops fin ((⟨some d,.binOp .shr t X Y ty2,ty,pos,af,gg⟩,lt)::rest) l h R:=
 QaA g hd hx hy rfl (by
  have h0: ¬((n:Int)<0):=by omega
  have h1:min ((n:Int)).toNat IntKind.u64.bits=n:=by simp[IntKind.bits];omega
  simp only[Q31,h0,decide_false,cond_false,h1,QA]
  have:((x.toNat:Int)).fdiv (2^n)=((x>>>n).toNat:Int):=by
   rw[BitVec.toNat_ushiftRight,Nat.shiftRight_eq_div_pow,Int.fdiv_eq_ediv_of_nonneg _ (by exact Int.le_of_lt (Int.pow_pos (by decide)))]
   norm_cast
  rw[this]) q
theorem o_shlU (x:BitVec 64) (n:Nat) {k:IntKind} (g:Gd ops l gg) (hd:Nat.blt d nt=true) (hx:evl l X=some (uV x)) (hy:evl l Y=some (.int k (n:Int))) (hn:n<=64) (q:WL E fn nt dr ops fin rest ((d,uV (x <<<n))::l) h R):
 WL E fn nt dr ops fin ((⟨some d,.binOp .shl t X Y ty2,ty,pos,af,gg⟩,lt)::rest) l h R:=
 QaA g hd hx hy rfl (by
  have h0: ¬((n:Int)<0):=by omega
  have h1:min ((n:Int)).toNat IntKind.u64.bits=n:=by simp[IntKind.bits];omega
  simp only[Q31,h0,decide_false,cond_false,h1,QA,Z8]
  have:IntKind.u64.wrap ((x.toNat:Int)*2^n)=((x <<<n).toNat:Int):=by
   have e:(x.toNat:Int)*2^n=((x.toNat*2^n:Nat):Int):=by simp
   rw[e,wrapU,BitVec.toNat_shiftLeft,Nat.shiftLeft_eq];generalize x.toNat*2^n=p;omega
  rw[this]) q
theorem o_quoN {a b:Int} (g:Gd ops l gg) (hd:Nat.blt d nt=true) (hx:evl l X=some (.int .i64 a)) (hy:evl l Y=some (.int .i64 b)) (h0:0<=a) (h1:a <9223372036854775808) (h2:0 <b) (q:WL E fn nt dr ops fin rest ((d,.int .i64 (a/b))::l) h R):
 WL E fn nt dr ops fin ((⟨some d,.binOp .quo t X Y ty2,ty,pos,af,gg⟩,lt)::rest) l h R:=
 YK g hd hx hy rfl (by
  have hb: ¬b=0:=by omega
  have hle:a/b<=a:=Int.ediv_le_self b h0;have hge:0<=a/b:=Int.ediv_nonneg h0 (by omega);simp only[QZ,hb,decide_false,cond_false,QA,Z8,Int.tdiv_eq_ediv_of_nonneg h0]
  rw[wrap64 (by omega) (by omega)]) q
theorem o_remN {a b:Int} (g:Gd ops l gg) (hd:Nat.blt d nt=true) (hx:evl l X=some (.int .i64 a)) (hy:evl l Y=some (.int .i64 b)) (h0:0<=a) (h2:0 <b) (q:WL E fn nt dr ops fin rest ((d,.int .i64 (a%b))::l) h R):
 WL E fn nt dr ops fin ((⟨some d,.binOp .rem t X Y ty2,ty,pos,af,gg⟩,lt)::rest) l h R:=
 YK g hd hx hy rfl (by
  have hb: ¬b=0:=by omega
  simp only[QZ,hb,decide_false,cond_false,QA,Int.tmod_eq_emod_of_nonneg h0]) q
theorem Qev {a b:Nat} (g:Gd ops l gg) (hd:Nat.blt d nt=true) (hx:evl l X=some (.int .i64 (a:Int))) (hy:evl l Y=some (.int .i64 (b:Int))) (h1:a <9223372036854775808) (h2:0 <b) (q:WL E fn nt dr ops fin rest ((d,.int .i64 ((a/b:Nat):Int))::l) h R):
 WL E fn nt dr ops fin ((⟨some d,.binOp .quo t X Y ty2,ty,pos,af,gg⟩,lt)::rest) l h R:=
 o_quoN g hd hx hy (by omega) (by omega) (by omega) (by rw[<-Int.natCast_ediv];exact q)
theorem Qeu {a b:Nat} (g:Gd ops l gg) (hd:Nat.blt d nt=true) (hx:evl l X=some (.int .i64 (a:Int))) (hy:evl l Y=some (.int .i64 (b:Int))) (h2:0 <b) (q:WL E fn nt dr ops fin rest ((d,.int .i64 ((a%b:Nat):Int))::l) h R):
 WL E fn nt dr ops fin ((⟨some d,.binOp .rem t X Y ty2,ty,pos,af,gg⟩,lt)::rest) l h R:=
 o_remN g hd hx hy (by omega) (by omega) (by rw[<-Int.natCast_emod];exact q)
end
section
variable {E:Env} {fn:FuncId} {nt:Nat} {l:Kn} {h:Hp} {Q:Out->Kn->Hp->Prop}
theorem QeS {n:Nat} (q:Q .next l h):W E fn nt (.label n) l h Q:=.step (is':=[]) (fun _tm _k _df _kd _ro _cs _=>rfl) (.done q)
theorem QeR {b:Code} (q:W E fn nt b l h Q):W E fn nt (.scope b) l h Q:=by
 intro tm a;obtain⟨o,l3,h3,tm3,ds,q3,a3,n3,d3,r3⟩:=q tm a;refine⟨o,l3,h3,tm3,ds,q3,a3,n3,d3,fun k df kd ro cs ho=>?_⟩;have:=r3 (.inScope b::k) df kd ro cs ho;cases o with
 |next=>exact .step rfl (Runs.trans this (.step rfl (.refl _ _)))
 |ret=>obtain⟨k',r⟩:=this;exact⟨k',.step rfl r⟩
 |exit i=>obtain⟨k',e,r⟩:=this;exact⟨k',e,.step rfl r⟩
end
end Go.X
namespace Go.X
open Go.RowKit Go.Maps
end Go.X
namespace Go.X
section
variable {E:Env} {fn:FuncId} {nt:Nat} {l l':Kn} {h h':Hp} {dr:Bool} {ops:Array Oper} {fin rest:List (Oper×List Oper)} {R:Kn->Hp->Prop} {lt:List Oper}
variable {d:Nat} {ty:TypeId} {pos:String} {af:Array Edge} {x y z:Operand} {v u:Value} {t ty2:TypeId} {k:IntKind} {a b:Int}
theorem I1 (hx:evl l x=some v) (q:WL E fn nt dr ops fin rest ((d,v)::l) h R) (hd:Nat.blt d nt=true:=by exact rfl):WL E fn nt dr ops fin ((⟨some d,.move x,ty,pos,af,none⟩,lt)::rest) l h R:=Qew trivial hd hx q
theorem D1 {gG gD:Nat} {gW gB:Bool} (hbg:gB=gW) (hx:evl l x=some v) (q:WL E fn nt dr ops fin rest ((d,v)::l) h R) (h3g:(pk ops.toList gG).dst=some gD:=by exact rfl) (h0g:Nat.blt gG ops.size=true:=by exact rfl) (h2g:lk l gD=some (.bool gB):=by exact rfl) (hd:Nat.blt d nt=true:=by exact rfl):WL E fn nt dr ops fin ((⟨some d,.move x,ty,pos,af,some (gG,gW)⟩,lt)::rest) l h R:=Qew (gy h3g h0g h2g hbg) hd hx q
theorem I2 (hx:evl l x=some v) (q:WL E fn nt dr ops fin rest ((d,v)::l) h R) (hd:Nat.blt d nt=true:=by exact rfl):WL E fn nt dr ops fin ((⟨some d,.assign x,ty,pos,af,none⟩,lt)::rest) l h R:=Q83 trivial hd hx q
theorem I4 {b o:Nat} {cs:List Value} {e:TypeId} {m:Nat} (hx:evl l x=some (.pointer (some ⟨b,o,none⟩))) (hg:h.get b=some (.cells cs e m)) (hv:cs[o]?=some v) (q:WL E fn nt dr ops fin rest ((d,v)::l) h R) (hd:Nat.blt d nt=true:=by exact rfl) (hc:isC E t=true:=by kernel_rfl):WL E fn nt dr ops fin ((⟨some d,.load t x,ty,pos,af,none⟩,lt)::rest) l h R:=Y2 trivial hd hx hc hg hv q
theorem D4 {gG gD:Nat} {gW gB:Bool} {b o:Nat} {cs:List Value} {e:TypeId} {m:Nat} (hbg:gB=gW) (hx:evl l x=some (.pointer (some ⟨b,o,none⟩))) (hg:h.get b=some (.cells cs e m)) (hv:cs[o]?=some v) (q:WL E fn nt dr ops fin rest ((d,v)::l) h R) (h3g:(pk ops.toList gG).dst=some gD:=by exact rfl) (h0g:Nat.blt gG ops.size=true:=by exact rfl) (h2g:lk l gD=some (.bool gB):=by exact rfl) (hd:Nat.blt d nt=true:=by exact rfl) (hc:isC E t=true:=by kernel_rfl):WL E fn nt dr ops fin ((⟨some d,.load t x,ty,pos,af,some (gG,gW)⟩,lt)::rest) l h R:=Y2 (gy h3g h0g h2g hbg) hd hx hc hg hv q
theorem I0 {b o i:Nat} (off:Nat) (hx:evl l x=some (.pointer (some ⟨b,o,none⟩))) (q:WL E fn nt dr ops fin rest ((d,.pointer (some ⟨b,o+off,none⟩))::l) h R) (hd:Nat.blt d nt=true:=by exact rfl) (ho:fOff E t i=some off:=by kernel_rfl):WL E fn nt dr ops fin ((⟨some d,.fieldAddr t x i,ty,pos,af,none⟩,lt)::rest) l h R:=Q28 (off:=off) trivial hd hx ho q
theorem D0 {gG gD:Nat} {gW gB:Bool} {b o i:Nat} (off:Nat) (hbg:gB=gW) (hx:evl l x=some (.pointer (some ⟨b,o,none⟩))) (q:WL E fn nt dr ops fin rest ((d,.pointer (some ⟨b,o+off,none⟩))::l) h R) (h3g:(pk ops.toList gG).dst=some gD:=by exact rfl) (h0g:Nat.blt gG ops.size=true:=by exact rfl) (h2g:lk l gD=some (.bool gB):=by exact rfl) (hd:Nat.blt d nt=true:=by exact rfl) (ho:fOff E t i=some off:=by kernel_rfl):WL E fn nt dr ops fin ((⟨some d,.fieldAddr t x i,ty,pos,af,some (gG,gW)⟩,lt)::rest) l h R:=Q28 (off:=off) (gy h3g h0g h2g hbg) hd hx ho q
theorem I6 {a:Addr} (hx:evl l x=some (.pointer (some a))) (q:WL E fn nt dr ops fin rest ((d,.pointer (some a))::l) h R) (hd:Nat.blt d nt=true:=by exact rfl):WL E fn nt dr ops fin ((⟨some d,.nilCheck x,ty,pos,af,none⟩,lt)::rest) l h R:=Q3g trivial hd hx q
theorem D6 {gG gD:Nat} {gW gB:Bool} {a:Addr} (hbg:gB=gW) (hx:evl l x=some (.pointer (some a))) (q:WL E fn nt dr ops fin rest ((d,.pointer (some a))::l) h R) (h3g:(pk ops.toList gG).dst=some gD:=by exact rfl) (h0g:Nat.blt gG ops.size=true:=by exact rfl) (h2g:lk l gD=some (.bool gB):=by exact rfl) (hd:Nat.blt d nt=true:=by exact rfl):WL E fn nt dr ops fin ((⟨some d,.nilCheck x,ty,pos,af,some (gG,gW)⟩,lt)::rest) l h R:=Q3g (gy h3g h0g h2g hbg) hd hx q
theorem I7 {a:Option Addr} {n c:Nat} (hx:evl l x=some (.slice a n c)) (q:WL E fn nt dr ops fin rest ((d,.int .i64 (n:Nat))::l) h R) (hd:Nat.blt d nt=true:=by exact rfl) (hb:isS E t=true:=by kernel_rfl):WL E fn nt dr ops fin ((⟨some d,.call ⟨.builtin .len,#[x],#[t]⟩,ty,pos,af,none⟩,lt)::rest) l h R:=o_len trivial hd hx hb q
theorem D7 {gG gD:Nat} {gW gB:Bool} {a:Option Addr} {n c:Nat} (hbg:gB=gW) (hx:evl l x=some (.slice a n c)) (q:WL E fn nt dr ops fin rest ((d,.int .i64 (n:Nat))::l) h R) (h3g:(pk ops.toList gG).dst=some gD:=by exact rfl) (h0g:Nat.blt gG ops.size=true:=by exact rfl) (h2g:lk l gD=some (.bool gB):=by exact rfl) (hd:Nat.blt d nt=true:=by exact rfl) (hb:isS E t=true:=by kernel_rfl):WL E fn nt dr ops fin ((⟨some d,.call ⟨.builtin .len,#[x],#[t]⟩,ty,pos,af,some (gG,gW)⟩,lt)::rest) l h R:=o_len (gy h3g h0g h2g hbg) hd hx hb q
theorem I5o {b o n c:Nat} {k:IntKind} {j:Int} (zz:Nat) (hx:evl l x=some (.slice (some ⟨b,o,none⟩) n c)) (hy:evl l y=some (.int k j)) (q:WL E fn nt dr ops fin rest ((d,.pointer (some ⟨b,o+j.toNat*zz,none⟩))::l) h R) (hd:Nat.blt d nt=true:=by exact rfl) (hz:QbX E t=some zz:=by kernel_rfl) (h1:0<=j:=by omega) (h2:j <n:=by omega):WL E fn nt dr ops fin ((⟨some d,.indexAddr t x y,ty,pos,af,none⟩,lt)::rest) l h R:=Q27 (zz:=zz) trivial hd hx hy hz h1 h2 q
theorem D5o {gG gD:Nat} {gW gB:Bool} {b o n c:Nat} {k:IntKind} {j:Int} (zz:Nat) (hbg:gB=gW) (hx:evl l x=some (.slice (some ⟨b,o,none⟩) n c)) (hy:evl l y=some (.int k j)) (q:WL E fn nt dr ops fin rest ((d,.pointer (some ⟨b,o+j.toNat*zz,none⟩))::l) h R) (h3g:(pk ops.toList gG).dst=some gD:=by exact rfl) (h0g:Nat.blt gG ops.size=true:=by exact rfl) (h2g:lk l gD=some (.bool gB):=by exact rfl) (hd:Nat.blt d nt=true:=by exact rfl) (hz:QbX E t=some zz:=by kernel_rfl) (h1:0<=j:=by omega) (h2:j <n:=by omega):WL E fn nt dr ops fin ((⟨some d,.indexAddr t x y,ty,pos,af,some (gG,gW)⟩,lt)::rest) l h R:=Q27 (zz:=zz) (gy h3g h0g h2g hbg) hd hx hy hz h1 h2 q
theorem Iao (hx:evl l x=some (.int .i64 a)) (hy:evl l y=some (.int .i64 b)) (q:WL E fn nt dr ops fin rest ((d,.int .i64 (a+b))::l) h R) (hd:Nat.blt d nt=true:=by exact rfl) (h1: -9223372036854775808<=a+b:=by omega) (h2:a+b <9223372036854775808:=by omega):WL E fn nt dr ops fin ((⟨some d,.binOp .add t x y ty2,ty,pos,af,none⟩,lt)::rest) l h R:=o_add trivial hd hx hy h1 h2 q
theorem Dao {gG gD:Nat} {gW gB:Bool} (hbg:gB=gW) (hx:evl l x=some (.int .i64 a)) (hy:evl l y=some (.int .i64 b)) (q:WL E fn nt dr ops fin rest ((d,.int .i64 (a+b))::l) h R) (h3g:(pk ops.toList gG).dst=some gD:=by exact rfl) (h0g:Nat.blt gG ops.size=true:=by exact rfl) (h2g:lk l gD=some (.bool gB):=by exact rfl) (hd:Nat.blt d nt=true:=by exact rfl) (h1: -9223372036854775808<=a+b:=by omega) (h2:a+b <9223372036854775808:=by omega):WL E fn nt dr ops fin ((⟨some d,.binOp .add t x y ty2,ty,pos,af,some (gG,gW)⟩,lt)::rest) l h R:=o_add (gy h3g h0g h2g hbg) hd hx hy h1 h2 q
theorem Iso (hx:evl l x=some (.int .i64 a)) (hy:evl l y=some (.int .i64 b)) (q:WL E fn nt dr ops fin rest ((d,.int .i64 (a -b))::l) h R) (hd:Nat.blt d nt=true:=by exact rfl) (h1: -9223372036854775808<=a -b:=by omega) (h2:a -b <9223372036854775808:=by omega):WL E fn nt dr ops fin ((⟨some d,.binOp .sub t x y ty2,ty,pos,af,none⟩,lt)::rest) l h R:=o_sub trivial hd hx hy h1 h2 q
theorem Dso {gG gD:Nat} {gW gB:Bool} (hbg:gB=gW) (hx:evl l x=some (.int .i64 a)) (hy:evl l y=some (.int .i64 b)) (q:WL E fn nt dr ops fin rest ((d,.int .i64 (a -b))::l) h R) (h3g:(pk ops.toList gG).dst=some gD:=by exact rfl) (h0g:Nat.blt gG ops.size=true:=by exact rfl) (h2g:lk l gD=some (.bool gB):=by exact rfl) (hd:Nat.blt d nt=true:=by exact rfl) (h1: -9223372036854775808<=a -b:=by omega) (h2:a -b <9223372036854775808:=by omega):WL E fn nt dr ops fin ((⟨some d,.binOp .sub t x y ty2,ty,pos,af,some (gG,gW)⟩,lt)::rest) l h R:=o_sub (gy h3g h0g h2g hbg) hd hx hy h1 h2 q
theorem Il (hx:evl l x=some (.int k a)) (hy:evl l y=some (.int k b)) (q:WL E fn nt dr ops fin rest ((d,.bool (decide (a <b)))::l) h R) (hd:Nat.blt d nt=true:=by exact rfl):WL E fn nt dr ops fin ((⟨some d,.binOp .lss t x y ty2,ty,pos,af,none⟩,lt)::rest) l h R:=o_lss trivial hd hx hy q
theorem Dl {gG gD:Nat} {gW gB:Bool} (hbg:gB=gW) (hx:evl l x=some (.int k a)) (hy:evl l y=some (.int k b)) (q:WL E fn nt dr ops fin rest ((d,.bool (decide (a <b)))::l) h R) (h3g:(pk ops.toList gG).dst=some gD:=by exact rfl) (h0g:Nat.blt gG ops.size=true:=by exact rfl) (h2g:lk l gD=some (.bool gB):=by exact rfl) (hd:Nat.blt d nt=true:=by exact rfl):WL E fn nt dr ops fin ((⟨some d,.binOp .lss t x y ty2,ty,pos,af,some (gG,gW)⟩,lt)::rest) l h R:=o_lss (gy h3g h0g h2g hbg) hd hx hy q
theorem Im (hx:evl l x=some (.int k a)) (hy:evl l y=some (.int k b)) (q:WL E fn nt dr ops fin rest ((d,.bool (decide (a<=b)))::l) h R) (hd:Nat.blt d nt=true:=by exact rfl):WL E fn nt dr ops fin ((⟨some d,.binOp .leq t x y ty2,ty,pos,af,none⟩,lt)::rest) l h R:=o_leq trivial hd hx hy q
theorem Dm {gG gD:Nat} {gW gB:Bool} (hbg:gB=gW) (hx:evl l x=some (.int k a)) (hy:evl l y=some (.int k b)) (q:WL E fn nt dr ops fin rest ((d,.bool (decide (a<=b)))::l) h R) (h3g:(pk ops.toList gG).dst=some gD:=by exact rfl) (h0g:Nat.blt gG ops.size=true:=by exact rfl) (h2g:lk l gD=some (.bool gB):=by exact rfl) (hd:Nat.blt d nt=true:=by exact rfl):WL E fn nt dr ops fin ((⟨some d,.binOp .leq t x y ty2,ty,pos,af,some (gG,gW)⟩,lt)::rest) l h R:=o_leq (gy h3g h0g h2g hbg) hd hx hy q
theorem Ig (hx:evl l x=some (.int k a)) (hy:evl l y=some (.int k b)) (q:WL E fn nt dr ops fin rest ((d,.bool (decide (b <a)))::l) h R) (hd:Nat.blt d nt=true:=by exact rfl):WL E fn nt dr ops fin ((⟨some d,.binOp .gtr t x y ty2,ty,pos,af,none⟩,lt)::rest) l h R:=o_gtr trivial hd hx hy q
theorem Dg {gG gD:Nat} {gW gB:Bool} (hbg:gB=gW) (hx:evl l x=some (.int k a)) (hy:evl l y=some (.int k b)) (q:WL E fn nt dr ops fin rest ((d,.bool (decide (b <a)))::l) h R) (h3g:(pk ops.toList gG).dst=some gD:=by exact rfl) (h0g:Nat.blt gG ops.size=true:=by exact rfl) (h2g:lk l gD=some (.bool gB):=by exact rfl) (hd:Nat.blt d nt=true:=by exact rfl):WL E fn nt dr ops fin ((⟨some d,.binOp .gtr t x y ty2,ty,pos,af,some (gG,gW)⟩,lt)::rest) l h R:=o_gtr (gy h3g h0g h2g hbg) hd hx hy q
theorem Ih (hx:evl l x=some (.int k a)) (hy:evl l y=some (.int k b)) (q:WL E fn nt dr ops fin rest ((d,.bool (decide (b<=a)))::l) h R) (hd:Nat.blt d nt=true:=by exact rfl):WL E fn nt dr ops fin ((⟨some d,.binOp .geq t x y ty2,ty,pos,af,none⟩,lt)::rest) l h R:=o_geq trivial hd hx hy q
theorem Dh {gG gD:Nat} {gW gB:Bool} (hbg:gB=gW) (hx:evl l x=some (.int k a)) (hy:evl l y=some (.int k b)) (q:WL E fn nt dr ops fin rest ((d,.bool (decide (b<=a)))::l) h R) (h3g:(pk ops.toList gG).dst=some gD:=by exact rfl) (h0g:Nat.blt gG ops.size=true:=by exact rfl) (h2g:lk l gD=some (.bool gB):=by exact rfl) (hd:Nat.blt d nt=true:=by exact rfl):WL E fn nt dr ops fin ((⟨some d,.binOp .geq t x y ty2,ty,pos,af,some (gG,gW)⟩,lt)::rest) l h R:=o_geq (gy h3g h0g h2g hbg) hd hx hy q
theorem Ie (hx:evl l x=some (.int k a)) (hy:evl l y=some (.int k b)) (q:WL E fn nt dr ops fin rest ((d,.bool (decide (a=b)))::l) h R) (hd:Nat.blt d nt=true:=by exact rfl):WL E fn nt dr ops fin ((⟨some d,.binOp .eql t x y ty2,ty,pos,af,none⟩,lt)::rest) l h R:=Qfq trivial hd hx hy q
theorem De {gG gD:Nat} {gW gB:Bool} (hbg:gB=gW) (hx:evl l x=some (.int k a)) (hy:evl l y=some (.int k b)) (q:WL E fn nt dr ops fin rest ((d,.bool (decide (a=b)))::l) h R) (h3g:(pk ops.toList gG).dst=some gD:=by exact rfl) (h0g:Nat.blt gG ops.size=true:=by exact rfl) (h2g:lk l gD=some (.bool gB):=by exact rfl) (hd:Nat.blt d nt=true:=by exact rfl):WL E fn nt dr ops fin ((⟨some d,.binOp .eql t x y ty2,ty,pos,af,some (gG,gW)⟩,lt)::rest) l h R:=Qfq (gy h3g h0g h2g hbg) hd hx hy q
theorem In (hx:evl l x=some (.int k a)) (hy:evl l y=some (.int k b)) (q:WL E fn nt dr ops fin rest ((d,.bool (!decide (a=b)))::l) h R) (hd:Nat.blt d nt=true:=by exact rfl):WL E fn nt dr ops fin ((⟨some d,.binOp .neq t x y ty2,ty,pos,af,none⟩,lt)::rest) l h R:=o_nei trivial hd hx hy q
theorem Dn {gG gD:Nat} {gW gB:Bool} (hbg:gB=gW) (hx:evl l x=some (.int k a)) (hy:evl l y=some (.int k b)) (q:WL E fn nt dr ops fin rest ((d,.bool (!decide (a=b)))::l) h R) (h3g:(pk ops.toList gG).dst=some gD:=by exact rfl) (h0g:Nat.blt gG ops.size=true:=by exact rfl) (h2g:lk l gD=some (.bool gB):=by exact rfl) (hd:Nat.blt d nt=true:=by exact rfl):WL E fn nt dr ops fin ((⟨some d,.binOp .neq t x y ty2,ty,pos,af,some (gG,gW)⟩,lt)::rest) l h R:=o_nei (gy h3g h0g h2g hbg) hd hx hy q
theorem I3 {b o:Nat} {cs:List Value} {e:TypeId} {m:Nat} (n:Nat) (hx:evl l x=some (.pointer (some ⟨b,o,none⟩))) (hg:h.get b=some (.cells cs e m)) (hv:o+n<=cs.length) (q:WL E fn nt dr ops fin rest ((d,.agg ((cs.drop o).take n).toArray)::l) h R) (hd:Nat.blt d nt=true:=by exact rfl) (hc:isA E t=true:=by kernel_rfl) (hn:E.size t=some n:=by kernel_rfl):WL E fn nt dr ops fin ((⟨some d,.load t x,ty,pos,af,none⟩,lt)::rest) l h R:=Z4 (n:=n) trivial hd hx hc hn hg hv q
theorem D3 {gG gD:Nat} {gW gB:Bool} {b o:Nat} {cs:List Value} {e:TypeId} {m:Nat} (n:Nat) (hbg:gB=gW) (hx:evl l x=some (.pointer (some ⟨b,o,none⟩))) (hg:h.get b=some (.cells cs e m)) (hv:o+n<=cs.length) (q:WL E fn nt dr ops fin rest ((d,.agg ((cs.drop o).take n).toArray)::l) h R) (h3g:(pk ops.toList gG).dst=some gD:=by exact rfl) (h0g:Nat.blt gG ops.size=true:=by exact rfl) (h2g:lk l gD=some (.bool gB):=by exact rfl) (hd:Nat.blt d nt=true:=by exact rfl) (hc:isA E t=true:=by kernel_rfl) (hn:E.size t=some n:=by kernel_rfl):WL E fn nt dr ops fin ((⟨some d,.load t x,ty,pos,af,some (gG,gW)⟩,lt)::rest) l h R:=Z4 (n:=n) (gy h3g h0g h2g hbg) hd hx hc hn hg hv q
theorem Ib {b:Bool} (hx:evl l x=some (.bool b)) (q:WL E fn nt dr ops fin rest ((d,.bool (!b))::l) h R) (hd:Nat.blt d nt=true:=by exact rfl):WL E fn nt dr ops fin ((⟨some d,.unOp .not t x,ty,pos,af,none⟩,lt)::rest) l h R:=o_not trivial hd hx q
theorem Db {gG gD:Nat} {gW gB:Bool} {b:Bool} (hbg:gB=gW) (hx:evl l x=some (.bool b)) (q:WL E fn nt dr ops fin rest ((d,.bool (!b))::l) h R) (h3g:(pk ops.toList gG).dst=some gD:=by exact rfl) (h0g:Nat.blt gG ops.size=true:=by exact rfl) (h2g:lk l gD=some (.bool gB):=by exact rfl) (hd:Nat.blt d nt=true:=by exact rfl):WL E fn nt dr ops fin ((⟨some d,.unOp .not t x,ty,pos,af,some (gG,gW)⟩,lt)::rest) l h R:=o_not (gy h3g h0g h2g hbg) hd hx q
theorem Ic {f:FuncId} {args:Array Operand} {as:Array TypeId} {first cap:Array Value} (vs:List Value) (hf:evl l x=some (.func (.func f) first cap)) (hv:args.toList.map (evl l)=vs.map some) (q:C E f (first.toList++vs++cap.toList) h fun v h'=>(∀q,q∈lt->Again E ops ((d,v)::l) h' q)/\WL E fn nt dr ops fin rest ((d,v)::l) h' R) (hd:Nat.blt d nt=true:=by exact rfl) (ho:Q69 E f=true:=by kernel_rfl):WL E fn nt dr ops fin ((⟨some d,.call ⟨.value x,args,as⟩,ty,pos,af,none⟩,lt)::rest) l h R:=Z1 vs trivial hd hf ho hv q
theorem Dc {gG gD:Nat} {gW gB:Bool} {f:FuncId} {args:Array Operand} {as:Array TypeId} {first cap:Array Value} (hbg:gB=gW) (vs:List Value) (hf:evl l x=some (.func (.func f) first cap)) (hv:args.toList.map (evl l)=vs.map some) (q:C E f (first.toList++vs++cap.toList) h fun v h'=>(∀q,q∈lt->Again E ops ((d,v)::l) h' q)/\WL E fn nt dr ops fin rest ((d,v)::l) h' R) (h3g:(pk ops.toList gG).dst=some gD:=by exact rfl) (h0g:Nat.blt gG ops.size=true:=by exact rfl) (h2g:lk l gD=some (.bool gB):=by exact rfl) (hd:Nat.blt d nt=true:=by exact rfl) (ho:Q69 E f=true:=by kernel_rfl):WL E fn nt dr ops fin ((⟨some d,.call ⟨.value x,args,as⟩,ty,pos,af,some (gG,gW)⟩,lt)::rest) l h R:=Z1 vs (gy h3g h0g h2g hbg) hd hf ho hv q
theorem IT {b:Bool} (hx:evl l x=some (.bool b)) (hb:b=true) (hy:evl l y=some v) (q:WL E fn nt dr ops fin rest ((d,v)::l) h R) (hd:Nat.blt d nt=true:=by exact rfl):WL E fn nt dr ops fin ((⟨some d,.pick x y z,ty,pos,af,none⟩,lt)::rest) l h R:=Q3Z trivial hd hx hb hy q
theorem DT {gG gD:Nat} {gW gB:Bool} {b:Bool} (hbg:gB=gW) (hx:evl l x=some (.bool b)) (hb:b=true) (hy:evl l y=some v) (q:WL E fn nt dr ops fin rest ((d,v)::l) h R) (h3g:(pk ops.toList gG).dst=some gD:=by exact rfl) (h0g:Nat.blt gG ops.size=true:=by exact rfl) (h2g:lk l gD=some (.bool gB):=by exact rfl) (hd:Nat.blt d nt=true:=by exact rfl):WL E fn nt dr ops fin ((⟨some d,.pick x y z,ty,pos,af,some (gG,gW)⟩,lt)::rest) l h R:=Q3Z (gy h3g h0g h2g hbg) hd hx hb hy q
theorem Iu {b:Bool} (hx:evl l x=some (.bool b)) (hb:b=false) (hz:evl l z=some v) (q:WL E fn nt dr ops fin rest ((d,v)::l) h R) (hd:Nat.blt d nt=true:=by exact rfl):WL E fn nt dr ops fin ((⟨some d,.pick x y z,ty,pos,af,none⟩,lt)::rest) l h R:=Q40 trivial hd hx hb hz q
theorem Du {gG gD:Nat} {gW gB:Bool} {b:Bool} (hbg:gB=gW) (hx:evl l x=some (.bool b)) (hb:b=false) (hz:evl l z=some v) (q:WL E fn nt dr ops fin rest ((d,v)::l) h R) (h3g:(pk ops.toList gG).dst=some gD:=by exact rfl) (h0g:Nat.blt gG ops.size=true:=by exact rfl) (h2g:lk l gD=some (.bool gB):=by exact rfl) (hd:Nat.blt d nt=true:=by exact rfl):WL E fn nt dr ops fin ((⟨some d,.pick x y z,ty,pos,af,some (gG,gW)⟩,lt)::rest) l h R:=Q40 (gy h3g h0g h2g hbg) hd hx hb hz q
theorem Ix {vs:Array Value} {i:Nat} (hx:evl l x=some (.tuple vs)) (hv:vs[i]?=some v) (q:WL E fn nt dr ops fin rest ((d,v)::l) h R) (hd:Nat.blt d nt=true:=by exact rfl):WL E fn nt dr ops fin ((⟨some d,.extract x i,ty,pos,af,none⟩,lt)::rest) l h R:=QaD trivial hd hx hv q
theorem I9r (l:List Oper):((List.range l.length).map fun i=>(i,([]:List Nat))).map (fun p=>(pk l p.1,p.2.map (pk l)))=l.map fun o=>(o,[]):=by
 apply List.ext_getElem
 · simp
 intro i h1 h2;have h3:i <l.length:=by simpa using h2
 have e:=Qer l i h3;rw[List.getElem?_eq_getElem h3]at e;simp[<-Option.some.inj e]
theorem I9 {Q:Out->Kn->Hp->Prop} {id:Nat} {ops:Array Oper} (q:WL E fn nt true ops [] (ops.toList.map fun o=>(o,[])) l h (Q .next)) (hc:QK ops=true:=by kernel_rfl) (hk:YT E ops=true:=by kernel_rfl) (hs:canon E ops=((List.range ops.toList.length).map fun i=>(i,([]:List Nat))).map (·.1):=by kernel_rfl) (hd:dOk E ops ((List.range ops.toList.length).map fun i=>(i,([]:List Nat)))=true:=by kernel_rfl):W E fn nt (.region id ops true) l h Q:=
 Yq _ hc hk hs hd (by unfold resolve;rw[I9r];exact q)
end
end Go.X
