/- The calculus of memory and steps, part Xd. Conditions: none. -/
import Derived.Test.YtljpajcmdjmeaaaGreatXc
import Derived.Test.YtljpajcmdjmeaaaGreatXa
import Derived.SizedLaws
open List renaming map_cons → v0G, mem_cons → v0w, mem_map → v0L, mem_of_getElem? → v0m, ext_getElem? → v09, getElem?_map → v0y, getElem?_modify → v1g, map_append → v0P, map_nil → v1h, nodup_append → v0O, mem_append → v0A, mem_singleton → v01, nodup_cons → v0W, getElem?_cons_zero → v0S, length_map → v0s, append_assoc → v0B, take_append_drop → v00, length_append → v0j, drop_zero → v0R, take_of_length_le → v1A, append_nil → v0k, take_append_of_le_length → v2n, nil_append → v1b, eq_nil_of_length_eq_zero → v1x, getElem?_eq_some_iff → v0z, drop_eq_getElem_cons → v1K, set_eq_take_append_cons_drop → v2C, getElem?_eq_getElem → v0c, mem_iff_getElem → v0J, mem_map_of_mem → v1L, getElem?_take_of_lt → v2l, getElem?_drop → v1l, getElem?_eq_none → v02, length_take → v0D, modify_zero_cons → v2x, modify_succ_cons → v07, findIdx?_cons → v2j, getElem?_cons_succ → v1r, mem_cons_of_mem → v0E, mem_append_left → v1B, mem_append_right → v2o, eraseIdx_eq_take_drop_succ → v2D, map_congr_left → v1p
open Nat renaming zero_add → v0f, beq_refl → v0N, blt → v0a, le_trans → v0p, lt_of_lt_of_le → v0u, le_refl → v0b, mul_le_mul_right → v05, sub_mul → v1y, ble → v0r, beq → v0d, add_mul → v1a, zero_mul → v1G, eq_of_beq_eq_true → v1v
open Bool renaming and_eq_true → v0h, not_false → v1q, and_true → v1i
open Option renaming map_some → v1s, some → v0i
namespace Go.X
def Qgb (M:Ms) (k:Int):Ms:=match fi k M 0 with
 |some (i,_)=>M.eraseIdx i
 |none=>M
structure MsOk (M:Ms) (cl:Nat):Prop where
 keys:(M.map (·.1)).Nodup
 born:(M.map (·.2.2)).Nodup
 lt: ∀x,x∈M->x.2.2 <cl
theorem MsOk.nil (cl:Nat):MsOk [] cl:=⟨by simp,by simp,by simp⟩
theorem Q4p {k:Int}: ∀ {M:Ms} {i:Nat},fi k M i=none->k∉M.map (·.1)
 | [],_,_=>by simp
 | (a,v,n)::r,i,h=>by
   simp only[fi]at h;by_cases e:a=k
   · rw[if_pos e]at h;cases h
   rw[if_neg e]at h;have:=Q4p h;simp only[v0G,v0w,not_or];exact⟨fun q=>e q.symm,this⟩
theorem Q2t {k:Int} {M:Ms}:Q4M M k=none↔k∉M.map (·.1):=by
 unfold Q4M;cases h:fi k M 0 with
 |none=>simpa using Q4p h
 | some x=>
   obtain⟨j,v⟩:=x;obtain⟨p,_,hp,n,h3⟩:=Q16 h;simp only[v1s,reduceCtorEq,false_iff,Classical.not_not];exact v0L.2 ⟨_,v0m h3,rfl⟩
theorem YJ {α β:Type} (f:α->β) (u:α->α) (l:List α) (p:Nat) (h: ∀x,l[p]?=some x->f (u x)=f x):(l.modify p u).map f=l.map f:=by
 apply v09;intro j;simp only[v0y,v1g];by_cases e:p=j
 · subst e;cases hx:l[p]? with
   |none=>simp
   |some x=>simp[h x hx]
 simp[e]
theorem MsOk.put {M:Ms} {cl:Nat} (x:MsOk M cl) (k:Int) (v:Value):MsOk (Q4K M k v cl).1 (Q4K M k v cl).2:=by
 unfold Q4K;cases h:fi k M 0 with
 | none=>
   have hk:=Q4p h;refine⟨?_,?_,fun y hy=>?_⟩
   · simp only[v0P,v0G,v1h];rw[v0O];exact⟨x.keys,by simp,fun a ha b hb=>by simp at hb;subst hb;exact fun e=>hk (e▸ha)⟩
   · simp only[v0P,v0G,v1h];rw[v0O];refine⟨x.born,by simp,fun a ha b hb=>?_⟩;simp at hb;subst hb;obtain⟨y,hy,rfl⟩:=v0L.1 ha;have:=x.lt y hy;omega
   simp only[v0A,v01]at hy;rcases hy with hy|rfl
   · have:=x.lt y hy;show _ <cl+1;omega
   show cl <cl+1;omega
 | some q=>
   obtain⟨i,w⟩:=q;obtain⟨p,hp,_,n,h3⟩:=Q16 h;simp only[v0f]at hp;subst hp;refine⟨?_,?_,fun y hy=>?_⟩
   · show((M.modify i _).map _).Nodup;rw[YJ _ _ _ _ (fun z hz=>by rw[h3]at hz;cases hz;rfl)];exact x.keys
   · show((M.modify i _).map _).Nodup;rw[YJ (fun x:Int×Value×Nat=>x.2.2) (fun x=>(k,v,x.2.2)) _ _ (fun z _=>rfl)];exact x.born
   have:y.2.2∈(M.modify i fun z=>(k,v,z.2.2)).map (·.2.2):=v0L.2 ⟨y,hy,rfl⟩;rw[YJ (fun x:Int×Value×Nat=>x.2.2) (fun x=>(k,v,x.2.2)) _ _ (fun z _=>rfl)]at this;obtain⟨z,hz,e⟩:=v0L.1 this;have:=x.lt z hz;show y.2.2 <cl;omega
theorem MsOk.del {M:Ms} {cl:Nat} (x:MsOk M cl) (k:Int):MsOk (Qgb M k) cl:=by
 unfold Qgb;cases h:fi k M 0 with
 |none=>exact x
 | some q=>
   obtain⟨i,w⟩:=q;have hs:(M.eraseIdx i).Sublist M:=List.eraseIdx_sublist M i;exact⟨x.keys.sublist (hs.map _),x.born.sublist (hs.map _),fun y hy=>x.lt y (hs.subset hy)⟩
theorem Q8d {k k':Int}: ∀(M:Ms) (s p:Nat) (u:Value),(M.map (·.1)).Nodup->fi k M s=some (s+p,u)->
 (fi k' (M.eraseIdx p) s).map (·.2)=if k'=k then none else(fi k' M s).map (·.2)
 | [],_,_,_,_,h=>by simp[fi]at h
 | (a, w,n)::r,s,p,u,hn,h=>by
   simp only[v0G,v0W]at hn;simp only[fi]at h;by_cases e:a=k
   · rw [if_pos e]at h;have hp:p=0:=by simp at h;omega
     subst hp;subst e;simp only[List.eraseIdx_cons_zero,fi];by_cases e':k'=a
     · subst e';rw[if_pos rfl];have:Q4M r k'=none:=Q2t.2 hn.1;cases hq:fi k' r s with
       |none=>rfl
       | some y=>
         obtain⟨j,v⟩:=y;obtain⟨p,_,hp,m,h3⟩:=Q16 hq;exact absurd (v0L.2 ⟨_,v0m h3,rfl⟩) hn.1
     rw[if_neg e',if_neg (fun x=>e' x.symm)]
     have jf: ∀(M:Ms) (s t:Nat),(fi k' M s).map (·.2)=(fi k' M t).map (·.2):=by
      intro M
      induction M with
      |nil=>intro s t;rfl
      | cons y r ih=>
        intro s t;obtain⟨b,c,d⟩:=y;simp only[fi]
        split
        · rfl
        exact ih _ _
     exact jf _ _ _
   rw[if_neg e]at h;cases p with
   | zero=>
     obtain⟨q,h1,_⟩:=Q16 h;omega
   | succ p=>
     simp only[List.eraseIdx_cons_succ,fi];by_cases e':a=k'
     · rw[if_pos e',if_pos e',if_neg (fun x=>e (e'.trans x))]
     rw[if_neg e',if_neg e'];exact Q8d r (s+1) p u hn.2 (by rw[h];congr 2;omega)
theorem Qg5 {M:Ms} {cl:Nat} (x:MsOk M cl) (k k':Int):Q4M (Qgb M k) k'=if k'=k then none else Q4M M k':=by
 unfold Qgb Q4M;cases h:fi k M 0 with
 | none=>
   by_cases e:k'=k
   · subst e;simp[h]
   simp[e]
 | some q=>
   obtain⟨i,u⟩:=q;exact Q8d M 0 i u x.keys (by rw[h,v0f])
section
variable {E:Env} {fn:FuncId} {nt:Nat} {l l':Kn} {h h':Hp} {dr:Bool} {ops:Array Oper} {fin rest:List (Oper×List Oper)} {R:Kn->Hp->Prop} {lt:List Oper}
variable {d:Nat} {ty:TypeId} {pos:String} {af:Array Edge} {gg:Option (Nat×Bool)} {x y z:Operand} {v u:Value} {t t2:TypeId}
theorem Q5Z {α β:Type} (f:α->β): ∀(l:List α) (i:Nat),(l.map f).eraseIdx i=(l.eraseIdx i).map f
 | [],_=>rfl
 |_::_,0=>rfl
 |a::r,i+1=>by simp only[v0G,List.eraseIdx_cons_succ,Q5Z f r i]
theorem QcX {kt et:TypeId} {M:Ms} {cl r:Nat} {k:Int} (m:MapT E t kt et) (g:Gd ops l gg) (hx:evl l x=some (.map (some r))) (hy:evl l y=some (.int .i64 k))
 (hg:h.get r=some (.map (M.map ent) cl)) (aG:k∈M.map (·.1)) (ha: ∀q,q∈lt->Again E ops l (h.put r (.map ((Qgb M k).map ent) cl)) q)
 (q:WL E fn nt dr ops fin rest l (h.put r (.map ((Qgb M k).map ent) cl)) R):
 WL E fn nt dr ops fin ((⟨none,.call ⟨.builtin .delete,#[x,y],#[t,t2]⟩,ty,pos,af,gg⟩,lt)::rest) l h R:=by
 refine Q1z (v:=.tuple #[]) g rfl (fun _ ag=>?_) wn0 ha q;simp only[Z3,ZK,ZA,List.getElem?_toArray,v0S,List.map_toArray,v0G,v1h,ag.ev hx,ag.ev hy,Q19,m.und,hg,Q0f m.key,cond_true,Q0m m.key,Qgb];cases hf:fi k M 0 with
 |none=>exact absurd aG (Q4p hf)
 | some q=>
   obtain⟨i,w⟩:=q;simp only[Q5Z]
end
theorem Q5A: ∀M:Ms,(∀x,x∈M->(Lit.int .i64 x.1).wf=true)->Q5B (M.map ent)=some (M.map (·.1))
 | [],_=>rfl
 | x::r,h=>by
   have h1:=h x (by simp);simp only[v0G,Q5B,Q5A r fun y hy=>h y (by simp[hy]),keyI,ent,h1,decide_true,cond_true]
theorem Q8r {M:Ms} {cl:Nat} (x:MsOk M cl) (hl:M.length<=100000):Q4Y (M.map ent) cl (M.map (·.1))=true:=by
 have e:(M.map ent).map (·.born)=M.map (·.2.2):=by rw[List.map_map];rfl
 simp only[Q4Y,v0h,List.all_eq_true,Zg,Qy,v0s];refine⟨⟨⟨fun y hy=>?_,?_⟩,(Kl _).2 x.keys⟩,hl⟩
 · obtain⟨z,hz,rfl⟩:=v0L.1 hy;exact x.lt z hz
 rw[e];exact(Kl _).2 x.born
theorem Q6o {M:Ms} {cl:Nat} {h:Hp} {elem:Nat} (x:MsOk M cl) (hl:M.length<=100000) (hw: ∀y,y∈M->(Lit.int .i64 y.1).wf=true):
 ∃v h' bs,Q1X elem (M.map ent) cl h=some (v,h')/\Sl elem h' v ((Q1Y (M.map (·.1))).map (Value.int .i64)) bs/\Ext h h'/\(∀i,i∈bs->h.n<=i)/\KD h h':=by
 unfold Q1X;rw[Q5A M hw];simp only[Q8r x hl,cond_true];cases hs:Q1Y (M.map (·.1))with
 |nil=>exact⟨_,_,[],rfl,.inl ⟨rfl,rfl,rfl⟩,.refl _,by simp,.refl _⟩
 | cons y ys=>
   exact⟨_,_,[h.n],rfl,.inr ⟨h.n,3,by simp,Hp.get_alloc_self _ _,.inr rfl,by rw[Hp.n_alloc];omega,rfl⟩,Ext.alloc _ _,by simp,KD.alloc _ _⟩
theorem Q6n {M:Ms} {cl c r g t:Nat} {h:Hp} {elem:Nat} (x:MsOk M cl) (hl:M.length<=100000) (hw: ∀y,y∈M->(Lit.int .i64 y.1).wf=true) (hc:h.get c=some (.cells [.map (some r)] t 0)) (hr:h.get r=some (.map (M.map ent) cl)):
 ∃v h' bs,JB g elem [.func (.func g) #[] #[.pointer (some ⟨c,0,none⟩)]] h=some (v,h')/\Sl elem h' v ((Q1Y (M.map (·.1))).map (Value.int .i64)) bs/\Ext h h'/\(∀i,i∈bs->h.n<=i)/\KD h h':=by
 have e:JB g elem [.func (.func g) #[] #[.pointer (some ⟨c,0,none⟩)]] h=Q1X elem (M.map ent) cl h:=by
  simp only[JB,isFn,v0N,QcL,Qd9,hc,hr];rfl
 rw[e];exact Q6o x hl hw
section
variable {E:Env} {fn:FuncId} {nt:Nat} {l l':Kn} {h h':Hp} {dr:Bool} {ops:Array Oper} {fin rest:List (Oper×List Oper)} {R:Kn->Hp->Prop} {lt:List Oper}
variable {d:Nat} {ty t aM:TypeId} {pos:String} {af:Array Edge} {gg:Option (Nat×Bool)} {x y:Operand} {v u w:Value} {op:BinOp}
theorem Qfo (g:Gd ops l gg) (hd:v0a d nt=true) (hx:evl l x=some u) (hy:evl l y=some w) (hv:Q3v E h op t x y u w=some v) (q:WL E fn nt dr ops fin rest ((d,v)::l) h R):
 WL E fn nt dr ops fin ((⟨some d,.binOp op t x y aM,ty,pos,af,gg⟩,lt)::rest) l h R:=
 QE g rfl (fun _ ag=>by simp only[QQ,ag.ev hx,ag.ev hy,hv]) (wn hd) q
end
theorem eqN_of {E:Env} {h:Hp} {n:Nat} {t:TypeId} {u w:Value} {b:Bool} (he:Zj E h 1 t u w=some b):eqN E h n t u w=some b:=by
 cases n with
 |zero=>exact he
 | succ n=>
   unfold eqN
   split
   · simp only[Zj]at he
     split at he
     · cases he
     rename_i d _;cases d<;>cases he
   exact he
theorem Ze {E:Env} {h:Hp} {xs ys:Array Value} {f:Field} {fs:List Field} {u w:Value} {b c:Bool} (hn:(f.name== "_")=false) (hu:Q09 E f.type xs f.offset=some u) (hw:Q09 E f.type ys f.offset=some w) (he:Zj E h 1 f.type u w=some b)
 (hr:Zo E h xs ys fs=some c):Zo E h xs ys (f::fs)=some (b&&c):=by
 unfold Zo at*;simp only[Y1,hn,cond_false,hu,hw,eqN_of he];cases b
 · rfl
 simpa using hr
theorem Q8l {E:Env} {h:Hp} {t:TypeId} {x y:Operand} {xs ys:Array Value} {fs:Array Field} {r:Bool} (hu:E.und t=some (.struct fs)) (hg:(E.P.eqGuardType E.P.depth t||E.P.stoodInHeld t)=false) (hs:Zo E h xs ys fs.toList=some r):
 Q3v E h .neq t x y (.agg xs) (.agg ys)=some (.bool (!r)):=by
 simp only[Q3v,hu,hg,cond_false,hs,QP]
theorem QdQ {E:Env} {h:Hp} {t:TypeId} {x y:Operand} {xs ys:Array Value} {fs:Array Field} {r:Bool} (hu:E.und t=some (.struct fs)) (hg:(E.P.eqGuardType E.P.depth t||E.P.stoodInHeld t)=false) (hs:Zo E h xs ys fs.toList=some r):
 Q3v E h .eql t x y (.agg xs) (.agg ys)=some (.bool r):=by
 simp only[Q3v,hu,hg,cond_false,hs,QP]
theorem ExtB.join {A C:List Nat} {h h1 h2:Hp} (x:ExtB A h h1) (y:ExtB C h1 h2) (d: ∀i,i∈C->i∈A\/h.n<=i):ExtB A h h2:=
 ⟨v0p x.n y.n,fun i hi hA=>(y.get i (v0u hi x.n) fun hc=>(d i hc).elim hA fun h1=>by omega).trans (x.get i hi hA)⟩
def SlC (e:TypeId) (z:Nat) (h:Hp) (s:Value) (cs:List Value) (n:Nat) (bs:List Nat):Prop:=
 (s=.slice none 0 0/\cs=[]/\n=0/\bs=[])\/ ∃b m c rest,s=.slice (some ⟨b,0,none⟩) n c/\h.get b=some (.cells (cs++rest) e m)/\(m=0\/m=z+3)/\b <h.n/\bs=[b]/\cs.length=n*(z+1)/\n<=c/\rest.length=(c -n)*(z+1)
section
variable {e z:Nat} {h h':Hp} {s:Value} {cs:List Value} {n:Nat} {bs ds:List Nat}
theorem SlN.toC (x:SlN e z h s cs n bs):SlC e z h s cs n bs:=by
 rcases x with x| ⟨b,m,h1,h2,h3,h4,h5,h6⟩
 · exact .inl x
 exact .inr ⟨b,m,n,[],h1,by simpa using h2,h3,h4,h5,h6,v0b _,by simp⟩
theorem SlC.lt (x:SlC e z h s cs n bs): ∀i,i∈bs->i <h.n:=by
 rcases x with⟨_,_,_,rfl⟩| ⟨b,m,c,rest,h1,h2,h3,h4,rfl,_⟩<;>simp
 exact h4
theorem SlC.val (x:SlC e z h s cs n bs): ∃a c,s=.slice a n c:=by
 rcases x with⟨rfl,_,rfl,_⟩| ⟨b,m,c,rest,rfl,_⟩
 · exact⟨none,0,rfl⟩
 exact⟨_,_,rfl⟩
theorem SlC.at (x:SlC e z h s cs n bs) (hn:0 <n):
 ∃b m c rest,s=.slice (some ⟨b,0,none⟩) n c/\h.get b=some (.cells (cs++rest) e m)/\(m=0\/m=z+3)/\b <h.n/\bs=[b]/\cs.length=n*(z+1)/\n<=c/\rest.length=(c -n)*(z+1):=by
 rcases x with⟨_,_,rfl,_⟩|x
 · simp at hn
 exact x
theorem SlC.first {b:Nat} {c:Nat} (x:SlC e z h (.slice (some ⟨b,0,none⟩) n c) cs n bs) {k:Nat} (hk:k<=n):SlC e z h (.slice (some ⟨b,0,none⟩) k c) (cs.take (k*(z+1))) k bs:=by
 rcases x with⟨h1,_⟩| ⟨b',m,c',rest,h1,h2,h3,h4,rfl,h5,h6,h7⟩
 · cases h1
 cases h1;have hm:k*(z+1)<=n*(z+1):=v05 _ hk;have hm2:n*(z+1)<=c*(z+1):=v05 _ h6;refine .inr ⟨b,m,c,cs.drop (k*(z+1))++rest,rfl,?_,h3,h4,rfl,by simp;omega,by omega,?_⟩
 · rw[<-v0B,v00];exact h2
 rw[v0j,List.length_drop,h5,h7,v1y,v1y];omega
theorem Qgt {E:Env} {t by' q m':Nat} {xs:List Value} (x:ElN E t e z by') (hs:SlC e z h s cs n bs) (hq:h.get q=some (.cells xs e m')) (hx:xs.length=z+1) (hc:xs.all cellV=true)
 (hn:(n+1)*(by'+1)<=1099511627776):
 ∃v' h' aa,Zh E h t t s (.slice (some ⟨q,0,none⟩) 1 1)=some (v',h')/\SlC e z h' v' (cs++xs) (n+1) aa/\ExtB bs h h'/\ ∀i,i∈aa->i∈bs\/h.n<=i:=by
 have cw:Jv h (z+1) 1 (.slice (some ⟨q,0,none⟩) 1 1)=some xs:=by
  have e1:v0r (0+1*(z+1)) xs.length=true:=(Qy _ _).2 (by omega);have e2:v0r 1 1=true:=rfl;have e3:v0d 1 0=false:=rfl;simp only[Jv,e2,e3,cond_true,cond_false,rowOf,hq,e1,v0R];rw[v1A (by omega)]
 have e3:v0d 1 0=false:=rfl;rcases hs with⟨rfl,rfl,rfl,rfl⟩| ⟨b,m,c,rest,rfl,hb,hm,aj,rfl,hl,ik,hr⟩
 · refine⟨_,_,[h.n],?_,.inr ⟨h.n,z+3,1,[],rfl,by rw[v0k];exact Hp.get_alloc_self _ _,.inr rfl,by rw[Hp.n_alloc];omega,rfl,by simp[hx],v0b _,by simp⟩,(Ext.alloc h _).b _,by simp⟩;simp only[Zh,x.und,KU,x.size,x.bytes,cw,e3,cond_false];exact x.growX h 1 [] xs (by omega)
 have aS:(cs++xs).length=(n+1)*(z+1):=by rw[v0j,hl,hx,v1a];omega
 by_cases jv:n+1<=c
 · have e1:v0r (n+1) c=true:=(Qy _ _).2 jv;have hm2:(n+1)*(z+1)<=c*(z+1):=v05 _ jv;rw[v1y]at hr;rw[v1a]at hm2
   have av:Zp h ((⟨b,0,none⟩:Addr).add (n*(z+1))) xs=some (h.put b (.cells ((cs++xs)++rest.drop (z+1)) e m)):=by
    have e4:v0d m 1=false:=(QC _ _).2 (by omega);have e5:v0r (0+n*(z+1)+xs.length) (cs++rest).length=true:=(Qy _ _).2 (by rw[v0j];omega);rw[addr_add];simp only[Zp,hb,e4,e5,v1q,v1i,cond_true,v0i.injEq]
    congr 2
    rw[v0f,v2n (by omega),v1A (by omega),List.drop_append]
    congr 1
    rw[List.drop_eq_nil_of_le (by omega),v1b]
    congr 1
    omega
   refine⟨.slice (some ⟨b,0,none⟩) (n+1) c,_,[b],?_,.inr ⟨b,m,c,rest.drop (z+1),rfl,Hp.get_put_self _ _ _,hm,by rw[Hp.n_put];exact aj,rfl,aS,jv,?_⟩,ExtB.put h b _,by simp⟩
   · simp only[Zh,x.und,KU,x.size,x.bytes,cw,e3,cond_false,e1,cond_true,av,hc]
   rw[List.length_drop,hr,v1y,v1a];omega
 have jD:c=n:=by omega
 subst jD;have dI:rest=[]:=v1x (by rw[hr];simp);subst dI;rw[v0k]at hb;obtain⟨v',h',q1,q2,q3⟩:=Qgs x (.inr ⟨b,m,rfl,hb,hm,aj,rfl,hl⟩) hq hx hc hn;exact⟨v',h',[h.n],q1,q2.toC,q3,by simp⟩
end
section
variable {E:Env} {fn:FuncId} {nt:Nat} {l:Kn} {h:Hp} {dr:Bool} {ops:Array Oper} {fin rest:List (Oper×List Oper)} {R:Kn->Hp->Prop} {lt:List Oper}
variable {d:Nat} {ty t aM:TypeId} {pos:String} {af:Array Edge} {gg:Option (Nat×Bool)} {x y:Operand} {v:Value}
theorem QcT {b o n:Nat} {cs:List Value} {vs:Array Value} {e:TypeId} {m:Nat} (g:Gd ops l gg) (hx:evl l x=some (.pointer (some ⟨b,o,none⟩))) (hy:evl l y=some (.agg vs)) (hc:vs.toList.all cellV=true) (ht:E.size t=some n) (hn:vs.size=n)
 (hg:h.get b=some (.cells cs e m)) (hm:m≠1) (hv:o+n<=cs.length) (ha: ∀q,q∈lt->Again E ops l (h.put b (.cells (cs.take o++vs.toList++cs.drop (o+n)) e m)) q)
 (q:WL E fn nt dr ops fin rest l (h.put b (.cells (cs.take o++vs.toList++cs.drop (o+n)) e m)) R):
 WL E fn nt dr ops fin ((⟨none,.store t x y,ty,pos,af,gg⟩,lt)::rest) l h R:=by
 refine Q0D g rfl (fun _ ag=>?_) wn0 ha q;have hl:vs.toList.length=n:=by simpa using hn
 have e1:v0r (o+n) cs.length=true:=(Qy _ _).2 hv;have e2:v0d m 1=false:=(QC _ _).2 hm;have e3:v0d vs.size n=true:=(QF _ _).2 hn;simp only[Z3,ag.ev hx,ag.ev hy,Q1V,ht,Value.cells,e3,hc,v1i,cond_true,Zp,hg,hl,e1,e2,v1q]
theorem Qca {k:IntKind} {a b:Int} {op:BinOp} (g:Gd ops l gg) (hx:evl l x=some (.int k a)) (hy:evl l y=some (.int k b)) (hs:J0 op=false) (hv:ZS op k a b=some v) (hl:lk l d=some v) (hw:sameV 20 v v=true):
 Again E ops l h ⟨some d,.binOp op t x y aM,ty,pos,af,gg⟩:=
 .inr ⟨g,v,d,rfl,hl,hw,fun _ ag=>by simp only[QQ,ag.ev hx,ag.ev hy,Q3v,hs,cond_false,Z8,cond_true,hv]⟩
theorem ag_sub {a b:Int} (g:Gd ops l gg) (hx:evl l x=some (.int .i64 a)) (hy:evl l y=some (.int .i64 b)) (h1: -9223372036854775808<=a -b) (h2:a -b <9223372036854775808) (hl:lk l d=some (.int .i64 (a -b))):
 Again E ops l h ⟨some d,.binOp .sub t x y aM,ty,pos,af,gg⟩:=
 Qca g hx hy rfl (by simp only[ZS,QN,ZJ];rw[wrap64 h1 h2]) hl (by simp[sameV,Z8])
theorem Q3c {bb o n c z by' e:Nat} {k:IntKind} {vs:List Value} {m:Nat} {j:Int} (el:ElN E t e z by') (g:Gd ops l gg) (hd:v0a d nt=true) (hx:evl l x=some (.slice (some ⟨bb,o,none⟩) n c)) (hy:evl l y=some (.int k j))
 (hg:h.get bb=some (.cells vs e m)) (hm:m=0\/m=z+3) (h1:0<=j) (h2:j<=c)
 (q:WL E fn nt dr ops fin rest ((d,.slice (some ⟨bb,o,none⟩) j.toNat c)::l) h R):WL E fn nt dr ops fin ((⟨some d,.slice t x none (some y) none,ty,pos,af,gg⟩,lt)::rest) l h R:=
 QE g rfl (fun _ ag=>by
  have hb:Yk 0 j.toNat c=true:=ZU.2 ⟨Nat.zero_le _,by omega⟩;rcases hm with rfl|rfl
  · simp only[QQ,ag.ev hx,Option.map_none,v1s,ag.ev hy,YF,el.und,el.size,ZI,Ym h1,ZQ,hg,hb,cond_true,v1G,addr_add,Nat.add_zero,Nat.sub_zero,Bool.cond_self]
  simp only[QQ,ag.ev hx,Option.map_none,v1s,ag.ev hy,YF,el.und,el.size,ZI,Ym h1,ZQ,hg,hb,v0N,Bool.and_self,cond_true,v1G,addr_add,Nat.add_zero,Nat.sub_zero]) (wn hd) q
end
def Qck (z:Nat) (h:Hp) (s:Value) (cs:List Value) (n:Nat):Prop:=KU s=some n/\Jv h (z+1) n s=some cs/\cs.length=n*(z+1)
section
variable {e z:Nat} {h h':Hp} {s w:Value} {cs xs:List Value} {n m:Nat} {bs ds:List Nat}
theorem Q7p {b o c:Nat} {all:List Value} {m':Nat} (hg:h.get b=some (.cells all e m')) (hl:o+n*(z+1)<=all.length):Qck z h (.slice (some ⟨b,o,none⟩) n c) ((all.drop o).take (n*(z+1))) n:=by
 refine⟨rfl,?_,by simp;omega⟩;have e1:v0r n n=true:=(Qy _ _).2 (v0b _);simp only[Jv,e1,cond_true];cases hn:v0d n 0 with
 | true=>
   have:=(QF _ _).1 hn;subst this;simp
 | false=>
   have e2:v0r (o+n*(z+1)) all.length=true:=(Qy _ _).2 hl;simp only[cond_false,rowOf,hg,e2,cond_true]
theorem SlC.src (x:SlC e z h s cs n bs):Qck z h s cs n:=by
 rcases x with⟨rfl,rfl,rfl,rfl⟩| ⟨b,m,c,rest,rfl,hb,_,_,_,hl,_,_⟩
 · exact⟨rfl,rfl,by simp⟩
 have:=Q7p (z:=z) (n:=n) (c:=c) (o:=0) hb (by rw[v0j];omega);rw[v0R,v2n (by omega),v1A (by omega)]at this;exact this
end
section
variable {E:Env} {fn:FuncId} {nt:Nat} {l:Kn} {h:Hp} {dr:Bool} {ops:Array Oper} {fin rest:List (Oper×List Oper)} {R:Kn->Hp->Prop} {lt:List Oper}
variable {d:Nat} {ty t:TypeId} {pos:String} {af:Array Edge} {gg:Option (Nat×Bool)} {x y:Operand} {v sv:Value}
theorem Q0A {b o n:Nat} {cs:List Value} {e:TypeId} {m:Nat} (g:Gd ops l gg) (hx:evl l x=some (.pointer (some ⟨b,o,none⟩))) (hc:isA E t=true) (hn:E.size t=some n)
 (hg:h.get b=some (.cells cs e m)) (hv:o+n<=cs.length) (hl:lk l d=some (.agg ((cs.drop o).take n).toArray)) (hs:sameV 20 (.agg ((cs.drop o).take n).toArray) (.agg ((cs.drop o).take n).toArray)=true):
 Again E ops l h ⟨some d,.load t x,ty,pos,af,gg⟩:=
 .inr ⟨g,_,d,rfl,hl,hs,fun _ ag=>by simp only[QQ,ag.ev hx,Q2k hc hn hg hv]⟩
theorem QcV {lo:Int} {k:IntKind} (g:Gd ops l gg) (hd:v0a d nt=true) (hx:evl l x=some sv) (hy:evl l y=some (.int k lo)) (hv:YF E h t sv (some (.int k lo)) none none=some v)
 (q:WL E fn nt dr ops fin rest ((d,v)::l) h R):WL E fn nt dr ops fin ((⟨some d,.slice t x (some y) none none,ty,pos,af,gg⟩,lt)::rest) l h R:=
 QE g rfl (fun _ ag=>by simp only[QQ,ag.ev hx,Option.map_none,v1s,ag.ev hy,hv]) (wn hd) q
theorem Qc9 {lo:Int} {k:IntKind} (g:Gd ops l gg) (hx:evl l x=some sv) (hy:evl l y=some (.int k lo)) (hv:YF E h t sv (some (.int k lo)) none none=some v) (hl:lk l d=some v) (hs:sameV 20 v v=true):
 Again E ops l h ⟨some d,.slice t x (some y) none none,ty,pos,af,gg⟩:=
 .inr ⟨g,v,d,rfl,hl,hs,fun _ ag=>by simp only[QQ,ag.ev hx,Option.map_none,v1s,ag.ev hy,hv]⟩
end
noncomputable section
end
noncomputable section
end
section
variable {E:Env} {fn:FuncId} {nt:Nat} {tm:Tr Value} {df:List Deferred} {kd:CallKind} {ro:Option Nat} {cs:List Fr} {k:List It} {ops:Array Oper}
end
section
variable {E:Env} {fn:FuncId} {nt:Nat} {l:Kn} {h:Hp} {dr:Bool} {ops:Array Oper} {fin rest:List (Oper×List Oper)} {R:Kn->Hp->Prop} {lt:List Oper}
variable {d:Nat} {ty aM:TypeId} {pos:String} {af:Array Edge} {gg:Option (Nat×Bool)} {x y:Operand} {t:TypeId} {s u:ByteArray}
end
structure Res where
 own:List Nat
 P:Hp->Prop
 st: ∀h h':Hp,(∀i,i∈own->i <h.n/\h'.get i=h.get i)->h.n<=h'.n->P h->P h'
def owns (L:List Res):List Nat:=L.flatMap Res.own
theorem Z4 (r:Res) (L:List Res):owns (r::L)=r.own++owns L:=rfl
theorem QR (A B:List Res):owns (A++B)=owns A++owns B:=by simp[owns]
theorem QO {L:List Res} {r:Res} {i:Nat} (h:r∈L) (hi:i∈r.own):i∈owns L:=List.mem_flatMap.2 ⟨r,h,hi⟩
def cR (b:Nat) (o:AObj):Res:=⟨[b],fun h=>h.get b=some o,fun h h' e _ p=>by rw[(e b (by simp)).2];exact p⟩
def slR (e z:Nat) (s:Value) (cs:List Value) (n:Nat) (bs:List Nat):Res:=⟨bs,fun h=>SlC e z h s cs n bs,fun h h' k hn p=>by
 rcases p with p| ⟨b,m,c,rest,h1,h2,h3,h4,h5,h6⟩
 · exact .inl p
 have:=k b (by rw[h5];simp)
 exact .inr ⟨b,m,c,rest,h1,by rw[this.2];exact h2,h3,v0u this.1 hn,h5,h6⟩⟩
structure SH (h0:Hp) (ds:List Nat) (L:List Res) (h:Hp):Prop where
 ext:ExtB ds h0 h
 hold: ∀r,r∈L->r.P h
 lt: ∀i,i∈owns L->i <h.n
 new: ∀i,i∈owns L->i∈ds\/h0.n<=i
 nd:(owns L).Nodup
section
variable {h0 h h':Hp} {ds:List Nat} {L A B:List Res} {r r':Res} {b i:Nat} {o:AObj}
theorem SH.start (h:Hp):SH h [] [] h:=⟨.refl _ _,by simp,by simp[owns],by simp[owns],by simp[owns]⟩
theorem SH.begin {L:List Res} (hp: ∀r,r∈L->r.P h) (hl: ∀i,i∈owns L->i <h.n) (nd:(owns L).Nodup):SH h (owns L) L h:=⟨.refl _ _,hp,hl,fun _ hi=>.inl hi,nd⟩
theorem SH.one (hp:r.P h) (hl: ∀i,i∈r.own->i <h.n) (nd:r.own.Nodup):SH h r.own [r] h:=by
 have e:owns [r]=r.own:=by simp[owns]
 have:=SH.begin (L:=[r]) (h:=h) (by simpa using hp) (by rw[e];exact hl) (by rw[e];exact nd);rwa[e]at this
theorem SH.cel (S:SH h0 ds L h) (i:Nat) (e:L[i]?=some (cR b o)):h.get b=some o:=S.hold _ (v0m e)
theorem SH.sl (S:SH h0 ds L h) (i:Nat) {et z n:Nat} {s:Value} {cs:List Value} {bs:List Nat} (e:L[i]?=some (slR et z s cs n bs)):SlC et z h s cs n bs:=S.hold _ (v0m e)
theorem SH.res (S:SH h0 ds L h) (i:Nat) (e:L[i]?=some r):r.P h:=S.hold _ (v0m e)
theorem SH.lt1 (S:SH h0 ds L h) (i:Nat) (e:L[i]?=some (cR b o)):b <h.n:=S.lt _ (QO (v0m e) (by simp[cR]))
theorem SH.old (S:SH h0 ds L h) (hg:h0.get b=some o) (hb:b <h0.n) (hd:b∉ds):h.get b=some o:=(S.ext.get b hb hd).trans hg
theorem SH.e0 (S:SH h0 [] L h):Ext h0 h:=S.ext.nil
theorem SH.old0 (S:SH h0 [] L h) (hg:h0.get b=some o) (hb:b <h0.n):h.get b=some o:=S.old hg hb (by simp)
theorem Q3T {L:List Res} {i:Nat} {r:Res} (e:L[i]?=some r) (r':Res): ∃A B,L=A++r::B/\L.set i r'=A++r'::B:=by
 obtain⟨aj,rfl⟩:=v0z.1 e;refine⟨L.take i,L.drop (i+1),?_,?_⟩
 · rw[<-v1K aj,v00]
 rw[v2C,if_pos aj]
theorem SH.upd (S:SH h0 ds L h) (i:Nat) (e:L[i]?=some r) (g:ExtB r.own h h') (hp:r'.P h') (hl: ∀j,j∈r'.own->j <h'.n) (hn: ∀j,j∈r'.own->j∈r.own\/h.n<=j) (nd:r'.own.Nodup):SH h0 ds (L.set i r') h':=by
 obtain⟨A,B,rfl,e2⟩:=Q3T e r';rw[e2];have lR:=S.nd;rw[QR,Z4]at lR;simp only[v0O,v0A]at lR;obtain⟨na,⟨nr,nb,rb⟩,ab⟩:=lR;have ft:=S.lt;have db:=S.new;simp only[QR,Z4,v0A]at ft db;refine⟨S.ext.join g fun j hj=>db j (.inr (.inl hj)),fun q hq=>?_,fun j hj=>?_,fun j hj=>?_,?_⟩
 · rcases v0A.1 hq with hq|hq
   · refine q.st h h' (fun j hj=>?_) g.n (S.hold q (by simp[hq]));have hjA:=QO hq hj;exact⟨ft j (.inl hjA),g.get j (ft j (.inl hjA)) fun hr=>ab j hjA j (.inl hr) rfl⟩
   rcases v0w.1 hq with rfl|hq
   · exact hp
   refine q.st h h' (fun j hj=>?_) g.n (S.hold q (by simp[hq]));have hjB:=QO hq hj;exact⟨ft j (.inr (.inr hjB)),g.get j (ft j (.inr (.inr hjB))) fun hr=>rb j hr j hjB rfl⟩
 · simp only[QR,Z4,v0A]at hj;rcases hj with hj|hj|hj
   · exact v0u (ft j (.inl hj)) g.n
   · exact hl j hj
   exact v0u (ft j (.inr (.inr hj))) g.n
 · simp only[QR,Z4,v0A]at hj;rcases hj with hj|hj|hj
   · exact db j (.inl hj)
   · rcases hn j hj with h1|h1
     · exact db j (.inr (.inl h1))
     exact .inr (v0p S.ext.n h1)
   exact db j (.inr (.inr hj))
 rw[QR,Z4];simp only[v0O,v0A];refine⟨na,⟨nd,nb,fun j hj k hk ejk=>?_⟩,fun j hj k hk ejk=>?_⟩
 · subst ejk;rcases hn j hj with h1|h1
   · exact rb j h1 j hk rfl
   have:=ft j (.inr (.inr hk));omega
 subst ejk;rcases hk with hk|hk
 · rcases hn j hk with h1|h1
   · exact ab j hj j (.inl h1) rfl
   have:=ft j (.inl hj);omega
 exact ab j hj j (.inr hk) rfl
theorem SH.push (S:SH h0 ds L h) (g:Ext h h') (hp:r.P h') (hl: ∀j,j∈r.own->j <h'.n) (hn: ∀j,j∈r.own->h.n<=j) (nd:r.own.Nodup):SH h0 ds (r::L) h':=by
 refine⟨S.ext.join (g.b []) (by simp),fun q hq=>?_,fun j hj=>?_,fun j hj=>?_,?_⟩
 · rcases v0w.1 hq with rfl|hq
   · exact hp
   exact q.st h h' (fun j hj=>⟨S.lt j (QO hq hj),g.get j (S.lt j (QO hq hj))⟩) g.n (S.hold q hq)
 · rw[Z4]at hj;rcases v0A.1 hj with hj|hj
   · exact hl j hj
   exact v0u (S.lt j hj) g.n
 · rw[Z4]at hj;rcases v0A.1 hj with hj|hj
   · exact .inr (v0p S.ext.n (hn j hj))
   exact S.new j hj
 rw[Z4,v0O];exact⟨nd,S.nd,fun j hj k hk e=>by subst e;have:=S.lt j hk;have:=hn j hj;omega⟩
theorem SH.grow (S:SH h0 ds L h) (g:Ext h h'):SH h0 ds L h':=
 ⟨S.ext.join (g.b []) (by simp),fun q hq=>q.st h h' (fun j hj=>⟨S.lt j (QO hq hj),g.get j (S.lt j (QO hq hj))⟩) g.n (S.hold q hq),fun j hj=>v0u (S.lt j hj) g.n,S.new,S.nd⟩
theorem SH.alloc (S:SH h0 ds L h) (o:AObj):SH h0 ds (cR h.n o::L) (h.alloc o):=
 S.push (Ext.alloc h o) (Hp.get_alloc_self _ _) (by simp[cR,Hp.n_alloc]) (by simp[cR]) (by simp[cR])
theorem SH.put (S:SH h0 ds L h) (i:Nat) (e:L[i]?=some (cR b o)) (o':AObj):SH h0 ds (L.set i (cR b o')) (h.put b o'):=
 S.upd i e (ExtB.put h b o') (Hp.get_put_self _ _ _) (by have:=S.lt1 i e;simp[cR,Hp.n_put];omega) (by simp[cR]) (by simp[cR])
theorem SH.nilSl (S:SH h0 ds L h) (e z:Nat):SH h0 ds (slR e z (.slice none 0 0) [] 0 []::L) h:=S.push (Ext.refl _) (.inl ⟨rfl,rfl,rfl,rfl⟩) (by simp[slR]) (by simp[slR]) (by simp[slR])
theorem SH.toSl {b e z n m:Nat} {cs:List Value} (S:SH h0 ds L h) (i:Nat) (hi:L[i]?=some (cR b (.cells cs e m))) (hm:m=0\/m=z+3) (hn:cs.length=n*(z+1)):SH h0 ds (L.set i (slR e z (.slice (some ⟨b,0,none⟩) n n) cs n [b])) h:=
 S.upd i hi (ExtB.refl _ _) (.inr ⟨b,m,n,[],rfl,by rw[v0k];exact S.cel i hi,hm,S.lt1 i hi,rfl,hn,v0b _,by simp⟩) (by have:=S.lt1 i hi;simp[slR];exact this) (by simp[slR,cR]) (by simp[slR])
theorem SH.sub (S:SH h0 ds L h) (p:(A++B).Perm L):SH h0 ds A h:=by
 have pm: ∀r,r∈A->r∈L:=fun r hr=>p.subset (by simp[hr]);have po:(owns (A++B)).Perm (owns L):=p.flatMap_right _;refine⟨S.ext,fun r hr=>S.hold r (pm r hr),fun i hi=>S.lt i (po.subset (by rw[QR];simp[hi])),fun i hi=>S.new i (po.subset (by rw[QR];simp[hi])),?_⟩;have:=po.nodup_iff.2 S.nd;rw[QR,v0O]at this;exact this.1
theorem SH.drop (S:SH h0 ds (r::L) h):SH h0 ds L h:=S.sub (B:=[r]) (by
 simp)
theorem SH.swap {q:Res} (S:SH h0 ds (r::q::L) h):SH h0 ds (q::r::L) h:=by
 have:=S.sub (A:=q::r::L) (B:=[]) (by rw[v0k];exact List.Perm.swap r q L);exact this
end
def RowV (h:Hp) (v:Value) (xs:List Value):Prop:=(xs=[]/\ ∃a c,v=.slice a 0 c)\/ ∃b o c cs e m,v=.slice (some ⟨b,o,none⟩) xs.length c/\h.get b=some (.cells cs e m)/\b <h.n/\ ∀i (hi:i <xs.length),cs[o+i]?=some xs[i]
section
variable {h h':Hp} {v:Value} {xs:List Value}
theorem RowV.ext (x:RowV h v xs) (g:Ext h h'):RowV h' v xs:=by
 rcases x with x| ⟨b,o,c,cs,e,m,h1,h2,h3,h4⟩
 · exact .inl x
 exact .inr ⟨b,o,c,cs,e,m,h1,(g.get b h3).trans h2,v0u h3 g.n,h4⟩
theorem RowV.val (x:RowV h v xs): ∃a c,v=.slice a xs.length c:=by
 rcases x with⟨rfl,a,c,h1⟩| ⟨b,o,c,cs,e,m,h1,_⟩
 · exact⟨a,c,h1⟩
 exact⟨_,c,h1⟩
theorem RowV.at (x:RowV h v xs) (hn:0 <xs.length): ∃b o c cs e m,v=.slice (some ⟨b,o,none⟩) xs.length c/\h.get b=some (.cells cs e m)/\b <h.n/\ ∀i (hi:i <xs.length),cs[o+i]?=some xs[i]:=by
 rcases x with⟨rfl,_⟩|x
 · simp at hn
 exact x
theorem SlC.row {e:Nat} {n:Nat} {bs:List Nat} (x:SlC e 0 h v xs n bs):RowV h v xs:=by
 rcases x with⟨h1,h2,h3,_⟩| ⟨b,m,c,rest,h1,h2,_,h4,_,h5,_⟩
 · exact .inl ⟨h2,none,0,h1⟩
 have hl:xs.length=n:=by omega
 refine .inr ⟨b,0,c,_,e,m,by rw[hl];exact h1,h2,h4,fun i hi=>?_⟩;rw[v0f,List.getElem?_append_left hi,v0c hi]
theorem RowV.valM {α:Type} {f:α->Value} {ys:List α} (x:RowV h v (ys.map f)): ∃a c,v=.slice a ys.length c:=by
 have:=x.val;rwa[v0s]at this
theorem RowV.atM {α:Type} {f:α->Value} {ys:List α} (x:RowV h v (ys.map f)) (hn:0 <ys.length): ∃b o c cs e m,v=.slice (some ⟨b,o,none⟩) ys.length c/\h.get b=some (.cells cs e m)/\b <h.n/\ ∀i (hi:i <ys.length),cs[o+i]?=some (f ys[i]):=by
 obtain⟨b,o,c,cs,e,m,h1,h2,h3,h4⟩:=x.at (by rw[v0s];exact hn);refine⟨b,o,c,cs,e,m,by rw[v0s]at h1;exact h1,h2,h3,fun i hi=>?_⟩;rw[h4 i (by rw[v0s];exact hi),List.getElem_map]
theorem RowV.nil:RowV h (.slice none 0 0) []:=.inl ⟨rfl,none,0,rfl⟩
end
section
variable {E:Env} {fn:FuncId} {nt:Nat} {l:Kn} {h h0:Hp} {dr:Bool} {ops:Array Oper} {fin rest:List (Oper×List Oper)} {R:Kn->Hp->Prop} {lt:List Oper} {ds:List Nat} {L:List Res}
variable {d:Nat} {ty t:TypeId} {pos:String} {af:Array Edge} {gg:Option (Nat×Bool)} {x y:Operand} {v:Value}
theorem Qq {e:TypeId} {zv:Value} (S:SH h0 ds L h) (g:Gd ops l gg) (hd:v0a d nt=true) (hz:E.zero e=some zv)
 (q: ∀b h',h0.n<=b->SH h0 ds (cR b (.cells zv.cells.toList e 0)::L) h'->WL E fn nt dr ops fin rest ((d,.pointer (some ⟨b,0,none⟩))::l) h' R):
 WL E fn nt dr ops fin ((⟨some d,.alloc e,ty,pos,af,gg⟩,lt)::rest) l h R:=Qan g hd hz (q _ _ S.ext.n (S.alloc _))
theorem QV {e:TypeId} (S:SH h0 ds L h) (g:Gd ops l gg) (hd:v0a d nt=true) (hx:evl l x=some v)
 (q: ∀b h',h0.n<=b->SH h0 ds (cR b (.cells v.cells.toList e 0)::L) h'->WL E fn nt dr ops fin rest ((d,.pointer (some ⟨b,0,none⟩))::l) h' R):
 WL E fn nt dr ops fin ((⟨some d,.box e x,ty,pos,af,gg⟩,lt)::rest) l h R:=Qam g hd hx (q _ _ S.ext.n (S.alloc _))
theorem KP (S:SH h0 ds L h) (g:Gd ops l gg) (hd:v0a d nt=true)
 (q: ∀b h',h0.n<=b->SH h0 ds (cR b (.map (([]:Ms).map ent) 0)::L) h'->WL E fn nt dr ops fin rest ((d,.map (some b))::l) h' R):
 WL E fn nt dr ops fin ((⟨some d,.makeMap t none,ty,pos,af,gg⟩,lt)::rest) l h R:=Q5m g hd (q _ _ S.ext.n (S.alloc _))
theorem Yb {k k':IntKind} {n c:Int} {e z by':Nat} {zv:Value} (S:SH h0 ds L h) (g:Gd ops l gg) (hd:v0a d nt=true) (hx:evl l x=some (.int k n)) (hy:evl l y=some (.int k' c)) (hu:E.und t=some (.slice e)) (hs:E.size e=some (z+1))
 (hz:E.zero e=some zv) (hb:E.bytes e=some by') (lV:zv.cells.size=z+1) (h0':0<=n) (h1:n<=c) (h2:c<=1099511627776) (h3:by'*c.toNat<=140737488355328)
 (q: ∀b h',h0.n<=b->SH h0 ds (cR b (.cells (Qi zv.cells.toList c.toNat) e 0)::L) h'->WL E fn nt dr ops fin rest ((d,.slice (some ⟨b,0,none⟩) n.toNat c.toNat)::l) h' R):
 WL E fn nt dr ops fin ((⟨some d,.makeSlice t x y,ty,pos,af,gg⟩,lt)::rest) l h R:=Q6G g hd hx hy hu hs hz hb lV h0' h1 h2 h3 (q _ _ S.ext.n (S.alloc _))
theorem Qd {ps:Array (Nat×Operand)} {n:Nat} {e z:Nat} {zv:Value} {cs:Array Value} (pv:List (Nat×Value)) (S:SH h0 ds L h) (g:Gd ops l gg) (hd:v0a d nt=true) (hu:E.und t=some (.slice e)) (hs:E.size e=some (z+1))
 (hz:E.zero e=some zv) (hn:(v0r (n*(z+1)) (2^24)&&v0d zv.cells.size (z+1))=true)
 (hv:ps.toList.map (fun p=>(p.1,evl l p.2))=pv.map (fun p=>(p.1,some p.2))) (hf:Instr.fill (fun i=>some (i*(z+1),z+1)) (Qi zv.cells.toList n).toArray pv=some cs)
 (q: ∀b h',h0.n<=b->SH h0 ds (cR b (.cells cs.toList e 0)::L) h'->WL E fn nt dr ops fin rest ((d,.slice (some ⟨b,0,none⟩) n n)::l) h' R):
 WL E fn nt dr ops fin ((⟨some d,.buildSlice t n ps,ty,pos,af,gg⟩,lt)::rest) l h R:=Q5n pv g hd hu hs hz hn hv hf (q _ _ S.ext.n (S.alloc _))
theorem Qj {b o:Nat} {cs:List Value} {e:TypeId} {m:Nat} (i:Nat) (S:SH h0 ds L h) (g:Gd ops l gg) (hx:evl l x=some (.pointer (some ⟨b,o,none⟩))) (hy:evl l y=some v) (hc:cellV v=true) (ht:E.size t=some 1)
 (hg:L[i]?=some (cR b (.cells cs e m))) (hm:m≠1) (hv:o <cs.length) (ha: ∀h',SH h0 ds (L.set i (cR b (.cells (cs.set o v) e m))) h'-> ∀q,q∈lt->Again E ops l h' q)
 (q: ∀h',SH h0 ds (L.set i (cR b (.cells (cs.set o v) e m))) h'->WL E fn nt dr ops fin rest l h' R):
 WL E fn nt dr ops fin ((⟨none,.store t x y,ty,pos,af,gg⟩,lt)::rest) l h R:=Q6F g hx hy hc ht (S.cel i hg) hm hv (ha _ (S.put i hg _)) (q _ (S.put i hg _))
theorem Qg {b n:Nat} {cs:List Value} {vs:Array Value} {e:TypeId} {m:Nat} (i:Nat) (S:SH h0 ds L h) (g:Gd ops l gg) (hx:evl l x=some (.pointer (some ⟨b,0,none⟩))) (hy:evl l y=some (.agg vs)) (hc:vs.toList.all cellV=true) (ht:E.size t=some n) (hn:vs.size=n)
 (hg:L[i]?=some (cR b (.cells cs e m))) (hm:m≠1) (hv:cs.length=n) (ha: ∀h',SH h0 ds (L.set i (cR b (.cells vs.toList e m))) h'-> ∀q,q∈lt->Again E ops l h' q)
 (q: ∀h',SH h0 ds (L.set i (cR b (.cells vs.toList e m))) h'->WL E fn nt dr ops fin rest l h' R):
 WL E fn nt dr ops fin ((⟨none,.store t x y,ty,pos,af,gg⟩,lt)::rest) l h R:=QcU g hx hy hc ht hn (S.cel i hg) hm hv (ha _ (S.put i hg _)) (q _ (S.put i hg _))
theorem Q6x {kt et:TypeId} {M:Ms} {cl r:Nat} {k:Int} {z:Operand} (i:Nat) (S:SH h0 ds L h) (m:MapT E t kt et) (g:Gd ops l gg) (hx:evl l x=some (.map (some r))) (hy:evl l y=some (.int .i64 k)) (hz:evl l z=some v)
 (hg:L[i]?=some (cR r (.map (M.map ent) cl))) (ha: ∀h',SH h0 ds (L.set i (cR r (.map ((Q4K M k v cl).1.map ent) (Q4K M k v cl).2))) h'-> ∀q,q∈lt->Again E ops l h' q)
 (q: ∀h',SH h0 ds (L.set i (cR r (.map ((Q4K M k v cl).1.map ent) (Q4K M k v cl).2))) h'->WL E fn nt dr ops fin rest l h' R):
 WL E fn nt dr ops fin ((⟨none,.mapUpdate t x y z,ty,pos,af,gg⟩,lt)::rest) l h R:=Q2c m g hx hy hz (S.cel i hg) (ha _ (S.put i hg _)) (q _ (S.put i hg _))
theorem SlC.nodup {e z:Nat} {h:Hp} {s:Value} {cs:List Value} {n:Nat} {bs:List Nat} (x:SlC e z h s cs n bs):bs.Nodup:=by
 rcases x with⟨_,_,_,rfl⟩| ⟨b,m,c,rest,h1,h2,h3,h4,rfl,_⟩<;>simp
theorem SlC.cellV {e z:Nat} {h:Hp} {s:Value} {cs:List Value} {n:Nat} {bs:List Nat} (x:SlC e z h s cs n bs):Go.X.cellV s=true:=by
 obtain⟨a,c,rfl⟩:=x.val;rfl
theorem QD {e z by' qb m' n:Nat} {s:Value} {cs xs:List Value} {bs:List Nat} (i j:Nat) (S:SH h0 ds L h) (el:ElN E t e z by') (g:Gd ops l gg) (hd:v0a d nt=true) (hx:evl l x=some s) (hy:evl l y=some (.slice (some ⟨qb,0,none⟩) 1 1))
 (hi:L[i]?=some (slR e z s cs n bs)) (hj:L[j]?=some (cR qb (.cells xs e m'))) (hl:xs.length=z+1) (hc:xs.all cellV=true) (hn:(n+1)*(by'+1)<=1099511627776)
 (ha: ∀s' aa h',SH h0 ds (L.set i (slR e z s' (cs++xs) (n+1) aa)) h'-> ∀q,q∈lt->Again E ops ((d,s')::l) h' q)
 (q: ∀s' aa h',SH h0 ds (L.set i (slR e z s' (cs++xs) (n+1) aa)) h'->WL E fn nt dr ops fin rest ((d,s')::l) h' R):
 WL E fn nt dr ops fin ((⟨some d,.call ⟨.builtin .append,#[x,y],#[t,t]⟩,ty,pos,af,gg⟩,lt)::rest) l h R:=by
 obtain⟨v',h',aa,q1,q2,q3,q4⟩:=Qgt el (S.sl i hi) (S.cel j hj) hl hc hn;have S':=S.upd (r':=slR e z v' (cs++xs) (n+1) aa) i hi q3 q2 q2.lt q4 q2.nodup;exact Q1F g hd hx hy q1 (ha _ _ _ S') (q _ _ _ S')
section
variable {k:IntKind} {a b:Int} {t aM:TypeId}
end
theorem ZH {a b:Code} {Q:Out->Kn->Hp->Prop} (lc:Kn) (P:Kn->Hp->Prop) (q:W E fn nt a l h (Cut (fun l' h'=> ∃lv,l'=lv++lc/\P lv h') Q)) (q2: ∀lv h,P lv h->W E fn nt b (lv++lc) h Q):W E fn nt (.seq a b) l h Q:=
 w_cut _ q (by rintro l' h' ⟨lv,rfl,p⟩;exact q2 lv h' p)
theorem cutS {P:Kn->Hp->Prop} {lc:Kn} {Q:Out->Kn->Hp->Prop} (lv:Kn) (s:Sub (lv++lc) l) (p:P lv h):Cut (fun l' h'=> ∃lv,l'=lv++lc/\P lv h') Q .next l h:=⟨_,s,lv,rfl,p⟩
theorem QeK {b:Code} {Q:Out->Kn->Hp->Prop} (lv lc:Kn) (s:Sub (lv++lc) l) (I:Nat->Kn->Hp->Prop) {n:Nat} (start:I n lv h)
 (round: ∀n lv h,I n lv h->W E fn nt b (lv++lc) h (Rnd (fun n l h=> ∃lv,l=lv++lc/\I n lv h) n Q)):W E fn nt (.loop b) l h Q:=
 Q1N (lv++lc) s (Q9n (fun n l h=> ∃lv,l=lv++lc/\I n lv h) ⟨lv,rfl,start⟩ (by rintro n l h ⟨lv,rfl,hI⟩;exact round n lv h hI))
theorem rndS {I:Nat->Kn->Hp->Prop} {n:Nat} {lc:Kn} {Q:Out->Kn->Hp->Prop} (m:Nat) (hm:m <n) (lv:Kn) (s:Sub (lv++lc) l) (hI:I m lv h):Rnd (fun n l h=> ∃lv,l=lv++lc/\I n lv h) n Q .next l h:=
 ⟨m,hm,_,s,lv,rfl,hI⟩
end
open Go.ChangeShapes Go.WideShapes Go.ChangeAt Go.RowKit
inductive Sz (P:Program) (h:Hp) (B:Nat):TypeId->List Value->Prop
 |struct {t fs cs} (ht:P.underlying t=some (.struct fs)) (hf: ∀(i:Nat) (f:Field),fs[i]?=some f->Sz P h B f.type ((cs.drop f.offset).take (P.cellsOf f.type))):Sz P h B t cs
 |nils {t e} (ht:P.underlying t=some (.slice e)):Sz P h B t [.slice none 0 0]
 |slice {t e} (ht:P.underlying t=some (.slice e)) (a:Option Addr) (n c:Nat) (hw:n*P.bytesOf e<=B)
  (hr: ∀b o xs u m,a=some ⟨b,o,none⟩->h.get b=some (.cells xs u m)-> ∀i,i <n->Sz P h B e ((xs.drop (o+i*P.cellsOf e)).take (P.cellsOf e))):Sz P h B t [.slice a n c]
 |other {t cs} (ht: ∀fs,P.underlying t≠some (.struct fs)) (hs: ∀e,P.underlying t≠some (.slice e)):Sz P h B t cs
theorem JX {H:Type} {P:Program} {e:TypeId}: ∀ {l:List (DataW H)} {d:DataW H},d∈l-> ∀n∈d.weights P e,n∈DataW.weightsAll P e l
 | d0::l,d,hd,n,hn=>by
   simp only[DataW.weightsAll,v0A];rcases v0w.1 hd with rfl|hd
   · exact .inl hn
   exact .inr (JX hd n hn)
section
variable {P:Program} {H:Type} {enc:TypeId×Value->H} {W:World} {B:Nat}
theorem J5: ∀(fuel:Nat) (t:TypeId) (cs:List Value) (x:DataW H×List MemPlace),(∀v,v∈cs->Q6C v<=Q3x W)->(∀n,n∈x.1.weights P t->n<=B)->DataW.trod enc P W 0 (fun _=>true) true fuel t cs=some x->Sz P (Hp.all W) B t (cs.map (JC (Mp.all W)))
 |0,_,_,_,_,_,h=>by simp[DataW.trod]at h
 | fuel+1,t,cs,x,hb,hB,h=>by
   by_cases h1: ∃fs,P.underlying t=some (.struct fs)
   · obtain⟨fs,hd⟩:=h1;obtain⟨xs,n,e,rfl,hl,fx,hf⟩:=DataW.trod_struct hd h;cases e;refine .struct hd fun i f hi=>?_;have jA:=(Array.getElem?_eq_some_iff.1 hi).1;have aj:i <xs.length:=by rw[fx];exact jA
     have h1:=hf i f hi;rw[v0c aj]at h1;rw[<-List.map_drop,<-List.map_take];refine J5 fuel _ _ _ (fun v hv=>hb v (List.mem_of_mem_drop (List.mem_of_mem_take hv))) (fun m hm=>hB m ?_) h1;simp only[DataW.weights,hd];exact DataW.weights_mem_each (j:=i) (t:=f.type) (d:=xs[i].1) (by rw[v0y,Array.getElem?_toList,hi];rfl) (by rw[v0y,v0c aj];rfl) m hm
   by_cases h2: ∃e,P.underlying t=some (.slice e)
   · obtain⟨e,hd⟩:=h2;rcases DataW.trod_slice hd h with⟨rfl,_⟩| ⟨a,len,cap,elems,rest,n,en,rfl,rfl,_,hle,hm,hlen,hel,_,_⟩
     · rw[Kv (.nils 0 0)];exact .nils hd
     cases en;have cy:a.block <Q3x W:=by have:=hb _ (List.mem_singleton_self _);simp only[Q6C]at this;omega
     rw[Kv (Q1d a len cap cy)];have hw:(elems.length+rest.length)*P.bytesOf e<=B:=hB _ (by simp[DataW.weights,hd]);refine .slice hd (some a) len cap (v0p (v05 _ (by omega)) hw) fun b o xs u m ea hg i hi=>?_;cases ea;have h1:=hel i hi;rw[v0c (by omega)]at h1;cases hc:W.cells? 0 ((⟨b,o,none⟩:Addr).add (i*P.cellsOf e)) (P.cellsOf e)with
     |none=>rw[hc]at h1;cases h1
     | some cs'=>
       rw[hc]at h1;obtain⟨_,aS,ke⟩:=World.cells?_some hc
       have hz:=J5 fuel e cs' elems[i] (fun v hv=>by
        obtain⟨j,hj,rfl⟩:=v0J.1 hv
        exact Q4P (a:=((⟨b,o,none⟩:Addr).add (i*P.cellsOf e)).add j) (by rw[ke j (by omega),v0c hj])) (fun m' fF=>hB m' (by
         simp only[DataW.weights,hd,v0w,v0A]
         exact .inr (.inl (JX (v1L (f:=Prod.fst) (List.getElem_mem _)) m' fF)))) h1
       have ex:(xs.drop (o+i*P.cellsOf e)).take (P.cellsOf e)=cs'.map (JC (Mp.all W)):=by
        rw[Hp.all_get]at hg;unfold Jy at hg
        split at hg
        · rename_i c u' fr hx;cases hg;rw[<-List.map_drop,<-List.map_take]
          congr 1
          apply v09;intro j;by_cases hj:j <P.cellsOf e
          · rw[v2l hj,v1l,<-ke j hj,addr_add,addr_add];simp[World.cell?,hx]
          rw[v02 (by rw[v0D];omega),v02 (by omega)]
        all_goals first|cases hg|simp at hg
       rw[ex];exact hz
   exact .other (fun fs e=>h1 ⟨fs,e⟩) (fun e e'=>h2 ⟨e,e'⟩)
end
section
variable {P:Program} {h:Hp} {B:Nat} {t:TypeId} {cs:List Value}
theorem Sz.fld {fs:Array Field} (x:Sz P h B t cs) (hs:P.underlying t=some (.struct fs)) (i o e:Nat) {f:Field} (hi:fs[i]?=some f) (hf:f.type=e/\f.offset=o):Sz P h B e ((cs.drop o).take (P.cellsOf e)):=by
 obtain⟨rfl,rfl⟩:=hf;cases x with
 |struct ht hf=>rw[hs]at ht;cases ht;exact hf i f hi
 |nils ht=>rw[hs]at ht;cases ht
 |slice ht=>rw[hs]at ht;cases ht
 |other ht _=>exact absurd hs (ht _)
theorem Sz.inv {e:TypeId} {a:Option Addr} {n c:Nat} (x:Sz P h B t [.slice a n c]) (hs:P.underlying t=some (.slice e)):n*P.bytesOf e<=B/\
 ∀b o xs u m,a=some ⟨b,o,none⟩->h.get b=some (.cells xs u m)-> ∀i,i <n->Sz P h B e ((xs.drop (o+i*P.cellsOf e)).take (P.cellsOf e)):=by
 cases x with
 |struct ht=>rw[hs]at ht;cases ht
 |nils _=>exact⟨by rw[v1G];exact Nat.zero_le _,fun _ _ _ _ _ e=>by cases e⟩
 |slice ht a n c hw hr=>rw[hs]at ht;cases ht;exact⟨hw,hr⟩
 |other _ ht=>exact absurd hs (ht _)
end
section
variable {K:Type} [DecidableEq K]
abbrev MsK (K:Type):=List (K×Value×Nat)
def YQ (enc:K->Value) (x:K×Value×Nat):MapEntry:= {key:=enc x.1,val:=x.2.1,born:=x.2.2}
def fK (k:K):MsK K->Nat->Option (Nat×Value)
 | [],_=>none
 |(a,v,_)::r,i=>if k=a then some (i,v)else fK k r (i+1)
def Q3l (M:MsK K) (k:K):Option Value:=(fK k M 0).map (·.2)
def J9 (M:MsK K) (k:K) (v:Value) (cl:Nat):MsK K×Nat:=match fK k M 0 with
 |some (i,_)=>(M.modify i fun x=>(k,v,x.2.2),cl)
 |none=>(M++[(k,v,cl)],cl+1)
structure KeyT (E:Env) (t kt et:TypeId) (enc:K->Value):Prop where
 und:E.und t=some (.map kt et)
 eq: ∀h a b,KW E h kt (enc a) (enc b)=some (decide (a=b))
 ok: ∀a,Y6 E kt (enc a)=true
variable {E:Env} {t kt et:TypeId} {enc:K->Value}
theorem KeyT.find (T:KeyT E t kt et enc) (h:Hp) (k:K): ∀(M:MsK K) (i:Nat),JQ E h kt (enc k) (M.map (YQ enc)) i=some (fK k M i)
 | [],_=>rfl
 | (a,v,n)::r,i=>by
   simp only[v0G,JQ,YQ,T.eq,fK];by_cases e:k=a
   · subst e;simp
   simp only[e,decide_false,if_false];exact T.find h k r (i+1)
theorem Q4q {k:K}: ∀ {M:MsK K} {i j:Nat} {v:Value},fK k M i=some (j,v)-> ∃p,j=i+p/\p <M.length/\ ∃n,M[p]?=some (k,v,n)
 | [],_,_,_,h=>by simp[fK]at h
 | (a,u,n)::r,i,j,v,h=>by
   simp only[fK]at h;by_cases e:k=a
   · rw[if_pos e]at h;cases h;exact⟨0,rfl,by simp,n,by simp[e]⟩
   rw[if_neg e]at h;obtain⟨p,h1,h2,m,h3⟩:=Q4q h;exact⟨p+1,by omega,by simp;omega,m,by simpa using h3⟩
theorem Q5X {k k':K} {v:Value}: ∀(M:MsK K) (s p:Nat) (u:Value),fK k M s=some (s+p,u)->
 (fK k' (M.modify p fun x=>(k,v,x.2.2)) s).map (·.2)=if k'=k then some v else(fK k' M s).map (·.2)
 | [],_,_,_,h=>by simp[fK]at h
 | (a,w,n)::r,s,p,u,h=>by
   simp only[fK]at h;by_cases e:k=a
   · rw[if_pos e]at h;have hp:p=0:=by simp at h;omega
     subst hp;simp only[v2x,fK];by_cases e':k'=k
     · subst e';simp
     rw[if_neg e',if_neg e',if_neg (fun x=>e' (x.trans e.symm))]
   rw[if_neg e]at h;cases p with
   | zero=>
     obtain⟨q,h1,_⟩:=Q4q h;omega
   | succ p=>
     simp only[v07,fK];by_cases e':k'=a
     · rw[if_pos e',if_pos e',if_neg (fun x=>e (x.symm.trans e'))]
     rw[if_neg e',if_neg e'];exact Q5X r (s+1) p u (by rw[h];congr 2;omega)
theorem Q5Y {k k':K} {v:Value} {c:Nat}: ∀(M:MsK K) (s:Nat),fK k M s=none->(fK k' (M++[(k,v,c)]) s).map (·.2)=if k'=k then some v else(fK k' M s).map (·.2)
 | [],s,_=>by
   simp only[v1b,fK];by_cases e:k'=k
   · subst e;simp
   rw[if_neg e,if_neg e]
 | (a,w,n)::r,s,h=>by
   simp only[fK]at h;by_cases e:k=a
   · rw[if_pos e]at h;cases h
   rw[if_neg e]at h;simp only[List.cons_append,fK];by_cases e':k'=a
   · rw[if_pos e',if_pos e',if_neg (fun x=>e (x.symm.trans e'))]
   rw[if_neg e',if_neg e'];exact Q5Y r (s+1) h
theorem Q1K (M:MsK K) (k k':K) (v:Value) (cl:Nat):Q3l (J9 M k v cl).1 k'=if k'=k then some v else Q3l M k':=by
 unfold J9 Q3l;cases h:fK k M 0 with
 |none=>exact Q5Y M 0 h
 | some x=>
   obtain⟨i,u⟩:=x;exact Q5X M 0 i u (by rw[h,v0f])
theorem Qdt (k:K):Q3l ([]:MsK K) k=none:=rfl
def OkK (M:MsK K) (cl:Nat):Prop:=(M.map (·.2.2)).Nodup/\ ∀x,x∈M->x.2.2 <cl
theorem OkK.nil {K2:Type} (cl:Nat):OkK ([]:MsK K2) cl:=⟨by simp,by simp⟩
theorem KH {α β:Type} (f:α->β) (g:α->α) (hg: ∀x,f (g x)=f x): ∀(l:List α) (i:Nat),(l.modify i g).map f=l.map f
 | [],_=>by simp
 |a::l,0=>by simp[hg]
 |a::l,i+1=>by simp[KH f g hg l i]
theorem Q2g {α:Type} (g:α->α) {x:α}: ∀ {l:List α} {i:Nat},x∈l.modify i g->x∈l\/ ∃y,y∈l/\x=g y
 | [],_,h=>by simp at h
 | a::l,0,h=>by
   simp only[v2x,v0w]at h;rcases h with rfl|h
   · exact .inr ⟨a,by simp,rfl⟩
   exact .inl (by simp[h])
 | a::l,i+1,h=>by
   simp only[v07,v0w]at h;rcases h with rfl|h
   · exact .inl (by simp)
   rcases Q2g g h with h| ⟨y,h1,h2⟩
   · exact .inl (by simp[h])
   exact .inr ⟨y,by simp[h1],h2⟩
theorem OkK.put {M:MsK K} {cl:Nat} (x:OkK M cl) (k:K) (v:Value):OkK (J9 M k v cl).1 (J9 M k v cl).2:=by
 unfold J9
 split
 · refine⟨by
    show((M.modify _ fun x=>(k,v,x.2.2)).map (fun x:K×Value×Nat=>x.2.2)).Nodup
    rw[KH (f:=fun x:K×Value×Nat=>x.2.2) (g:=fun x=>(k,v,x.2.2)) (hg:=fun _=>rfl)];exact x.1,fun y hy=>?_⟩
   rcases Q2g _ hy with h| ⟨z,h1,rfl⟩
   · exact x.2 y h
   exact x.2 z h1
 refine⟨?_,fun y hy=>?_⟩
 · rw[v0P,v0O];refine⟨x.1,by simp,fun a ha b hb e=>?_⟩;obtain⟨y,hy,rfl⟩:=v0L.1 ha;have:=x.2 y hy;simp at hb;omega
 rcases v0A.1 hy with h|h
 · have:=x.2 y h;omega
 simp at h;subst h;simp
def Yt (M:MsK K) (k:K) (z:Value) (cl:Nat):Value×Nat×MsK K×Nat:=match fK k M 0 with
 |some (i,v)=>(v,(M[i]?.map (·.2.2)).getD 0,M,cl)
 |none=>(z,cl,M++[(k,z,cl)],cl+1)
theorem Q9r (M:MsK K) (k:K) (z:Value) (cl:Nat):(Yt M k z cl).1=(Q3l M k).getD z:=by
 unfold Yt Q3l;cases fK k M 0<;>rfl
theorem Q2J {K2:Type} {enc:K2->Value}: ∀ {M:MsK K2} {p:Nat} {x:K2×Value×Nat},(M.map (·.2.2)).Nodup->M[p]?=some x->(M.map (YQ enc)).findIdx? (fun e=>v0d e.born x.2.2)=some p
 | [],_,_,_,h=>by simp at h
 | y::M,0,x,_,h=>by
   simp only[v0S,v0i.injEq]at h;subst h;simp[v2j,YQ]
 | y::M,p+1,x,nd,h=>by
   simp only[v0G,v0W]at nd;rw[v1r]at h;have an: ¬(y.2.2=x.2.2):=fun e=>nd.1 (e▸v1L (f:=fun x:K2×Value×Nat=>x.2.2) (v0m h));have hb:v0d y.2.2 x.2.2=false:=(QC _ _).2 an;simp only[v0G,v2j,YQ,hb];have:=Q2J (enc:=enc) nd.2 h;simp only[this];rfl
theorem Jc {K2:Type} {enc:K2->Value} (f:K2×Value×Nat->K2×Value×Nat) (g:MapEntry->MapEntry) (hg: ∀x,YQ enc (f x)=g (YQ enc x)): ∀(M:MsK K2) (i:Nat),(M.map (YQ enc)).modify i g=(M.modify i f).map (YQ enc)
 | [],_=>by simp
 |a::l,0=>by simp[hg]
 |a::l,i+1=>by simp[Jc f g hg l i]
theorem modify_last {α:Type} (g:α->α) (x:α): ∀A:List α,(A++[x]).modify A.length g=A++[g x]
 | []=>by simp
 |a::l=>by simp[modify_last g x l]
theorem Q5r {α:Type} (g:α->α) {x:α}: ∀ {l:List α} {i:Nat},l[i]?=some x->g x=x->l.modify i g=l
 | [],_,h,_=>by simp at h
 |a::l,0,h,e=>by simp at h;subst h;simp[e]
 |a::l,i+1,h,e=>by simp at h;simp[Q5r g h e]
section
variable {fn:FuncId} {nt:Nat} {l:Kn} {h h0:Hp} {dr:Bool} {ops:Array Oper} {fin rest:List (Oper×List Oper)} {R:Kn->Hp->Prop} {lt:List Oper} {ds:List Nat} {L:List Res}
variable {d:Nat} {ty:TypeId} {pos:String} {af:Array Edge} {gg:Option (Nat×Bool)} {x y z:Operand} {v zv:Value} {M:MsK K} {cl r:Nat} {k:K}
theorem Q5y (T:KeyT E t kt et enc) (hg:h.get r=some (.map (M.map (YQ enc)) cl)) (hz:E.zero et=some zv) (ok:Bool):
 K5 E h t (.map (some r)) (enc k) ok=some (match Q3l M k with|some v=>cond ok (.tuple #[v,.bool true]) v|none=>cond ok (.tuple #[zv,.bool false]) zv):=by
 simp only[K5,T.und,mapOf,hg,T.ok,cond_true,T.find,Q3l];cases fK k M 0 with
 |none=>simp[hz]
 |some x=>rfl
theorem Za (T:KeyT E t kt et enc) (g:Gd ops l gg) (hd:v0a d nt=true) (hx:evl l x=some (.map (some r))) (hy:evl l y=some (enc k)) (hg:h.get r=some (.map (M.map (YQ enc)) cl)) (hz:E.zero et=some zv)
 (q:WL E fn nt dr ops fin rest ((d,(Q3l M k).getD zv)::l) h R):WL E fn nt dr ops fin ((⟨some d,.lookup t x y false,ty,pos,af,gg⟩,lt)::rest) l h R:=
 QE g rfl (fun _ ag=>by
  simp only[QQ,ag.ev hx,ag.ev hy,Q5y T hg hz]
  cases Q3l M k<;>rfl) (wn hd) q
theorem QfJ (T:KeyT E t kt et enc) (hg:h.get r=some (.map (M.map (YQ enc)) cl)):Ky E h t (.map (some r)) (enc k) v=some (h.put r (.map ((J9 M k v cl).1.map (YQ enc)) (J9 M k v cl).2)):=by
 simp only[Ky,T.und,hg,T.ok,cond_true,T.find,J9];cases hf:fK k M 0 with
 |none=>simp[YQ]
 | some x=>
   obtain⟨i,w⟩:=x;simp only[v0i.injEq]
   congr 2
   exact Jc (fun x=>(k,v,x.2.2)) _ (fun _=>rfl) M i
theorem YR (i:Nat) (S:SH h0 ds L h) (T:KeyT E t kt et enc) (g:Gd ops l gg) (hx:evl l x=some (.map (some r))) (hy:evl l y=some (enc k)) (hz:evl l z=some v)
 (hg:L[i]?=some (cR r (.map (M.map (YQ enc)) cl))) (ha: ∀h',SH h0 ds (L.set i (cR r (.map ((J9 M k v cl).1.map (YQ enc)) (J9 M k v cl).2))) h'-> ∀q,q∈lt->Again E ops l h' q)
 (q: ∀h',SH h0 ds (L.set i (cR r (.map ((J9 M k v cl).1.map (YQ enc)) (J9 M k v cl).2))) h'->WL E fn nt dr ops fin rest l h' R):
 WL E fn nt dr ops fin ((⟨none,.mapUpdate t x y z,ty,pos,af,gg⟩,lt)::rest) l h R:=by
 refine Q0D g rfl (fun _ ag=>?_) wn0 (ha _ (S.put i hg _)) (q _ (S.put i hg _));simp only[Z3,ag.ev hx,ag.ev hy,ag.ev hz,QfJ T (S.cel i hg)]
theorem Q6y (i:Nat) (S:SH h0 ds L h) (T:KeyT E t kt et enc) (g:Gd ops l gg) (hd:v0a d nt=true) (hx:evl l x=some (.map (some r))) (hy:evl l y=some (enc k)) (hz:E.zero et=some zv)
 (hg:L[i]?=some (cR r (.map (M.map (YQ enc)) cl)))
 (ha: ∀h',SH h0 ds (L.set i (cR r (.map ((Yt M k zv cl).2.2.1.map (YQ enc)) (Yt M k zv cl).2.2.2))) h'-> ∀q,q∈lt->Again E ops ((d,.tuple #[(Yt M k zv cl).1,.int .i64 ((Yt M k zv cl).2.1:Nat)])::l) h' q)
 (q: ∀h',SH h0 ds (L.set i (cR r (.map ((Yt M k zv cl).2.2.1.map (YQ enc)) (Yt M k zv cl).2.2.2))) h'->WL E fn nt dr ops fin rest ((d,.tuple #[(Yt M k zv cl).1,.int .i64 ((Yt M k zv cl).2.1:Nat)])::l) h' R):
 WL E fn nt dr ops fin ((⟨some d,.mapEntry t x y,ty,pos,af,gg⟩,lt)::rest) l h R:=by
 refine Q1z g rfl (fun _ ag=>?_) (wn hd) (ha _ (S.put i hg _)) (q _ (S.put i hg _));have hh:=S.cel i hg;simp only[Z3,ag.ev hx,ag.ev hy,Kg,T.und,hh,T.ok,cond_true,T.find];unfold Yt;cases hf:fK k M 0 with
 |none=>simp[hz,YQ]
 | some w=>
   obtain⟨j,u⟩:=w;obtain⟨p,e1,e2,n,e3⟩:=Q4q hf;have:j=p:=by omega
   subst this;have e4:(M.map (YQ enc))[j]?=some (YQ enc (k,u,n)):=by simp[e3]
   simp only[e4,e3,v1s,Option.getD_some];rw[Q5r _ e4 rfl];rfl
theorem Q3G {s:Operand} (i:Nat) (S:SH h0 ds L h) (ok:OkK M cl) (g:Gd ops l gg) (hx:evl l x=some (.map (some r))) (hy:evl l s=some (.int .i64 ((Yt M k zv cl).2.1:Nat))) (hz:evl l z=some v)
 (hg:L[i]?=some (cR r (.map ((Yt M k zv cl).2.2.1.map (YQ enc)) (Yt M k zv cl).2.2.2)))
 (ha: ∀h',SH h0 ds (L.set i (cR r (.map ((J9 M k v cl).1.map (YQ enc)) (J9 M k v cl).2))) h'-> ∀q,q∈lt->Again E ops l h' q)
 (q: ∀h',SH h0 ds (L.set i (cR r (.map ((J9 M k v cl).1.map (YQ enc)) (J9 M k v cl).2))) h'->WL E fn nt dr ops fin rest l h' R):
 WL E fn nt dr ops fin ((⟨none,.entryStore t x s z,ty,pos,af,gg⟩,lt)::rest) l h R:=by
 have hn: ∀b:Nat,JI (.int .i64 (b:Int))=some b:=fun b=>by
  have:=Ym (k:=.i64) (j:=(b:Int)) (by omega);simpa using this
 have key:ZO h (.map (some r)) (.int .i64 ((Yt M k zv cl).2.1:Nat)) v=some (h.put r (.map ((J9 M k v cl).1.map (YQ enc)) (J9 M k v cl).2)):=by
  have hh:=S.cel i hg;simp only[ZO,hn,hh];unfold Yt J9;cases hf:fK k M 0 with
  | none=>
    have hb:((M++[(k,zv,cl)]).map (YQ enc)).findIdx? (fun e=>v0d e.born cl)=some M.length:=by
     have nd:((M++[(k,zv,cl)]).map (·.2.2)).Nodup:=by
      rw[v0P,v0O];refine⟨ok.1,by simp,fun a ha b hb e=>?_⟩;obtain⟨y,hy,rfl⟩:=v0L.1 ha;have:=ok.2 y hy;simp at hb;omega
     exact Q2J (enc:=enc) (x:=(k,zv,cl)) nd (by simp)
    simp only[hb]
    congr 2
    rw[Jc (fun x=>(x.1,v,x.2.2)) _ (fun _=>rfl)]
    congr 1
    rw[modify_last]
  | some w=>
    obtain⟨j,u⟩:=w;obtain⟨p,e1,e2,n,e3⟩:=Q4q hf;have:j=p:=by omega
    subst this;have hb:=Q2J (enc:=enc) ok.1 e3;dsimp only;simp only[e3,v1s,Option.getD_some,hb]
    have e5:M.modify j (fun x=>(x.1,v,x.2.2))=M.modify j (fun x=>(k,v,x.2.2)):=by
     apply v09;intro q;simp only[v1g];by_cases hq:j=q
     · subst hq;simp[e3]
     simp[hq]
    rw[Jc (fun x=>(x.1,v,x.2.2)) _ (fun _=>rfl),e5]
 have S':=S.put i hg (.map ((J9 M k v cl).1.map (YQ enc)) (J9 M k v cl).2);refine Q0D g rfl (fun _ ag=>?_) wn0 (ha _ S') (q _ S');simp only[Z3,ag.ev hx,ag.ev hy,ag.ev hz,key]
end
end
theorem Qdn {E:Env} {kt:TypeId} (hk:E.und kt=some (.int .i64)) (h:Hp) (a b:Int):KW E h kt (.int .i64 a) (.int .i64 b)=some (decide (a=b)):=Q5D hk a b
theorem KeyT.int {E:Env} {t kt et:TypeId} (hu:E.und t=some (.map kt et)) (hk:E.und kt=some (.int .i64)):KeyT E t kt et (fun n:Int=>Value.int .i64 n):=⟨hu,fun h a b=>Qdn hk h a b,fun a=>Q0f hk a⟩
section
variable {E:Env} {fn:FuncId} {nt:Nat} {l:Kn} {h:Hp} {dr:Bool} {ops:Array Oper} {fin rest:List (Oper×List Oper)} {R:Kn->Hp->Prop} {lt:List Oper}
variable {d:Nat} {ty t aM:TypeId} {pos:String} {af:Array Edge} {gg:Option (Nat×Bool)} {x y:Operand}
end
section
variable {E:Env} {fn:FuncId} {nt:Nat} {l:Kn} {h:Hp} {dr:Bool} {ops:Array Oper} {fin rest:List (Oper×List Oper)} {R:Kn->Hp->Prop} {lt:List Oper}
variable {d:Nat} {ty t aM:TypeId} {pos:String} {af:Array Edge} {gg:Option (Nat×Bool)} {x y:Operand}
end
def QgK (t k nt:Nat) (ity:IntKind):List Oper->Option (Int×Nat)
 | [⟨some r,.binOp .eql _ (.tmp k') (.const (.int kC c)) _,_,_,_,none⟩,⟨some t',.assign (.tmp r'),_,_,_,none⟩]=>
   cond (v0d k' k&&decide (kC=ity)&&v0d t' t&&v0d r' r&&v0a r nt&&v0a t nt&&decide (r≠k)&&decide (t≠k)) (some (c,r)) none
 |_=>none
def Qbw (t k nt:Nat) (ity:IntKind):Code->Option (List (Int×Nat))
 | .region _ ops dr=>cond (!dr&&QU ops) ((QgK t k nt ity ops.toList).map fun p=>[p]) none
 | .seq (.region _ ops dr) (.cond (.tmp t') .skip rest)=>cond (!dr&&QU ops&&v0d t' t) (match QgK t k nt ity ops.toList,Qbw t k nt ity rest with
   |some p,some r=>some (p::r)
   |_,_=>none) none
 |_=>none
theorem Q60 {t k nt:Nat} {ity:IntKind} {ops:List Oper} {c:Int} {r:Nat} (h:QgK t k nt ity ops=some (c,r)):
 ∃t1 t2 t3 p1 a1 t4 p2 a2,ops=[⟨some r,.binOp .eql t1 (.tmp k) (.const (.int ity c)) t2,t3,p1,a1,none⟩,⟨some t,.assign (.tmp r),t4,p2,a2,none⟩]/\v0a r nt=true/\v0a t nt=true/\r≠k/\t≠k:=by
 unfold QgK at h
 split at h
 · rename_i r1 t1 k' kC c1 t2 t3 p1 a1 t' r' t4 p2 a2;cases hq:(v0d k' k&&decide (kC=ity)&&v0d t' t&&v0d r' r1&&v0a r1 nt&&v0a t nt&&decide (r1≠k)&&decide (t≠k))with
   |false=>rw[hq]at h;cases h
   | true=>
     rw[hq]at h;cases h;simp only[v0h,decide_eq_true_eq]at hq;obtain⟨⟨⟨⟨⟨⟨⟨h1,rfl⟩,h3⟩,h4⟩,h5⟩,h6⟩,h7⟩,h8⟩:=hq;have h1:=v1v h1;have h3:=v1v h3;have h4:=v1v h4;subst h1;subst h3;subst h4;exact⟨_,_,_,_,_,_,_,_,rfl,h5,h6,h7,h8⟩
 cases h
section
variable {E:Env} {fn:FuncId} {nt:Nat} {h:Hp} {Q:Out->Kn->Hp->Prop} {t k:Nat} {ity:IntKind} {K:Int}
theorem Qdc {l:Kn} {t:Nat} {v:Value}:lk ((t,v)::l) t=some v:=by simp[lk]
theorem Q5z {l:Kn} {t i:Nat} {v:Value} (h:i≠t):lk ((t,v)::l) i=lk l i:=by
 have:v0d t i=false:=by
  cases e:v0d t i with
  |false=>rfl
  |true=>exact absurd (v1v e).symm h
 simp[lk,this]
theorem Qe3 {l:Kn} {id:Nat} {ops:Array Oper} {c:Int} {r:Nat} (ho:QU ops=true) (h1:QgK t k nt ity ops.toList=some (c,r)) (hk:lk l k=some (.int ity K))
 (q:Q .next ((t,.bool (decide (K=c)))::(r,.bool (decide (K=c)))::l) h):W E fn nt (.region id ops false) l h Q:=by
 obtain⟨t1,t2,t3,p1,a1,t4,p2,a2,e,hr,ht,iQ,kK⟩:=Q60 h1;refine Q2 ho ?_;rw[e];refine Qfm gn hr hk rfl<|Q7M gn ht Qdc ?_;exact Q0 q
theorem w_eqs: ∀(rs:List (Int×Nat)) (c:Code),Qbw t k nt ity c=some rs-> ∀(l:Kn),lk l k=some (.int ity K)-> ∀Q:Out->Kn->Hp->Prop,(∀l',(∀i,i≠t->i∉rs.map Prod.snd->lk l' i=lk l i)->lk l' t=some (.bool (decide (K∈rs.map Prod.fst)))->Q .next l' h)->W E fn nt c l h Q:=by
 intro rs
 induction rs with
 | nil=>
   intro c e
   exfalso
   unfold Qbw at e
   split at e
   · rename_i id ops dr;cases hq:(!dr&&QU ops)<;>rw[hq]at e
     · cases e
     cases h1:QgK t k nt ity ops.toList<;>rw[h1]at e<;>cases e
   · rename_i id ops dr t' rest;cases hq:(!dr&&QU ops&&v0d t' t)<;>rw[hq]at e
     · cases e
     simp only[cond_true]at e
     split at e<;>cases e
   cases e
 | cons p r ih=>
   intro c e l hk Q q;unfold Qbw at e
   split at e
   · rename_i id ops dr;cases dr with
     |true=>cases e
     |false=>
     cases hc:QU ops with
     |false=>rw[hc]at e;cases e
     |true=>
     rw[hc]at e;simp only[v1q,Bool.and_self,cond_true,Option.map_eq_some_iff]at e;obtain⟨⟨c,r1⟩,h1,e⟩:=e;cases e;refine Qe3 hc h1 hk (q _ (fun i hi hm=>?_) ?_)
     · rw[Q5z hi,Q5z (by simpa using hm)]
     rw[Qdc];simp
   · rename_i id ops dr t' rest;cases dr with
     |true=>cases e
     |false=>
     cases hc:QU ops with
     |false=>rw[hc]at e;cases e
     |true=>
     cases kJ:v0d t' t with
     |false=>rw[kJ,Bool.and_false]at e;cases e
     |true=>
     rw[hc,kJ]at e;have kJ:=v1v kJ;subst kJ;simp only[v1q,Bool.and_self,cond_true]at e
     split at e
     · rename_i p' r' h1 h2;cases e;obtain⟨c,r1⟩:=p;refine Q5 (Qe3 hc h1 hk ?_);show W E fn nt (.cond _ _ _) _ _ _;obtain⟨_,_,_,_,_,_,_,_,_,hr,ht,iQ,kK⟩:=Q60 h1;refine Q3 (t:=decide (K=c)) Qdc (fun hb=>?_) fun hb=>?_
       · refine Q4 (q _ (fun i hi hm=>?_) ?_)
         · simp at hm;rw[Q5z hi,Q5z hm.1]
         rw[Qdc];simp only[v0G,v0w];simp only[decide_eq_true_eq]at hb;simp[hb]
       have bh:lk ((t',.bool (decide (K=c)))::(r1,.bool (decide (K=c)))::l) k=some (.int ity K):=by
        rw[Q5z (fun e=>kK e.symm),Q5z (fun e=>iQ e.symm)];exact hk
       refine ih rest h2 _ bh _ fun l' hl ht2=>q l' (fun i hi hm=>?_) ?_
       · simp at hm;rw[hl i hi (by simpa using hm.2),Q5z hi,Q5z hm.1]
       rw[ht2];simp only[v0G,v0w];simp only[decide_eq_false_iff_not]at hb;simp[hb]
     cases e
   cases e
theorem Q7m {l l':Kn} {ban:List Nat} (h: ∀i,i∉ban->lk l' i=lk l i): ∀ {m:Kn},Sub m l->(m.map Prod.fst).all (fun i=> !ban.elem i)=true->Sub m l'
 | [],_,_=>trivial
 | (i,v)::m,hs,hk=>by
   simp only[v0G,List.all_cons,v0h]at hk;refine⟨?_,Q7m h hs.2 hk.2⟩;rw[h i (by simpa using hk.1)];exact hs.1
theorem Qk {Q:Out->Kn->Hp->Prop} {id:Nat} {l:Kn} {h:Hp} (q:Q .next l h):Blk id Q .next l h:=q
theorem Yh {S A B:Code} {l:Kn} (k:Nat) (rs:List (Int×Nat)) (lc:Kn) (hS:Qbw t k nt ity S=some rs) (hk:lk l k=some (.int ity K)) (hs:Sub lc l) (hb:(lc.map Prod.fst).all (fun i=> !(t::rs.map Prod.snd).elem i)=true)
 (qa:decide (K∈rs.map Prod.fst)=true->W E fn nt A lc h Q) (qb:decide (K∈rs.map Prod.fst)=false->W E fn nt B lc h Q):W E fn nt (.seq S (.cond (.tmp t) A B)) l h Q:=by
 refine Q5 (w_eqs rs S hS l hk _ fun l' hl ht=>?_);show W E fn nt (.cond _ _ _) l' h Q;have lY:Sub lc l':=Q7m (fun i hi=>hl i (fun e=>hi (by simp[e])) (fun e=>hi (v0E _ e))) hs hb;exact Q3 ht (fun e=>Q1N lc lY (qa e)) fun e=>Q1N lc lY (qb e)
end
def snR (e z:Nat) (s:Value) (cs:List Value) (n:Nat) (bs:List Nat):Res:=⟨bs,fun h=>SlN e z h s cs n bs,fun h h' k hn p=>by
 rcases p with p| ⟨b,m,h1,h2,h3,h4,h5,h6⟩
 · exact .inl p
 have:=k b (by rw[h5];simp)
 exact .inr ⟨b,m,h1,by rw[this.2];exact h2,h3,v0u this.1 hn,h5,h6⟩⟩
section
variable {h0 h g g1 g2:Hp} {ds:List Nat} {L L0:List Res} {r r':Res} {b i j:Nat} {o:AObj}
theorem SH.two (S0:SH h0 [] L0 g) (hd: ∀k,k∈ds->h0.n<=k) (S:SH g ds L h) (hg:h0.get b=some o) (hb:b <h0.n):h.get b=some o:=
 S.old (S0.old0 hg hb) (v0u hb S0.ext.n) fun hm=>by have:=hd b hm;omega
theorem SH.all0 (S0:SH h0 [] L0 g) (hd: ∀k,k∈ds->h0.n<=k) (S:SH g ds L h):Ext h0 h:=⟨v0p S0.ext.n S.ext.n,fun k hk=>by
 rw[S.ext.get k (v0u hk S0.ext.n) fun hm=>by have:=hd k hm;omega]
 exact S0.ext.get k hk (by simp)⟩
theorem SH.own0 (S0:SH h0 [] [r] g): ∀k,k∈r.own->h0.n<=k:=fun k hk=>by
 rcases S0.new k (by rw[Z4];exact v1B _ hk)with h|h
 · cases h
 exact h
theorem SH.enter (S0:SH h0 [] [r] g):SH g r.own [r] g:=by
 have e:owns [r]=r.own:=by simp[owns]
 refine SH.one (S0.res 0 rfl) (fun i hi=>S0.lt i (by rw[e];exact hi)) ?_;have:=S0.nd;rwa[e]at this
theorem SH.sub1 (S0:SH h0 [] L0 g) (hd: ∀k,k∈ds->h0.n<=k) (S:SH g ds L g1) (i:Nat) (e:L[i]?=some r):SH h0 [] [r] g1:=by
 have e1:owns [r]=r.own:=by simp[owns]
 refine⟨(S0.all0 hd S).b [],fun q hq=>?_,fun k hk=>?_,fun k hk=>?_,?_⟩
 · rw[v01]at hq;subst hq;exact S.res i e
 · rw[e1]at hk;exact S.lt k (QO (v0m e) hk)
 · rw[e1]at hk;rcases S.new k (QO (v0m e) hk)with h|h
   · exact .inr (hd k h)
   exact .inr (v0p S0.ext.n h)
 rw[e1];obtain⟨A,B,rfl,_⟩:=Q3T e r;have:=S.nd;rw[QR,Z4,v0O]at this;exact(v0O.1 this.2.1).1
theorem SH.pick (S:SH h0 ds L h) (i:Nat) (e:L[i]?=some r):SH h0 ds [r] h:=by
 have e1:owns [r]=r.own:=by simp[owns]
 have hm:=v0m e;refine⟨S.ext,fun q hq=>?_,fun k hk=>S.lt k (QO hm (by rw[<-e1];exact hk)),fun k hk=>S.new k (QO hm (by rw[<-e1];exact hk)),?_⟩
 · rw[v01]at hq;subst hq;exact S.res i e
 rw[e1];obtain⟨A,B,rfl,_⟩:=Q3T e r;have:=S.nd;rw[QR,Z4,v0O]at this;exact(v0O.1 this.2.1).1
theorem SH.ret (S:SH g ds L g1) (i:Nat) (e:L[i]?=some r) (S2:SH g1 r.own [r'] g2):SH g ds (L.set i r') g2:=by
 have e1:owns [r']=r'.own:=by simp[owns]
 refine S.upd i e S2.ext (S2.res 0 rfl) (fun j hj=>S2.lt j (by rw[e1];exact hj)) (fun j hj=>S2.new j (by rw[e1];exact hj)) ?_;have:=S2.nd;rwa[e1]at this
end
theorem Q6H {E:Env} {fn:FuncId} {nt:Nat} {l:Kn} {h:Hp} {dr:Bool} {ops:Array Oper} {fin rest:List (Oper×List Oper)} {R:Kn->Hp->Prop} {lt:List Oper} {d:Nat} {ty:TypeId} {pos:String} {af:Array Edge} {gg:Option (Nat×Bool)} {x:Operand} {v:Value} {f:FuncId}
 (g:Gd ops l gg) (hd:v0a d nt=true) (hx:evl l x=some v) (q:WL E fn nt dr ops fin rest ((d,.func (.func f) #[v] #[])::l) h R):
 WL E fn nt dr ops fin ((⟨some d,.makeFunc (.func f) #[x] #[],ty,pos,af,gg⟩,lt)::rest) l h R:=
 QE g rfl (fun _ ag=>by simp[QQ,ag.ev hx]) (wn hd) q
section
variable {E:Env} {l:Kn} {h:Hp} {ops:Array Oper} {d:Nat} {ty t aM:TypeId} {pos:String} {af:Array Edge} {gg:Option (Nat×Bool)} {x y:Operand}
end
section
variable {E:Env} {fn:FuncId} {nt:Nat} {l:Kn} {h:Hp} {dr:Bool} {ops:Array Oper} {fin rest:List (Oper×List Oper)} {R:Kn->Hp->Prop} {lt:List Oper} {d:Nat} {ty s t:TypeId} {pos:String} {af:Array Edge} {gg:Option (Nat×Bool)} {x:Operand}
end
section
variable {E:Env} {fn:FuncId} {nt:Nat} {l:Kn} {h:Hp} {dr:Bool} {ops:Array Oper} {fin rest:List (Oper×List Oper)} {R:Kn->Hp->Prop} {lt:List Oper} {d:Nat} {ty t aM:TypeId} {pos:String} {af:Array Edge} {gg:Option (Nat×Bool)} {x y:Operand} {k:IntKind} {a b:Int}
theorem o_mulW (g:Gd ops l gg) (hd:v0a d nt=true) (hx:evl l x=some (.int k a)) (hy:evl l y=some (.int k b)) (q:WL E fn nt dr ops fin rest ((d,.int k (k.wrap (a*b)))::l) h R):
 WL E fn nt dr ops fin ((⟨some d,.binOp .mul t x y aM,ty,pos,af,gg⟩,lt)::rest) l h R:=KS g hd hx hy rfl (by simp only[ZS,QN,ZJ]) q
theorem o_subW (g:Gd ops l gg) (hd:v0a d nt=true) (hx:evl l x=some (.int k a)) (hy:evl l y=some (.int k b)) (q:WL E fn nt dr ops fin rest ((d,.int k (k.wrap (a -b)))::l) h R):
 WL E fn nt dr ops fin ((⟨some d,.binOp .sub t x y aM,ty,pos,af,gg⟩,lt)::rest) l h R:=KS g hd hx hy rfl (by simp only[ZS,QN,ZJ]) q
theorem Q0b (g:Gd ops l gg) (hd:v0a d nt=true) (hx:evl l x=some (.int k a)) (hy:evl l y=some (.int k b)) (q:WL E fn nt dr ops fin rest ((d,.int k (k.wrap (a+b)))::l) h R):
 WL E fn nt dr ops fin ((⟨some d,.binOp .add t x y aM,ty,pos,af,gg⟩,lt)::rest) l h R:=KS g hd hx hy rfl (by simp only[ZS,QN,ZJ]) q
end
section
variable {E:Env} {fn:FuncId} {nt:Nat} {l:Kn} {h:Hp} {dr:Bool} {ops:Array Oper} {fin rest:List (Oper×List Oper)} {R:Kn->Hp->Prop} {lt:List Oper} {d:Nat} {ty t aM:TypeId} {pos:String} {af:Array Edge} {gg:Option (Nat×Bool)} {x y z:Operand} {k k':IntKind}
end
section
variable {e z:Nat} {h h':Hp} {s w:Value} {cs xs:List Value} {n m:Nat} {bs ds:List Nat}
theorem Q4E {E:Env} {t by':Nat} (x:ElN E t e z by') (hs:SlN e z h s cs n bs) (hw:Qck z h w xs m) (hc:xs.all cellV=true) (hn:2*((n+m)*(by'+1))+192*(by'+1)<=281474976710656):
 ∃v' h' aa,Zh E h t t s w=some (v',h')/\SlN e z h' v' (cs++xs) (n+m) aa/\ExtB bs h h'/\ ∀i,i∈aa->i∈bs\/h.n<=i:=by
 obtain⟨hl,hf,hlen⟩:=hw;by_cases h0:m=0
 · subst h0;have e0:xs=[]:=v1x (by rw[hlen];simp);subst e0;have e3:v0d 0 0=true:=rfl;rw[v0k];rcases hs with⟨rfl,rfl,rfl,rfl⟩| ⟨b,m,rfl,hb,hm,aj,rfl,fl⟩
   · exact⟨_,_,[],by simp only[Zh,x.und,hl,x.size,x.bytes,hf,e3,cond_true],.inl ⟨rfl,rfl,rfl,rfl⟩,.refl _ _,by simp⟩
   refine⟨.slice (some ⟨b,0,none⟩) n n,h,[b],?_,.inr ⟨b,m,rfl,hb,hm,aj,rfl,fl⟩,.refl _ _,by simp⟩;have e4:v0r n n=true:=(Qy _ _).2 (v0b _);simp only[Zh,x.und,hl,x.size,x.bytes,hf,e3,cond_true,ZQ,hb,e4]
 have e3:v0d m 0=false:=(QC _ _).2 h0;rcases hs with⟨rfl,rfl,rfl,rfl⟩| ⟨b,m',rfl,hb,hm,aj,rfl,fl⟩
 · refine⟨.slice (some ⟨h.n,0,none⟩) m m,h.alloc (.cells ([]++xs) e (z+3)),[h.n],?_,.inr ⟨h.n,z+3,by rw[v0f],Hp.get_alloc_self _ _,.inr rfl,by rw[Hp.n_alloc];omega,rfl,by rw[v1b,hlen];congr 1;omega⟩,(Ext.alloc h _).b _,by simp⟩;simp only[Zh,x.und,hl,x.size,x.bytes,hf,e3,cond_false];exact x.growX2 h m [] xs (by rw[v0f]at hn;exact hn)
 have e1:v0r (n+m) n=false:=by
  cases hc:v0r (n+m) n with
  |false=>rfl
  |true=>have:=(Qy _ _).1 hc;omega
 have e2:v0r (0+n*(z+1)) cs.length=true:=(Qy _ _).2 (by omega)
 have ao:rowOf h ⟨b,0,none⟩ (n*(z+1))=some cs:=by
  simp only[rowOf,hb,e2,cond_true,v0R];rw[v1A (by omega)]
 have aS:(cs++xs).length=(n+m)*(z+1):=by rw[v0j,fl,hlen,v1a]
 rcases hm with rfl|rfl
 · refine⟨_,_,[h.n],?_,.inr ⟨h.n,z+3,rfl,Hp.get_alloc_self _ _,.inr rfl,by rw[Hp.n_alloc];omega,rfl,aS⟩,(Ext.alloc h _).b _,by simp⟩;simp only[Zh,x.und,hl,x.size,x.bytes,hf,e3,cond_false,e1,ao,hb,hc,cond_true];exact x.growX2 h (n+m) cs xs hn
 refine⟨.slice (some ⟨h.n,0,none⟩) (n+m) (n+m),(h.put b .dead).alloc (.cells (cs++xs) e (z+3)),[h.n],?_,.inr ⟨h.n,z+3,rfl,?_,.inr rfl,by rw[Hp.n_alloc,Hp.n_put];omega,rfl,aS⟩,(ExtB.put h b .dead).trans ((Ext.alloc _ _).b _),by simp⟩
 · simp only[Zh,x.und,hl,x.size,x.bytes,hf,e3,cond_false,e1,ao,hb,hc,cond_true];have:=x.growX2 (h.put b .dead) (n+m) cs xs hn;rw[Hp.n_put]at this;simpa[v0N]using this
 rw[Hp.get_alloc,Hp.n_put,if_pos rfl]
theorem RowV.src (R:RowV h s xs):Qck 0 h s xs xs.length:=by
 rcases R with⟨rfl,a,c,rfl⟩| ⟨b,o,c,cs,e',m,rfl,hg,aj,aX⟩
 · refine⟨rfl,?_,by simp⟩;cases a<;>rfl
 by_cases h0:xs.length=0
 · have:xs=[]:=v1x h0;subst this;exact⟨rfl,rfl,by simp⟩
 have hl:o+xs.length<=cs.length:=by
  have:=aX (xs.length -1) (by omega);have:=(v0z.1 this).1;omega
 have q:=Q7p (z:=0) (n:=xs.length) (c:=c) hg (by simpa using hl)
 have ex:(cs.drop o).take (xs.length*(0+1))=xs:=by
  apply v09;intro j;rw[v0f,Nat.mul_one];by_cases hj:j <xs.length
  · rw[v2l hj,v1l,aX j hj,v0c hj]
  rw[v02 (by rw[v0D];omega),v02 (by omega)]
 rw[ex]at q;exact q
end
section
variable {E:Env} {fn:FuncId} {nt:Nat} {l:Kn} {h h0:Hp} {dr:Bool} {ops:Array Oper} {fin rest:List (Oper×List Oper)} {R:Kn->Hp->Prop} {lt:List Oper} {ds:List Nat} {L:List Res}
variable {d:Nat} {ty t:TypeId} {pos:String} {af:Array Edge} {gg:Option (Nat×Bool)} {x y:Operand} {v:Value}
theorem QcC {b o n:Nat} {cs cs':List Value} {vs:Array Value} {e:TypeId} {m:Nat} (i:Nat) (S:SH h0 ds L h) (g:Gd ops l gg) (hx:evl l x=some (.pointer (some ⟨b,o,none⟩))) (hy:evl l y=some (.agg vs)) (hc:vs.toList.all cellV=true) (ht:E.size t=some n) (hn:vs.size=n)
 (hg:L[i]?=some (cR b (.cells cs e m))) (hm:m≠1) (hv:o+n<=cs.length) (cx:cs.take o++vs.toList++cs.drop (o+n)=cs') (ha: ∀h',SH h0 ds (L.set i (cR b (.cells cs' e m))) h'-> ∀q,q∈lt->Again E ops l h' q)
 (q: ∀h',SH h0 ds (L.set i (cR b (.cells cs' e m))) h'->WL E fn nt dr ops fin rest l h' R):
 WL E fn nt dr ops fin ((⟨none,.store t x y,ty,pos,af,gg⟩,lt)::rest) l h R:=by
 subst cx;exact QcT g hx hy hc ht hn (S.cel i hg) hm hv (ha _ (S.put i hg _)) (q _ (S.put i hg _))
theorem QeC {aM:TypeId} {a b:Int} (g:Gd ops l gg) (hx:evl l x=some (.int .i64 a)) (hy:evl l y=some (.int .i64 b)) (h1: -9223372036854775808<=a+b) (h2:a+b <9223372036854775808) (hl:lk l d=some (.int .i64 (a+b))):
 Again E ops l h ⟨some d,.binOp .add t x y aM,ty,pos,af,gg⟩:=Qca g hx hy rfl (by simp only[ZS,QN,ZJ];rw[wrap64 h1 h2]) hl Q1C
end
def Q2U (Q:List Res->Prop) (bs:List Nat):Res:=⟨bs,fun h=> ∃L,Q L/\owns L=bs/\ ∀r,r∈L->r.P h,fun h h' k hn p=>by
 obtain⟨L,h1,h2,h3⟩:=p
 exact⟨L,h1,h2,fun r hr=>r.st h h' (fun i hi=>k i (by rw[<-h2];exact QO hr hi)) hn (h3 r hr)⟩⟩
section
variable {h0 h h':Hp} {ds bs:List Nat} {A L:List Res} {Q:List Res->Prop} {E:Env}
theorem Jk (S:SH h0 ds (A++[Q2U Q bs]) h): ∃L,Q L/\owns L=bs/\SH h0 ds (A++L) h:=by
 obtain⟨L,h1,h2,h3⟩:=S.hold (Q2U Q bs) (by simp)
 have e:owns (A++L)=owns (A++[Q2U Q bs]):=by
  rw[QR,QR,h2];simp[owns,Q2U]
 refine⟨L,h1,h2,S.ext,fun r hr=>?_,by rw[e];exact S.lt,by rw[e];exact S.new,by rw[e];exact S.nd⟩;rcases v0A.1 hr with hr|hr
 · exact S.hold r (v1B _ hr)
 exact h3 r hr
theorem KF (S:SH h0 ds (A++L) h) (hq:Q L):SH h0 ds (A++[Q2U Q (owns L)]) h:=by
 have e:owns (A++[Q2U Q (owns L)])=owns (A++L):=by
  rw[QR,QR];simp[owns,Q2U]
 refine⟨S.ext,fun r hr=>?_,by rw[e];exact S.lt,by rw[e];exact S.new,by rw[e];exact S.nd⟩;rcases v0A.1 hr with hr|hr
 · exact S.hold r (v1B _ hr)
 rw[v01.1 hr];exact⟨L,hq,rfl,fun r hr=>S.hold r (v2o _ hr)⟩
variable {K α:Type} [DecidableEq K] {key:K->Value} {enc:α->Value} {F G:K->Option α} {r:Nat}
theorem Q9I {e z n c b:Nat} {cs:List Value} {bs:List Nat} (x:SlC e z h (.slice (some ⟨b,0,none⟩) n c) cs n bs): ∃vs m,h.get b=some (.cells vs e m)/\(m=0\/m=z+3)/\n<=c:=by
 rcases x with⟨h1,_⟩| ⟨b',m,c',r,h1,h2,h3,h4,h5,h6,h7,h8⟩
 · cases h1
 cases h1;exact⟨_,m,h2,h3,h7⟩
theorem Q51 {e z n c b:Nat} {cs:List Value} {bs:List Nat} (x:SlC e z h (.slice (some ⟨b,0,none⟩) n c) cs n bs): ∃rest m,h.get b=some (.cells (cs++rest) e m):=by
 rcases x with⟨h1,_⟩| ⟨b',m,c',r,h1,h2,_⟩
 · cases h1
 cases h1;exact⟨r,m,h2⟩
theorem sl_open {e z n i:Nat} {s:Value} {cs:List Value} (S:SH h0 ds L h) (i:Nat) (hi:L[i]?=some (slR e z s cs n bs)) (hn:0 <n):
 ∃b m c rest,s=.slice (some ⟨b,0,none⟩) n c/\bs=[b]/\(m=0\/m=z+3)/\cs.length=n*(z+1)/\n<=c/\rest.length=(c -n)*(z+1)/\SH h0 ds (L.set i (cR b (.cells (cs++rest) e m))) h:=by
 have hl:=fun j hj=>S.lt j (QO (v0m hi) hj);rcases S.sl i hi with⟨_,_,h3,_⟩| ⟨b,m,c,rest,h1,h2,h3,h4,rfl,h5,h6,h7⟩
 · omega
 exact⟨b,m,c,rest,h1,rfl,h3,h5,h6,h7,S.upd i hi (.refl _ _) h2 hl (fun j hj=>.inl hj) (by simp[cR])⟩
theorem Q00 {e z n:Nat} {s:Value} {cs:List Value} {bs:List Nat} (x:SlC e z h s cs n bs) (hn:0 <n): ∃b c,s=.slice (some ⟨b,0,none⟩) n c/\bs=[b]/\cs.length=n*(z+1):=by
 rcases x with⟨_,_,h3,_⟩| ⟨b,m,c,rest,h1,h2,h3,h4,h5,h6,_⟩
 · omega
 exact⟨b,c,h1,h5,h6⟩
end
section
variable {E:Env} {fn:FuncId} {nt:Nat} {l:Kn} {h h0:Hp} {dr:Bool} {ops:Array Oper} {fin rest:List (Oper×List Oper)} {R:Kn->Hp->Prop} {lt:List Oper} {ds:List Nat} {L:List Res}
variable {ty t:TypeId} {pos:String} {af:Array Edge} {gg:Option (Nat×Bool)} {x y:Operand} {v:Value}
theorem Zq {b c n e z o:Nat} {s:Value} {cs:List Value} {bs:List Nat} (k:Nat) (S:SH h0 ds L h) (g:Gd ops l gg) (hx:evl l x=some (.pointer (some ⟨b,o,none⟩))) (hy:evl l y=some v) (hc:cellV v=true) (ht:E.size t=some 1)
 (hi:L[k]?=some (slR e z s cs n bs)) (hs:s=.slice (some ⟨b,0,none⟩) n c) (hv:o <cs.length) (ha: ∀h',SH h0 ds (L.set k (slR e z s (cs.set o v) n bs)) h'-> ∀q,q∈lt->Again E ops l h' q)
 (q: ∀h',SH h0 ds (L.set k (slR e z s (cs.set o v) n bs)) h'->WL E fn nt dr ops fin rest l h' R):WL E fn nt dr ops fin ((⟨none,.store t x y,ty,pos,af,gg⟩,lt)::rest) l h R:=by
 subst hs;rcases S.sl k hi with⟨h1,_⟩| ⟨b',m,c',r,h1,h2,h3,h4,rfl,h5,h6,h7⟩
 · cases h1
 cases h1;have e1:(cs++r).set o v=cs.set o v++r:=List.set_append_left _ _ hv
 have S':SH h0 ds (L.set k (slR e z (.slice (some ⟨b,0,none⟩) n c) (cs.set o v) n [b])) (h.put b (.cells ((cs++r).set o v) e m)):=
  S.upd k hi (ExtB.put h b _) (.inr ⟨b,m,c,r,rfl,by rw[Hp.get_put_self,e1],h3,by rw[Hp.n_put];omega,rfl,by rw[List.length_set];exact h5,h6,h7⟩) (fun j hj=>by simp only[slR,v01]at hj;subst hj;rw[Hp.n_put];omega) (fun j hj=>.inl hj) (by simp[slR])
 exact Q6F g hx hy hc ht h2 (by omega) (by rw[v0j];omega) (ha _ S') (q _ S')
end
section
variable {h0 h g g1 g2:Hp} {ds bs:List Nat} {L L0 A A' B l:List Res} {r x x':Res} {j:Nat} {Q:List Res->Prop}
theorem SH.own0L (S0:SH h0 [] A g): ∀k,k∈owns A->h0.n<=k:=fun k hk=>(S0.new k hk).elim (fun h=>by cases h) id
theorem SH.enterL (S0:SH h0 [] A g):SH g (owns A) A g:=SH.begin S0.hold S0.lt S0.nd
theorem SH.fst (S:SH h0 ds (A++B) h):SH h0 ds A h:=S.sub (B:=B) (.refl _)
theorem SH.subL (S0:SH h0 [] L0 g) (hd: ∀k,k∈ds->h0.n<=k) (S:SH g ds (A++B) g1):SH h0 [] A g1:=by
 have S':=S.fst;refine⟨(S0.all0 hd S').b [],S'.hold,S'.lt,fun k hk=>?_,S'.nd⟩;rcases S'.new k hk with h|h
 · exact .inr (hd k h)
 exact .inr (v0p S0.ext.n h)
theorem SH.retL (S:SH g ds (A++B) g1) (S2:SH g1 (owns A) A' g2):SH g ds (A'++B) g2:=by
 have lR:=S.nd;rw[QR,v0O]at lR;obtain⟨na,nb,ab⟩:=lR;have ft:=S.lt;have db:=S.new;simp only[QR,v0A]at ft db;refine⟨S.ext.join S2.ext fun k hk=>db k (.inl hk),fun q hq=>?_,fun k hk=>?_,fun k hk=>?_,?_⟩
 · rcases v0A.1 hq with hq|hq
   · exact S2.hold q hq
   refine q.st g1 g2 (fun i hi=>?_) S2.ext.n (S.hold q (v2o _ hq));have hiB:=QO hq hi;exact⟨ft i (.inr hiB),S2.ext.get i (ft i (.inr hiB)) fun hA=>ab i hA i hiB rfl⟩
 · rw[QR]at hk;rcases v0A.1 hk with hk|hk
   · exact S2.lt k hk
   exact v0u (ft k (.inr hk)) S2.ext.n
 · rw[QR]at hk;rcases v0A.1 hk with hk|hk
   · rcases S2.new k hk with h|h
     · exact db k (.inl h)
     exact .inr (v0p S.ext.n h)
   exact db k (.inr hk)
 rw[QR,v0O];refine⟨S2.nd,nb,fun a ha b hb e=>?_⟩;subst e;rcases S2.new a ha with h|h
 · exact ab a h a hb rfl
 have:=ft a (.inr hb);omega
theorem SH.subL0 (S0:SH h0 [] L0 g) (hd: ∀k,k∈ds->h0.n<=k) (S:SH g ds A g1):SH h0 [] A g1:=SH.subL (B:=[]) S0 hd (by rw[v0k];exact S)
theorem SH.retL0 (S:SH g ds A g1) (S2:SH g1 (owns A) A' g2):SH g ds A' g2:=by
 have:=SH.retL (B:=[]) (by rw[v0k];exact S) S2;rwa[v0k]at this
theorem SH.ordr (S:SH h0 ds L h) (js:List Nat) (n:Nat) (hn:n=L.length) (hp:js.Perm (List.range n)):SH h0 ds (js.map fun i=>L.getD i (cR 0 (.cells [] 0 0))) h:=by
 refine S.sub (B:=[]) ?_;rw[v0k]
 have e:(List.range n).map (fun i=>L.getD i (cR 0 (.cells [] 0 0)))=L:=by
  subst hn;refine v09 fun i=>?_;rw[v0y];by_cases hi:i <L.length
  · rw[List.getElem?_range hi,v0c hi];simp[List.getD_eq_getElem?_getD,hi]
  rw[v02 (by simpa using hi),v02 (by omega)];rfl
 have:=hp.map fun i=>L.getD i (cR 0 (.cells [] 0 0));rwa[e]at this
theorem Q2I (S:SH h0 ds (Q2U Q bs::B) h): ∃L,Q L/\owns L=bs/\SH h0 ds (L++B) h:=by
 obtain⟨L,h1,h2,h3⟩:=S.hold (Q2U Q bs) (by simp)
 have e:owns (L++B)=owns (Q2U Q bs::B):=by
  rw[QR,Z4,h2];rfl
 refine⟨L,h1,h2,S.ext,fun r hr=>?_,by rw[e];exact S.lt,by rw[e];exact S.new,by rw[e];exact S.nd⟩;rcases v0A.1 hr with hr|hr
 · exact h3 r hr
 exact S.hold r (v0E _ hr)
theorem J3 (S:SH h0 ds (L++B) h) (hq:Q L):SH h0 ds (Q2U Q (owns L)::B) h:=by
 have e:owns (Q2U Q (owns L)::B)=owns (L++B):=by
  rw[QR,Z4];rfl
 refine⟨S.ext,fun r hr=>?_,by rw[e];exact S.lt,by rw[e];exact S.new,by rw[e];exact S.nd⟩;rcases v0w.1 hr with rfl|hr
 · exact⟨L,hq,rfl,fun r hr=>S.hold r (v1B _ hr)⟩
 exact S.hold r (v2o _ hr)
theorem SH.outAt (S:SH h0 ds (l++B) h) (e:l[j]?=some x):SH h0 ds (x::(l.eraseIdx j++B)) h:=by
 refine S.sub (B:=[]) ?_;rw[v0k];obtain⟨hj,rfl⟩:=v0z.1 e;have e1:l=l.take j++l[j]::l.drop (j+1):=by rw[<-v1K hj,v00]
 have e2:l.eraseIdx j=l.take j++l.drop (j+1):=v2D ..;rw[e2]
 have:(l[j]::(l.take j++l.drop (j+1))).Perm l:=by
  conv=>rhs;rw[e1]
  exact List.perm_middle.symm
 exact this.append_right B
theorem SH.inAt (S:SH h0 ds (x'::(l.eraseIdx j++B)) h) (hj:j <l.length):SH h0 ds (l.set j x'++B) h:=by
 refine S.sub (B:=[]) ?_;rw[v0k];have e2:l.eraseIdx j=l.take j++l.drop (j+1):=v2D ..;have e3:l.set j x'=l.take j++x'::l.drop (j+1):=by rw[v2C,if_pos hj]
 rw[e2,e3];have:(l.take j++x'::l.drop (j+1)).Perm (x'::(l.take j++l.drop (j+1))):=List.perm_middle;exact this.append_right B
theorem SH.mid (S:SH h0 ds (x::(A++B)) h):SH h0 ds (A++x::B) h:=by
 refine S.sub (B:=[]) ?_;rw[v0k];exact List.perm_middle
theorem SH.unmid (S:SH h0 ds (A++x::B) h):SH h0 ds (x::(A++B)) h:=by
 refine S.sub (B:=[]) ?_;rw[v0k];exact List.perm_middle.symm
theorem SH.comm (S:SH h0 ds (A++B) h):SH h0 ds (B++A) h:=by
 refine S.sub (B:=[]) ?_;rw[v0k];exact List.perm_append_comm
end
def Held (r:Res) (h:Hp):Prop:=r.P h/\ ∀i,i∈r.own->i <h.n
theorem SH.held {h0 h:Hp} {ds:List Nat} {L:List Res} {r:Res} (S:SH h0 ds L h) (i:Nat) (e:L[i]?=some r):Held r h:=⟨S.res i e,fun j hj=>S.lt j (QO (v0m e) hj)⟩
theorem Held.ext {r:Res} {h h':Hp} (x:Held r h) (g:Ext h h'):Held r h':=⟨r.st h h' (fun i hi=>⟨x.2 i hi,g.get i (x.2 i hi)⟩) g.n x.1,fun i hi=>v0u (x.2 i hi) g.n⟩
theorem Q8s {E:Env} {h:Hp} {t e z by' n j:Nat} {s:Value} {cs:List Value} {bs:List Nat} (el:ElN E t e z by') (x:SlC e z h s cs n bs) (hj:j<=n):
 ∃v,sameV 20 v v=true/\ ∀h':Hp,(∀i,i∈bs->h'.get i=h.get i)->YF E h' t s (some (.int .i64 (j:Nat))) none none=some v/\Qck z h' v (cs.drop (j*(z+1))) (n -j):=by
 have h1:JI (.int .i64 (j:Nat))=some j:=by
  have:=Ym (k:=.i64) (j:=(j:Int)) (by omega);simpa using this
 have sm: ∀(a:Option Addr) (n c:Nat),sameV 20 (.slice a n c) (.slice a n c)=true:=fun a n c=>by cases a<;>simp[sameV]
 rcases x with⟨rfl,rfl,rfl,rfl⟩| ⟨b,m,c,rest,rfl,hb,hm,aj,rfl,hl,ik,hr⟩
 · obtain rfl:j=0:=by omega
   exact⟨.slice none 0 0,sm _ _ _,fun h' _=>⟨by simp only[YF,el.und,el.size,ZI,h1],rfl,by rw[List.drop_nil];rfl,by simp⟩⟩
 have hbo:Yk j n c=true:=ZU.2 ⟨hj,ik⟩;have hmul:j*(z+1)<=n*(z+1):=v05 _ hj
 have ez: ∀h':Hp,h'.get b=some (.cells (cs++rest) e m)->Qck z h' (.slice (some ⟨b,j*(z+1),none⟩) (n -j) (c -j)) (cs.drop (j*(z+1))) (n -j):=fun h' hg=>by
  have:=Q7p (z:=z) (n:=n -j) (c:=c -j) (o:=j*(z+1)) hg (by rw[v0j,v1y];omega);rw[List.drop_append_of_le_length (by omega),v2n (by rw[List.length_drop,hl,v1y];omega),v1A (by rw[List.length_drop,hl,v1y];omega)]at this;exact this
 have jz: ∀h':Hp,(∀i,i∈[b]->h'.get i=h.get i)->h'.get b=some (.cells (cs++rest) e m):=fun h' hh=>(hh b (by simp)).trans hb;rcases hm with rfl|rfl
 · by_cases e0:c=j
   · subst e0;obtain rfl:n=c:=by omega
     refine⟨.slice (some ⟨b,0,none⟩) (n -n) (n -n),sm _ _ _,fun h' hh=>⟨by simp only[YF,el.und,el.size,ZI,h1,ZQ,jz h' hh,hbo,cond_true,v0N],?_⟩⟩;rw[Nat.sub_self,List.drop_eq_nil_of_le (by omega)];exact⟨rfl,rfl,by simp⟩
   have e2:v0d c j=false:=(QC _ _).2 e0;exact⟨.slice (some ⟨b,j*(z+1),none⟩) (n -j) (c -j),sm _ _ _,fun h' hh=>⟨by simp only[YF,el.und,el.size,ZI,h1,ZQ,jz h' hh,hbo,cond_true,e2,cond_false,addr_add,v0f],ez h' (jz h' hh)⟩⟩
 exact⟨.slice (some ⟨b,j*(z+1),none⟩) (n -j) (c -j),sm _ _ _,fun h' hh=>⟨by simp only[YF,el.und,el.size,ZI,h1,ZQ,jz h' hh,hbo,v0N,Bool.and_self,cond_true,addr_add,v0f],ez h' (jz h' hh)⟩⟩
theorem Q6r {h:Hp} {e z n j c b:Nat} {cs:List Value} {bs:List Nat} (x:SlC e z h (.slice (some ⟨b,0,none⟩) n c) cs n bs) (hj:j<=n):Qck z h (.slice (some ⟨b,0,none⟩) j c) (cs.take (j*(z+1))) j:=by
 rcases x with⟨h1,_⟩| ⟨b',m,c',rest,h1,hb,hm,aj,rfl,hl,ik,hr⟩
 · cases h1
 cases h1;have hmul:j*(z+1)<=n*(z+1):=v05 _ hj;have:=Q7p (z:=z) (n:=j) (c:=c) (o:=0) hb (by rw[v0j];omega);rw[v0R,v2n (by omega)]at this;exact this
section
variable {E:Env} {fn:FuncId} {nt:Nat} {l:Kn} {h h0:Hp} {dr:Bool} {ops:Array Oper} {fin rest:List (Oper×List Oper)} {R:Kn->Hp->Prop} {lt:List Oper} {ds:List Nat} {L:List Res}
variable {d:Nat} {ty t:TypeId} {pos:String} {af:Array Edge} {gg:Option (Nat×Bool)} {x y:Operand} {v:Value}
theorem Qeb {e z by' m:Nat} {w:Value} {xs:List Value} (S:SH h0 ds L h) (el:ElN E t e z by') (g:Gd ops l gg) (hd:v0a d nt=true) (hx:evl l x=some (.slice none 0 0)) (hy:evl l y=some w) (hw:Qck z h w xs m) (hc:xs.all cellV=true)
 (hn:2*(m*(by'+1))+192*(by'+1)<=281474976710656) (ha: ∀s' aa h',SH h0 ds (slR e z s' xs m aa::L) h'-> ∀q,q∈lt->Again E ops ((d,s')::l) h' q)
 (q: ∀s' aa h',SH h0 ds (slR e z s' xs m aa::L) h'->WL E fn nt dr ops fin rest ((d,s')::l) h' R):
 WL E fn nt dr ops fin ((⟨some d,.call ⟨.builtin .append,#[x,y],#[t,t]⟩,ty,pos,af,gg⟩,lt)::rest) l h R:=by
 obtain⟨v',h',aa,q1,q2,q3,q4⟩:=Q4E el (.inl ⟨rfl,rfl,rfl,rfl⟩) hw hc (by rw[v0f];exact hn);rw[v1b,v0f]at q2;have S':=S.push (r:=slR e z v' xs m aa) q3.nil q2.toC q2.toC.lt (fun j hj=>(q4 j hj).resolve_left (by simp)) q2.nodup;exact Q1F g hd hx hy q1 (ha _ _ _ S') (q _ _ _ S')
theorem Q9O {e z by' m:Nat} {w:Value} {xs:List Value} (S:SH h0 ds L h) (el:ElN E t e z by') (g:Gd ops l gg) (hd:v0a d nt=true) (hx:evl l x=some (.slice none 0 0)) (hy:evl l y=some w) (hw:Qck z h w xs m) (hc:xs.all cellV=true)
 (hn:2*(m*(by'+1))+192*(by'+1)<=281474976710656) (ha: ∀s' aa h',Ext h h'->SH h0 ds (snR e z s' xs m aa::L) h'-> ∀q,q∈lt->Again E ops ((d,s')::l) h' q)
 (q: ∀s' aa h',Ext h h'->SH h0 ds (snR e z s' xs m aa::L) h'->WL E fn nt dr ops fin rest ((d,s')::l) h' R):
 WL E fn nt dr ops fin ((⟨some d,.call ⟨.builtin .append,#[x,y],#[t,t]⟩,ty,pos,af,gg⟩,lt)::rest) l h R:=by
 obtain⟨v',h',aa,q1,q2,q3,q4⟩:=Q4E el (.inl ⟨rfl,rfl,rfl,rfl⟩) hw hc (by rw[v0f];exact hn);rw[v1b,v0f]at q2;have S':=S.push (r:=snR e z v' xs m aa) q3.nil q2 q2.lt (fun j hj=>(q4 j hj).resolve_left (by simp)) q2.nodup;exact Q1F g hd hx hy q1 (ha _ _ _ q3.nil S') (q _ _ _ q3.nil S')
theorem Q9P {e z by' m n:Nat} {s w:Value} {cs xs:List Value} {bs:List Nat} (i:Nat) (S:SH h0 ds L h) (el:ElN E t e z by') (g:Gd ops l gg) (hd:v0a d nt=true) (hx:evl l x=some s) (hy:evl l y=some w) (hi:L[i]?=some (snR e z s cs n bs)) (hw:Qck z h w xs m) (hc:xs.all cellV=true)
 (hn:2*((n+m)*(by'+1))+192*(by'+1)<=281474976710656) (ha: ∀s' aa h',SH h0 ds (L.set i (snR e z s' (cs++xs) (n+m) aa)) h'-> ∀q,q∈lt->Again E ops ((d,s')::l) h' q)
 (q: ∀s' aa h',SH h0 ds (L.set i (snR e z s' (cs++xs) (n+m) aa)) h'->WL E fn nt dr ops fin rest ((d,s')::l) h' R):
 WL E fn nt dr ops fin ((⟨some d,.call ⟨.builtin .append,#[x,y],#[t,t]⟩,ty,pos,af,gg⟩,lt)::rest) l h R:=by
 obtain⟨v',h',aa,q1,q2,q3,q4⟩:=Q4E el (S.res i hi) hw hc hn;have S':=S.upd (r':=snR e z v' (cs++xs) (n+m) aa) i hi q3 q2 q2.lt q4 q2.nodup;exact Q1F g hd hx hy q1 (ha _ _ _ S') (q _ _ _ S')
theorem SH.toC {e z n:Nat} {s:Value} {cs:List Value} {bs:List Nat} (S:SH h0 ds L h) (i:Nat) (hi:L[i]?=some (snR e z s cs n bs)):SH h0 ds (L.set i (slR e z s cs n bs)) h:=
 S.upd (r':=slR e z s cs n bs) i hi (.refl _ _) (SlN.toC (S.res i hi)) (fun j hj=>S.lt j (QO (v0m hi) hj)) (fun j hj=>.inl hj) (SlN.nodup (S.res i hi))
end
section
variable {K:Type} [DecidableEq K]
structure MlOk (M:MsK K) (cl:Nat) (ks:List K) (sv:K->Value):Prop where
 ok:OkK M cl
 nd:ks.Nodup
 g: ∀k,Q3l M k=if k∈ks then some (sv k)else none
theorem MlOk.nil {sv:K->Value} (cl:Nat):MlOk ([]:MsK K) cl [] sv:=⟨OkK.nil cl,by simp,fun k=>by simp[Qdt]⟩
def upK {α:Type} (f:K->α) (k:K) (a:α):K->α:=fun k'=>if k'=k then a else f k'
theorem Yi {α:Type} {f:K->α} {k:K} {a:α}:upK f k a k=a:=if_pos rfl
theorem Zv {α:Type} {f:K->α} {k k':K} {a:α} (h:k'≠k):upK f k a k'=f k':=if_neg h
def Qb8 (ks:List K) (k:K):List K:=if k∈ks then ks else ks++[k]
theorem Q44 {ks:List K} {k k':K}:k'∈Qb8 ks k↔k'∈ks\/k'=k:=by
 unfold Qb8
 split
 · rename_i h;exact⟨.inl,fun e=>e.elim id fun e=>e▸h⟩
 simp
theorem MlOk.put {M:MsK K} {cl:Nat} {ks:List K} {sv:K->Value} (x:MlOk M cl ks sv) (k:K) (v:Value):MlOk (J9 M k v cl).1 (J9 M k v cl).2 (Qb8 ks k) (upK sv k v):=by
 refine⟨x.ok.put k v,?_,fun k'=>?_⟩
 · unfold Qb8
   split
   · exact x.nd
   rename_i h;rw[v0O]
   exact⟨x.nd,by simp,fun a ha b hb e=>by
    rw[v01.1 hb]at e
    exact h (e▸ha)⟩
 rw[Q1K,x.g];by_cases e:k'=k
 · subst e;rw[if_pos rfl,if_pos (Q44.2 (.inr rfl)),Yi]
 rw[if_neg e,Zv e];have:k'∈Qb8 ks k↔k'∈ks:=by rw[Q44];exact⟨fun h=>h.resolve_right e,.inl⟩
 simp only[this]
def mlF (e z:Nat) (sv:K->Value) (C:K->List Value) (N:K->Nat) (bs:K->List Nat) (k:K):Res:=slR e z (sv k) (C k) (N k) (bs k)
variable {h0 h:Hp} {ds:List Nat} {B:List Res} {R0:Res} {M:MsK K} {cl e z:Nat} {ks:List K} {sv:K->Value} {C:K->List Value} {N:K->Nat} {bs:K->List Nat}
theorem Q7U {K:Type} {f f':K->Res}: ∀(ks:List K) (p:Nat) {k:K},ks.Nodup->ks[p]?=some k->(∀k',k'≠k->f' k'=f k')->(ks.map f).set p (f' k)=ks.map f'
 | [],_,_,_,h,_=>by simp at h
 | x::ks,0,k,nd,h,hf=>by
   have h:x=k:=by simpa using h
   subst h;show f' x::ks.map f=f' x::ks.map f'
   congr 1
   refine v1p fun k' bh=>(hf k' fun e=>?_).symm;subst e;exact(v0W.1 nd).1 bh
 | x::ks,p+1,k,nd,h,hf=>by
   have h:ks[p]?=some k:=by simpa using h
   have nd':=v0W.1 nd;have:=Q7U (f:=f) (f':=f') ks p nd'.2 h hf;show f x::(ks.map f).set p (f' k)=f' x::ks.map f';rw[this,hf x fun e=>by subst e;exact nd'.1 (v0m h)]
theorem Qfx (S:SH h0 ds (R0::(ks.map (mlF e z sv C N bs)++B)) h) (x:MlOk M cl ks sv) (hC: ∀k,k∉ks->C k=[]/\N k=0) (k:K): ∃(v:Value) (b:List Nat) (Y:List Res),v=(Q3l M k).getD (.slice none 0 0)/\SH h0 ds (slR e z v (C k) (N k) b::R0::(Y++B)) h/\
 ∀(h1:Hp) (oF:List Nat) (R1:Res) (v':Value) (C':List Value) (N':Nat) (b':List Nat) (B':List Res) (h':Hp),SH h1 oF (slR e z v' C' N' b'::R1::(Y++B')) h'->SH h1 oF (R1::((Qb8 ks k).map (mlF e z (upK sv k v') (upK C k C') (upK N k N') (upK bs k b'))++B')) h':=by
 have hf: ∀v' C' N' b' k',k'≠k->mlF e z (upK sv k v') (upK C k C') (upK N k N') (upK bs k b') k'=mlF e z sv C N bs k':=fun v' C' N' b' k' hk=>by
  unfold mlF;rw[Zv hk,Zv hk,Zv hk,Zv hk]
 have hs: ∀v' C' N' b',mlF e z (upK sv k v') (upK C k C') (upK N k N') (upK bs k b') k=slR e z v' C' N' b':=fun v' C' N' b'=>by
  unfold mlF;rw[Yi,Yi,Yi,Yi]
 by_cases hk:k∈ks
 · obtain⟨p,hp,dj⟩:=v0J.1 hk;have dj:ks[p]?=some k:=by rw[v0c hp,dj]
   have eg:(ks.map (mlF e z sv C N bs))[p]?=some (mlF e z sv C N bs k):=by rw[v0y,dj];rfl
   have ei:Qb8 ks k=ks:=if_pos hk;refine⟨sv k,bs k,(ks.map (mlF e z sv C N bs)).eraseIdx p,by rw[x.g,if_pos hk];rfl,?_,fun h1 oF R1 v' C' N' b' B' h' S'=>?_⟩
   · have S1:=SH.outAt (l:=R0::ks.map (mlF e z sv C N bs)) (j:=p+1) S (by rw[v1r];exact eg);exact S1
   have S1:=SH.inAt (l:=R1::ks.map (mlF e z sv C N bs)) (j:=p+1) (x':=slR e z v' C' N' b') S' (by simp;exact hp);rw[List.set_cons_succ,<-hs v' C' N' b',Q7U ks p x.nd dj (hf v' C' N' b')]at S1;rw[ei];exact S1
 obtain⟨c1,c2⟩:=hC k hk;refine⟨.slice none 0 0,[],ks.map (mlF e z sv C N bs),by rw[x.g,if_neg hk];rfl,?_,fun h1 oF R1 v' C' N' b' B' h' S'=>?_⟩
 · rw[c1,c2];exact S.nilSl e z
 have ei:Qb8 ks k=ks++[k]:=if_neg hk;rw[ei,v0P,v0G,v1h,hs];have em:ks.map (mlF e z (upK sv k v') (upK C k C') (upK N k N') (upK bs k b'))=ks.map (mlF e z sv C N bs):=v1p fun k' bh=>hf v' C' N' b' k' fun e=>hk (e▸bh);rw[em];have S1:=SH.mid (A:=R1::ks.map (mlF e z sv C N bs)) (B:=B') S';rw[v0B];exact S1
end
theorem ZC {h:Hp} {l:Kn} {I:Nat->Kn->Hp->Prop} {n:Nat} {lc:Kn} {Q:Out->Kn->Hp->Prop} (m:Nat) (lv:Kn) (hm:m <n:=by omega) (s:Sub (lv++lc) l:=by repeat(first|exact trivial|refine⟨rfl,?_⟩)) (p:I m lv h):Rnd (fun n l h=> ∃lv,l=lv++lc/\I n lv h) n Q .next l h:=rndS m hm lv s p
theorem Zu {h:Hp} {l:Kn} {P:Kn->Hp->Prop} {lc:Kn} {Q:Out->Kn->Hp->Prop} (lv:Kn) (s:Sub (lv++lc) l:=by repeat(first|exact trivial|refine⟨rfl,?_⟩)) (p:P lv h):Cut (fun l' h'=> ∃lv,l'=lv++lc/\P lv h') Q .next l h:=cutS lv s p
theorem Ql {E:Env} {fn:FuncId} {nt:Nat} {l:Kn} {h:Hp} {b:Code} {Q:Out->Kn->Hp->Prop} (lv lc:Kn) (I:Nat->Kn->Hp->Prop) {n:Nat} (start:I n lv h) (round: ∀n lv h,I n lv h->W E fn nt b (lv++lc) h (Rnd (fun n l h=> ∃lv,l=lv++lc/\I n lv h) n Q)) (s:Sub (lv++lc) l:=by repeat(first|exact trivial|refine⟨rfl,?_⟩)):W E fn nt (.loop b) l h Q:=QeK lv lc s I start round
end Go.X
