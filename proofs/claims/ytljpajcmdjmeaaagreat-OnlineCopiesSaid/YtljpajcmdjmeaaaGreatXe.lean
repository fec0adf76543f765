/- The calculus of memory and steps, part Xe. Conditions: none. -/
import Derived.Test.YtljpajcmdjmeaaaGreatXd
open List renaming eq_nil_of_length_eq_zero → v1w, append_nil → v0k, nil_append → v1c, drop_zero → v0U, take_of_length_le → v1B, length_append → v0j, getElem?_eq_some_iff → v0y, ext_getElem? → v1f, getElem?_eq_getElem → v0c, getElem?_eq_none → v02, mem_append → v0x, mem_append_left → v1C, mem_singleton → v0X, mem_append_right → v2f, mem_of_getElem? → v0m, nodup_append → v0L, getElem?_map → v0D, eraseIdx_eq_take_drop_succ → v2r, perm_middle → v2e, take_append_of_le_length → v2d, map_congr_left → v1o, nodup_cons → v0R
open Nat renaming ble → v0n, zero_add → v0e, beq_refl → v0I, lt_of_lt_of_le → v0p, mul_le_mul_right → v1a, sub_mul → v1x
namespace Go.X
section
variable {e z:Nat} {h h':Hp} {s w:Value} {cs xs:List Value} {n m:Nat} {bs ds:List Nat}
theorem KB {E:Env} {t by':Nat} (x:ElN E t e z by') (hs:SlN e z h s cs n bs) (hw:QbJ z h w xs m) (hc:xs.all cellV=true) (hn:2*((n+m)*(by'+1))+192*(by'+1)<=281474976710656):
 ∃v' h' aa,Zd E h t t s w=some (v',h')/\SlN e z h' v' (cs++xs) (n+m) aa/\ExtB bs h h'/\ ∀i,i∈aa->i∈bs\/h.n<=i:=by
 obtain⟨hl,hf,hlen⟩:=hw;by_cases h0:m=0
 · subst h0;have e0:xs=[]:=v1w (by rw[hlen];simp);subst e0;have e3:Nat.beq 0 0=true:=rfl;rw[v0k];rcases hs with⟨rfl,rfl,rfl,rfl⟩| ⟨b,m,rfl,hb,hm,ai,rfl,fw⟩
   · exact⟨_,_,[],by simp only[Zd,x.und,hl,x.size,x.bytes,hf,e3,cond_true],.inl ⟨rfl,rfl,rfl,rfl⟩,.refl _ _,by simp⟩
   refine⟨.slice (some ⟨b,0,none⟩) n n,h,[b],?_,.inr ⟨b,m,rfl,hb,hm,ai,rfl,fw⟩,.refl _ _,by simp⟩;have e4:v0n n n=true:=(Qr _ _).2 (Nat.le_refl _);simp only[Zd,x.und,hl,x.size,x.bytes,hf,e3,cond_true,ZP,hb,e4]
 have e3:Nat.beq m 0=false:=(Qw _ _).2 h0;rcases hs with⟨rfl,rfl,rfl,rfl⟩| ⟨b,m',rfl,hb,hm,ai,rfl,fw⟩
 · refine⟨.slice (some ⟨h.n,0,none⟩) m m,h.alloc (.cells ([]++xs) e (z+3)),[h.n],?_,.inr ⟨h.n,z+3,by rw[v0e],Hp.get_alloc_self _ _,.inr rfl,by rw[Hp.n_alloc];omega,rfl,by rw[v1c,hlen];congr 1;omega⟩,(Ext.alloc h _).b _,by simp⟩;simp only[Zd,x.und,hl,x.size,x.bytes,hf,e3,cond_false];exact x.growX2 h m [] xs (by rw[v0e]at hn;exact hn)
 have e1:v0n (n+m) n=false:=by
  cases hc:v0n (n+m) n with
  |false=>rfl
  |true=>have:=(Qr _ _).1 hc;omega
 have e2:v0n (0+n*(z+1)) cs.length=true:=(Qr _ _).2 (by omega)
 have aq:rowOf h ⟨b,0,none⟩ (n*(z+1))=some cs:=by
  simp only[rowOf,hb,e2,cond_true,v0U];rw[v1B (by omega)]
 have aR:(cs++xs).length=(n+m)*(z+1):=by rw[v0j,fw,hlen,Nat.add_mul]
 rcases hm with rfl|rfl
 · refine⟨_,_,[h.n],?_,.inr ⟨h.n,z+3,rfl,Hp.get_alloc_self _ _,.inr rfl,by rw[Hp.n_alloc];omega,rfl,aR⟩,(Ext.alloc h _).b _,by simp⟩;simp only[Zd,x.und,hl,x.size,x.bytes,hf,e3,cond_false,e1,aq,hb,hc,cond_true];exact x.growX2 h (n+m) cs xs hn
 refine⟨.slice (some ⟨h.n,0,none⟩) (n+m) (n+m),(h.put b .dead).alloc (.cells (cs++xs) e (z+3)),[h.n],?_,.inr ⟨h.n,z+3,rfl,?_,.inr rfl,by rw[Hp.n_alloc,Hp.n_put];omega,rfl,aR⟩,(ExtB.put h b .dead).trans ((Ext.alloc _ _).b _),by simp⟩
 · simp only[Zd,x.und,hl,x.size,x.bytes,hf,e3,cond_false,e1,aq,hb,hc,cond_true];have:=x.growX2 (h.put b .dead) (n+m) cs xs hn;rw[Hp.n_put]at this;simpa[v0I]using this
 rw[Hp.get_alloc,Hp.n_put,if_pos rfl]
theorem RowV.src (R:RowV h s xs):QbJ 0 h s xs xs.length:=by
 rcases R with⟨rfl,a,c,rfl⟩| ⟨b,o,c,cs,e',m,rfl,hg,ai,aP⟩
 · refine⟨rfl,?_,by simp⟩;cases a<;>rfl
 by_cases h0:xs.length=0
 · have:xs=[]:=v1w h0;subst this;exact⟨rfl,rfl,by simp⟩
 have hl:o+xs.length<=cs.length:=by
  have:=aP (xs.length -1) (by omega);have:=(v0y.1 this).1;omega
 have q:=Q7k (z:=0) (n:=xs.length) (c:=c) hg (by simpa using hl)
 have ex:(cs.drop o).take (xs.length*(0+1))=xs:=by
  apply v1f;intro j;rw[v0e,Nat.mul_one];by_cases hj:j <xs.length
  · rw[List.getElem?_take_of_lt hj,List.getElem?_drop,aP j hj,v0c hj]
  rw[v02 (by rw[List.length_take];omega),v02 (by omega)]
 rw[ex]at q;exact q
end
section
variable {E:Env} {fn:FuncId} {nt:Nat} {l:Kn} {h h0:Hp} {dr:Bool} {ops:Array Oper} {fin rest:List (Oper×List Oper)} {R:Kn->Hp->Prop} {lt:List Oper} {ds:List Nat} {L:List Res}
variable {d:Nat} {ty t:TypeId} {pos:String} {af:Array Edge} {gg:Option (Nat×Bool)} {x y:Operand} {v:Value}
theorem Qc2 {b o n:Nat} {cs cs':List Value} {vs:Array Value} {e:TypeId} {m:Nat} (i:Nat) (S:SH h0 ds L h) (g:Gd ops l gg) (hx:evl l x=some (.pointer (some ⟨b,o,none⟩))) (hy:evl l y=some (.agg vs)) (hc:vs.toList.all cellV=true) (ht:E.size t=some n) (hn:vs.size=n)
 (hg:L[i]?=some (cR b (.cells cs e m))) (hm:m≠1) (hv:o+n<=cs.length) (bS:cs.take o++vs.toList++cs.drop (o+n)=cs') (ha: ∀h',SH h0 ds (L.set i (cR b (.cells cs' e m))) h'-> ∀q,q∈lt->Again E ops l h' q)
 (q: ∀h',SH h0 ds (L.set i (cR b (.cells cs' e m))) h'->WL E fn nt dr ops fin rest l h' R):
 WL E fn nt dr ops fin ((⟨none,.store t x y,ty,pos,af,gg⟩,lt)::rest) l h R:=by
 subst bS;exact Qch g hx hy hc ht hn (S.cel i hg) hm hv (ha _ (S.put i hg _)) (q _ (S.put i hg _))
theorem ag_add {aI:TypeId} {a b:Int} (g:Gd ops l gg) (hx:evl l x=some (.int .i64 a)) (hy:evl l y=some (.int .i64 b)) (h1: -9223372036854775808<=a+b) (h2:a+b <9223372036854775808) (hl:lk l d=some (.int .i64 (a+b))):
 Again E ops l h ⟨some d,.binOp .add t x y aI,ty,pos,af,gg⟩:=QfT g hx hy rfl (by simp only[Y4,QQ,ZW];rw[wrap64 h1 h2]) hl Kr
end
def Q3r (Q:List Res->Prop) (bs:List Nat):Res:=⟨bs,fun h=> ∃L,Q L/\owns L=bs/\ ∀r,r∈L->r.P h,fun h h' k hn p=>by
 obtain⟨L,h1,h2,h3⟩:=p
 exact⟨L,h1,h2,fun r hr=>r.st h h' (fun i hi=>k i (by rw[<-h2];exact QK hr hi)) hn (h3 r hr)⟩⟩
section
variable {h0 h h':Hp} {ds bs:List Nat} {A L:List Res} {Q:List Res->Prop} {E:Env}
theorem Q0u (S:SH h0 ds (A++[Q3r Q bs]) h): ∃L,Q L/\owns L=bs/\SH h0 ds (A++L) h:=by
 obtain⟨L,h1,h2,h3⟩:=S.hold (Q3r Q bs) (by simp)
 have e:owns (A++L)=owns (A++[Q3r Q bs]):=by
  rw[QN,QN,h2];simp[owns,Q3r]
 refine⟨L,h1,h2,S.ext,fun r hr=>?_,by rw[e];exact S.lt,by rw[e];exact S.new,by rw[e];exact S.nd⟩;rcases v0x.1 hr with hr|hr
 · exact S.hold r (v1C _ hr)
 exact h3 r hr
theorem Jg (S:SH h0 ds (A++L) h) (hq:Q L):SH h0 ds (A++[Q3r Q (owns L)]) h:=by
 have e:owns (A++[Q3r Q (owns L)])=owns (A++L):=by
  rw[QN,QN];simp[owns,Q3r]
 refine⟨S.ext,fun r hr=>?_,by rw[e];exact S.lt,by rw[e];exact S.new,by rw[e];exact S.nd⟩;rcases v0x.1 hr with hr|hr
 · exact S.hold r (v1C _ hr)
 rw[v0X.1 hr];exact⟨L,hq,rfl,fun r hr=>S.hold r (v2f _ hr)⟩
variable {K α:Type} [DecidableEq K] {key:K->Value} {enc:α->Value} {F G:K->Option α} {r:Nat}
theorem Q9i {e z n c b:Nat} {cs:List Value} {bs:List Nat} (x:SlC e z h (.slice (some ⟨b,0,none⟩) n c) cs n bs): ∃vs m,h.get b=some (.cells vs e m)/\(m=0\/m=z+3)/\n<=c:=by
 rcases x with⟨h1,_⟩| ⟨b',m,c',r,h1,h2,h3,h4,h5,h6,h7,h8⟩
 · cases h1
 cases h1;exact⟨_,m,h2,h3,h7⟩
theorem Q4S {e z n c b:Nat} {cs:List Value} {bs:List Nat} (x:SlC e z h (.slice (some ⟨b,0,none⟩) n c) cs n bs): ∃rest m,h.get b=some (.cells (cs++rest) e m):=by
 rcases x with⟨h1,_⟩| ⟨b',m,c',r,h1,h2,_⟩
 · cases h1
 cases h1;exact⟨r,m,h2⟩
theorem sl_open {e z n i:Nat} {s:Value} {cs:List Value} (S:SH h0 ds L h) (i:Nat) (hi:L[i]?=some (slR e z s cs n bs)) (hn:0 <n):
 ∃b m c rest,s=.slice (some ⟨b,0,none⟩) n c/\bs=[b]/\(m=0\/m=z+3)/\cs.length=n*(z+1)/\n<=c/\rest.length=(c -n)*(z+1)/\SH h0 ds (L.set i (cR b (.cells (cs++rest) e m))) h:=by
 have hl:=fun j hj=>S.lt j (QK (v0m hi) hj);rcases S.sl i hi with⟨_,_,h3,_⟩| ⟨b,m,c,rest,h1,h2,h3,h4,rfl,h5,h6,h7⟩
 · omega
 exact⟨b,m,c,rest,h1,rfl,h3,h5,h6,h7,S.upd i hi (.refl _ _) h2 hl (fun j hj=>.inl hj) (by simp[cR])⟩
theorem Q03 {e z n:Nat} {s:Value} {cs:List Value} {bs:List Nat} (x:SlC e z h s cs n bs) (hn:0 <n): ∃b c,s=.slice (some ⟨b,0,none⟩) n c/\bs=[b]/\cs.length=n*(z+1):=by
 rcases x with⟨_,_,h3,_⟩| ⟨b,m,c,rest,h1,h2,h3,h4,h5,h6,_⟩
 · omega
 exact⟨b,c,h1,h5,h6⟩
end
section
variable {E:Env} {fn:FuncId} {nt:Nat} {l:Kn} {h h0:Hp} {dr:Bool} {ops:Array Oper} {fin rest:List (Oper×List Oper)} {R:Kn->Hp->Prop} {lt:List Oper} {ds:List Nat} {L:List Res}
variable {ty t:TypeId} {pos:String} {af:Array Edge} {gg:Option (Nat×Bool)} {x y:Operand} {v:Value}
theorem Zm {b c n e z o:Nat} {s:Value} {cs:List Value} {bs:List Nat} (k:Nat) (S:SH h0 ds L h) (g:Gd ops l gg) (hx:evl l x=some (.pointer (some ⟨b,o,none⟩))) (hy:evl l y=some v) (hc:cellV v=true) (ht:E.size t=some 1)
 (hi:L[k]?=some (slR e z s cs n bs)) (hs:s=.slice (some ⟨b,0,none⟩) n c) (hv:o <cs.length) (ha: ∀h',SH h0 ds (L.set k (slR e z s (cs.set o v) n bs)) h'-> ∀q,q∈lt->Again E ops l h' q)
 (q: ∀h',SH h0 ds (L.set k (slR e z s (cs.set o v) n bs)) h'->WL E fn nt dr ops fin rest l h' R):WL E fn nt dr ops fin ((⟨none,.store t x y,ty,pos,af,gg⟩,lt)::rest) l h R:=by
 subst hs;rcases S.sl k hi with⟨h1,_⟩| ⟨b',m,c',r,h1,h2,h3,h4,rfl,h5,h6,h7⟩
 · cases h1
 cases h1;have e1:(cs++r).set o v=cs.set o v++r:=List.set_append_left _ _ hv
 have S':SH h0 ds (L.set k (slR e z (.slice (some ⟨b,0,none⟩) n c) (cs.set o v) n [b])) (h.put b (.cells ((cs++r).set o v) e m)):=
  S.upd k hi (ExtB.put h b _) (.inr ⟨b,m,c,r,rfl,by rw[Hp.get_put_self,e1],h3,by rw[Hp.n_put];omega,rfl,by rw[List.length_set];exact h5,h6,h7⟩) (fun j hj=>by simp only[slR,v0X]at hj;subst hj;rw[Hp.n_put];omega) (fun j hj=>.inl hj) (by simp[slR])
 exact Q6p g hx hy hc ht h2 (by omega) (by rw[v0j];omega) (ha _ S') (q _ S')
end
section
variable {h0 h g g1 g2:Hp} {ds bs:List Nat} {L L0 A A' B l:List Res} {r x x':Res} {j:Nat} {Q:List Res->Prop}
theorem SH.own0L (S0:SH h0 [] A g): ∀k,k∈owns A->h0.n<=k:=fun k hk=>(S0.new k hk).elim (fun h=>by cases h) id
theorem SH.enterL (S0:SH h0 [] A g):SH g (owns A) A g:=SH.begin S0.hold S0.lt S0.nd
theorem SH.fst (S:SH h0 ds (A++B) h):SH h0 ds A h:=S.sub (B:=B) (.refl _)
theorem SH.subL (S0:SH h0 [] L0 g) (hd: ∀k,k∈ds->h0.n<=k) (S:SH g ds (A++B) g1):SH h0 [] A g1:=by
 have S':=S.fst;refine⟨(S0.all0 hd S').b [],S'.hold,S'.lt,fun k hk=>?_,S'.nd⟩;rcases S'.new k hk with h|h
 · exact .inr (hd k h)
 exact .inr (Nat.le_trans S0.ext.n h)
theorem SH.retL (S:SH g ds (A++B) g1) (S2:SH g1 (owns A) A' g2):SH g ds (A'++B) g2:=by
 have lC:=S.nd;rw[QN,v0L]at lC;obtain⟨na,nb,ab⟩:=lC;have eW:=S.lt;have db:=S.new;simp only[QN,v0x]at eW db;refine⟨S.ext.join S2.ext fun k hk=>db k (.inl hk),fun q hq=>?_,fun k hk=>?_,fun k hk=>?_,?_⟩
 · rcases v0x.1 hq with hq|hq
   · exact S2.hold q hq
   refine q.st g1 g2 (fun i hi=>?_) S2.ext.n (S.hold q (v2f _ hq));have hiB:=QK hq hi;exact⟨eW i (.inr hiB),S2.ext.get i (eW i (.inr hiB)) fun hA=>ab i hA i hiB rfl⟩
 · rw[QN]at hk;rcases v0x.1 hk with hk|hk
   · exact S2.lt k hk
   exact v0p (eW k (.inr hk)) S2.ext.n
 · rw[QN]at hk;rcases v0x.1 hk with hk|hk
   · rcases S2.new k hk with h|h
     · exact db k (.inl h)
     exact .inr (Nat.le_trans S.ext.n h)
   exact db k (.inr hk)
 rw[QN,v0L];refine⟨S2.nd,nb,fun a ha b hb e=>?_⟩;subst e;rcases S2.new a ha with h|h
 · exact ab a h a hb rfl
 have:=eW a (.inr hb);omega
theorem SH.subL0 (S0:SH h0 [] L0 g) (hd: ∀k,k∈ds->h0.n<=k) (S:SH g ds A g1):SH h0 [] A g1:=SH.subL (B:=[]) S0 hd (by rw[v0k];exact S)
theorem SH.retL0 (S:SH g ds A g1) (S2:SH g1 (owns A) A' g2):SH g ds A' g2:=by
 have:=SH.retL (B:=[]) (by rw[v0k];exact S) S2;rwa[v0k]at this
theorem SH.ordr (S:SH h0 ds L h) (js:List Nat) (n:Nat) (hn:n=L.length) (hp:js.Perm (List.range n)):SH h0 ds (js.map fun i=>L.getD i (cR 0 (.cells [] 0 0))) h:=by
 refine S.sub (B:=[]) ?_;rw[v0k]
 have e:(List.range n).map (fun i=>L.getD i (cR 0 (.cells [] 0 0)))=L:=by
  subst hn;refine v1f fun i=>?_;rw[v0D];by_cases hi:i <L.length
  · rw[List.getElem?_range hi,v0c hi];simp[List.getD_eq_getElem?_getD,hi]
  rw[v02 (by simpa using hi),v02 (by omega)];rfl
 have:=hp.map fun i=>L.getD i (cR 0 (.cells [] 0 0));rwa[e]at this
theorem Q2G (S:SH h0 ds (Q3r Q bs::B) h): ∃L,Q L/\owns L=bs/\SH h0 ds (L++B) h:=by
 obtain⟨L,h1,h2,h3⟩:=S.hold (Q3r Q bs) (by simp)
 have e:owns (L++B)=owns (Q3r Q bs::B):=by
  rw[QN,Z2,h2];rfl
 refine⟨L,h1,h2,S.ext,fun r hr=>?_,by rw[e];exact S.lt,by rw[e];exact S.new,by rw[e];exact S.nd⟩;rcases v0x.1 hr with hr|hr
 · exact h3 r hr
 exact S.hold r (List.mem_cons_of_mem _ hr)
theorem Kj (S:SH h0 ds (L++B) h) (hq:Q L):SH h0 ds (Q3r Q (owns L)::B) h:=by
 have e:owns (Q3r Q (owns L)::B)=owns (L++B):=by
  rw[QN,Z2];rfl
 refine⟨S.ext,fun r hr=>?_,by rw[e];exact S.lt,by rw[e];exact S.new,by rw[e];exact S.nd⟩;rcases List.mem_cons.1 hr with rfl|hr
 · exact⟨L,hq,rfl,fun r hr=>S.hold r (v1C _ hr)⟩
 exact S.hold r (v2f _ hr)
theorem SH.outAt (S:SH h0 ds (l++B) h) (e:l[j]?=some x):SH h0 ds (x::(l.eraseIdx j++B)) h:=by
 refine S.sub (B:=[]) ?_;rw[v0k];obtain⟨hj,rfl⟩:=v0y.1 e;have e1:l=l.take j++l[j]::l.drop (j+1):=by rw[<-List.drop_eq_getElem_cons hj,List.take_append_drop]
 have e2:l.eraseIdx j=l.take j++l.drop (j+1):=v2r ..;rw[e2]
 have:(l[j]::(l.take j++l.drop (j+1))).Perm l:=by
  conv=>rhs;rw[e1]
  exact v2e.symm
 exact this.append_right B
theorem SH.inAt (S:SH h0 ds (x'::(l.eraseIdx j++B)) h) (hj:j <l.length):SH h0 ds (l.set j x'++B) h:=by
 refine S.sub (B:=[]) ?_;rw[v0k];have e2:l.eraseIdx j=l.take j++l.drop (j+1):=v2r ..;have e3:l.set j x'=l.take j++x'::l.drop (j+1):=by rw[List.set_eq_take_append_cons_drop,if_pos hj]
 rw[e2,e3];have:(l.take j++x'::l.drop (j+1)).Perm (x'::(l.take j++l.drop (j+1))):=v2e;exact this.append_right B
theorem SH.mid (S:SH h0 ds (x::(A++B)) h):SH h0 ds (A++x::B) h:=by
 refine S.sub (B:=[]) ?_;rw[v0k];exact v2e
theorem SH.unmid (S:SH h0 ds (A++x::B) h):SH h0 ds (x::(A++B)) h:=by
 refine S.sub (B:=[]) ?_;rw[v0k];exact v2e.symm
theorem SH.comm (S:SH h0 ds (A++B) h):SH h0 ds (B++A) h:=by
 refine S.sub (B:=[]) ?_;rw[v0k];exact List.perm_append_comm
end
def Held (r:Res) (h:Hp):Prop:=r.P h/\ ∀i,i∈r.own->i <h.n
theorem SH.held {h0 h:Hp} {ds:List Nat} {L:List Res} {r:Res} (S:SH h0 ds L h) (i:Nat) (e:L[i]?=some r):Held r h:=⟨S.res i e,fun j hj=>S.lt j (QK (v0m e) hj)⟩
theorem Held.ext {r:Res} {h h':Hp} (x:Held r h) (g:Ext h h'):Held r h':=⟨r.st h h' (fun i hi=>⟨x.2 i hi,g.get i (x.2 i hi)⟩) g.n x.1,fun i hi=>v0p (x.2 i hi) g.n⟩
theorem Q8g {E:Env} {h:Hp} {t e z by' n j:Nat} {s:Value} {cs:List Value} {bs:List Nat} (el:ElN E t e z by') (x:SlC e z h s cs n bs) (hj:j<=n):
 ∃v,sameV 20 v v=true/\ ∀h':Hp,(∀i,i∈bs->h'.get i=h.get i)->YF E h' t s (some (.int .i64 (j:Nat))) none none=some v/\QbJ z h' v (cs.drop (j*(z+1))) (n -j):=by
 have h1:JJ (.int .i64 (j:Nat))=some j:=by
  have:=Yi (k:=.i64) (j:=(j:Int)) (by omega);simpa using this
 have sm: ∀(a:Option Addr) (n c:Nat),sameV 20 (.slice a n c) (.slice a n c)=true:=fun a n c=>by cases a<;>simp[sameV]
 rcases x with⟨rfl,rfl,rfl,rfl⟩| ⟨b,m,c,rest,rfl,hb,hm,ai,rfl,hl,ib,hr⟩
 · obtain rfl:j=0:=by omega
   exact⟨.slice none 0 0,sm _ _ _,fun h' _=>⟨by simp only[YF,el.und,el.size,ZG,h1],rfl,by rw[List.drop_nil];rfl,by simp⟩⟩
 have hbo:Yg j n c=true:=ZR.2 ⟨hj,ib⟩;have hmul:j*(z+1)<=n*(z+1):=v1a _ hj
 have bL: ∀h':Hp,h'.get b=some (.cells (cs++rest) e m)->QbJ z h' (.slice (some ⟨b,j*(z+1),none⟩) (n -j) (c -j)) (cs.drop (j*(z+1))) (n -j):=fun h' hg=>by
  have:=Q7k (z:=z) (n:=n -j) (c:=c -j) (o:=j*(z+1)) hg (by rw[v0j,v1x];omega);rw[List.drop_append_of_le_length (by omega),v2d (by rw[List.length_drop,hl,v1x];omega),v1B (by rw[List.length_drop,hl,v1x];omega)]at this;exact this
 have jy: ∀h':Hp,(∀i,i∈[b]->h'.get i=h.get i)->h'.get b=some (.cells (cs++rest) e m):=fun h' hh=>(hh b (by simp)).trans hb;rcases hm with rfl|rfl
 · by_cases e0:c=j
   · subst e0;obtain rfl:n=c:=by omega
     refine⟨.slice (some ⟨b,0,none⟩) (n -n) (n -n),sm _ _ _,fun h' hh=>⟨by simp only[YF,el.und,el.size,ZG,h1,ZP,jy h' hh,hbo,cond_true,v0I],?_⟩⟩;rw[Nat.sub_self,List.drop_eq_nil_of_le (by omega)];exact⟨rfl,rfl,by simp⟩
   have e2:Nat.beq c j=false:=(Qw _ _).2 e0;exact⟨.slice (some ⟨b,j*(z+1),none⟩) (n -j) (c -j),sm _ _ _,fun h' hh=>⟨by simp only[YF,el.und,el.size,ZG,h1,ZP,jy h' hh,hbo,cond_true,e2,cond_false,addr_add,v0e],bL h' (jy h' hh)⟩⟩
 exact⟨.slice (some ⟨b,j*(z+1),none⟩) (n -j) (c -j),sm _ _ _,fun h' hh=>⟨by simp only[YF,el.und,el.size,ZG,h1,ZP,jy h' hh,hbo,v0I,Bool.and_self,cond_true,addr_add,v0e],bL h' (jy h' hh)⟩⟩
theorem Q6b {h:Hp} {e z n j c b:Nat} {cs:List Value} {bs:List Nat} (x:SlC e z h (.slice (some ⟨b,0,none⟩) n c) cs n bs) (hj:j<=n):QbJ z h (.slice (some ⟨b,0,none⟩) j c) (cs.take (j*(z+1))) j:=by
 rcases x with⟨h1,_⟩| ⟨b',m,c',rest,h1,hb,hm,ai,rfl,hl,ib,hr⟩
 · cases h1
 cases h1;have hmul:j*(z+1)<=n*(z+1):=v1a _ hj;have:=Q7k (z:=z) (n:=j) (c:=c) (o:=0) hb (by rw[v0j];omega);rw[v0U,v2d (by omega)]at this;exact this
section
variable {E:Env} {fn:FuncId} {nt:Nat} {l:Kn} {h h0:Hp} {dr:Bool} {ops:Array Oper} {fin rest:List (Oper×List Oper)} {R:Kn->Hp->Prop} {lt:List Oper} {ds:List Nat} {L:List Res}
variable {d:Nat} {ty t:TypeId} {pos:String} {af:Array Edge} {gg:Option (Nat×Bool)} {x y:Operand} {v:Value}
theorem Qdq {e z by' m:Nat} {w:Value} {xs:List Value} (S:SH h0 ds L h) (el:ElN E t e z by') (g:Gd ops l gg) (hd:Nat.blt d nt=true) (hx:evl l x=some (.slice none 0 0)) (hy:evl l y=some w) (hw:QbJ z h w xs m) (hc:xs.all cellV=true)
 (hn:2*(m*(by'+1))+192*(by'+1)<=281474976710656) (ha: ∀s' aa h',SH h0 ds (slR e z s' xs m aa::L) h'-> ∀q,q∈lt->Again E ops ((d,s')::l) h' q)
 (q: ∀s' aa h',SH h0 ds (slR e z s' xs m aa::L) h'->WL E fn nt dr ops fin rest ((d,s')::l) h' R):
 WL E fn nt dr ops fin ((⟨some d,.call ⟨.builtin .append,#[x,y],#[t,t]⟩,ty,pos,af,gg⟩,lt)::rest) l h R:=by
 obtain⟨v',h',aa,q1,q2,q3,q4⟩:=KB el (.inl ⟨rfl,rfl,rfl,rfl⟩) hw hc (by rw[v0e];exact hn);rw[v1c,v0e]at q2;have S':=S.push (r:=slR e z v' xs m aa) q3.nil q2.toC q2.toC.lt (fun j hj=>(q4 j hj).resolve_left (by simp)) q2.nodup;exact YS g hd hx hy q1 (ha _ _ _ S') (q _ _ _ S')
theorem Q9o {e z by' m:Nat} {w:Value} {xs:List Value} (S:SH h0 ds L h) (el:ElN E t e z by') (g:Gd ops l gg) (hd:Nat.blt d nt=true) (hx:evl l x=some (.slice none 0 0)) (hy:evl l y=some w) (hw:QbJ z h w xs m) (hc:xs.all cellV=true)
 (hn:2*(m*(by'+1))+192*(by'+1)<=281474976710656) (ha: ∀s' aa h',Ext h h'->SH h0 ds (snR e z s' xs m aa::L) h'-> ∀q,q∈lt->Again E ops ((d,s')::l) h' q)
 (q: ∀s' aa h',Ext h h'->SH h0 ds (snR e z s' xs m aa::L) h'->WL E fn nt dr ops fin rest ((d,s')::l) h' R):
 WL E fn nt dr ops fin ((⟨some d,.call ⟨.builtin .append,#[x,y],#[t,t]⟩,ty,pos,af,gg⟩,lt)::rest) l h R:=by
 obtain⟨v',h',aa,q1,q2,q3,q4⟩:=KB el (.inl ⟨rfl,rfl,rfl,rfl⟩) hw hc (by rw[v0e];exact hn);rw[v1c,v0e]at q2;have S':=S.push (r:=snR e z v' xs m aa) q3.nil q2 q2.lt (fun j hj=>(q4 j hj).resolve_left (by simp)) q2.nodup;exact YS g hd hx hy q1 (ha _ _ _ q3.nil S') (q _ _ _ q3.nil S')
theorem Q9p {e z by' m n:Nat} {s w:Value} {cs xs:List Value} {bs:List Nat} (i:Nat) (S:SH h0 ds L h) (el:ElN E t e z by') (g:Gd ops l gg) (hd:Nat.blt d nt=true) (hx:evl l x=some s) (hy:evl l y=some w) (hi:L[i]?=some (snR e z s cs n bs)) (hw:QbJ z h w xs m) (hc:xs.all cellV=true)
 (hn:2*((n+m)*(by'+1))+192*(by'+1)<=281474976710656) (ha: ∀s' aa h',SH h0 ds (L.set i (snR e z s' (cs++xs) (n+m) aa)) h'-> ∀q,q∈lt->Again E ops ((d,s')::l) h' q)
 (q: ∀s' aa h',SH h0 ds (L.set i (snR e z s' (cs++xs) (n+m) aa)) h'->WL E fn nt dr ops fin rest ((d,s')::l) h' R):
 WL E fn nt dr ops fin ((⟨some d,.call ⟨.builtin .append,#[x,y],#[t,t]⟩,ty,pos,af,gg⟩,lt)::rest) l h R:=by
 obtain⟨v',h',aa,q1,q2,q3,q4⟩:=KB el (S.res i hi) hw hc hn;have S':=S.upd (r':=snR e z v' (cs++xs) (n+m) aa) i hi q3 q2 q2.lt q4 q2.nodup;exact YS g hd hx hy q1 (ha _ _ _ S') (q _ _ _ S')
theorem SH.toC {e z n:Nat} {s:Value} {cs:List Value} {bs:List Nat} (S:SH h0 ds L h) (i:Nat) (hi:L[i]?=some (snR e z s cs n bs)):SH h0 ds (L.set i (slR e z s cs n bs)) h:=
 S.upd (r':=slR e z s cs n bs) i hi (.refl _ _) (SlN.toC (S.res i hi)) (fun j hj=>S.lt j (QK (v0m hi) hj)) (fun j hj=>.inl hj) (SlN.nodup (S.res i hi))
end
section
variable {K:Type} [DecidableEq K]
structure MlOk (M:MsK K) (cl:Nat) (ks:List K) (sv:K->Value):Prop where
 ok:OkK M cl
 nd:ks.Nodup
 g: ∀k,Jt M k=if k∈ks then some (sv k)else none
theorem MlOk.nil {sv:K->Value} (cl:Nat):MlOk ([]:MsK K) cl [] sv:=⟨OkK.nil cl,by simp,fun k=>by simp[Q1F]⟩
def upK {α:Type} (f:K->α) (k:K) (a:α):K->α:=fun k'=>if k'=k then a else f k'
theorem Zz {α:Type} {f:K->α} {k:K} {a:α}:upK f k a k=a:=if_pos rfl
theorem Z1 {α:Type} {f:K->α} {k k':K} {a:α} (h:k'≠k):upK f k a k'=f k':=if_neg h
def Qaw (ks:List K) (k:K):List K:=if k∈ks then ks else ks++[k]
theorem Q3W {ks:List K} {k k':K}:k'∈Qaw ks k↔k'∈ks\/k'=k:=by
 unfold Qaw
 split
 · rename_i h;exact⟨.inl,fun e=>e.elim id fun e=>e▸h⟩
 simp
theorem MlOk.put {M:MsK K} {cl:Nat} {ks:List K} {sv:K->Value} (x:MlOk M cl ks sv) (k:K) (v:Value):MlOk (J7 M k v cl).1 (J7 M k v cl).2 (Qaw ks k) (upK sv k v):=by
 refine⟨x.ok.put k v,?_,fun k'=>?_⟩
 · unfold Qaw
   split
   · exact x.nd
   rename_i h;rw[v0L]
   exact⟨x.nd,by simp,fun a ha b hb e=>by
    rw[v0X.1 hb]at e
    exact h (e▸ha)⟩
 rw[Kw,x.g];by_cases e:k'=k
 · subst e;rw[if_pos rfl,if_pos (Q3W.2 (.inr rfl)),Zz]
 rw[if_neg e,Z1 e];have:k'∈Qaw ks k↔k'∈ks:=by rw[Q3W];exact⟨fun h=>h.resolve_right e,.inl⟩
 simp only[this]
def mlF (e z:Nat) (sv:K->Value) (C:K->List Value) (N:K->Nat) (bs:K->List Nat) (k:K):Res:=slR e z (sv k) (C k) (N k) (bs k)
variable {h0 h:Hp} {ds:List Nat} {B:List Res} {R0:Res} {M:MsK K} {cl e z:Nat} {ks:List K} {sv:K->Value} {C:K->List Value} {N:K->Nat} {bs:K->List Nat}
theorem Q7M {K:Type} {f f':K->Res}: ∀(ks:List K) (p:Nat) {k:K},ks.Nodup->ks[p]?=some k->(∀k',k'≠k->f' k'=f k')->(ks.map f).set p (f' k)=ks.map f'
 | [],_,_,_,h,_=>by simp at h
 | x::ks,0,k,nd,h,hf=>by
   have h:x=k:=by simpa using h
   subst h;show f' x::ks.map f=f' x::ks.map f'
   congr 1
   refine v1o fun k' bc=>(hf k' fun e=>?_).symm;subst e;exact(v0R.1 nd).1 bc
 | x::ks,p+1,k,nd,h,hf=>by
   have h:ks[p]?=some k:=by simpa using h
   have nd':=v0R.1 nd;have:=Q7M (f:=f) (f':=f') ks p nd'.2 h hf;show f x::(ks.map f).set p (f' k)=f' x::ks.map f';rw[this,hf x fun e=>by subst e;exact nd'.1 (v0m h)]
theorem QeI (S:SH h0 ds (R0::(ks.map (mlF e z sv C N bs)++B)) h) (x:MlOk M cl ks sv) (hC: ∀k,k∉ks->C k=[]/\N k=0) (k:K): ∃(v:Value) (b:List Nat) (Y:List Res),v=(Jt M k).getD (.slice none 0 0)/\SH h0 ds (slR e z v (C k) (N k) b::R0::(Y++B)) h/\
 ∀(h1:Hp) (oB:List Nat) (R1:Res) (v':Value) (C':List Value) (N':Nat) (b':List Nat) (B':List Res) (h':Hp),SH h1 oB (slR e z v' C' N' b'::R1::(Y++B')) h'->SH h1 oB (R1::((Qaw ks k).map (mlF e z (upK sv k v') (upK C k C') (upK N k N') (upK bs k b'))++B')) h':=by
 have hf: ∀v' C' N' b' k',k'≠k->mlF e z (upK sv k v') (upK C k C') (upK N k N') (upK bs k b') k'=mlF e z sv C N bs k':=fun v' C' N' b' k' hk=>by
  unfold mlF;rw[Z1 hk,Z1 hk,Z1 hk,Z1 hk]
 have hs: ∀v' C' N' b',mlF e z (upK sv k v') (upK C k C') (upK N k N') (upK bs k b') k=slR e z v' C' N' b':=fun v' C' N' b'=>by
  unfold mlF;rw[Zz,Zz,Zz,Zz]
 by_cases hk:k∈ks
 · obtain⟨p,hp,di⟩:=List.mem_iff_getElem.1 hk;have di:ks[p]?=some k:=by rw[v0c hp,di]
   have eg:(ks.map (mlF e z sv C N bs))[p]?=some (mlF e z sv C N bs k):=by rw[v0D,di];rfl
   have ei:Qaw ks k=ks:=if_pos hk;refine⟨sv k,bs k,(ks.map (mlF e z sv C N bs)).eraseIdx p,by rw[x.g,if_pos hk];rfl,?_,fun h1 oB R1 v' C' N' b' B' h' S'=>?_⟩
   · have S1:=SH.outAt (l:=R0::ks.map (mlF e z sv C N bs)) (j:=p+1) S (by rw[List.getElem?_cons_succ];exact eg);exact S1
   have S1:=SH.inAt (l:=R1::ks.map (mlF e z sv C N bs)) (j:=p+1) (x':=slR e z v' C' N' b') S' (by simp;exact hp);rw[List.set_cons_succ,<-hs v' C' N' b',Q7M ks p x.nd di (hf v' C' N' b')]at S1;rw[ei];exact S1
 obtain⟨c1,c2⟩:=hC k hk;refine⟨.slice none 0 0,[],ks.map (mlF e z sv C N bs),by rw[x.g,if_neg hk];rfl,?_,fun h1 oB R1 v' C' N' b' B' h' S'=>?_⟩
 · rw[c1,c2];exact S.nilSl e z
 have ei:Qaw ks k=ks++[k]:=if_neg hk;rw[ei,List.map_append,List.map_cons,List.map_nil,hs];have em:ks.map (mlF e z (upK sv k v') (upK C k C') (upK N k N') (upK bs k b'))=ks.map (mlF e z sv C N bs):=v1o fun k' bc=>hf v' C' N' b' k' fun e=>hk (e▸bc);rw[em];have S1:=SH.mid (A:=R1::ks.map (mlF e z sv C N bs)) (B:=B') S';rw[List.append_assoc];exact S1
end
end Go.X
