/- The walks and the laws, part Le. Conditions: none. -/
import Derived.Test.YtljpajcmdjmeaaaGreatLd
import Derived.Test.YtljpajcmdjmeaaaGreatLa
set_option maxHeartbeats 16000000
open List renaming append_nil → v0k, mem_of_getElem? → v0m, replicate → v0o, length_replicate → v0O, length_append → v0j, replicate_succ' → v2n, map_append → v0G, append_assoc → v0F, findIdx?_cons → v2a, findIdx?_eq_some_iff_getElem → v14, length_singleton → v1l, getElem?_modify → v1i, getElem?_eq_getElem → v0c, length_modify → v0l, getElem?_append_left → v0z, getElem?_append_right → v0Q, findIdx?_eq_none_iff → v2g, mem_iff_getElem → v0N, getElem?_eq_some_iff → v0y, mem_append → v0x, mem_singleton → v0X, pairwise_iff_getElem → v2p, getElem_mem → v0M, getElem_modify → v15, length_set → v0q
open Nat renaming zero_le → v0s, le_refl → v0b, le_trans → v0t, lt_of_lt_of_le → v0p, zero_add → v0e, mul_le_mul_right → v1a
open Int renaming le_refl → v03, toNat → v0f, toNat_natCast → v0i
open Bool renaming and_eq_true → v0g, not_eq_true' → v0J
open Option renaming some → v0h
namespace Go.Proofs.YtljpajcmdjmeaaaGreat
open Go.X Go.May Go.Mac
def DoR (P:Prg) (s:MS) (q a n r:Int) (s':MS):Prop:=
 (q=1/\Qg3 P s a r s')\/(q=2/\Qg0 P s a r s')\/(q=3/\TickR s n r s')\/(q=4/\InjR P s a n r s')\/(q=5/\LifR P s a n r s')\/(r=2/\s'=s)
section
variable {h0 h:Hp} {P:Prg} {V:PrV} {mb ph:Nat} {s:MS} {ae tp bs:List Nat}
theorem m12 {q a n:Int} (S0:SH h0 [] [hpR ph s.H ae,mcR mb ph P V s tp bs] h) (X0:Q1m h0 P V) (hM:ZL P=true) (R:RunH P s) (hm:s.M.length<=99960):C modE 9 [Qk mb,.agg #[iV q,iV a,iV n]] h fun v g'=> ∃(r:Int) (s':MS) (ah tl aa:List Nat),v=iV r/\DoR P s q a n r s'/\SH h (owns [hpR ph s.H ae,mcR mb ph P V s tp bs]) [hpR ph s'.H ah,mcR mb ph P V s' (tp++tl) aa] g':=by
 have SE:=S0.enterL;obtain⟨D,hD⟩: ∃D,D=owns [hpR ph s.H ae,mcR mb ph P V s tp bs]:=⟨_,rfl⟩;have aj: ∀i,i∈D->h0.n<=i:=by rw[hD];exact S0.own0L
 rw[<-hD]at SE ⊢;refine Q9 (fu:=Tryz.f9) (by kernel_rfl) rfl ?_;have S:=SE;refine Q7 ?_;refine Z9 S gn rfl rfl fun b1 g aJ S=>?_;have S:SH h D [cR b1 (.cells [iV q,iV a,iV n] 49 0),hpR ph s.H ae,mcR mb ph P V s tp bs] g:=S;refine I2 rfl<|Z8<|I0 0 rfl<|I4 rfl (S.cel 0 rfl) rfl<|Q0<|Qb<|Q7<|Ie rfl rfl<|I2 rfl<|Q0<|Q2 rfl (fun hb=>?_) fun hb=>?_
 · skip
   refine Q7<|I1 rfl<|I0 1 rfl<|I4 rfl (S.cel 0 rfl) rfl<|Ic [_,_] rfl rfl (C.mono (m27 (SH.subL (A:=[_,_]) S0 aj (SH.comm (A:=[_]) S)) X0 hM R hm) ?_);rintro v g ⟨r,s',ah,tl,aa,rfl,hR,S2⟩;have S:=SH.retL (A:=[_,_]) (SH.comm (A:=[_]) S) S2;refine⟨ag0,?_⟩;refine I2 rfl<|Q0<|Q8 ⟨.inl rfl,_,rfl,⟨r,s',ah,tl,aa,rfl,.inl ⟨of_decide_eq_true hb,hR⟩,SH.fst S⟩⟩
 refine Q7<|Ie rfl rfl<|I2 rfl<|Q0<|Q2 rfl (fun hb=>?_) fun hb=>?_
 · skip
   refine Q7<|I1 rfl<|I0 1 rfl<|I4 rfl (S.cel 0 rfl) rfl<|Ic [_,_] rfl rfl (C.mono (m28 (SH.subL (A:=[_,_]) S0 aj (SH.comm (A:=[_]) S)) X0 hM R hm) ?_);rintro v g ⟨r,s',ah,tl,aa,rfl,hR,S2⟩;have S:=SH.retL (A:=[_,_]) (SH.comm (A:=[_]) S) S2;refine⟨ag0,?_⟩;refine I2 rfl<|Q0<|Q8 ⟨.inl rfl,_,rfl,⟨r,s',ah,tl,aa,rfl,.inr (.inl ⟨of_decide_eq_true hb,hR⟩),SH.fst S⟩⟩
 refine Q7<|Ie rfl rfl<|I2 rfl<|Q0<|Q2 rfl (fun hb=>?_) fun hb=>?_
 · skip
   refine Q7<|I1 rfl<|I0 2 rfl<|I4 rfl (S.cel 0 rfl) rfl<|Ic [_,_] rfl rfl (C.mono (m29 (SH.subL (A:=[_,_]) S0 aj (SH.comm (A:=[_]) S)) R.k) ?_);rintro v g ⟨r,s',ah,tl,aa,rfl,hR,S2⟩;have S:=SH.retL (A:=[_,_]) (SH.comm (A:=[_]) S) S2;refine⟨ag0,?_⟩;refine I2 rfl<|Q0<|Q8 ⟨.inl rfl,_,rfl,⟨r,s',ah,tl,aa,rfl,.inr (.inr (.inl ⟨of_decide_eq_true hb,hR⟩)),SH.fst S⟩⟩
 refine Q7<|Ie rfl rfl<|I2 rfl<|Q0<|Q2 rfl (fun hb=>?_) fun hb=>?_
 · skip
   refine Q7<|I1 rfl<|I0 1 rfl<|I4 rfl (S.cel 0 rfl) rfl<|I0 2 rfl<|I4 rfl (S.cel 0 rfl) rfl<|Ic [_,_,_] rfl rfl (C.mono (m30 (SH.subL (A:=[_,_]) S0 aj (SH.comm (A:=[_]) S)) X0 hM R.k) ?_);rintro v g ⟨r,s',ah,tl,aa,rfl,hR,S2⟩;have S:=SH.retL (A:=[_,_]) (SH.comm (A:=[_]) S) S2;refine⟨ag0,?_⟩;refine I2 rfl<|Q0<|Q8 ⟨.inl rfl,_,rfl,⟨r,s',ah,tl,aa,rfl,.inr (.inr (.inr (.inl ⟨of_decide_eq_true hb,hR⟩))),SH.fst S⟩⟩
 refine Q7<|Ie rfl rfl<|I2 rfl<|Q0<|Q2 rfl (fun hb=>?_) fun hb=>?_
 · skip
   refine Q7<|I1 rfl<|I0 1 rfl<|I4 rfl (S.cel 0 rfl) rfl<|I0 2 rfl<|I4 rfl (S.cel 0 rfl) rfl<|Ic [_,_,_] rfl rfl (C.mono (m31 (SH.subL (A:=[_,_]) S0 aj (SH.comm (A:=[_]) S)) X0 hM R.k) ?_);rintro v g ⟨r,s',ah,tl,aa,rfl,hR,S2⟩;have S:=SH.retL (A:=[_,_]) (SH.comm (A:=[_]) S) S2;refine⟨ag0,?_⟩;refine I2 rfl<|Q0<|Q8 ⟨.inl rfl,_,rfl,⟨r,s',ah,tl,aa,rfl,.inr (.inr (.inr (.inr (.inl ⟨of_decide_eq_true hb,hR⟩)))),SH.fst S⟩⟩
 refine Q4<|Q7<|I2 rfl<|Q0<|Q8 ⟨.inl rfl,_,rfl,⟨2,s,ae,[],bs,rfl,.inr (.inr (.inr (.inr (.inr ⟨rfl,rfl⟩)))),by rw[v0k];exact S.drop⟩⟩
end
section
variable {h0 h:Hp} {P:Prg} {V:PrV} {mb ph:Nat} {s:MS} {tp bs:List Nat}
theorem m14 (S0:SH h0 [] [mcR mb ph P V s tp bs] h):C modE 11 [Qk mb] h fun v g'=> ∃(tv mv:Value) (b1 b2:List Nat),v=.agg #[tv,mv]/\SlC 85 14 h tv (tkC s.T) s.T.length b1/\SlC 68 7 h mv (mkC s.M) s.M.length b2/\(∀i,i∈b1->i <h.n)/\(∀i,i∈b2->i <h.n)/\Ext h g':=by
 have SE:=S0.enter;obtain⟨w,hw,bg,aj,SE⟩:=QH (A:=[]) SE;have SE:SH h bs (mcL mb ph P V s w) h:=SE;have gK:mb <h.n:=SE.lt1 0 rfl;have h1:=SE.sl 4 rfl;have h2:=SE.sl 8 rfl;obtain⟨ta,tc,br⟩:=Q6 h1;obtain⟨ma,mc,jq⟩:=Q6 h2
 have jr:h.get mb=some (.cells (pvL P V++[Qk ph,Qk w.lb,w.qv,w.rv,.slice ta s.T.length tc,w.hv,w.gv,w.lv,.slice ma s.M.length mc,w.ov,iV s.now,iV s.steps,.bool s.full]) 45 0):=by
  rw[<-br,<-jq];exact SE.cel 0 rfl
 rw[br]at h1;rw[jq]at h2;have l1: ∀i,i∈w.tvb->i <h.n:=fun i hi=>SE.lt i (QK (r:=slR 85 14 w.tv (tkC s.T) s.T.length w.tvb) (v0m (i:=4) rfl) (by simpa[slR]using hi));have l2: ∀i,i∈w.mvb->i <h.n:=fun i hi=>SE.lt i (QK (r:=slR 68 7 w.mv (mkC s.M) s.M.length w.mvb) (v0m (i:=8) rfl) (by simpa[slR]using hi));refine YW (fu:=Tryz.f11) (by kernel_rfl) rfl ?_;have S:=SH.start h;refine Q7 ?_;refine Qx (zv:=.agg #[.slice none 0 0,.slice none 0 0]) S gn rfl (by kernel_rfl) fun b1 g aJ S=>?_;refine Q0<|Q5<|I9<|I1 rfl<|I6 rfl<|I0 12 rfl ?_
 refine I4 rfl (S.old0 jr gK) rfl<|I1 rfl<|I6 rfl<|I0 16 rfl<|I4 rfl (S.old0 jr gK) rfl<|Qq (cs:= #[.slice ta s.T.length tc,.slice ma s.M.length mc]) (zv:=.agg #[.slice none 0 0,.slice none 0 0]) (pl:=[(0,1),(1,1)]) [(0,_),(1,_)] gn rfl (by kernel_rfl) (by kernel_rfl) rfl (by kernel_rfl) ?_;refine Qi (n:=2) 0 S gn rfl rfl rfl (by kernel_rfl) rfl rfl (by decide) rfl (fun g S=>ag0) fun g S=>?_;refine Q0<|Q8 ?_;refine⟨.inl rfl,_,(Zn rfl (by kernel_rfl) (by kernel_rfl) (S.cel 0 rfl) rfl rfl),?_⟩;exact⟨.slice ta s.T.length tc,.slice ma s.M.length mc,w.tvb,w.mvb,rfl,h1,h2,l1,l2,S.e0⟩
end
def Yw (P:Prg) (E:List Bool) (i:Nat):MS:=⟨[],v0o P.comps.length (-1),E,v0o i [],v0o i 0,[],[],v0o P.globals 0,[],[],v0o P.events.length (-1),0,0,false⟩
def Q5g (P:Prg):MTask:=⟨1,0,0,P.main,0,0,0,false,0,0,0,0,0,-1,0⟩
def Qdz (P:Prg) (E:List Bool):MS:=Y9 P (Yw P E P.loopers) (Q5g P) []
theorem el104:ElN modE 38 98 0 7:=⟨by kernel_rfl,by kernel_rfl,by kernel_rfl,.pointer none,by kernel_rfl,rfl⟩
theorem Q7x: ∀(l:List (List MItem)) (c:List (Nat×List Nat)) (o:List MItem) (v:Nat×List Nat),c.length=l.length->qpP (l++[o]) (c++[v])=qpP l c++[quR v.1 o v.2]
 | [],[],_,_,_=>rfl
 | [],_::_,_,_,h=>by simp at h
 |_::_,[],_,_,h=>by simp at h
 | o::l,v::c,o',v',h=>by
   show _::qpP (l++[o']) (c++[v'])=_;rw[Q7x l c o' v' (by simpa using h)];rfl
structure SzH (P:Prg):Prop where
 l1:1<=P.loopers
 l8:P.loopers<=8
 g:P.globals<=32
 c:P.comps.length<=8
 e:P.events.length<=8
 r:Q06 P P.main=true
theorem QdE {P:Prg} (hM:ZL P=true):SzH P:=by
 unfold ZL YQ Q8i at hM;simp only[v0g,decide_eq_true_eq]at hM;exact⟨hM.1.1.1.1,hM.1.1.1.2,hM.1.1.2.1.2,hM.1.1.2.2.1.1,hM.1.1.2.2.1.2,hM.1.1.2.2.2.2⟩
theorem Qdy {P:Prg} {E:List Bool} (z:SzH P) (hE:E.length=P.events.length):MOk P (Yw P E P.loopers) where
 h:=v0s _
 k:=v0O
 k2:=by show(v0o _ _).length<=_;rw[v0O];have:=z.c;omega
 e2:=by show E.length<=_;have:=z.e;omega
 e:=hE
 q:=v0O
 r:=v0O
 t:=v0s _
 th:=rfl
 g:=v0O
 lg:=v0s _
 m:=v0s _
 on:=v0O
 now:=⟨v03 _,by show(0:Int)<=_;omega⟩
 st:=⟨v03 _,by show(0:Int)<=_;omega⟩
 ql:=fun L hL=>by
  have:=List.eq_of_mem_replicate hL;rw[this];exact v0s _
 tok:=fun T hT=>by cases hT
section
variable {h:Hp} {P:Prg} {V:PrV}
theorem m11 (X:Q1m h P V) (hM:ZL P=true):C modE 8 [.agg (pvL P V).toArray] h fun v g'=> ∃(mb ph:Nat) (E:List Bool) (ae tp bs:List Nat),v=Qk mb/\E.length=P.events.length/\SH h [] [hpR ph [] ae,mcR mb ph P V (Qdz P E) tp bs] g':=by
 have z:=QdE hM;have zg:=z.g;have zc:=z.c;have ze:=z.e;have zl:=z.l8;have zl1:=z.l1;obtain⟨⟨loa,loc,gh⟩,_,⟨gla,glc,nE⟩,_,⟨coa,coc,iB⟩,⟨eva,evc,iz⟩,_⟩:=X.vals;refine Q9 (fu:=Tryz.f8) (by kernel_rfl) rfl ?_;have S:=SH.start h;refine Q7 ?_;refine Z9 S gn rfl rfl fun b1 g aJ S=>?_;have S:SH h [] [cR b1 (.cells (pvL P V) 30 0)] g:=S;refine I2 rfl<|Q0<|Q5<|I9<|I3 8 rfl (S.cel 0 rfl) (v0b _)<|Qq (cs:= #[.slice none 0 0]) (zv:=.agg #[.slice none 0 0]) (pl:=[(0,1)]) [] gn rfl (by kernel_rfl) (by kernel_rfl) rfl (by kernel_rfl) ?_;refine Z9 S gn rfl rfl fun b2 g bK S=>?_
 refine I0 2 rfl<|I4 rfl (S.cel 1 rfl) rfl ?_;rw[nE];refine I7 rfl ?_;rw[<-nE];refine JC (e:=2) (z:=0) (zv:=.int .i64 0) (by':=8) S gn rfl rfl rfl (by kernel_rfl) (by kernel_rfl) (by kernel_rfl) (by kernel_rfl) (by decide) (by omega) (by omega) (by omega) (by omega) fun b3 g fV S=>?_;have S:=S.toSl (z:=0) (n:=P.globals) 0 rfl (.inl rfl) (by rw[show(Value.int .i64 0).cells.toList=[iV 0] from rfl,Q33];simp);rw[show(Value.int .i64 0).cells.toList=[iV 0] from rfl,Q33]at S
 refine Qq (cs:=(pvL P V++[Qk b2,.pointer none,.slice none 0 0,.slice none 0 0,.slice none 0 0,.slice none 0 0,.slice (some ⟨b3,0,none⟩) P.globals P.globals,.slice none 0 0,.slice none 0 0,.slice none 0 0,iV 0,iV 0,.bool false]).toArray) (zv:=.agg #[.slice none 0 0,.slice none 0 0,.slice none 0 0,.slice none 0 0,.slice none 0 0,.slice none 0 0,iV 0,.slice none 0 0,.pointer none,.pointer none,.slice none 0 0,.slice none 0 0,.slice none 0 0,.slice none 0 0,.slice none 0 0,.slice none 0 0,.slice none 0 0,.slice none 0 0,iV 0,iV 0,.bool false]) (pl:=[(0,8),(8,1),(9,1),(10,1),(11,1),(12,1),(13,1),(14,1),(15,1),(16,1),(17,1),(18,1),(19,1),(20,1)]) [(0,_),(1,_),(7,_)] gn rfl (by kernel_rfl) (by kernel_rfl) rfl (by kernel_rfl) ?_
 refine Z9 S gn rfl rfl fun b4 g jL S=>?_;refine I2 rfl<|QP ?_;have S:=((((((((S.nilSl 233 5).nilSl 4 0).nilSl 3 0).nilSl 68 7).nilSl 2 0).nilSl 156 0).nilSl 85 14).nilSl 3 0).nilSl 98 0;have S:=S.ordr [9,12,0,1,2,3,10,4,5,6,7,11,8] 13 rfl (by decide)
 have S:SH h [] (cR b4 (.cells (pvL P V++[Qk b2,.pointer none,.slice none 0 0,.slice none 0 0,.slice none 0 0,.slice none 0 0,.slice (some ⟨b3,0,none⟩) P.globals P.globals,.slice none 0 0,.slice none 0 0,.slice none 0 0,iV 0,iV 0,.bool false]) 45 0)::cR b1 (.cells (pvL P V) 30 0)::slR 98 0 (.slice none 0 0) [] 0 []::slR 3 0 (.slice none 0 0) [] 0 []::slR 85 14 (.slice none 0 0) [] 0 []::slR 156 0 (.slice none 0 0) [] 0 []::slR 2 0 (.slice (some ⟨b3,0,none⟩) P.globals P.globals) (isV (v0o P.globals 0)) P.globals [b3]::slR 2 0 (.slice none 0 0) [] 0 []::slR 68 7 (.slice none 0 0) [] 0 []::slR 3 0 (.slice none 0 0) [] 0 []::slR 4 0 (.slice none 0 0) [] 0 []::[cR b2 (.cells [.slice none 0 0] 93 0),slR 233 5 (.slice none 0 0) [] 0 []]) g:=S
 refine I2 rfl<|Z8<|I2 rfl<|Q0<|Qb ?_
 refine QB [(4,_),(5,_)] [(1,_),(3,_)] (fun kk lv hh=> ∃(i:Nat) (ev ov:Value) (eb ob:List Nat) (E:List Bool),lv=[(4,ev),(5,iV i)]/\kk=P.events.length -i/\i<=P.events.length/\E.length=i/\SH h [] (cR b4 (.cells (pvL P V++[Qk b2,.pointer none,.slice none 0 0,.slice none 0 0,.slice none 0 0,.slice none 0 0,.slice (some ⟨b3,0,none⟩) P.globals P.globals,.slice none 0 0,.slice none 0 0,ov,iV 0,iV 0,.bool false]) 45 0)::cR b1 (.cells (pvL P V) 30 0)::slR 98 0 (.slice none 0 0) [] 0 []::slR 3 0 (.slice none 0 0) [] 0 []::slR 85 14 (.slice none 0 0) [] 0 []::slR 156 0 (.slice none 0 0) [] 0 []::slR 2 0 (.slice (some ⟨b3,0,none⟩) P.globals P.globals) (isV (v0o P.globals 0)) P.globals [b3]::slR 2 0 (.slice none 0 0) [] 0 []::slR 68 7 (.slice none 0 0) [] 0 []::slR 3 0 ov (isV (v0o i (-1))) i ob::slR 4 0 ev (bsV E) i eb::[cR b2 (.cells [.slice none 0 0] 93 0),slR 233 5 (.slice none 0 0) [] 0 []]) hh) (n:=P.events.length) ?_ fun kk lv hh hI=>?_
 · exact⟨0,.slice none 0 0,.slice none 0 0,[],[],[],rfl,rfl,v0s _,rfl,S⟩
 obtain⟨i,ev,ov,eb,ob,E,rfl,iS,aD,hEl,S⟩:=hI;refine Q5<|Q7<|I1 rfl<|I0 5 rfl<|I4 rfl (S.cel 1 rfl) rfl ?_;rw[iz];refine I7 rfl ?_;rw[<-iz];refine Il rfl rfl<|Q0<|Q2 rfl (fun hb=>?_) fun hb=>?_
 · skip
   refine Q4 ?_;have aD:i <P.events.length:=by simp at hb;omega
   obtain⟨vb,vo,vc,vcs,ve,vm,bR,kH,mB,hvn,e8⟩:=X.ev.at (by omega);obtain⟨⟨es,ebb,aq⟩,_,_⟩:=e8 i aD
   have kev:vcs[vo+v0f (i:Int)*4+2]?=some (.bool ebb):=by
    rw[v0i];exact Qs aq (by omega) rfl
   refine Q5<|Qb<|Q7<|I1 rfl<|I0 5 rfl<|I4 rfl (S.cel 1 rfl) rfl<|I1 rfl ?_;rw[bR];refine I5o 4 rfl rfl ?_;rw[<-bR];refine I0 2 rfl<|I4 rfl (S.old0 kH mB) kev ?_;refine Qc (cs:= #[.bool ebb]) (e:=4) (z:=0) (zv:=.bool false) [(0,_)] S gn rfl (by kernel_rfl) (by kernel_rfl) (by kernel_rfl) (by kernel_rfl) rfl (by kernel_rfl) fun b5 g nb5 S=>?_;refine QM (e:=4) (z:=0) (by':=0) 11 0 S el4 gn rfl rfl rfl rfl rfl rfl (by rfl) (by omega) (fun s' aa g S=>ag0) fun s' aa g S=>?_;refine I2 rfl<|Q0<|Q3 (by kernel_rfl)<|I1 rfl<|I1 rfl<|I6 rfl ?_
   refine I0 17 rfl<|I4 rfl (S.cel 1 rfl) rfl ?_;refine Qc (e:=3) (z:=0) (zv:=.int .i64 0) [(0,_)] S gn rfl (by kernel_rfl) (by kernel_rfl) (by kernel_rfl) (by kernel_rfl) rfl (by rfl) fun b6 g nb6 S=>?_;refine QM (e:=3) (z:=0) (by':=7) 11 0 S el3 gn rfl rfl rfl rfl rfl rfl (by rfl) (by omega) (fun s' aa g S=>ag0) fun s2' dL g S=>?_;refine I6 rfl<|I0 17 rfl ?_;have bZ:cellV s2'=true:=(S.sl 11 rfl).cellV;refine Qg 2 S gn rfl rfl bZ (by kernel_rfl) rfl (by decide) (by simp) (fun g S=>ag0) fun g S=>?_;refine Q0<|Q3 (by kernel_rfl)<|I1 rfl<|Iao rfl rfl<|I2 rfl<|Q0 ?_
   exact K3 (P.events.length - (i+1)) [(4,_),(5,_)] (p:=⟨i+1,_,_,_,_,E++[ebb],rfl,rfl,by omega,by rw[v0j,hEl];rfl,by
    have S2:=S.drop.drop;have e1:isV (v0o (i+1) (-1))=isV (v0o i (-1))++[iV (-1)]:=by rw[v2n,Q0Y];rfl
    have e2:bsV (E++[ebb])=bsV E++[.bool ebb]:=v0G ..
    rw[e1,e2];exact S2⟩)
 refine QF<|Qh<|Qn<|QE ?_;obtain rfl:i=P.events.length:=by simp at hb;omega
 refine Q7<|I1 rfl<|I0 4 rfl<|I4 rfl (S.cel 1 rfl) rfl ?_;rw[iB];refine I7 rfl ?_;rw[<-iB];refine I1 rfl<|Ic [_,_] rfl rfl (C.mono (m25 (n:=P.comps.length) (E:=E) (S.sl 10 rfl).row (by omega) (by omega)) ?_);rintro v g ⟨lb,lbs,rfl,S2⟩;have S:=SH.retL (A:=[]) S S2;refine⟨ag0,?_⟩;refine I6 rfl<|I0 9 rfl ?_;refine Qg 1 S gn rfl rfl rfl (by kernel_rfl) rfl (by decide) (by simp) (fun g S=>ag0) fun g S=>?_;have S:=S.ordr [2,1,0,3,4,5,6,7,8,9,10,12,13,11] 14 rfl (by decide)
 obtain⟨TL,hTL⟩: ∃TL,TL=[cR b2 (.cells [.slice none 0 0] 93 0),slR 233 5 (.slice none 0 0) [] 0 [],slR 4 0 ev (bsV E) P.events.length eb]:=⟨_,rfl⟩
 obtain⟨w0,jf,ht0,S⟩: ∃w0:MW,w0.qs.length=0/\w0.ths=[]/\SH h [] (cR b1 (.cells (pvL P V) 30 0)::(mcL b4 b2 P V (Yw P E 0) w0++TL)) g:=⟨⟨lb,lbs,.slice none 0 0,[],.slice none 0 0,[],.slice none 0 0,[],.slice none 0 0,[],.slice (some ⟨b3,0,none⟩) P.globals P.globals,[b3],.slice none 0 0,[],.slice none 0 0,[],ov,ob,[],[]⟩,rfl,rfl,by
  rw[hTL];unfold mcL mcH Yw;show SH h [] (_::([_,_,_,_,_,_,slR 2 0 _ _ (v0o P.globals (0:Int)).length _,_,_,slR 3 0 _ _ (v0o P.events.length (-1:Int)).length _]++_)) g;rw[show(v0o P.globals (0:Int)).length=P.globals from v0O,show(v0o P.events.length (-1:Int)).length=P.events.length from v0O]
  exact S⟩
 refine Z8<|I2 rfl<|Q0<|Qb<|QB [(6,_)] [(1,_),(3,_)] (fun kk lv hh=> ∃(i:Nat) (w:MW),lv=[(6,iV i)]/\kk=P.loopers -i/\i<=P.loopers/\w.qs.length=i/\w.ths=[]/\SH h [] (cR b1 (.cells (pvL P V) 30 0)::(mcL b4 b2 P V (Yw P E i) w++TL)) hh) (n:=P.loopers) ?_ fun kk lv hh hI=>?_
 · exact⟨0,w0,rfl,rfl,v0s _,jf,ht0,S⟩
 obtain⟨i,w,rfl,iS,aD,hwq,mz,S⟩:=hI;refine Q5<|Q7<|I1 rfl<|I0 0 rfl<|I4 rfl (S.cel 0 rfl) rfl ?_;rw[gh];refine I7 rfl ?_;rw[<-gh];refine Il rfl rfl<|Q0<|Q2 rfl (fun hb=>?_) fun hb=>?_
 · skip
   refine Q4 ?_;have aD:i <P.loopers:=by simp at hb;omega
   have hqi:(Yw P E i).Q.length=i:=v0O;have hri:(Yw P E i).runs.length=i:=v0O;refine Q5<|Qb<|Q7<|I1 rfl<|I1 rfl<|I6 rfl<|I0 10 rfl<|I4 rfl (S.cel 1 rfl) rfl<|Qq (cs:= #[.slice none 0 0]) (zv:=.agg #[.slice none 0 0]) (pl:=[(0,1)]) [] gn rfl (by kernel_rfl) (by kernel_rfl) rfl (by kernel_rfl) ?_;refine Z9 S gn rfl rfl fun b7 g nb7 S=>?_;refine Qc (cs:= #[Qk b7]) (e:=98) (z:=0) (zv:=.pointer none) [(0,_)] S gn rfl (by kernel_rfl) (by kernel_rfl) (by kernel_rfl) (by kernel_rfl) rfl (by kernel_rfl) fun b8 g nb8 S=>?_
   refine QM (e:=98) (z:=0) (by':=7) 5 0 S el104 gn rfl rfl rfl rfl rfl rfl (by rfl) (by omega) (fun s' aa g S=>ag0) fun s' aa g S=>?_;refine I6 rfl<|I0 10 rfl ?_;have bZ:cellV s'=true:=(S.sl 5 rfl).cellV;refine Qg 3 S gn rfl rfl bZ (by kernel_rfl) rfl (by decide) (by simp) (fun g S=>ag0) fun g S=>?_;refine Q0<|Q3 (by kernel_rfl)<|I1 rfl<|I1 rfl<|I6 rfl<|I0 11 rfl<|I4 rfl (S.cel 3 rfl) rfl ?_;refine Qc (cs:= #[iV 0]) (e:=3) (z:=0) (zv:=.int .i64 0) [(0,_)] S gn rfl (by kernel_rfl) (by kernel_rfl) (by kernel_rfl) (by kernel_rfl) rfl (by kernel_rfl) fun b9 g nb9 S=>?_
   refine QM (e:=3) (z:=0) (by':=7) 7 0 S el3 gn rfl rfl rfl rfl rfl rfl (by rfl) (by omega) (fun s' aa g S=>ag0) fun s2' dL g S=>?_;refine I6 rfl<|I0 11 rfl ?_;have bZ:cellV s2'=true:=(S.sl 7 rfl).cellV;refine Qg 4 S gn rfl rfl bZ (by kernel_rfl) rfl (by decide) (by simp) (fun g S=>ag0) fun g S=>?_;have S:=SH.swap ((S.drop.drop).nilSl 161 2);have S:=Kj (Q:=fun Ls=> ∃s nb,Ls=quL b7 [] s nb) (L:=quL b7 [] (.slice none 0 0) []) S ⟨_,_,rfl⟩;refine Q0<|Q3 (by kernel_rfl)<|I1 rfl<|Iao rfl rfl<|I2 rfl<|Q0 ?_
   exact K3 (P.loopers - (i+1)) [(6,_)] (p:=⟨i+1,{w with qv:=s',qvb:=aa,rv:=s2',rvb:=dL,qs:=w.qs++[(b7,owns (quL b7 [] (.slice none 0 0) []))]},rfl,rfl,by omega,by rw[<-hwq];simp,mz,by
    have e1:isV (v0o (i+1) 0)=isV (v0o i 0)++[iV 0]:=by rw[v2n,Q0Y];rfl
    have e2:v0o (i+1) ([]:List MItem)=v0o i []++[[]]:=v2n;unfold mcL mcT
    have e3:qpP (Yw P E (i+1)).Q (w.qs++[(b7,owns (quL b7 [] (.slice none 0 0) []))])=qpP (Yw P E i).Q w.qs++[quR b7 [] (owns (quL b7 [] (.slice none 0 0) []))]:=by
     show qpP (v0o (i+1) []) _=qpP (v0o i []) _++_;rw[e2,Q7x _ _ _ _ (by rw[hwq,v0O])]
    show SH h [] (_::((mcH b4 b2 P V (Yw P E (i+1)) {w with qv:=s',qvb:=aa,rv:=s2',rvb:=dL,qs:=w.qs++[(b7,owns (quL b7 [] (.slice none 0 0) []))]}++(qpP (Yw P E (i+1)).Q (w.qs++[(b7,owns (quL b7 [] (.slice none 0 0) []))])++[]))++TL)) g;rw[e3,v0k,<-v0F (mcH b4 b2 P V _ _),v0F (mcH b4 b2 P V _ _++_)]
    have S5:SH h [] (cR b1 (.cells (pvL P V) 30 0)::(mcH b4 b2 P V (Yw P E (i+1)) {w with qv:=s',qvb:=aa,rv:=s2',rvb:=dL,qs:=w.qs++[(b7,owns (quL b7 [] (.slice none 0 0) []))]}++qpP (Yw P E i).Q w.qs)++quR b7 [] (owns (quL b7 [] (.slice none 0 0) []))::TL) g:=by
     refine SH.mid ?_;unfold mcH;show SH h [] (_::(_::(([_,_,slR 98 0 s' (ptC (w.qs++[(b7,owns (quL b7 [] (.slice none 0 0) []))])) (v0o (i+1) ([]:List MItem)).length aa,slR 3 0 s2' (isV (v0o (i+1) 0)) (v0o (i+1) (0:Int)).length dL,_,_,_,_,_,_]++qpP (Yw P E i).Q w.qs)++TL))) g;rw[e1,show(v0o (i+1) ([]:List MItem)).length=i+1 from v0O,show(v0o (i+1) (0:Int)).length=i+1 from v0O,show ptC (w.qs++[(b7,owns (quL b7 [] (.slice none 0 0) []))])=ptC w.qs++[Qk b7] from v0G ..];have S6:=S;rw[hqi,hri]at S6;unfold mcL mcT at S6
     have et:tpP (pvL P V) (Yw P E i).Th w.ths=[]:=rfl;rw[et,v0k]at S6;exact S6
    exact S5⟩)
 refine QF<|Qh<|Qn<|QE ?_;obtain rfl:i=P.loopers:=by simp at hb;omega
 have dN:=K9 z.r;refine Q7<|I1 rfl<|I0 6 rfl<|I4 rfl (S.cel 0 rfl) rfl<|Qq (cs:=(tkV (Q5g P)).toArray) (zv:=.agg #[iV 0,iV 0,iV 0,iV 0,iV 0,iV 0,iV 0,.bool false,iV 0,iV 0,iV 0,iV 0,iV 0,iV 0,iV 0]) (pl:=[(0,1),(1,1),(2,1),(3,1),(4,1),(5,1),(6,1),(7,1),(8,1),(9,1),(10,1),(11,1),(12,1),(13,1),(14,1)]) [(0,_),(3,_),(13,_)] gn rfl (by kernel_rfl) (by kernel_rfl) rfl (by kernel_rfl) ?_;have S:=SH.comm S.drop;obtain⟨bz,S⟩:=Qo (tp:=[]) S ⟨by rw[hwq];exact v0O.symm,by rw[mz];rfl⟩ (by rw[mz];rfl)
 have S:SH h [] ([mcR b4 b2 P V (Yw P E P.loopers) [] bz]++TL) _:=SH.comm S;refine QZ [_,_,_] gn rfl rfl (by kernel_rfl) rfl (C.mono (m26 (t:=Q5g P) (cells:=[]) (SH.fst S) X hM (Qdy z hEl) dN.1 dN.2.1 (by show(0:Int)<_;omega) ⟨v03 _,by show(0:Int)<=_;omega⟩ (fun _ _=>RowV.nil) (by show(0:Int)=_;exact dN.2.2.symm)) ?_);rintro v g ⟨rfl,tl,bk,S2⟩
 have S:=SH.retL (A:=[_]) S (by
  have e:owns [mcR b4 b2 P V (Yw P E P.loopers) [] bz]=bz:=by simp[owns,mcR,Q3r]
  rw[e];exact S2)
 rw[hTL]at S;have S:=SH.comm (A:=[_]) S;have S:SH h [] (hpL b2 [] ⟨.slice none 0 0,[],[]⟩++[slR 4 0 ev (bsV E) P.events.length eb,mcR b4 b2 P V (Y9 P (Yw P E P.loopers) (Q5g P) []) ([]++tl) bk]) g:=S;have S:=Kj (Q:=fun L=> ∃w:HpW,w.vs.length=([]:List MObj).length/\L=hpL b2 [] w) S ⟨_,rfl,rfl⟩;refine⟨ag0,?_⟩;refine QP<|I1 rfl<|I2 rfl<|Q0<|Q8 ⟨.inl rfl,_,rfl,⟨b4,b2,E,_,tl,bk,rfl,hEl,SH.drop (SH.swap S)⟩⟩
end
end Go.Proofs.YtljpajcmdjmeaaaGreat
namespace Go.Mac
def Zg (L:List MMark) (id k:Int):Int:=match L.findIdx? (fun x=>decide (x.task=id)&&decide (x.kind=k))with
 |some i=>i
 |none=> -1
abbrev bIx (L:List MMark) (id:Int):Int:=Zg L id 1
abbrev eIx (L:List MMark) (id:Int):Int:=Zg L id 2
def tkT (T:List MTask) (id:Int):MTask:=(T[(id -1).toNat]?).getD default
theorem ZJ {L:List MMark} {x:MMark} {id k:Int}:Zg (L++[x]) id k=if 0<=Zg L id k then Zg L id k else if x.task=id/\x.kind=k then(L.length:Int)else -1:=by
 unfold Zg;rw[List.findIdx?_append];cases e:L.findIdx? (fun x=>decide (x.task=id)&&decide (x.kind=k))with
 |some i=>simp
 | none=>
   by_cases h:x.task=id/\x.kind=k
   · simp[v2a,h]
   have h':(decide (x.task=id)&&decide (x.kind=k))=false:=by
    rw[<-Bool.not_eq_true];intro h2;simp only[v0g,decide_eq_true_eq]at h2;exact h h2
   simp[v2a,h',h]
theorem Yp {L:List MMark} {id k:Int}:Zg L id k <L.length:=by
 unfold Zg;cases e:L.findIdx? (fun x=>decide (x.task=id)&&decide (x.kind=k))with
 | some i=>
   have:=(v14.1 e).1;show(i:Int)<_;omega
 |none=>show(-1:Int)<_;omega
theorem JQ {L:List MMark} {id k:Int}: -1<=Zg L id k:=by
 unfold Zg;cases L.findIdx? (fun x=>decide (x.task=id)&&decide (x.kind=k))with
 |some i=>show(-1:Int)<=i;omega
 |none=>exact v03 _
structure LkOk (T:List MTask) (L:List MMark) (x:MMark):Prop where
 t:1<=x.task/\x.task<=T.length
 b:x.kind=1↔bIx L x.task <0
 e:eIx L x.task <0
 k :x.kind=1\/x.kind=2\/x.kind=3\/((x.kind=4\/x.kind=5)/\(1<=x.other/\x.other<=T.length)/\bIx L x.other <0/\(tkT T x.other).by'=x.task/\x.task <x.other/\(tkT T x.other).mark=L.length/\(x.kind=4↔(tkT T x.other).kind=4)/\(x.kind=5↔(tkT T x.other).kind=5))\/
   (x.kind=6/\(1<=x.other/\x.other<=T.length)/\(tkT T x.other).kind=5/\0<=eIx L x.other)\/(x.kind=7/\0<=x.other)
structure TkLe (T T':List MTask):Prop where
 l:T.length<=T'.length
 s: ∀id:Int,1<=id->id<=T.length->(tkT T' id).by'=(tkT T id).by'/\(tkT T' id).mark=(tkT T id).mark/\(tkT T' id).kind=(tkT T id).kind
theorem LkOk.mono {T T':List MTask} {L:List MMark} {x:MMark} (h:LkOk T L x) (m:TkLe T T'):LkOk T' L x:=by
 have hl:=m.l;refine⟨⟨h.t.1,by have:=h.t.2;omega⟩,h.b,h.e,?_⟩;rcases h.k with h|h|h| ⟨h1,h2,h3,h4,h5,h6,h7,h8⟩| ⟨h1,h2,h3,h4⟩|h
 · exact .inl h
 · exact .inr (.inl h)
 · exact .inr (.inr (.inl h))
 · obtain⟨a,b,c⟩:=m.s x.other h2.1 h2.2;exact .inr (.inr (.inr (.inl ⟨h1,⟨h2.1,by omega⟩,h3,by rw[a];exact h4,h5,by rw[b];exact h6,by rw[c];exact h7,by rw[c];exact h8⟩)))
 · obtain⟨a,b,c⟩:=m.s x.other h2.1 h2.2;exact .inr (.inr (.inr (.inr (.inl ⟨h1,⟨h2.1,by omega⟩,by rw[c];exact h3,h4⟩))))
 exact .inr (.inr (.inr (.inr (.inr h))))
structure MkInv (T:List MTask) (M:List MMark):Prop where
 lk: ∀i (hi:i <M.length),LkOk T (M.take i) M[i]
 st: ∀id:Int,1<=id->id<=T.length->(bIx M id <0↔(tkT T id).state=1\/(tkT T id).state=4)/\(0<=eIx M id↔(tkT T id).state=3)
theorem Qab {T T':List MTask} {M:List MMark} {x:MMark} (h: ∀i (hi:i <M.length),LkOk T (M.take i) M[i]) (m:TkLe T T') (hx:LkOk T' M x): ∀i (hi:i <(M++[x]).length),LkOk T' ((M++[x]).take i) (M++[x])[i]:=by
 intro i hi;rw[v0j,v1l]at hi;by_cases e:i <M.length
 · rw[List.getElem_append_left e,List.take_append_of_le_length (by omega)];exact(h i e).mono m
 have e:i=M.length:=by omega
 subst e;rw[List.take_left,List.getElem_append_right (v0b _)];simpa using hx
theorem Q95 {T:List MTask}:TkLe T T:=⟨v0b _,fun _ _ _=>⟨rfl,rfl,rfl⟩⟩
theorem Zh {T:List MTask} {id j:Int} {f:MTask->MTask} (h1:1<=id) (h2:id<=T.length) (h3:1<=j):tkT (T.modify (id -1).toNat f) j=if j=id then f (tkT T id)else tkT T j:=by
 unfold tkT;rw[v1i];by_cases e:j=id
 · subst e;rw[if_pos rfl,v0c (by omega)];simp
 rw[if_neg e];have ao: ¬(id -1).toNat=(j -1).toNat:=by omega
 simp only[ao,if_false];cases T[(j -1).toNat]?<;>rfl
theorem Q3v {T:List MTask} {id:Int} {f:MTask->MTask} (h1:1<=id) (h2:id<=T.length) (hf: ∀t,(f t).by'=t.by'/\(f t).mark=t.mark/\(f t).kind=t.kind):TkLe T (T.modify (id -1).toNat f):=by
 refine⟨by rw[v0l];exact v0b _,fun j j1 j2=>?_⟩;rw[Zh h1 h2 j1]
 split
 · rename_i e;subst e;exact hf _
 exact⟨rfl,rfl,rfl⟩
theorem Zs {T:List MTask} {t:MTask} {j:Int} (h1:1<=j) (h2:j<=T.length):tkT (T++[t]) j=tkT T j:=by
 unfold tkT;rw[v0z (by omega)]
theorem Yn {T:List MTask} {t:MTask}:tkT (T++[t]) (T.length+1)=t:=by
 unfold tkT;rw[show((T.length:Int)+1 -1).toNat=T.length by omega,v0Q (v0b _)];simp
theorem QbR {T:List MTask} {t:MTask}:TkLe T (T++[t]):=
 ⟨by rw[v0j];omega,fun j j1 j2=>by rw[Zs j1 j2];exact⟨rfl,rfl,rfl⟩⟩
theorem MkInv.mark {T:List MTask} {M:List MMark} {x:MMark} (h:MkInv T M) (hx:LkOk T M x) (h1:x.kind≠1) (h2:x.kind≠2):MkInv T (M++[x]):=by
 refine⟨Qab h.lk Q95 hx,fun id i1 i2=>?_⟩
 have e1:bIx (M++[x]) id=bIx M id:=by
  unfold bIx;rw[ZJ,if_neg (show ¬(x.task=id/\x.kind=1) from fun e=>h1 e.2)];have:=JQ (L:=M) (id:=id) (k:=1)
  split<;>omega
 have e2:eIx (M++[x]) id=eIx M id:=by
  unfold eIx;rw[ZJ,if_neg (show ¬(x.task=id/\x.kind=2) from fun e=>h2 e.2)];have:=JQ (L:=M) (id:=id) (k:=2)
  split<;>omega
 rw[e1,e2];exact h.st id i1 i2
theorem MkInv.begin {T:List MTask} {M:List MMark} {id:Int} {a:MAcc} {o:Int} (h:MkInv T M) (i1:1<=id) (i2:id<=T.length) (hs:(tkT T id).state=1):MkInv (T.modify (id -1).toNat fun t=> {t with state:=2}) (M++[⟨1,id,o,a⟩]):=by
 have av:=h.st id i1 i2;have hb:bIx M id <0:=av.1.2 (.inl hs);have aZ:Zg M id 1 <0:=hb;have he: ¬0<=eIx M id:=fun e=>by have:=av.2.1 e;omega
 have m:TkLe T (T.modify (id -1).toNat fun t=> {t with state:=2}):=Q3v i1 i2 fun _=>⟨rfl,rfl,rfl⟩;refine⟨Qab h.lk m ⟨⟨i1,by rw[v0l];exact i2⟩,⟨fun _=>hb,fun _=>rfl⟩,by show eIx M id <0;omega,.inl rfl⟩,fun j j1 j2=>?_⟩;rw[v0l]at j2;have hj:=h.st j j1 j2;rw[Zh i1 i2 j1]
 have e2:eIx (M++[⟨1,id,o,a⟩]) j=eIx M j:=by
  unfold eIx;rw[ZJ,if_neg (show ¬(id=j/\(1:Int)=2) from fun e=>by omega)];have:=JQ (L:=M) (id:=j) (k:=2)
  split<;>omega
 rw[e2];by_cases e:j=id
 · subst e;rw[if_pos rfl]
   have e1:bIx (M++[⟨1,j,o,a⟩]) j=M.length:=by
    unfold bIx;rw[ZJ,if_neg (by omega),if_pos ⟨rfl,rfl⟩]
   rw[e1];exact⟨⟨fun h=>by omega,fun h=>by rcases h with h|h<;>(have h:(2:Int)=_:=h;omega)⟩,⟨fun h=>absurd h he,fun h=>by have h:(2:Int)=3:=h;omega⟩⟩
 rw[if_neg e]
 have e1:bIx (M++[⟨1,id,o,a⟩]) j=bIx M j:=by
  unfold bIx;rw[ZJ,if_neg (show ¬(id=j/\(1:Int)=1) from fun k=>e k.1.symm)];have:=JQ (L:=M) (id:=j) (k:=1)
  split<;>omega
 rw[e1];exact hj
theorem MkInv.end' {T:List MTask} {M:List MMark} {id k:Int} {a:MAcc} {o:Int} (h:MkInv T M) (i1:1<=id) (i2:id<=T.length) (hs:(tkT T id).state=2):MkInv (T.modify (id -1).toNat fun t=> {t with state:=3,trap:=k}) (M++[⟨2,id,o,a⟩]):=by
 have av:=h.st id i1 i2;have hb: ¬bIx M id <0:=fun e=>by rcases av.1.1 e with e|e<;>omega
 have aZ: ¬Zg M id 1 <0:=hb;have he: ¬0<=eIx M id:=fun e=>by have:=av.2.1 e;omega
 have he': ¬0<=Zg M id 2:=he;have m:TkLe T (T.modify (id -1).toNat fun t=> {t with state:=3,trap:=k}):=Q3v i1 i2 fun _=>⟨rfl,rfl,rfl⟩;refine⟨Qab h.lk m ⟨⟨i1,by rw[v0l];exact i2⟩,⟨fun e=>by have e:(2:Int)=1:=e;omega,fun e=>absurd e hb⟩,by show eIx M id <0;omega,.inr (.inl rfl)⟩,fun j j1 j2=>?_⟩;rw[v0l]at j2;have hj:=h.st j j1 j2;rw[Zh i1 i2 j1]
 have e1:bIx (M++[⟨2,id,o,a⟩]) j=bIx M j:=by
  unfold bIx;rw[ZJ,if_neg (show ¬(id=j/\(2:Int)=1) from fun e=>by omega)];have:=JQ (L:=M) (id:=j) (k:=1)
  split<;>omega
 rw[e1];by_cases e:j=id
 · subst e;rw[if_pos rfl]
   have e2:eIx (M++[⟨2,j,o,a⟩]) j=M.length:=by
    unfold eIx;rw[ZJ,if_neg he',if_pos ⟨rfl,rfl⟩]
   rw[e2];exact⟨⟨fun h=>absurd h hb,fun h=>by rcases h with h|h<;>(have h:(3:Int)=_:=h;omega)⟩,⟨fun _=>rfl,fun _=>by omega⟩⟩
 rw[if_neg e]
 have e2:eIx (M++[⟨2,id,o,a⟩]) j=eIx M j:=by
  unfold eIx;rw[ZJ,if_neg (show ¬(id=j/\(2:Int)=2) from fun k=>e k.1.symm)];have:=JQ (L:=M) (id:=j) (k:=2)
  split<;>omega
 rw[e2];exact hj
theorem MkInv.cancel {T:List MTask} {M:List MMark} {id:Int} (h:MkInv T M) (i1:1<=id) (i2:id<=T.length) (hs:(tkT T id).state=1):MkInv (T.modify (id -1).toNat fun t=> {t with state:=4}) M:=by
 have av:=h.st id i1 i2;have hb:bIx M id <0:=av.1.2 (.inl hs);have he: ¬0<=eIx M id:=fun e=>by have:=av.2.1 e;omega
 have m:TkLe T (T.modify (id -1).toNat fun t=> {t with state:=4}):=Q3v i1 i2 fun _=>⟨rfl,rfl,rfl⟩;refine⟨fun i hi=>(h.lk i hi).mono m,fun j j1 j2=>?_⟩;rw[v0l]at j2;rw[Zh i1 i2 j1];by_cases e:j=id
 · subst e;rw[if_pos rfl];exact⟨⟨fun _=>.inr rfl,fun _=>hb⟩,⟨fun h=>absurd h he,fun h=>by have h:(4:Int)=3:=h;omega⟩⟩
 rw[if_neg e];exact h.st j j1 j2
theorem Q42 {T:List MTask} {M:List MMark} {id k:Int} (h:MkInv T M) (hi:(T.length:Int)<id):Zg M id k <0:=by
 unfold Zg
 have:M.findIdx? (fun x=>decide (x.task=id)&&decide (x.kind=k))=none:=by
  rw[v2g];intro x hx;obtain⟨i,aX,rfl⟩:=v0N.1 hx;have:=(h.lk i aX).t.2;have ao: ¬(M[i]).task=id:=by omega
  simp[ao]
 rw[this];show(-1:Int)<0;omega
theorem MkInv.add {T:List MTask} {M:List MMark} {t:MTask} (h:MkInv T M) (hs:t.state=1):MkInv (T++[t]) M:=by
 refine⟨fun i hi=>(h.lk i hi).mono QbR,fun j j1 j2=>?_⟩;rw[v0j,v1l]at j2;by_cases e:j<=T.length
 · rw[Zs j1 e];exact h.st j j1 e
 have e:j=T.length+1:=by omega
 subst e;rw[Yn,hs];have h1:Zg M ((T.length:Int)+1) 1 <0:=Q42 h (by omega);have h2:Zg M ((T.length:Int)+1) 2 <0:=Q42 h (by omega);exact⟨⟨fun _=>.inl rfl,fun _=>h1⟩,⟨fun h=>absurd h (by show ¬0<=Zg M _ 2;omega),fun h=>by omega⟩⟩
theorem MkInv.made {T:List MTask} {M:List MMark} {t:MTask} {id q:Int} {a:MAcc} (h:MkInv T M) (i1:1<=id) (i2:id<=T.length) (hr:(tkT T id).state=2) (hs:t.state=1) (hb:t.by'=id) (hm:t.mark=M.length) (hq:q=4\/q=5) (hk:t.kind=q):MkInv (T++[t]) (M++[⟨q,id,T.length+1,a⟩]):=by
 have h':=h.add hs;have av:=h.st id i1 i2;refine h'.mark ⟨⟨i1,by rw[v0j];simp;omega⟩,⟨fun e=>by have e:q=1:=e;omega,fun e=>by rcases av.1.1 e with e|e<;>omega⟩,?_,.inr (.inr (.inr (.inl ⟨hq,⟨by show(1:Int)<=T.length+1;omega,by show(T.length:Int)+1<=_;rw[v0j];simp⟩,?_,?_,?_,?_,?_,?_⟩)))⟩ (by show q≠1;omega) (by show q≠2;omega)
 · refine Classical.byContradiction fun e=>?_
   have e:0<=eIx M id:=by
    have: ¬eIx M id <0:=e;omega
   have:=av.2.1 e;omega
 · exact Q42 h (by show(T.length:Int)<T.length+1;omega)
 · show(tkT (T++[t]) (T.length+1)).by'=id
   rw[Yn];exact hb
 · show id <T.length+1;omega
 · show(tkT (T++[t]) (T.length+1)).mark=M.length;rw[Yn];exact hm
 · show q=4↔(tkT (T++[t]) (T.length+1)).kind=4;rw[Yn,hk]
 show q=5↔(tkT (T++[t]) (T.length+1)).kind=5;rw[Yn,hk]
theorem MkInv.note {T:List MTask} {M:List MMark} {x:MMark} (h:MkInv T M) (i1:1<=x.task) (i2:x.task<=T.length) (hr:(tkT T x.task).state=2) (hx:x.kind=3\/(x.kind=6/\(1<=x.other/\x.other<=T.length)/\(tkT T x.other).kind=5/\(tkT T x.other).state=3)\/(x.kind=7/\0<=x.other)):MkInv T (M++[x]):=by
 have av:=h.st x.task i1 i2;have hb: ¬bIx M x.task <0:=fun e=>by rcases av.1.1 e with e|e<;>omega
 have he:eIx M x.task <0:=Classical.byContradiction fun e=>by have:=av.2.1 (by omega);omega
 refine h.mark ⟨⟨i1,i2⟩,⟨fun e=>?_,fun e=>absurd e hb⟩,he,?_⟩ ?_ ?_
 · rcases hx with h|h|h
   · omega
   · have:=h.1;omega
   have:=h.1;omega
 · rcases hx with h1| ⟨h1,h2,h3,h4⟩|h1
   · exact .inr (.inr (.inl h1))
   · exact .inr (.inr (.inr (.inr (.inl ⟨h1,h2,h3,(h.st x.other h2.1 h2.2).2.2 h4⟩))))
   exact .inr (.inr (.inr (.inr (.inr h1))))
 · rcases hx with h|h|h
   · omega
   · have:=h.1;omega
   have:=h.1;omega
 rcases hx with h|h|h
 · omega
 · have:=h.1;omega
 have:=h.1;omega
def QbA (t:MTask) (id:Int) (x:MMark):Prop:=(t.kind=4/\x.kind=4/\x.other=id)\/(t.kind=5/\x.kind=5/\x.other=id)\/(t.kind=3/\x.kind=7/\x.other=t.of')
def MadeI (M:List MMark) (t:MTask) (id:Int):Prop:=(t.mark <0->t.kind≠4/\t.kind≠5)/\(0<=t.mark->(0<=bIx M id->t.mark <bIx M id)/\ ∃x,M[t.mark.toNat]?=some x/\QbA t id x)
def FolI (T:List MTask) (M:List MMark) (t:MTask) (id:Int):Prop:=t.prev=0\/((1<=t.prev/\t.prev <id)/\(t.kind=2\/t.kind=3)/\(tkT T t.prev).kind=t.kind/\(tkT T t.prev).of'=t.of'/\(tkT T t.prev).looper=t.looper/\(0<=bIx M id->0<=eIx M t.prev/\eIx M t.prev <bIx M id))
structure TkInv (T:List MTask) (M:List MMark):Prop where
 kd: ∀id:Int,1<=id->id<=T.length->(1<=(tkT T id).kind/\(tkT T id).kind<=5)/\((tkT T id).kind=5↔(tkT T id).looper <0)
 made: ∀id:Int,1<=id->id<=T.length->MadeI M (tkT T id) id
 fol: ∀id:Int,1<=id->id<=T.length->FolI T M (tkT T id) id
 alone: ∀(i j:Nat) (x y:MMark),i <j->M[i]?=some x->M[j]?=some y->x.kind=1->y.kind=1->0<=(tkT T y.task).looper->(tkT T x.task).looper=(tkT T y.task).looper->0<=eIx M x.task/\eIx M x.task <j
theorem Q5q {L:List MMark} {x:MMark} {id k:Int} (h:0<=Zg L id k):Zg (L++[x]) id k=Zg L id k:=by rw[ZJ,if_pos h]
theorem Q6H {L:List MMark} {x:MMark} {id k:Int} (h:x.kind≠k\/x.task≠id):Zg (L++[x]) id k=Zg L id k:=by
 rw[ZJ,if_neg (show ¬(x.task=id/\x.kind=k) from fun e=>by rcases h with h|h;exact h e.2;exact h e.1)];have:=JQ (L:=L) (id:=id) (k:=k)
 split<;>omega
structure TkEq (T T':List MTask):Prop where
 l:T'.length=T.length
 s: ∀id:Int,1<=id->(tkT T' id).kind=(tkT T id).kind/\(tkT T' id).of'=(tkT T id).of'/\(tkT T' id).looper=(tkT T id).looper/\(tkT T' id).mark=(tkT T id).mark/\(tkT T' id).prev=(tkT T id).prev
theorem Q1M {T:List MTask}:TkEq T T:=⟨rfl,fun _ _=>⟨rfl,rfl,rfl,rfl,rfl⟩⟩
theorem Q1v {T:List MTask} {id:Int} {f:MTask->MTask} (h1:1<=id) (h2:id<=T.length) (hf: ∀t,(f t).kind=t.kind/\(f t).of'=t.of'/\(f t).looper=t.looper/\(f t).mark=t.mark/\(f t).prev=t.prev):TkEq T (T.modify (id -1).toNat f):=by
 refine⟨v0l ..,fun j j1=>?_⟩;rw[Zh h1 h2 j1]
 split
 · rename_i e;subst e;exact hf _
 exact⟨rfl,rfl,rfl,rfl,rfl⟩
theorem MadeI.keep {M:List MMark} {t t':MTask} {id:Int} {x:MMark} (h:MadeI M t id) (hb:0<=bIx (M++[x]) id->0<=bIx M id/\bIx (M++[x]) id=bIx M id\/bIx (M++[x]) id=M.length) (e:t'.kind=t.kind/\t'.of'=t.of'/\t'.mark=t.mark):MadeI (M++[x]) t' id:=by
 obtain⟨e1,e2,e3⟩:=e;refine⟨fun h0=>by rw[e1];exact h.1 (by rw[<-e3];exact h0),fun h0=>?_⟩;rw[e3]at h0 ⊢;obtain⟨h1,y,hy,hk⟩:=h.2 h0;have ai:=(v0y.1 hy).1;refine⟨fun aZ=>?_,y,by rw[v0z ai];exact hy,by unfold QbA at hk ⊢;rw[e1,e2];exact hk⟩;rcases hb aZ with⟨h2,h3⟩|h2
 · rw[h3];exact h1 h2
 rw[h2];omega
theorem TkInv.note {T T':List MTask} {M:List MMark} {x:MMark} (h:TkInv T M) (s:TkEq T T') (hx:x.kind≠1):TkInv T' (M++[x]):=by
 have hb: ∀id,bIx (M++[x]) id=bIx M id:=fun id=>Q6H (.inl hx);have he: ∀id,0<=eIx M id->eIx (M++[x]) id=eIx M id:=fun id h=>Q5q h;refine⟨fun id i1 i2=>?_,fun id i1 i2=>?_,fun id i1 i2=>?_,fun i j y z gk hy hz ky kz hl cP=>?_⟩
 · obtain⟨a,b,c,d,e⟩:=s.s id i1;rw[a,c];exact h.kd id i1 (by rw[<-s.l];exact i2)
 · obtain⟨a,b,c,d,e⟩:=s.s id i1;exact(h.made id i1 (by rw[<-s.l];exact i2)).keep (fun h0=>.inl ⟨by rw[<-hb];exact h0,hb id⟩) ⟨a,b,d⟩
 · obtain⟨a,b,c,d,e⟩:=s.s id i1;rcases h.fol id i1 (by rw[<-s.l];exact i2)with h| ⟨h1,h2,h3,h4,h5,h6⟩
   · exact .inl (by rw[e];exact h)
   obtain⟨a',b',c',d',e'⟩:=s.s (tkT T id).prev h1.1;refine .inr ⟨by rw[e];exact h1,by rw[a];exact h2,by rw[e,a,a'];exact h3,by rw[e,b,b'];exact h4,by rw[e,c,c'];exact h5,fun h0=>?_⟩;rw[hb]at h0 ⊢;have:=h6 h0;rw[e,he _ this.1];exact this
 have bH:=(v0y.1 hz).1;rw[v0j,v1l]at bH
 have hj:j <M.length:=by
  refine Classical.byContradiction fun e=>?_;have e:j=M.length:=by omega
  subst e;rw[v0Q (v0b _)]at hz;simp at hz;rw[<-hz]at kz;exact hx kz
 rw[v0z hj]at hz;rw[v0z (by omega)]at hy;by_cases hy1:1<=y.task/\1<=z.task
 · obtain⟨_,_,c1,_,_⟩:=s.s y.task hy1.1;obtain⟨_,_,c2,_,_⟩:=s.s z.task hy1.2;rw[c2]at hl cP;rw[c1]at cP;have:=h.alone i j y z gk hy hz ky kz hl cP;rw[he _ this.1];exact this
 have hT: ∀n:Int,¬1<=n->tkT T' n=tkT T' 1/\tkT T n=tkT T 1:=fun n hn=>by
  unfold tkT;rw[show(n -1).toNat=0 by omega];exact⟨rfl,rfl⟩
 have hc: ∀n:Int,(tkT T' n).looper=(tkT T n).looper:=fun n=>by
  by_cases hn:1<=n
  · exact(s.s n hn).2.2.1
  rw[(hT n hn).1,(hT n hn).2];exact(s.s 1 (v03 _)).2.2.1
 rw[hc]at hl cP;rw[hc]at cP;have:=h.alone i j y z gk hy hz ky kz hl cP;rw[he _ this.1];exact this
theorem Q43 {M:List MMark} {i:Nat} {y:MMark} {k:Int} (h:M[i]?=some y) (hk:y.kind=k):0<=Zg M y.task k:=by
 unfold Zg;cases e:M.findIdx? (fun x=>decide (x.task=y.task)&&decide (x.kind=k))with
 |some j=>show(0:Int)<=j;omega
 | none=>
   rw[v2g]at e;have:=e y (v0m h);simp[hk]at this
theorem TkEq.loop {T T':List MTask} (s:TkEq T T') (n:Int):(tkT T' n).looper=(tkT T n).looper:=by
 by_cases hn:1<=n
 · exact(s.s n hn).2.2.1
 have h1:tkT T' n=tkT T' 1:=by unfold tkT;rw[show(n -1).toNat=0 by omega];rfl
 have h2:tkT T n=tkT T 1:=by unfold tkT;rw[show(n -1).toNat=0 by omega];rfl
 rw[h1,h2];exact(s.s 1 (v03 _)).2.2.1
theorem TkInv.begin {T T':List MTask} {M:List MMark} {id o:Int} {ac:MAcc} (h:TkInv T M) (s:TkEq T T') (i1:1<=id) (i2:id<=T.length) (hb:bIx M id <0) (hp:(tkT T id).prev≠0->0<=eIx M (tkT T id).prev) (hO:0<=(tkT T id).looper-> ∀j:Int,0<=bIx M j->(tkT T j).looper=(tkT T id).looper->0<=eIx M j):TkInv T' (M++[⟨1,id,o,ac⟩]):=by
 have jF:Zg M id 1 <0:=hb;have hbn: ∀j,j≠id->bIx (M++[⟨1,id,o,ac⟩]) j=bIx M j:=fun j hj=>Q6H (.inr (fun e=>hj e.symm))
 have hbi:bIx (M++[⟨1,id,o,ac⟩]) id=M.length:=by
  show Zg _ id 1=_;rw[ZJ,if_neg (by omega),if_pos ⟨rfl,rfl⟩]
 have he: ∀j,eIx (M++[⟨1,id,o,ac⟩]) j=eIx M j:=fun j=>Q6H (.inl (by show(1:Int)≠2;omega));refine⟨fun j j1 j2=>?_,fun j j1 j2=>?_,fun j j1 j2=>?_,fun i j y z gk hy hz ky kz hl cP=>?_⟩
 · obtain⟨a,b,c,d,e⟩:=s.s j j1;rw[a,c];exact h.kd j j1 (by rw[<-s.l];exact j2)
 · obtain⟨a,b,c,d,e⟩:=s.s j j1;refine(h.made j j1 (by rw[<-s.l];exact j2)).keep (fun h0=>?_) ⟨a,b,d⟩;by_cases ej:j=id
   · subst ej;exact .inr hbi
   exact .inl ⟨by rw[<-hbn j ej];exact h0,hbn j ej⟩
 · obtain⟨a,b,c,d,e⟩:=s.s j j1;rcases h.fol j j1 (by rw[<-s.l];exact j2)with h| ⟨h1,h2,h3,h4,h5,h6⟩
   · exact .inl (by rw[e];exact h)
   obtain⟨a',b',c',d',e'⟩:=s.s (tkT T j).prev h1.1;refine .inr ⟨by rw[e];exact h1,by rw[a];exact h2,by rw[e,a,a'];exact h3,by rw[e,b,b'];exact h4,by rw[e,c,c'];exact h5,fun h0=>?_⟩;rw[e,he];by_cases ej:j=id
   · subst ej;rw[hbi];have:=hp (by omega);have h9:=Yp (L:=M) (id:=(tkT T j).prev) (k:=2);exact⟨this,h9⟩
   rw[hbn j ej]at h0 ⊢;exact h6 h0
 rw[s.loop]at hl cP;rw[s.loop]at cP;rw[he];have bH:=(v0y.1 hz).1;rw[v0j,v1l]at bH;by_cases hj:j <M.length
 · rw[v0z hj]at hz;rw[v0z (by omega)]at hy;exact h.alone i j y z gk hy hz ky kz hl cP
 have e:j=M.length:=by omega
 subst e;rw[v0Q (v0b _)]at hz;simp at hz;rw[v0z gk]at hy;subst hz;have h0:=Q43 hy ky;have:=hO hl y.task h0 cP;have h9:=Yp (L:=M) (id:=y.task) (k:=2);exact⟨this,h9⟩
theorem Q7T {n:Int} {M:List MMark} {id k:Int} (h: ∀x,x∈M->1<=x.task/\x.task<=n) (hi:n <id):Zg M id k <0:=by
 unfold Zg
 have:M.findIdx? (fun x=>decide (x.task=id)&&decide (x.kind=k))=none:=by
  rw[v2g];intro x hx;have:=(h x hx).2;have ao: ¬x.task=id:=by omega
  simp[ao]
 rw[this];show(-1:Int)<0;omega
theorem MkInv.tasks {T:List MTask} {M:List MMark} (g:MkInv T M): ∀x,x∈M->1<=x.task/\x.task<=T.length:=fun x hx=>by
 obtain⟨i,hi,rfl⟩:=v0N.1 hx;exact(g.lk i hi).t
theorem TkInv.add {T:List MTask} {M:List MMark} {t:MTask} (h:TkInv T M) (g: ∀x,x∈M->1<=x.task/\x.task<=T.length) (hk:(1<=t.kind/\t.kind<=5)/\(t.kind=5↔t.looper <0)) (hm:MadeI M t (T.length+1)) (hf:t.prev=0\/((1<=t.prev/\t.prev<=T.length)/\(t.kind=2\/t.kind=3)/\(tkT T t.prev).kind=t.kind/\(tkT T t.prev).of'=t.of'/\(tkT T t.prev).looper=t.looper)):TkInv (T++[t]) M:=by
 have hlen:(T++[t]).length=T.length+1:=by simp
 have hb:bIx M (T.length+1)<0:=Q7T g (by omega)
 have az: ∀j:Int,1<=j->j<=(T++[t]).length->(j<=T.length/\tkT (T++[t]) j=tkT T j)\/(j=T.length+1/\tkT (T++[t]) j=t):=fun j j1 j2=>by
  rw[hlen]at j2;by_cases e:j<=T.length
  · exact .inl ⟨e,Zs j1 e⟩
  have e:j=T.length+1:=by omega
  exact .inr ⟨e,by rw[e];exact Yn⟩
 refine⟨fun j j1 j2=>?_,fun j j1 j2=>?_,fun j j1 j2=>?_,fun i j y z gk hy hz ky kz hl cP=>?_⟩
 · rcases az j j1 j2 with⟨e1,e2⟩| ⟨e1,e2⟩
   · rw[e2];exact h.kd j j1 e1
   rw[e2];exact hk
 · rcases az j j1 j2 with⟨e1,e2⟩| ⟨e1,e2⟩
   · rw[e2];exact h.made j j1 e1
   rw[e2,e1];exact hm
 · rcases az j j1 j2 with⟨e1,e2⟩| ⟨e1,e2⟩
   · rw[e2];rcases h.fol j j1 e1 with h| ⟨h1,h2,h3,h4,h5,h6⟩
     · exact .inl h
     have ep:tkT (T++[t]) (tkT T j).prev=tkT T (tkT T j).prev:=Zs h1.1 (by omega);exact .inr ⟨h1,h2,by rw[ep];exact h3,by rw[ep];exact h4,by rw[ep];exact h5,h6⟩
   rw[e2];rcases hf with hf| ⟨h1,h2,h3,h4,h5⟩
   · exact .inl hf
   have ep:tkT (T++[t]) t.prev=tkT T t.prev:=Zs h1.1 h1.2;refine .inr ⟨⟨h1.1,by omega⟩,h2,by rw[ep];exact h3,by rw[ep];exact h4,by rw[ep];exact h5,fun h0=>?_⟩;rw[e1]at h0;exact absurd h0 (by omega)
 have hyt:=g y (v0m hy);have hzt:=g z (v0m hz);rw[Zs hzt.1 hzt.2]at hl cP;rw[Zs hyt.1 hyt.2]at cP;exact h.alone i j y z gk hy hz ky kz hl cP
theorem TkInv.madeT {T:List MTask} {M:List MMark} {t:MTask} {id q:Int} {ac:MAcc} (h:TkInv T M) (g: ∀x,x∈M->1<=x.task/\x.task<=T.length) (i1:1<=id) (i2:id<=T.length) (hq:q=4\/q=5) (hk:t.kind=q) (hl:t.kind=5↔t.looper <0) (hm:t.mark=M.length) (hp:t.prev=0):TkInv (T++[t]) (M++[⟨q,id,T.length+1,ac⟩]):=by
 have h1:=TkInv.note (x:=⟨q,id,T.length+1,ac⟩) h Q1M (by show q≠1;omega)
 have g': ∀x,x∈M++[(⟨q,id,T.length+1,ac⟩:MMark)]->1<=x.task/\x.task<=T.length:=fun x hx=>by
  rcases v0x.1 hx with hx|hx
  · exact g x hx
  rw[v0X]at hx;subst hx;exact⟨i1,i2⟩
 refine h1.add g' ⟨by omega,hl⟩ ⟨fun h0=>by omega,fun _=>⟨fun h0=>absurd h0 (by have:bIx (M++[(⟨q,id,T.length+1,ac⟩:MMark)]) (T.length+1)<0:=Q7T g' (by omega);omega),⟨q,id,T.length+1,ac⟩,?_,?_⟩⟩ (.inl hp)
 · rw[hm,v0i,v0Q (v0b _)];simp
 rcases hq with e|e
 · exact .inl ⟨by omega,e,rfl⟩
 exact .inr (.inl ⟨by omega,e,rfl⟩)
theorem Q3l {L:List MItem}: ∀k,0 <k->0<=Qu L k
 |0,h=>by omega
 | k+1,_=>by
   unfold Qu
   split
   · omega
   split
   · omega
   omega
theorem Q10 {L:List MItem}: ∀k,0 <k->(Ke L (Qu L k)).front=false-> ∀j:Nat,j <k->(Ke L j).front=false/\((j:Int)<Qu L k->(Ke L (Qu L k)).due <(Ke L j).due)/\(Qu L k <j->(Ke L (Qu L k)).due<=(Ke L j).due)
 |0,h,_=>by omega
 | k + 1,_,hf=>by
   intro j hj;by_cases hk:0 <k
   · have hp:=Q3l (L:=L) k hk
     have aD:Qu L k <k:=by
      by_cases eI:k<=L.length
      · exact(Kh L k eI).2.2
      have: ∀k,Qu L k <(k:Int):=fun k=>by
       induction k with
       |zero=>show(-1:Int)<(0:Nat);omega
       | succ n ih=>
         unfold Qu
         split
         · omega
         split<;>omega
      exact this k
     by_cases hb:K7 (Ke L k) (Ke L (Qu L k))=true
     · have e:Qu L (k+1)=k:=by
        show(if Qu L k <0 then(k:Int)else if K7 (Ke L k) (Ke L (Qu L k))=true then(k:Int)else Qu L k)=k;rw[if_neg (by omega),if_pos hb]
       rw[e]at hf ⊢;unfold K7 at hb;rw[hf,Bool.false_or]at hb;simp only[v0g,v0J,decide_eq_true_eq]at hb;have ih:=Q10 k hk hb.1;by_cases hjk:j=k
       · subst hjk;exact⟨hf,fun h=>by omega,fun h=>by omega⟩
       obtain⟨i1,i2,i3⟩:=ih j (by omega);refine⟨i1,fun _=>?_,fun h=>by omega⟩;by_cases c:(j:Int)<Qu L k
       · have:=i2 c;omega
       by_cases c2:Qu L k <j
       · have:=i3 c2;omega
       have:(j:Int)=Qu L k:=by omega
       rw[this];exact hb.2
     have e:Qu L (k+1)=Qu L k:=by
      show(if Qu L k <0 then(k:Int)else if K7 (Ke L k) (Ke L (Qu L k))=true then(k:Int)else Qu L k)=Qu L k;rw[if_neg (by omega),if_neg hb]
     rw[e]at hf ⊢;by_cases hjk:j=k
     · subst hjk;unfold K7 at hb;rw[hf]at hb;simp at hb;exact⟨hb.1,fun h=>by omega,fun _=>hb.2⟩
     exact Q10 k hk hf j (by omega)
   have hk0:k=0:=by omega
   subst hk0;have e:Qu L 1=0:=rfl;have hj0:j=0:=by omega
   subst hj0;rw[show(0+1:Nat)=1 from rfl,e]at hf ⊢;exact⟨hf,fun h=>by omega,fun h=>by omega⟩
theorem QaZ {L:List MItem} {now:Int} {p:MItem} (hb:Q2P L now=true) (hs:L.Pairwise fun a b=>a.task <b.task) (hp:p∈L) (ht:p.task <(Zq L now).task) (hf:(Zq L now).front=false) (hd:p.due<=(Zq L now).due):False:=by
 have ex:Zq L now=Ke L (Z7 L):=by unfold Zq;rw[if_pos hb]
 obtain⟨j,hj,rfl⟩:=v0N.1 hp;have hl:0 <L.length:=by omega
 have h0:=Q3l (L:=L) L.length hl;have h1:=(Kh L L.length (v0b _)).2.1;have h0:0<=Z7 L:=h0;have h1:Z7 L <L.length:=h1;obtain⟨i,hi⟩: ∃i:Nat,Z7 L=i:=⟨(Z7 L).toNat,by omega⟩;have dQ:i <L.length:=by omega
 have ei:Ke L (Z7 L)=L[i]:=by
  unfold Ke;rw[hi,v0i,v0c dQ];rfl
 have ej:Ke L (j:Int)=L[j]:=by
  unfold Ke;rw[v0i,v0c hj];rfl
 rw[ex]at ht hf hd;have hm:=Q10 (L:=L) L.length hl hf j hj
 have nv:j <i:=by
  refine Classical.byContradiction fun e=>?_;rcases Nat.lt_or_ge i j with c|c
  · have:=v2p.1 hs i j dQ hj c;rw[ei]at ht;omega
  have:i=j:=by omega
  subst this;rw[ei]at ht;omega
 have h2:=hm.2.1 (by show(j:Int)<Z7 L;omega);rw[ej]at h2;have h2:(Ke L (Z7 L)).due <(L[j]).due:=h2;omega
structure QInv (s:MS):Prop where
 so: ∀L,L∈s.Q->L.Pairwise fun a b=>a.task <b.task
 it: ∀(l:Nat) L,s.Q[l]?=some L-> ∀x,x∈L->(1<=x.task/\x.task<=s.T.length)/\(tkT s.T x.task).state=1/\(tkT s.T x.task).looper=l/\x.front=(tkT s.T x.task).front/\x.due=(tkT s.T x.task).due
 al: ∀id:Int,1<=id->id<=s.T.length->(tkT s.T id).state=1->0<=(tkT s.T id).looper-> ∃L x,s.Q[(tkT s.T id).looper.toNat]?=some L/\x∈L/\x.task=id
 st: ∀id:Int,1<=id->id<=s.T.length->((tkT s.T id).state=1\/(tkT s.T id).state=2\/(tkT s.T id).state=3\/(tkT s.T id).state=4)/\((tkT s.T id).state=4->(tkT s.T id).kind=4)
 rn: ∀id:Int,1<=id->id<=s.T.length->(tkT s.T id).state=2->0<=(tkT s.T id).looper->reg s.runs (tkT s.T id).looper=id
 fr: ∀id:Int,1<=id->id<=s.T.length->(tkT s.T id).kind=2\/(tkT s.T id).kind=3->(tkT s.T id).front=false/\(tkT s.T id).due<=s.now
 du: ∀p id:Int,1<=p->p <id->id<=s.T.length->((tkT s.T p).kind=2\/(tkT s.T p).kind=3)->((tkT s.T id).kind=2\/(tkT s.T id).kind=3)->(tkT s.T p).due<=(tkT s.T id).due
theorem Q8Z {s:MS} {l:Nat} {L:List MItem} (q:QInv s) (g:MkInv s.T s.M) (t:TkInv s.T s.M) (hL:s.Q[l]?=some L) (hr:reg s.runs l=0) (hd:Q2P L s.now=true) (hx:Zq L s.now∈L):((1<=(Zq L s.now).task/\(Zq L s.now).task<=s.T.length)/\(tkT s.T (Zq L s.now).task).state=1)/\bIx s.M (Zq L s.now).task <0/\((tkT s.T (Zq L s.now).task).prev≠0->0<=eIx s.M (tkT s.T (Zq L s.now).task).prev)/\(0<=(tkT s.T (Zq L s.now).task).looper-> ∀j:Int,0<=bIx s.M j->(tkT s.T j).looper=(tkT s.T (Zq L s.now).task).looper->0<=eIx s.M j):=by
 obtain⟨aD,hs,hl,hf,nJ⟩:=q.it l L hL _ hx;have av:=g.st _ aD.1 aD.2;have hbi:=av.1.2 (.inl hs)
 have begun: ∀j:Int,1<=j->j<=s.T.length->(tkT s.T j).looper=l->(tkT s.T j).state≠2:=fun j j1 j2 j3 h2=>by
  have:=q.rn j j1 j2 h2 (by omega);rw[j3,hr]at this;omega
 refine⟨⟨aD,hs⟩,hbi,fun hp=>?_,fun h0 j hb hj=>?_⟩
 · rcases t.fol _ aD.1 aD.2 with h| ⟨⟨h1,h2⟩,h3,h4,h5,h6,h7⟩
   · exact absurd h hp
   have bM:(tkT s.T (Zq L s.now).task).prev<=s.T.length:=by omega
   have di:(tkT s.T (tkT s.T (Zq L s.now).task).prev).kind=2\/(tkT s.T (tkT s.T (Zq L s.now).task).prev).kind=3:=by rw[h4];exact h3
   refine(g.st _ h1 bM).2.2 ?_;rcases (q.st _ h1 bM).1 with e|e|e|e
   · exfalso
     obtain⟨L',p,hL',eG,hZ⟩:=q.al _ h1 bM e (by rw[h6,hl];omega);rw[h6,hl,v0i,hL]at hL';cases hL';have hip:=q.it l L hL p eG;refine QaZ hd (q.so L (v0m hL)) eG (by rw[hZ];exact h2) (by rw[hf];exact(q.fr _ aD.1 aD.2 h3).1) ?_;rw[hip.2.2.2.2,nJ,hZ];exact q.du _ _ h1 h2 aD.2 di h3
   · exact absurd e (begun _ h1 bM (by rw[h6,hl]))
   · exact e
   have:=(q.st _ h1 bM).2 e;omega
 have aZ:0<=Zg s.M j 1:=hb
 have gj:1<=j/\j<=s.T.length:=by
  unfold Zg at aZ;cases e:s.M.findIdx? (fun x=>decide (x.task=j)&&decide (x.kind=1))with
  |none=>rw[e]at aZ;have aZ:(0:Int)<= -1:=aZ;omega
  | some i=>
    obtain⟨hi,h2,_⟩:=v14.1 e;have h3:=g.tasks _ (v0M hi);simp only[v0g,decide_eq_true_eq]at h2;rw[h2.1]at h3;exact h3
 have hsj:=g.st j gj.1 gj.2;refine hsj.2.2 ?_;rcases (q.st j gj.1 gj.2).1 with e|e|e|e
 · have:=hsj.1.2 (.inl e);omega
 · exact absurd e (begun j gj.1 gj.2 (by rw[hj,hl]))
 · exact e
 have:=hsj.1.2 (.inr e);omega
theorem Qev {L:List MItem} {t:Int} (h: ¬0<=ofQ L t): ∀x,x∈L->x.task≠t:=by
 unfold ofQ at h;cases e:L.findIdx? (fun x=>decide (x.task=t))with
 |some i=>rw[e]at h;exact absurd (show(0:Int)<=(i:Int) by omega) h
 | none=>
   rw[v2g]at e;intro x hx;simpa using e x hx
theorem Qb4 {L:List MItem} {t:Int} (h:L.Pairwise fun a b=>a.task <b.task):(Q3p L t).Pairwise fun a b=>a.task <b.task:=by
 unfold Q3p
 split
 · exact h.sublist (List.eraseIdx_sublist ..)
 exact h
theorem Q1A {L:List MItem} {t:Int} {x:MItem} (h:L.Pairwise fun a b=>a.task <b.task):x∈Q3p L t↔x∈L/\x.task≠t:=by
 unfold Q3p
 split
 · rename_i h0;obtain⟨h1,h2⟩:=Qdw h0;obtain⟨i,hi⟩: ∃i:Nat,ofQ L t=i:=⟨(ofQ L t).toNat,by omega⟩;rw[hi,v0i]at h1
   have e2:(L[i]).task=t:=by
    rw[hi]at h2;unfold Ke at h2;rw[v0i,v0c h1]at h2;exact h2
   rw[hi,v0i,List.mem_eraseIdx_iff_getElem];constructor
   · rintro⟨j,hj,ao,rfl⟩;refine⟨v0M hj,fun e=>?_⟩;rcases Nat.lt_or_gt_of_ne ao with c|c
     · have:=v2p.1 h j i hj h1 c;omega
     have:=v2p.1 h i j h1 hj c;omega
   rintro⟨hx,ao⟩;obtain⟨j,hj,rfl⟩:=v0N.1 hx;refine⟨j,hj,fun e=>?_,rfl⟩;subst e;exact ao e2
 rename_i h0;exact⟨fun hx=>⟨hx,Qev h0 x hx⟩,fun hx=>hx.1⟩
theorem QfY {L:List MItem} {x:MItem} {n:Int} (h1:0<=x.task) (h2:0<=x.due) (hn: ∀y,y∈L->y.task<=n) (hx:n <x.task):Q4z L x=L++[x]:=by
 unfold Q4z;refine if_pos ?_;unfold Qdr;have e:ofQ L x.task= -1:=Q7C fun y hy=>by have:=hn y hy;omega
 rw[e];simp;omega
theorem QfW {L:List MItem} {x:MItem} {n:Int} (h:L.Pairwise fun a b=>a.task <b.task) (hn: ∀y,y∈L->y.task<=n) (hx:n <x.task):(L++[x]).Pairwise fun a b=>a.task <b.task:=by
 rw[List.pairwise_append];refine⟨h,List.pairwise_singleton ..,fun a ha b hb=>?_⟩;rw[v0X]at hb;subst hb;have:=hn a ha;omega
theorem QInv.tick {s:MS} {n:Int} (q:QInv s) (h:0<=n):QInv {s with now:=s.now+n}:=
 ⟨q.so,q.it,q.al,q.st,q.rn,fun id i1 i2 hk=>⟨(q.fr id i1 i2 hk).1,by have:=(q.fr id i1 i2 hk).2;show(tkT s.T id).due<=s.now+n;omega⟩,q.du⟩
theorem QInv.same {s s':MS} (q:QInv s) (h1:s'.Q=s.Q) (h2:s'.T=s.T) (h3:s'.runs=s.runs) (h4:s'.now=s.now):QInv s':=by
 refine⟨?_,?_,?_,?_,?_,?_,?_⟩
 · rw[h1];exact q.so
 · rw[h1,h2];exact q.it
 · rw[h1,h2];exact q.al
 · rw[h2];exact q.st
 · rw[h2,h3];exact q.rn
 · rw[h2,h4];exact q.fr
 rw[h2];exact q.du
theorem Q20 {R:List Int} {l l':Nat} {n:Int} (h:l <R.length):reg (R.set l n) (l':Int)=if l'=l then n else reg R l':=by
 unfold reg;rw[v0i,List.getElem?_set];by_cases e:l'=l
 · subst e;simp[h]
 rw[if_neg e,if_neg (fun e'=>e e'.symm)]
theorem QInv.turn {s:MS} {l:Nat} {L:List MItem} (q:QInv s) (hL:s.Q[l]?=some L) (hr:reg s.runs l=0) (hd:Q2P L s.now=true) (hx:Zq L s.now∈L) (ig:l <s.runs.length):QInv {s with Q:=s.Q.modify l (fun L=>tkQ L s.now),runs:=s.runs.set l (Zq L s.now).task,T:=s.T.modify ((Zq L s.now).task -1).toNat fun t=> {t with state:=2}}:=by
 obtain⟨aD,hs,hl,hf,nJ⟩:=q.it l L hL _ hx;obtain⟨id,bU⟩: ∃id,id=(Zq L s.now).task:=⟨_,rfl⟩;rw[<-bU]at aD hs hl ⊢;have kJ:tkQ L s.now=Q3p L id:=by unfold tkQ;rw[if_pos hd,bU]
 have mR:=q.so L (v0m hL);have hT: ∀j:Int,1<=j->tkT (s.T.modify (id -1).toNat fun t=> {t with state:=2}) j=if j=id then {tkT s.T id with state:=2}else tkT s.T j:=fun j h=>Zh aD.1 aD.2 h
 have fe: ∀j:Int,1<=j->(tkT (s.T.modify (id -1).toNat fun t=> {t with state:=2}) j).kind=(tkT s.T j).kind/\(tkT (s.T.modify (id -1).toNat fun t=> {t with state:=2}) j).front=(tkT s.T j).front/\(tkT (s.T.modify (id -1).toNat fun t=> {t with state:=2}) j).due=(tkT s.T j).due/\(tkT (s.T.modify (id -1).toNat fun t=> {t with state:=2}) j).looper=(tkT s.T j).looper:=fun j h=>by
  rw[hT j h]
  split
  · rename_i e;subst e;exact⟨rfl,rfl,rfl,rfl⟩
  exact⟨rfl,rfl,rfl,rfl⟩
 have hlen:(s.T.modify (id -1).toNat fun t=> {t with state:=2}).length=s.T.length:=v0l ..;refine⟨fun M hM=>?_,fun l' M hM x iN=>?_,fun j j1 j2 h1 h0=>?_,fun j j1 j2=>?_,fun j j1 j2 h2 h0=>?_,fun j j1 j2 hk=>?_,fun p j p1 pj j2 k1 k2=>?_⟩
 · have hM:M∈s.Q.modify l (fun L=>tkQ L s.now):=hM;obtain⟨i,hi,rfl⟩:=v0N.1 hM;have aX:i <s.Q.length:=by rw[v0l]at hi;exact hi
   have:=q.so _ (v0M aX);rw[v15]
   split
   · unfold tkQ
     split
     · exact Qb4 this
     exact this
   exact this
 · have hM:(s.Q.modify l (fun L=>tkQ L s.now))[l']?=some M:=hM;show(1<=x.task/\x.task<=((s.T.modify (id -1).toNat fun t=> {t with state:=2}).length:Nat))/\(tkT (s.T.modify (id -1).toNat fun t=> {t with state:=2}) x.task).state=1/\_;rw[v1i]at hM
   have key: ∀M0,s.Q[l']?=some M0->x∈M0->x.task≠id->_:=fun M0 h0 cn ao=>by
    have a:=q.it l' M0 h0 x cn;have b:=fe x.task a.1.1;have c:tkT (s.T.modify (id -1).toNat fun t=> {t with state:=2}) x.task=tkT s.T x.task:=by rw[hT _ a.1.1,if_neg ao]
    exact show(1<=x.task/\x.task<=((s.T.modify (id -1).toNat fun t=> {t with state:=2}).length:Nat))/\(tkT (s.T.modify (id -1).toNat fun t=> {t with state:=2}) x.task).state=1/\(tkT (s.T.modify (id -1).toNat fun t=> {t with state:=2}) x.task).looper=l'/\x.front=(tkT (s.T.modify (id -1).toNat fun t=> {t with state:=2}) x.task).front/\x.due=(tkT (s.T.modify (id -1).toNat fun t=> {t with state:=2}) x.task).due from by
     rw[hlen,c];exact a
   by_cases e:l=l'
   · subst e;rw[hL]at hM;simp at hM;subst hM;rw[kJ]at iN;obtain⟨m1,m2⟩:=(Q1A mR).1 iN;exact key L hL m1 m2
   cases e0:s.Q[l']? with
   |none=>rw[e0]at hM;simp at hM
   | some M0=>
     rw[e0]at hM;simp[e]at hM;subst hM;refine key M0 e0 iN fun e1=>?_;have:=(q.it l' M0 e0 x iN).2.2.1;rw[e1,hl]at this;omega
 · have j2:j<=s.T.length:=by rw[<-hlen];exact j2
   have h1:(tkT (s.T.modify (id -1).toNat fun t=> {t with state:=2}) j).state=1:=h1;have h0:0<=(tkT (s.T.modify (id -1).toNat fun t=> {t with state:=2}) j).looper:=h0
   have ao:j≠id:=fun e=>by
    rw[hT j j1,if_pos e]at h1;have h1:(2:Int)=1:=h1;omega
   have c:tkT (s.T.modify (id -1).toNat fun t=> {t with state:=2}) j=tkT s.T j:=by rw[hT j j1,if_neg ao]
   rw[c]at h1 h0;obtain⟨M0,x,a1,a2,a3⟩:=q.al j j1 j2 h1 h0;show ∃L' x',(s.Q.modify l (fun L=>tkQ L s.now))[(tkT (s.T.modify (id -1).toNat fun t=> {t with state:=2}) j).looper.toNat]?=some L'/\_;rw[c,v1i,a1];by_cases e:l=(tkT s.T j).looper.toNat
   · rw[<-e,hL]at a1;cases a1;refine⟨tkQ L s.now,x,by simp[e],?_,a3⟩;rw[kJ];exact(Q1A mR).2 ⟨a2,by rw[a3];exact ao⟩
   exact⟨M0,x,by simp[e],a2,a3⟩
 · have j2:j<=s.T.length:=by rw[<-hlen];exact j2
   show((tkT (s.T.modify (id -1).toNat fun t=> {t with state:=2}) j).state=1\/_)/\_;rw[hT j j1];by_cases e:j=id
   · rw[if_pos e];exact⟨.inr (.inl rfl),fun h=>by have h:(2:Int)=4:=h;omega⟩
   rw[if_neg e];exact q.st j j1 j2
 · have j2:j<=s.T.length:=by rw[<-hlen];exact j2
   have h2:(tkT (s.T.modify (id -1).toNat fun t=> {t with state:=2}) j).state=2:=h2;have h0:0<=(tkT (s.T.modify (id -1).toNat fun t=> {t with state:=2}) j).looper:=h0;show reg (s.runs.set l id) (tkT (s.T.modify (id -1).toNat fun t=> {t with state:=2}) j).looper=j;rw[(fe j j1).2.2.2]at h0 ⊢;obtain⟨k,hk⟩: ∃k:Nat,(tkT s.T j).looper=k:=⟨(tkT s.T j).looper.toNat,by omega⟩;rw[hk,Q20 ig];by_cases e:j=id
   · subst e;have:k=l:=by omega
     rw[if_pos this]
   rw[hT j j1,if_neg e]at h2;have:=q.rn j j1 j2 h2 h0;rw[hk]at this;by_cases ek:k=l
   · subst ek;rw[hr]at this;omega
   rw[if_neg ek];exact this
 · have j2:j<=s.T.length:=by rw[<-hlen];exact j2
   obtain⟨a,b,c,_⟩:=fe j j1;show(tkT (s.T.modify (id -1).toNat fun t=> {t with state:=2}) j).front=false/\(tkT (s.T.modify (id -1).toNat fun t=> {t with state:=2}) j).due<=s.now;rw[b,c];exact q.fr j j1 j2 (by rw[<-a];exact hk)
 have j2:j<=s.T.length:=by rw[<-hlen];exact j2
 obtain⟨a,_,c,_⟩:=fe j (by omega);obtain⟨a',_,c',_⟩:=fe p p1;show(tkT (s.T.modify (id -1).toNat fun t=> {t with state:=2}) p).due<=(tkT (s.T.modify (id -1).toNat fun t=> {t with state:=2}) j).due;rw[c,c'];exact q.du p j p1 pj j2 (by rw[<-a'];exact k1) (by rw[<-a];exact k2)
theorem QInv.state {s:MS} {id k:Int} {f:MTask->MTask} {runs:List Int} (q:QInv s) (i1:1<=id) (i2:id<=s.T.length) (hf: ∀t,(f t).kind=t.kind/\(f t).front=t.front/\(f t).due=t.due/\(f t).looper=t.looper/\(f t).state=k) (hk:k=2\/k=3) (hq:(tkT s.T id).state≠1\/(tkT s.T id).looper <0) (hr: ∀j:Int,1<=j->j<=s.T.length->j≠id->(tkT s.T j).state=2->0<=(tkT s.T j).looper->reg runs (tkT s.T j).looper=j) (hi:k=2->0<=(tkT s.T id).looper->reg runs (tkT s.T id).looper=id):QInv {s with runs:=runs,T:=s.T.modify (id -1).toNat f}:=by
 have hT: ∀j:Int,1<=j->tkT (s.T.modify (id -1).toNat f) j=if j=id then f (tkT s.T id)else tkT s.T j:=fun j h=>Zh i1 i2 h
 have fe: ∀j:Int,1<=j->(tkT (s.T.modify (id -1).toNat f) j).kind=(tkT s.T j).kind/\(tkT (s.T.modify (id -1).toNat f) j).front=(tkT s.T j).front/\(tkT (s.T.modify (id -1).toNat f) j).due=(tkT s.T j).due/\(tkT (s.T.modify (id -1).toNat f) j).looper=(tkT s.T j).looper:=fun j h=>by
  rw[hT j h]
  split
  · rename_i e;subst e;obtain⟨a,b,c,d,_⟩:=hf (tkT s.T j);exact⟨a,b,c,d⟩
  exact⟨rfl,rfl,rfl,rfl⟩
 have hlen:(s.T.modify (id -1).toNat f).length=s.T.length:=v0l ..;refine⟨q.so,fun l' M hM x iN=>?_,fun j j1 j2 h1 h0=>?_,fun j j1 j2=>?_,fun j j1 j2 h2 h0=>?_,fun j j1 j2 hk=>?_,fun p j p1 pj j2 k1 k2=>?_⟩
 · have a:=q.it l' M hM x iN
   have ao:x.task≠id:=fun e=>by
    have a1:=a.2.1;have a2:=a.2.2.1;rw[e]at a1 a2;rcases hq with h|h
    · exact h a1
    omega
   have c:tkT (s.T.modify (id -1).toNat f) x.task=tkT s.T x.task:=by rw[hT _ a.1.1,if_neg ao]
   show(1<=x.task/\x.task<=((s.T.modify (id -1).toNat f).length:Nat))/\(tkT (s.T.modify (id -1).toNat f) x.task).state=1/\(tkT (s.T.modify (id -1).toNat f) x.task).looper=l'/\x.front=(tkT (s.T.modify (id -1).toNat f) x.task).front/\x.due=(tkT (s.T.modify (id -1).toNat f) x.task).due;rw[hlen,c];exact a
 · have j2:j<=s.T.length:=by rw[<-hlen];exact j2
   have h1:(tkT (s.T.modify (id -1).toNat f) j).state=1:=h1;have h0:0<=(tkT (s.T.modify (id -1).toNat f) j).looper:=h0
   have ao:j≠id:=fun e=>by
    rw[hT j j1,if_pos e,(hf _).2.2.2.2]at h1;omega
   have c:tkT (s.T.modify (id -1).toNat f) j=tkT s.T j:=by rw[hT j j1,if_neg ao]
   rw[c]at h1 h0;show ∃L' x',s.Q[(tkT (s.T.modify (id -1).toNat f) j).looper.toNat]?=some L'/\_;rw[c];exact q.al j j1 j2 h1 h0
 · have j2:j<=s.T.length:=by rw[<-hlen];exact j2
   show((tkT (s.T.modify (id -1).toNat f) j).state=1\/(tkT (s.T.modify (id -1).toNat f) j).state=2\/(tkT (s.T.modify (id -1).toNat f) j).state=3\/(tkT (s.T.modify (id -1).toNat f) j).state=4)/\((tkT (s.T.modify (id -1).toNat f) j).state=4->(tkT (s.T.modify (id -1).toNat f) j).kind=4);rw[hT j j1];by_cases e:j=id
   · rw[if_pos e,(hf _).2.2.2.2];exact⟨by omega,fun h=>by omega⟩
   rw[if_neg e];exact q.st j j1 j2
 · have j2:j<=s.T.length:=by rw[<-hlen];exact j2
   have h2':(tkT (s.T.modify (id -1).toNat f) j).state=2:=h2;have h0':0<=(tkT (s.T.modify (id -1).toNat f) j).looper:=h0;show reg runs (tkT (s.T.modify (id -1).toNat f) j).looper=j;rw[(fe j j1).2.2.2]at h0' ⊢;by_cases e:j=id
   · subst e;rw[hT j j1,if_pos rfl,(hf _).2.2.2.2]at h2';exact hi h2' h0'
   rw[hT j j1,if_neg e]at h2';exact hr j j1 j2 e h2' h0'
 · have j2:j<=s.T.length:=by rw[<-hlen];exact j2
   obtain⟨a,b,c,_⟩:=fe j j1;show(tkT (s.T.modify (id -1).toNat f) j).front=false/\(tkT (s.T.modify (id -1).toNat f) j).due<=s.now;rw[b,c];exact q.fr j j1 j2 (by rw[<-a];exact hk)
 have j2:j<=s.T.length:=by rw[<-hlen];exact j2
 obtain⟨a,_,c,_⟩:=fe j (by omega);obtain⟨a',_,c',_⟩:=fe p p1;show(tkT (s.T.modify (id -1).toNat f) p).due<=(tkT (s.T.modify (id -1).toNat f) j).due;rw[c,c'];exact q.du p j p1 pj j2 (by rw[<-a'];exact k1) (by rw[<-a];exact k2)
theorem QInv.cancel {s:MS} {id:Int} {l:Nat} {L:List MItem} (q:QInv s) (i1:1<=id) (i2:id<=s.T.length) (hs:(tkT s.T id).state=1) (hl:(tkT s.T id).looper=l) (kX:(tkT s.T id).kind=4) (hL:s.Q[l]?=some L):QInv {s with Q:=s.Q.modify l (fun L=>Q3p L id),T:=s.T.modify (id -1).toNat fun t=> {t with state:=4}}:=by
 have aD:1<=id/\id<=s.T.length:=⟨i1,i2⟩;have mR:=q.so L (v0m hL);have hT: ∀j:Int,1<=j->tkT (s.T.modify (id -1).toNat fun t=> {t with state:=4}) j=if j=id then {tkT s.T id with state:=4}else tkT s.T j:=fun j h=>Zh aD.1 aD.2 h
 have fe: ∀j:Int,1<=j->(tkT (s.T.modify (id -1).toNat fun t=> {t with state:=4}) j).kind=(tkT s.T j).kind/\(tkT (s.T.modify (id -1).toNat fun t=> {t with state:=4}) j).front=(tkT s.T j).front/\(tkT (s.T.modify (id -1).toNat fun t=> {t with state:=4}) j).due=(tkT s.T j).due/\(tkT (s.T.modify (id -1).toNat fun t=> {t with state:=4}) j).looper=(tkT s.T j).looper:=fun j h=>by
  rw[hT j h]
  split
  · rename_i e;subst e;exact⟨rfl,rfl,rfl,rfl⟩
  exact⟨rfl,rfl,rfl,rfl⟩
 have hlen:(s.T.modify (id -1).toNat fun t=> {t with state:=4}).length=s.T.length:=v0l ..;refine⟨fun M hM=>?_,fun l' M hM x iN=>?_,fun j j1 j2 h1 h0=>?_,fun j j1 j2=>?_,fun j j1 j2 h2 h0=>?_,fun j j1 j2 hk=>?_,fun p j p1 pj j2 k1 k2=>?_⟩
 · have hM:M∈s.Q.modify l (fun L=>Q3p L id):=hM;obtain⟨i,hi,rfl⟩:=v0N.1 hM;have aX:i <s.Q.length:=by rw[v0l]at hi;exact hi
   have:=q.so _ (v0M aX);rw[v15]
   split
   · exact Qb4 this
   exact this
 · have hM:(s.Q.modify l (fun L=>Q3p L id))[l']?=some M:=hM;show(1<=x.task/\x.task<=((s.T.modify (id -1).toNat fun t=> {t with state:=4}).length:Nat))/\(tkT (s.T.modify (id -1).toNat fun t=> {t with state:=4}) x.task).state=1/\_;rw[v1i]at hM
   have key: ∀M0,s.Q[l']?=some M0->x∈M0->x.task≠id->_:=fun M0 h0 cn ao=>by
    have a:=q.it l' M0 h0 x cn;have b:=fe x.task a.1.1;have c:tkT (s.T.modify (id -1).toNat fun t=> {t with state:=4}) x.task=tkT s.T x.task:=by rw[hT _ a.1.1,if_neg ao]
    exact show(1<=x.task/\x.task<=((s.T.modify (id -1).toNat fun t=> {t with state:=4}).length:Nat))/\(tkT (s.T.modify (id -1).toNat fun t=> {t with state:=4}) x.task).state=1/\(tkT (s.T.modify (id -1).toNat fun t=> {t with state:=4}) x.task).looper=l'/\x.front=(tkT (s.T.modify (id -1).toNat fun t=> {t with state:=4}) x.task).front/\x.due=(tkT (s.T.modify (id -1).toNat fun t=> {t with state:=4}) x.task).due from by
     rw[hlen,c];exact a
   by_cases e:l=l'
   · subst e;rw[hL]at hM;simp at hM;subst hM;obtain⟨m1,m2⟩:=(Q1A mR).1 iN;exact key L hL m1 m2
   cases e0:s.Q[l']? with
   |none=>rw[e0]at hM;simp at hM
   | some M0=>
     rw[e0]at hM;simp[e]at hM;subst hM;refine key M0 e0 iN fun e1=>?_;have:=(q.it l' M0 e0 x iN).2.2.1;rw[e1,hl]at this;omega
 · have j2:j<=s.T.length:=by rw[<-hlen];exact j2
   have h1:(tkT (s.T.modify (id -1).toNat fun t=> {t with state:=4}) j).state=1:=h1;have h0:0<=(tkT (s.T.modify (id -1).toNat fun t=> {t with state:=4}) j).looper:=h0
   have ao:j≠id:=fun e=>by
    rw[hT j j1,if_pos e]at h1;have h1:(4:Int)=1:=h1;omega
   have c:tkT (s.T.modify (id -1).toNat fun t=> {t with state:=4}) j=tkT s.T j:=by rw[hT j j1,if_neg ao]
   rw[c]at h1 h0;obtain⟨M0,x,a1,a2,a3⟩:=q.al j j1 j2 h1 h0;show ∃L' x',(s.Q.modify l (fun L=>Q3p L id))[(tkT (s.T.modify (id -1).toNat fun t=> {t with state:=4}) j).looper.toNat]?=some L'/\_;rw[c,v1i,a1];by_cases e:l=(tkT s.T j).looper.toNat
   · rw[<-e,hL]at a1;cases a1;refine⟨Q3p L id,x,by simp[e],?_,a3⟩;exact(Q1A mR).2 ⟨a2,by rw[a3];exact ao⟩
   exact⟨M0,x,by simp[e],a2,a3⟩
 · have j2:j<=s.T.length:=by rw[<-hlen];exact j2
   show((tkT (s.T.modify (id -1).toNat fun t=> {t with state:=4}) j).state=1\/_)/\_;rw[hT j j1];by_cases e:j=id
   · rw[if_pos e];exact⟨.inr (.inr (.inr rfl)),fun _=>kX⟩
   rw[if_neg e];exact q.st j j1 j2
 · have j2:j<=s.T.length:=by rw[<-hlen];exact j2
   have h2:(tkT (s.T.modify (id -1).toNat fun t=> {t with state:=4}) j).state=2:=h2;have h0:0<=(tkT (s.T.modify (id -1).toNat fun t=> {t with state:=4}) j).looper:=h0;show reg s.runs (tkT (s.T.modify (id -1).toNat fun t=> {t with state:=4}) j).looper=j
   have ao:j≠id:=fun e=>by
    rw[hT j j1,if_pos e]at h2;have h2:(4:Int)=2:=h2;omega
   have cc:tkT (s.T.modify (id -1).toNat fun t=> {t with state:=4}) j=tkT s.T j:=by rw[hT j j1,if_neg ao]
   rw[cc]at h2 h0 ⊢;exact q.rn j j1 j2 h2 h0
 · have j2:j<=s.T.length:=by rw[<-hlen];exact j2
   obtain⟨a,b,c,_⟩:=fe j j1;show(tkT (s.T.modify (id -1).toNat fun t=> {t with state:=4}) j).front=false/\(tkT (s.T.modify (id -1).toNat fun t=> {t with state:=4}) j).due<=s.now;rw[b,c];exact q.fr j j1 j2 (by rw[<-a];exact hk)
 have j2:j<=s.T.length:=by rw[<-hlen];exact j2
 obtain⟨a,_,c,_⟩:=fe j (by omega);obtain⟨a',_,c',_⟩:=fe p p1;show(tkT (s.T.modify (id -1).toNat fun t=> {t with state:=4}) p).due<=(tkT (s.T.modify (id -1).toNat fun t=> {t with state:=4}) j).due;rw[c,c'];exact q.du p j p1 pj j2 (by rw[<-a'];exact k1) (by rw[<-a];exact k2)
def Q36 (Q:List (List MItem)) (n:Nat) (t:MTask):List (List MItem):=if 0<=t.looper then Q.modify t.looper.toNat fun L=>Q4z L ⟨(n:Int)+1,t.front,t.due⟩else Q
theorem Q3M {Q:List (List MItem)} {n:Nat} {t:MTask} {l:Nat}:(Q36 Q n t)[l]?=if t.looper=l then(Q[l]?).map fun L=>Q4z L ⟨(n:Int)+1,t.front,t.due⟩else Q[l]?:=by
 unfold Q36;by_cases h0:0<=t.looper
 · rw[if_pos h0,v1i];by_cases e:t.looper=l
   · rw[if_pos e];have:t.looper.toNat=l:=by omega
     simp[this]
   rw[if_neg e];have: ¬t.looper.toNat=l:=by omega
   simp[this]
 rw[if_neg h0,if_neg (by omega)]
theorem QInv.add {s:MS} {t:MTask} (q:QInv s) (hs:t.state=1) (an:t.looper <s.Q.length) (hd:0<=t.due) (hk:t.kind=2\/t.kind=3->t.front=false/\t.due=s.now):QInv {s with T:=s.T++[t],Q:=Q36 s.Q s.T.length t}:=by
 have hlen:(s.T++[t]).length=s.T.length+1:=by simp
 have dv: ∀(l:Nat) L,s.Q[l]?=some L->Q4z L ⟨(s.T.length:Int)+1,t.front,t.due⟩=L++[⟨(s.T.length:Int)+1,t.front,t.due⟩]:=fun l L hL=>QfY (n:=s.T.length) (by show(0:Int)<=s.T.length+1;omega) hd (fun y hy=>(q.it l L hL y hy).1.2) (by show(s.T.length:Int)<s.T.length+1;omega)
 have az: ∀j:Int,1<=j->j<=((s.T++[t]).length:Nat)->(j<=s.T.length/\tkT (s.T++[t]) j=tkT s.T j)\/(j=s.T.length+1/\tkT (s.T++[t]) j=t):=fun j j1 j2=>by
  rw[hlen]at j2;by_cases e:j<=s.T.length
  · exact .inl ⟨e,Zs j1 e⟩
  have e:j=s.T.length+1:=by omega
  exact .inr ⟨e,by rw[e];exact Yn⟩
 refine⟨fun M hM=>?_,fun l M hM x hx=>?_,fun j j1 j2 h1 h0=>?_,fun j j1 j2=>?_,fun j j1 j2 h2 h0=>?_,fun j j1 j2 bc=>?_,fun p j p1 pj j2 k1 k2=>?_⟩
 · have hM:M∈Q36 s.Q s.T.length t:=hM;obtain⟨l,hl,hMl⟩:=v0N.1 hM;have e:(Q36 s.Q s.T.length t)[l]?=some M:=by rw[v0c hl,hMl]
   rw[Q3M]at e
   split at e
   · cases e0:s.Q[l]? with
     |none=>rw[e0]at e;cases e
     | some L=>
       rw[e0]at e;have e:Q4z L ⟨(s.T.length:Int)+1,t.front,t.due⟩=M:=v0h.inj e;rw[<-e,dv l L e0];exact QfW (q.so L (v0m e0)) (n:=s.T.length) (fun y hy=>(q.it l L e0 y hy).1.2) (by show(s.T.length:Int)<s.T.length+1;omega)
   exact q.so M (v0m e)
 · have hM:(Q36 s.Q s.T.length t)[l]?=some M:=hM;show(1<=x.task/\x.task<=((s.T++[t]).length:Nat))/\(tkT (s.T++[t]) x.task).state=1/\(tkT (s.T++[t]) x.task).looper=l/\x.front=(tkT (s.T++[t]) x.task).front/\x.due=(tkT (s.T++[t]) x.task).due
   have old: ∀L,s.Q[l]?=some L->x∈L->(1<=x.task/\x.task<=((s.T++[t]).length:Nat))/\(tkT (s.T++[t]) x.task).state=1/\(tkT (s.T++[t]) x.task).looper=l/\x.front=(tkT (s.T++[t]) x.task).front/\x.due=(tkT (s.T++[t]) x.task).due:=fun L hL hx=>by
    have a:=q.it l L hL x hx;rw[Zs a.1.1 a.1.2];exact⟨⟨a.1.1,by rw[hlen];have:=a.1.2;omega⟩,a.2⟩
   rw[Q3M]at hM
   split at hM
   · rename_i hl;cases e0:s.Q[l]? with
     |none=>rw[e0]at hM;cases hM
     | some L=>
       rw[e0]at hM;have e:Q4z L ⟨(s.T.length:Int)+1,t.front,t.due⟩=M:=v0h.inj hM;rw[<-e,dv l L e0]at hx;rcases v0x.1 hx with hx|hx
       · exact old L e0 hx
       rw[v0X]at hx;subst hx;show(1<=(s.T.length:Int)+1/\(s.T.length:Int)+1<=((s.T++[t]).length:Nat))/\(tkT (s.T++[t]) (s.T.length+1)).state=1/\(tkT (s.T++[t]) (s.T.length+1)).looper=l/\t.front=(tkT (s.T++[t]) (s.T.length+1)).front/\t.due=(tkT (s.T++[t]) (s.T.length+1)).due;rw[Yn,hlen];exact⟨⟨by omega,by omega⟩,hs,hl,rfl,rfl⟩
   exact old M hM hx
 · have h1:(tkT (s.T++[t]) j).state=1:=h1;have h0:0<=(tkT (s.T++[t]) j).looper:=h0;show ∃L x,(Q36 s.Q s.T.length t)[(tkT (s.T++[t]) j).looper.toNat]?=some L/\x∈L/\x.task=j;rcases az j j1 j2 with⟨e1,e2⟩| ⟨e1,e2⟩
   · rw[e2]at h1 h0 ⊢;obtain⟨L,x,a1,a2,a3⟩:=q.al j j1 e1 h1 h0;rw[Q3M]
     split
     · rw[a1];exact⟨Q4z L ⟨(s.T.length:Int)+1,t.front,t.due⟩,x,rfl,by rw[dv _ L a1];exact List.mem_append_left _ a2,a3⟩
     exact⟨L,x,a1,a2,a3⟩
   rw[e2]at h0 ⊢;have hl:t.looper.toNat <s.Q.length:=by omega
   rw[Q3M,if_pos (by omega),v0c hl];exact⟨Q4z s.Q[t.looper.toNat] ⟨(s.T.length:Int)+1,t.front,t.due⟩,⟨(s.T.length:Int)+1,t.front,t.due⟩,rfl,by rw[dv _ _ (v0c hl)];simp,e1.symm⟩
 · show((tkT (s.T++[t]) j).state=1\/(tkT (s.T++[t]) j).state=2\/(tkT (s.T++[t]) j).state=3\/(tkT (s.T++[t]) j).state=4)/\((tkT (s.T++[t]) j).state=4->(tkT (s.T++[t]) j).kind=4);rcases az j j1 j2 with⟨e1,e2⟩| ⟨e1,e2⟩
   · rw[e2];exact q.st j j1 e1
   rw[e2,hs];exact⟨.inl rfl,fun h=>by omega⟩
 · have h2:(tkT (s.T++[t]) j).state=2:=h2;have h0:0<=(tkT (s.T++[t]) j).looper:=h0;show reg s.runs (tkT (s.T++[t]) j).looper=j;rcases az j j1 j2 with⟨e1,e2⟩| ⟨e1,e2⟩
   · rw[e2]at h2 h0 ⊢;exact q.rn j j1 e1 h2 h0
   rw[e2,hs]at h2;omega
 · have bc:(tkT (s.T++[t]) j).kind=2\/(tkT (s.T++[t]) j).kind=3:=bc;show(tkT (s.T++[t]) j).front=false/\(tkT (s.T++[t]) j).due<=s.now;rcases az j j1 j2 with⟨e1,e2⟩| ⟨e1,e2⟩
   · rw[e2]at bc ⊢;exact q.fr j j1 e1 bc
   rw[e2]at bc ⊢;exact⟨(hk bc).1,by rw[(hk bc).2];omega⟩
 have k1:(tkT (s.T++[t]) p).kind=2\/(tkT (s.T++[t]) p).kind=3:=k1;have k2:(tkT (s.T++[t]) j).kind=2\/(tkT (s.T++[t]) j).kind=3:=k2;show(tkT (s.T++[t]) p).due<=(tkT (s.T++[t]) j).due;have j2':j<=s.T.length+1:=by have:j<=((s.T++[t]).length:Nat):=j2;rw[hlen]at this;omega
 have ep:tkT (s.T++[t]) p=tkT s.T p:=Zs p1 (by omega);rw[ep]at k1 ⊢;rcases az j (by omega) j2 with⟨e1,e2⟩| ⟨e1,e2⟩
 · rw[e2]at k2 ⊢;exact q.du p j p1 pj e1 k1 k2
 rw[e2]at k2 ⊢;rw[(hk k2).2];exact(q.fr p p1 (by omega) k1).2
theorem mk0:MkInv [] []:=⟨fun i hi=>absurd hi (Nat.not_lt_zero i),fun id i1 i2=>by have i2:id<=(0:Nat):=i2;omega⟩
theorem tk0:TkInv [] []:=
 ⟨fun id i1 i2=>by have i2:id<=(0:Nat):=i2;omega,fun id i1 i2=>by have i2:id<=(0:Nat):=i2;omega,fun id i1 i2=>by have i2:id<=(0:Nat):=i2;omega,
  fun i j x y gk hx hy=>by rw[List.getElem?_nil]at hx;cases hx⟩
theorem q0 {s:MS} (hT:s.T=[]) (hQ: ∀L,L∈s.Q->L=[]):QInv s:=by
 have no: ∀id:Int,1<=id->id<=s.T.length->False:=fun id i1 i2=>by
  rw[hT]at i2;have i2:id<=(0:Nat):=i2;omega
 refine⟨fun L hL=>by rw[hQ L hL];exact List.Pairwise.nil,fun l L hL x hx=>?_,fun id i1 i2=>(no id i1 i2).elim,fun id i1 i2=>(no id i1 i2).elim,fun id i1 i2=>(no id i1 i2).elim,fun id i1 i2=>(no id i1 i2).elim,fun p id p1 pi i2=>(no id (by omega) i2).elim⟩;rw[hQ L (v0m hL)]at hx;cases hx
def OnI (on:List Int) (M:List MMark):Prop:= ∀e:Nat,e <on.length->reg on e= -1\/(0<=reg on e/\ ∃x,M[(reg on e).toNat]?=some x/\x.kind=7/\x.other=e)
theorem OnI.app {on:List Int} {M:List MMark} {x:MMark} (h:OnI on M):OnI on (M++[x]):=fun e he=>by
 rcases h e he with h| ⟨h1,y,hy,h2⟩
 · exact .inl h
 exact .inr ⟨h1,y,by rw[v0z (v0y.1 hy).1];exact hy,h2⟩
theorem OnI.set {on:List Int} {M:List MMark} {e:Nat} {id:Int} {a:MAcc} (h:OnI on M) (he:e <on.length):OnI (on.set e M.length) (M++[⟨7,id,e,a⟩]):=fun j hj=>by
 rw[v0q]at hj;rw[Q20 he];by_cases c:j=e
 · subst c;rw[if_pos rfl];exact .inr ⟨by omega,⟨7,id,j,a⟩,by rw[v0i,v0Q (v0b _)];simp,rfl,rfl⟩
 rw[if_neg c];exact h.app j hj
theorem on0 {n:Nat} {M:List MMark}:OnI (v0o n (-1)) M:=fun e he=>by
 rw[v0O]at he;refine .inl ?_;unfold reg;rw[v0i,List.getElem?_replicate,if_pos he];rfl
theorem OnI.made {on:List Int} {M:List MMark} {t:MTask} {e id:Int} (h:OnI on M) (e0:0<=e) (e1:e <on.length) (hk:t.kind=3) (ho:t.of'=e) (hm:t.mark=reg on e) (hb:bIx M id <0):MadeI M t id:=by
 obtain⟨n,rfl⟩: ∃n:Nat,e=n:=⟨e.toNat,by omega⟩;refine⟨fun _=>by omega,fun h0=>⟨fun h1=>absurd h1 (by omega),?_⟩⟩;rcases h n (by omega)with h| ⟨_,y,hy,h2,h3⟩
 · omega
 rw[hm];exact⟨y,hy,.inr (.inr ⟨hk,h2,by rw[h3,ho]⟩)⟩
end Go.Mac
namespace Go.Proofs.YtljpajcmdjmeaaaGreat
open Go.X Go.May Go.Mac
theorem tkN_T {s:MS} {i:Nat}:tkN s i=tkT s.T (i+1):=by
 unfold tkN tkT;rw[show((i:Int)+1 -1).toNat=i by omega]
theorem Qdl {s:MS} {id:Int}:ZA s id=tkT s.T id:=rfl
theorem Q5A {s:MS} {t:MTask} (h0:t.prev=0): ∀i,(KI s t i).prev=0\/((1<=(KI s t i).prev/\(KI s t i).prev<=i)/\(tkT s.T (KI s t i).prev).kind=t.kind/\(tkT s.T (KI s t i).prev).of'=t.of')
 |0=>.inl h0
 | i+1=>by
   unfold KI
   split
   · rename_i hb;simp only[v0g,decide_eq_true_eq]at hb;rw[tkN_T]at hb;exact .inr ⟨⟨by show(1:Int)<=(i:Int)+1;omega,by show(i:Int)+1<=((i+1:Nat):Int);omega⟩,hb.1,hb.2⟩
   rcases Q5A (s:=s) (t:=t) h0 i with h| ⟨⟨h1,h2⟩,h3,h4⟩
   · exact .inl h
   exact .inr ⟨⟨h1,by omega⟩,h3,h4⟩
theorem Q5z {s:MS} {t:MTask}: ∀i,(KI s t i).mark=t.mark/\(KI s t i).front=t.front/\(KI s t i).by'=t.by'
 |0=>⟨rfl,rfl,rfl⟩
 | i+1=>by
   obtain⟨a,b,c⟩:=Q5z (s:=s) (t:=t) i;unfold KI
   split
   · exact⟨a,b,c⟩
   exact⟨a,b,c⟩
theorem Qby {P:Prg} {s:MS} {t:MTask} {c:List Int} (h: ¬256<=s.T.length):(Y9 P s t c).Q=Q36 s.Q s.T.length (Ym s t)/\(Y9 P s t c).T=s.T++[Ym s t]:=by
 unfold Y9;rw[if_neg h];exact⟨rfl,rfl⟩
def kdL (P:Prg) (t:MTask):Int:=if t.kind=2 then(coA P t.of').1 else(evA P t.of').1
structure Core (P:Prg) (s:MS):Prop where
 mi:MkInv s.T s.M
 tk:TkInv s.T s.M
 q:QInv s
 on:OnI s.on s.M
 lp: ∀id:Int,1<=id->id<=s.T.length->((tkT s.T id).kind=2\/(tkT s.T id).kind=3)->(tkT s.T id).looper=kdL P (tkT s.T id)
 lt: ∀id:Int,1<=id->id<=s.T.length->(tkT s.T id).looper <s.Q.length
 rl:s.runs.length=s.Q.length
 rs: ∀l:Nat,l <s.runs.length->reg s.runs l≠0->(1<=reg s.runs l/\reg s.runs l<=s.T.length)/\(tkT s.T (reg s.runs l)).state=2/\(tkT s.T (reg s.runs l)).looper=l
theorem Core.same {P:Prg} {s s':MS} (c:Core P s) (h1:s'.T=s.T) (h2:s'.M=s.M) (h3:s'.Q=s.Q) (h4:s'.runs=s.runs) (h5:s'.on=s.on) (h6:s'.now=s.now):Core P s' where
 mi:=by rw[h1,h2];exact c.mi
 tk:=by rw[h1,h2];exact c.tk
 q:=c.q.same h3 h1 h4 h6
 on:=by rw[h5,h2];exact c.on
 lp:=by rw[h1];exact c.lp
 lt:=by rw[h1,h3];exact c.lt
 rl:=by rw[h4,h3];exact c.rl
 rs:=by rw[h1,h4];exact c.rs
theorem Core.tick {P:Prg} {s:MS} {n:Int} (c:Core P s) (h:0<=n):Core P {s with now:=s.now+n} where
 mi:=c.mi
 tk:=c.tk
 q:=c.q.tick h
 on:=c.on
 lp:=c.lp
 lt:=c.lt
 rl:=c.rl
 rs:=c.rs
theorem Core.note {P:Prg} {s:MS} {x:MMark} (c:Core P s) (i1:1<=x.task) (i2:x.task<=s.T.length) (hr:(tkT s.T x.task).state=2) (hx:x.kind=3\/(x.kind=6/\(1<=x.other/\x.other<=s.T.length)/\(tkT s.T x.other).kind=5/\(tkT s.T x.other).state=3)\/(x.kind=7/\0<=x.other)):Core P {s with M:=s.M++[x]} where
 mi:=c.mi.note i1 i2 hr hx
 tk:=c.tk.note Q1M (by rcases hx with h|h|h<;>omega)
 q:=c.q.same rfl rfl rfl rfl
 on:=c.on.app
 lp:=c.lp
 lt:=c.lt
 rl:=c.rl
 rs:=c.rs
theorem Core.accs {P:Prg} {id:Int}: ∀(A:List MAcc) (s:MS),Core P s->1<=id->id<=s.T.length->(tkT s.T id).state=2->Core P (stA s id A)
 | [],s,c,_,_,_=>c.same rfl (v0k _) rfl rfl rfl rfl
 | a::A,s,c,i1,i2,hr=>by
   have h:=Core.accs A {s with M:=s.M++[⟨3,id,0,a⟩]} (c.note (x:=⟨3,id,0,a⟩) i1 i2 hr (.inl rfl)) i1 i2 hr;refine h.same rfl ?_ rfl rfl rfl rfl;show s.M++List.map _ (a::A)=(s.M++[_])++List.map _ A;rw[List.map_cons,v0F];rfl
theorem Core.flag {P:Prg} {s:MS} {id:Int} {e:Nat} {a:MAcc} (c:Core P s) (i1:1<=id) (i2:id<=s.T.length) (hr:(tkT s.T id).state=2) (he:e <s.on.length):Core P {s with M:=s.M++[⟨7,id,e,a⟩],on:=s.on.set e s.M.length} where
 mi:=c.mi.note (x:=⟨7,id,e,a⟩) i1 i2 hr (.inr (.inr ⟨rfl,by show(0:Int)<=(e:Int);omega⟩))
 tk:=c.tk.note Q1M (by show(7:Int)≠1;omega)
 q:=c.q.same rfl rfl rfl rfl
 on:=c.on.set he
 lp:=c.lp
 lt:=c.lt
 rl:=c.rl
 rs:=c.rs
theorem Q7P {P:Prg} {T:List MTask} {n id:Int} {f:MTask->MTask} (h1:1<=id) (h2:id<=T.length) (hf: ∀t,(f t).kind=t.kind/\(f t).of'=t.of'/\(f t).looper=t.looper)
 (lp: ∀id:Int,1<=id->id<=T.length->((tkT T id).kind=2\/(tkT T id).kind=3)->(tkT T id).looper=kdL P (tkT T id)) (lt: ∀id:Int,1<=id->id<=T.length->(tkT T id).looper <n):
 (∀j:Int,1<=j->j<=(T.modify (id -1).toNat f).length->((tkT (T.modify (id -1).toNat f) j).kind=2\/(tkT (T.modify (id -1).toNat f) j).kind=3)->(tkT (T.modify (id -1).toNat f) j).looper=kdL P (tkT (T.modify (id -1).toNat f) j))/\
 (∀j:Int,1<=j->j<=(T.modify (id -1).toNat f).length->(tkT (T.modify (id -1).toNat f) j).looper <n):=by
 have e: ∀j:Int,1<=j->(tkT (T.modify (id -1).toNat f) j).kind=(tkT T j).kind/\(tkT (T.modify (id -1).toNat f) j).of'=(tkT T j).of'/\(tkT (T.modify (id -1).toNat f) j).looper=(tkT T j).looper:=fun j j1=>by
  rw[Zh h1 h2 j1]
  split
  · rename_i e;subst e;exact hf _
  exact⟨rfl,rfl,rfl⟩
 refine⟨fun j j1 j2 hk=>?_,fun j j1 j2=>?_⟩
 · rw[v0l]at j2;obtain⟨a,b,d⟩:=e j j1;rw[a]at hk;unfold kdL;rw[a,b,d];exact lp j j1 j2 hk
 rw[v0l]at j2;rw[(e j j1).2.2];exact lt j j1 j2
theorem Core.can {P:Prg} {s:MS} {id z o:Int} (c:Core P s) (i1:1<=id) (i2:id<=s.T.length) (hr:(tkT s.T id).state=2) (o1:1<=o) (o2:o<=s.T.length) (hk:(tkT s.T o).kind=4):Core P (Q2R s id z o):=by
 have c1:Core P (Ji s id z 5 o true):=c.note (x:=⟨3,id,0,⟨z,5,o,0,true⟩⟩) i1 i2 hr (.inl rfl);unfold Q2R
 split
 · rename_i hs;rw[Qdl]at hs ⊢
   have h0:0<=(tkT s.T o).looper:=by
    have:=(c.tk.kd o o1 o2).2;refine Classical.byContradiction fun e=>?_;have:=this.2 (by omega);omega
   have ai:=c.lt o o1 o2;obtain⟨l,hl⟩: ∃l:Nat,(tkT s.T o).looper=l:=⟨(tkT s.T o).looper.toNat,by omega⟩;have hlQ:l <s.Q.length:=by omega
   have el:(tkT s.T o).looper.toNat=l:=by omega
   rw[el];obtain⟨lp,lt⟩:=Q7P (P:=P) (n:=s.Q.length) (f:=fun t=> {t with state:=4}) o1 o2 (fun _=>⟨rfl,rfl,rfl⟩) c.lp c.lt;refine⟨(c.mi.note (x:=⟨3,id,0,⟨z,5,o,0,true⟩⟩) i1 i2 hr (.inl rfl)).cancel o1 o2 hs,c.tk.note (Q1v o1 o2 fun _=>⟨rfl,rfl,rfl,rfl,rfl⟩) (by show(3:Int)≠1;omega),?_,c1.on,lp,?_,?_,?_⟩
   · exact c1.q.cancel o1 o2 hs hl hk (v0c hlQ)
   · show ∀j:Int,1<=j->_->_ <((s.Q.modify l _).length:Int);rw[v0l];exact lt
   · show s.runs.length=(s.Q.modify l _).length;rw[v0l];exact c.rl
   intro l' aR ao;have h:=c.rs l' aR ao;show(1<=reg s.runs l'/\reg s.runs l'<=((s.T.modify (o -1).toNat _).length:Nat))/\(tkT (s.T.modify (o -1).toNat _) (reg s.runs l')).state=2/\(tkT (s.T.modify (o -1).toNat _) (reg s.runs l')).looper=l';rw[v0l,Zh o1 o2 h.1.1,if_neg (fun e=>by rw[e]at h;omega)];exact h
 exact c1
theorem Core.tok {P:Prg} {s:MS} {id:Int} (c:Core P (Yj (stM s id 2) 1 id 0)) (i1:1<=id) (i2:id<=s.T.length):Core P (JX s id):=by
 unfold JX
 split
 · refine c.note (x:=⟨3,id,0,⟨(ZA s id).of',5,id,0,true⟩⟩) i1 ?_ ?_ (.inl rfl)
   · show id<=((s.T.modify _ _).length:Nat);rw[v0l];exact i2
   show(tkT (s.T.modify _ _) id).state=2;rw[Zh i1 i2 i1,if_pos rfl]
 exact c
theorem Core.beginW {P:Prg} {s:MS} {id:Int} (c:Core P s) (i1:1<=id) (i2:id<=s.T.length) (hs:(tkT s.T id).state=1) (hl:(tkT s.T id).looper <0):Core P (JX s id):=by
 refine Core.tok ?_ i1 i2;obtain⟨lp,lt⟩:=Q7P (P:=P) (n:=s.Q.length) (f:=fun t=> {t with state:=2}) i1 i2 (fun _=>⟨rfl,rfl,rfl⟩) c.lp c.lt;have hk:(tkT s.T id).kind=5:=(c.tk.kd id i1 i2).2.2 hl
 have hp:(tkT s.T id).prev=0:=by
  rcases c.tk.fol id i1 i2 with h| ⟨_,h,_⟩
  · exact h
  omega
 refine⟨c.mi.begin i1 i2 hs,c.tk.begin (Q1v i1 i2 fun _=>⟨rfl,rfl,rfl,rfl,rfl⟩) i1 i2 ((c.mi.st id i1 i2).1.2 (.inl hs)) (fun h=>absurd hp h) (fun h=>absurd h (by omega)),?_,c.on.app,lp,lt,c.rl,?_⟩
 · exact QInv.same (c.q.state (f:=fun t=> {t with state:=2}) (runs:=s.runs) i1 i2 (fun _=>⟨rfl,rfl,rfl,rfl,rfl⟩) (.inl rfl) (.inr hl) (fun j j1 j2 _ h2 h0=>c.q.rn j j1 j2 h2 h0) (fun _ h0=>absurd h0 (by omega))) rfl rfl rfl rfl
 intro l' aR ao;have h:=c.rs l' aR ao;show(1<=reg s.runs l'/\reg s.runs l'<=((s.T.modify (id -1).toNat _).length:Nat))/\(tkT (s.T.modify (id -1).toNat _) (reg s.runs l')).state=2/\(tkT (s.T.modify (id -1).toNat _) (reg s.runs l')).looper=l';rw[v0l,Zh i1 i2 h.1.1,if_neg (fun e=>by rw[e]at h;omega)];exact h
theorem Core.turn {P:Prg} {s:MS} {l:Nat} {L:List MItem} (c:Core P s) (hL:s.Q[l]?=some L) (hr:reg s.runs l=0) (hd:Q2P L s.now=true):Core P (JX {s with Q:=s.Q.modify l (fun L=>tkQ L s.now),runs:=s.runs.set l (Zq L s.now).task} (Zq L s.now).task):=by
 have hx:Zq L s.now∈L:=Q6R hd;obtain⟨⟨⟨i1,i2⟩,hs⟩,hb,hp,ho⟩:=Q8Z c.q c.mi c.tk hL hr hd hx;have hlQ:l <s.Q.length:=(v0y.1 hL).1;have ig:l <s.runs.length:=by rw[c.rl];exact hlQ
 have an:=(c.q.it l L hL _ hx).2.2.1;generalize bU:(Zq L s.now).task=id at*;refine Core.tok ?_ i1 i2;obtain⟨lp,lt⟩:=Q7P (P:=P) (n:=s.Q.length) (f:=fun t=> {t with state:=2}) i1 i2 (fun _=>⟨rfl,rfl,rfl⟩) c.lp c.lt;refine⟨c.mi.begin i1 i2 hs,c.tk.begin (Q1v i1 i2 fun _=>⟨rfl,rfl,rfl,rfl,rfl⟩) i1 i2 hb hp ho,?_,c.on.app,lp,?_,?_,?_⟩
 · have:=c.q.turn hL hr hd hx ig;rw[bU]at this;exact this.same rfl rfl rfl rfl
 · show ∀j:Int,1<=j->_->_ <((s.Q.modify l _).length:Int);rw[v0l];exact lt
 · show(s.runs.set l _).length=(s.Q.modify l _).length;rw[v0l,v0q];exact c.rl
 intro l' aR ao;have aR:l' <(s.runs.set l id).length:=aR;rw[v0q]at aR;have ao:reg (s.runs.set l id) l'≠0:=ao;show(1<=reg (s.runs.set l id) l'/\reg (s.runs.set l id) l'<=((s.T.modify (id -1).toNat _).length:Nat))/\(tkT (s.T.modify (id -1).toNat _) (reg (s.runs.set l id) l')).state=2/\(tkT (s.T.modify (id -1).toNat _) (reg (s.runs.set l id) l')).looper=l';rw[v0l];rw[Q20 ig]at ao ⊢;by_cases e:l'=l
 · subst e;rw[if_pos rfl,Zh i1 i2 i1,if_pos rfl];exact⟨⟨i1,i2⟩,rfl,an⟩
 rw[if_neg e]at ao ⊢;have h:=c.rs l' aR ao;rw[Zh i1 i2 h.1.1,if_neg (fun e=>by rw[e]at h;omega)];exact h
theorem end_T {T:List MTask} {id k:Int}:(T.modify (id -1).toNat (fun t=> {t with state:=3})).modify (id -1).toNat (fun t=> {t with trap:=k})=T.modify (id -1).toNat fun t=> {t with state:=3,trap:=k}:=by
 rw[List.modify_modify_eq];rfl
theorem Core.end' {P:Prg} {s:MS} {id k:Int} {runs:List Int} (c:Core P s) (i1:1<=id) (i2:id<=s.T.length) (hs:(tkT s.T id).state=2) (hr:runs=if 0<=(tkT s.T id).looper then s.runs.set (tkT s.T id).looper.toNat 0 else s.runs):Core P {Q15 s id k with runs:=runs}:=by
 have eT:(Q15 s id k).T=s.T.modify (id -1).toNat fun t=> {t with state:=3,trap:=k}:=end_T;obtain⟨lp,lt⟩:=Q7P (P:=P) (n:=s.Q.length) (f:=fun t=> {t with state:=3,trap:=k}) i1 i2 (fun _=>⟨rfl,rfl,rfl⟩) c.lp c.lt;have hlen:runs.length=s.runs.length:=by rw[hr];split;rw[v0q];rfl
 have jl: ∀l':Nat,(tkT s.T id).looper≠l'->reg runs l'=reg s.runs l':=fun l' h=>by
  rw[hr]
  split
  · rename_i h0;have:=c.lt id i1 i2;have h1:=c.rl;rw[Q20 (by omega),if_neg (by omega)]
  rfl
 have mN: ∀l':Nat,(tkT s.T id).looper=l'->reg runs l'=0:=fun l' h=>by
  have:=c.lt id i1 i2;have h1:=c.rl;rw[hr,if_pos (by omega),Q20 (by omega),if_pos (by omega)]
 refine⟨?_,?_,?_,c.on.app,?_,?_,?_,?_⟩
 · show MkInv (Q15 s id k).T _;rw[eT];exact c.mi.end' i1 i2 hs
 · show TkInv (Q15 s id k).T _;rw[eT];exact c.tk.note (Q1v i1 i2 fun _=>⟨rfl,rfl,rfl,rfl,rfl⟩) (by show(2:Int)≠1;omega)
 · refine QInv.same (c.q.state (f:=fun t=> {t with state:=3,trap:=k}) (k:=3) (runs:=runs) i1 i2 (fun _=>⟨rfl,rfl,rfl,rfl,rfl⟩) (.inr rfl) (.inl (by omega)) (fun j j1 j2 ao h2 h0=>?_) (fun h=>by omega)) rfl eT rfl rfl;have h:=c.q.rn j j1 j2 h2 h0
   have hh:(tkT s.T id).looper≠(tkT s.T j).looper:=fun e=>by
    have:=c.q.rn id i1 i2 hs (by omega);rw[e,h]at this;exact ao this
   have:=jl (tkT s.T j).looper.toNat (by omega);rw[show(((tkT s.T j).looper.toNat:Nat):Int)=(tkT s.T j).looper by omega]at this;rw[this];exact h
 · show ∀lE:Int,_->_<=((Q15 s id k).T.length:Int)->((tkT (Q15 s id k).T lE).kind=2\/(tkT (Q15 s id k).T lE).kind=3)->(tkT (Q15 s id k).T lE).looper=kdL P (tkT (Q15 s id k).T lE);rw[eT];exact lp
 · show ∀lE:Int,_->_<=((Q15 s id k).T.length:Int)->(tkT (Q15 s id k).T lE).looper <_;rw[eT];exact lt
 · exact hlen.trans c.rl
 intro l' aR ao;have aR:l' <runs.length:=aR;have ao:reg runs l'≠0:=ao;have nL:(tkT s.T id).looper≠l':=fun e=>ao (mN l' e);show(1<=reg runs l'/\reg runs l'<=((Q15 s id k).T.length:Nat))/\(tkT (Q15 s id k).T (reg runs l')).state=2/\(tkT (Q15 s id k).T (reg runs l')).looper=l';rw[jl l' nL]at ao ⊢;have h:=c.rs l' (by omega) ao;rw[eT,v0l,Zh i1 i2 h.1.1,if_neg (fun e=>by rw[e]at h;omega)];exact h
theorem Core.made {P:Prg} {s:MS} {t:MTask} {id q:Int} {a:MAcc} (c:Core P s) (i1:1<=id) (i2:id<=s.T.length) (hr:(tkT s.T id).state=2) (hb:t.by'=id) (hm:t.mark=s.M.length) (hq:q=4\/q=5) (hk:t.kind=q) (hl:t.kind=5↔t.looper <0) (hp:t.prev=0) (an:t.looper <s.Q.length) (hd:0<=s.now+t.delay):Core P {s with T:=s.T++[Ym s t],Q:=Q36 s.Q s.T.length (Ym s t),M:=s.M++[⟨q,id,s.T.length+1,a⟩]} where
 mi:=c.mi.made i1 i2 hr rfl hb hm hq hk
 tk:=c.tk.madeT c.mi.tasks i1 i2 hq hk hl hm hp
 q:=(c.q.add (t:=Ym s t) rfl an hd (fun h=>by have h:t.kind=2\/t.kind=3:=h;omega)).same rfl rfl rfl rfl
 on:=c.on.app
 lp:=fun j j1 j2 h=>by
  have j2:j<=((s.T++[Ym s t]).length:Nat):=j2;rw[v0j,v1l]at j2;show(tkT (s.T++[Ym s t]) j).looper=kdL P (tkT (s.T++[Ym s t]) j);have h:(tkT (s.T++[Ym s t]) j).kind=2\/(tkT (s.T++[Ym s t]) j).kind=3:=h;by_cases e:j<=s.T.length
  · rw[Zs j1 e]at h ⊢;exact c.lp j j1 e h
  have e:j=s.T.length+1:=by omega
  subst e;rw[Yn]at h;have h:t.kind=2\/t.kind=3:=h;omega
 lt:=fun j j1 j2=>by
  have j2:j<=((s.T++[Ym s t]).length:Nat):=j2;rw[v0j,v1l]at j2;show(tkT (s.T++[Ym s t]) j).looper <((Q36 s.Q s.T.length (Ym s t)).length:Nat);have hQ:(Q36 s.Q s.T.length (Ym s t)).length=s.Q.length:=by unfold Q36;split;rw[v0l];rfl
  rw[hQ];by_cases e:j<=s.T.length
  · rw[Zs j1 e];exact c.lt j j1 e
  have e:j=s.T.length+1:=by omega
  subst e;rw[Yn];exact an
 rl:=by
  show s.runs.length=(Q36 s.Q s.T.length (Ym s t)).length;unfold Q36;split
  · rw[v0l];exact c.rl
  exact c.rl
 rs:=fun l' aR ao=>by
  have h:=c.rs l' aR ao;show(1<=reg s.runs l'/\reg s.runs l'<=((s.T++[Ym s t]).length:Nat))/\(tkT (s.T++[Ym s t]) (reg s.runs l')).state=2/\(tkT (s.T++[Ym s t]) (reg s.runs l')).looper=l';rw[Zs h.1.1 h.1.2];exact⟨⟨h.1.1,by rw[v0j];have:=h.1.2;omega⟩,h.2⟩
theorem Core.more {P:Prg} {s:MS} {t:MTask} (c:Core P s) (hk:(1<=t.kind/\t.kind<=3)/\ ¬t.looper <0) (hm:MadeI s.M t (s.T.length+1)) (hf:t.prev=0\/((1<=t.prev/\t.prev<=s.T.length)/\(t.kind=2\/t.kind=3)/\(tkT s.T t.prev).kind=t.kind/\(tkT s.T t.prev).of'=t.of')) (iR:t.kind=2\/t.kind=3->t.looper=kdL P t) (an:t.looper <s.Q.length) (hd:0<=s.now) (hd0:t.delay=0) (bI:t.front=false):Core P {s with T:=s.T++[Ym s t],Q:=Q36 s.Q s.T.length (Ym s t)} where
 mi:=c.mi.add rfl
 tk:=c.tk.add c.mi.tasks (by show(1<=t.kind/\t.kind<=5)/\(t.kind=5↔t.looper <0);omega) hm (by
  rcases hf with h| ⟨h1,h2,h3,h4⟩
  · exact .inl h
  refine .inr ⟨h1,h2,h3,h4,?_⟩;show(tkT s.T t.prev).looper=t.looper;rw[c.lp t.prev h1.1 h1.2 (by rw[h3];exact h2),iR h2];unfold kdL
  rw[h3,h4])
 q:=c.q.add (t:=Ym s t) rfl an (by show 0<=s.now+t.delay;omega) (fun _=>⟨bI,by show s.now+t.delay=s.now;omega⟩)
 on:=c.on
 lp:=fun j j1 j2 h=>by
  have j2:j<=((s.T++[Ym s t]).length:Nat):=j2;rw[v0j,v1l]at j2;show(tkT (s.T++[Ym s t]) j).looper=kdL P (tkT (s.T++[Ym s t]) j);have h:(tkT (s.T++[Ym s t]) j).kind=2\/(tkT (s.T++[Ym s t]) j).kind=3:=h;by_cases e:j<=s.T.length
  · rw[Zs j1 e]at h ⊢;exact c.lp j j1 e h
  have e:j=s.T.length+1:=by omega
  subst e;rw[Yn]at h ⊢;exact iR h
 lt:=fun j j1 j2=>by
  have j2:j<=((s.T++[Ym s t]).length:Nat):=j2;rw[v0j,v1l]at j2;show(tkT (s.T++[Ym s t]) j).looper <((Q36 s.Q s.T.length (Ym s t)).length:Nat);have hQ:(Q36 s.Q s.T.length (Ym s t)).length=s.Q.length:=by unfold Q36;split;rw[v0l];rfl
  rw[hQ];by_cases e:j<=s.T.length
  · rw[Zs j1 e];exact c.lt j j1 e
  have e:j=s.T.length+1:=by omega
  subst e;rw[Yn];exact an
 rl:=by
  show s.runs.length=(Q36 s.Q s.T.length (Ym s t)).length;unfold Q36;split
  · rw[v0l];exact c.rl
  exact c.rl
 rs:=fun l' aR ao=>by
  have h:=c.rs l' aR ao;show(1<=reg s.runs l'/\reg s.runs l'<=((s.T++[Ym s t]).length:Nat))/\(tkT (s.T++[Ym s t]) (reg s.runs l')).state=2/\(tkT (s.T++[Ym s t]) (reg s.runs l')).looper=l';rw[Zs h.1.1 h.1.2];exact⟨⟨h.1.1,by rw[v0j];have:=h.1.2;omega⟩,h.2⟩
section
variable {P:Prg} {s:MS} {id:Int} {a:MAsk}
theorem Q6x (k:MOk P s) {M':List MMark} (h:M'.length<=100000):MOk P {s with M:=M'}:=⟨k.h,k.k,k.k2,k.e2,k.e,k.q,k.r,k.t,k.th,k.g,k.lg,h,k.on,k.now,k.st,k.ql,k.tok⟩
theorem Qcr (k:MOk P s) {T':List MTask} (h:T'.length=s.T.length):MOk P {s with T:=T'}:=⟨k.h,k.k,k.k2,k.e2,k.e,k.q,k.r,by show T'.length<=256;rw[h];exact k.t,by show s.Th.length=T'.length;rw[h];exact k.th,k.g,k.lg,k.m,k.on,k.now,k.st,by show ∀L,L∈s.Q->L.length<=T'.length;rw[h];exact k.ql,k.tok⟩
theorem mok_Q (k:MOk P s) {Q':List (List MItem)} (h:Q'.length=s.Q.length) (h2: ∀L,L∈Q'->L.length<=s.T.length):MOk P {s with Q:=Q'}:=⟨k.h,k.k,k.k2,k.e2,k.e,h.trans k.q,k.r,k.t,k.th,k.g,k.lg,k.m,k.on,k.now,k.st,h2,k.tok⟩
theorem mok_R (k:MOk P s) {R:List Int} (h:R.length=s.runs.length):MOk P {s with runs:=R}:=⟨k.h,k.k,k.k2,k.e2,k.e,k.q,h.trans k.r,k.t,k.th,k.g,k.lg,k.m,k.on,k.now,k.st,k.ql,k.tok⟩
theorem Q9V {T':MThr} (k:MOk P s) (hT:Kl P T'):MOk P (thS s id T'):=⟨k.h,k.k,k.k2,k.e2,k.e,k.q,k.r,k.t,by show(s.Th.set _ _).length=_;rw[v0q];exact k.th,k.g,k.lg,k.m,k.on,k.now,k.st,k.ql,fun T fR=>by
 have fR:T∈s.Th.set (id -1).toNat T':=fR;rcases List.mem_or_eq_of_mem_set fR with h|h
 · exact k.tok T h
 rw[h];exact hT⟩
theorem Q3U (k:MOk P s) {b:Bool}:MOk P {s with full:=b}:=⟨k.h,k.k,k.k2,k.e2,k.e,k.q,k.r,k.t,k.th,k.g,k.lg,k.m,k.on,k.now,k.st,k.ql,k.tok⟩
theorem QfX {L:List MItem} {x:MItem}:(Q4z L x).length<=L.length+1:=by
 unfold Q4z
 split
 · simp
 omega
theorem new_th {f:Int} {cells:List Int} (hM:ZL P=true) (f0:0<=f) (f1:f <P.funs.length) (hc:(cells.length:Int)<=(Qt P f).regs):Kl P ⟨[Yd P f cells],0⟩:=
 Q71 (T:=⟨[],0⟩) hM ⟨v0s _,fun x hx=>by cases hx⟩ f0 f1 hc (by decide)
theorem Q6w {t:MTask} {cells:List Int} (k:MOk P s) (hM:ZL P=true) (f0:0<=t.fn) (f1:t.fn <P.funs.length) (hc:(cells.length:Int)<=(Qt P t.fn).regs):MOk P (Y9 P s t cells):=by
 unfold Y9
 split
 · exact k
 rename_i h;refine⟨k.h,k.k,k.k2,k.e2,k.e,?_,k.r,?_,?_,k.g,k.lg,k.m,k.on,k.now,k.st,fun L hL=>?_,fun T hT=>?_⟩
 · show(if 0<=t.looper then s.Q.modify t.looper.toNat _ else s.Q).length=_
   split
   · rw[v0l];exact k.q
   exact k.q
 · show(s.T++[_]).length<=256;simp;omega
 · show(s.Th++[_]).length=(s.T++[_]).length;simp[k.th]
 · show L.length<=(s.T++[_]).length;rw[v0j,v1l];have hL:L∈(if 0<=t.looper then s.Q.modify t.looper.toNat _ else s.Q):=hL
   split at hL
   · obtain⟨i,hi,rfl⟩:=v0N.1 hL;have aX:i <s.Q.length:=by rw[v0l]at hi;exact hi
     have:=k.ql _ (v0M aX);rw[v15]
     split
     · exact v0t QfX (by omega)
     omega
   have:=k.ql _ hL;omega
 rcases v0x.1 hT with h|h
 · exact k.tok T h
 rw[v0X.1 h];exact new_th hM f0 f1 hc
theorem Qb1 {T:MThr} {n:Int} (hM:ZL P=true) (hT:Kl P T):Kl P (Q1t P T n):=by
 unfold Q1t
 split
 · rename_i hd;unfold Q0q at hd;simp only[v0g,v0J]at hd;have hl:=Q1z hd.1
   have ho:(Qa P T).op≠31/\(Qa P T).op≠33:=by
    have:=hd.2;unfold K0 at this;simp only[Bool.or_eq_true,v0g,decide_eq_true_eq]at this;omega
   have H:OnH P T:=⟨hM,hT,hl,ho.1,ho.2⟩
   split
   · exact H.on1
   exact H.on0
 exact hT
theorem QeF {z o:Int} (k:MOk P s) (hm:s.M.length<=99990):MOk P (Q2R s id z o):=by
 have k1:MOk P (Ji s id z 5 o true):=Q6x k (by simp;omega);unfold Q2R
 split
 · refine mok_Q (s:=stM (Ji s id z 5 o true) o 4) (Qcr k1 (v0l ..)) (v0l ..) fun L hL=>?_;show L.length<=(s.T.modify _ _).length;rw[v0l];obtain⟨i,hi,rfl⟩:=v0N.1 hL;have aX:i <s.Q.length:=by rw[v0l]at hi;exact hi
   have:=k.ql _ (v0M aX);rw[v15]
   split
   · exact v0t Qb5 this
   exact this
 exact k1
theorem Qcp (k:MOk P s) (hm:s.M.length<=99990):MOk P (Jk s id a):=by
 have hE:(QbC s.E a.n (decide (a.op=26))).length=s.E.length:=by
  unfold QbC;split
  · rw[v0q]
  rfl
 have k1:MOk P {Ji s id a.site 6 a.n true with E:=QbC s.E a.n (decide (a.op=26))}:=
  ⟨k.h,k.k,k.k2,by show(QbC s.E a.n _).length<=_;rw[hE];exact k.e2,hE.trans k.e,k.q,k.r,k.t,k.th,k.g,k.lg,by show(s.M++[_]).length<=100000;simp;omega,k.on,k.now,k.st,k.ql,k.tok⟩
 unfold Jk
 split
 · exact⟨k1.h,k1.k,k1.k2,k1.e2,k1.e,k1.q,k1.r,k1.t,k1.th,k1.g,k1.lg,by show((s.M++[_])++[_]).length<=100000;simp;omega,by show(s.on.set _ _).length=_;rw[v0q];exact k.on,k1.now,k1.st,k1.ql,k1.tok⟩
 exact k1
theorem Q9W (k:MOk P s) (hm:s.M.length<=99980) (hE:ZE P s a=0) (hk:mkO a.op≠true):MOk P (Zk s id a).1:=by
 unfold Zk
 split;exact Q6x k (by simp;omega)
 split;exact⟨k.h,k.k,k.k2,k.e2,k.e,k.q,k.r,k.t,k.th,by show(s.G.set _ _).length=_;rw[v0q];exact k.g,k.lg,by show(s.M++[_]).length<=100000;simp;omega,k.on,k.now,k.st,k.ql,k.tok⟩
 split;exact QeF k (by omega)
 split;exact Qcp k (by omega)
 split;exact Q6x k (by simp;omega)
 split
 · rename_i ho;unfold ZE at hE;rw[if_neg hk]at hE
   have hlg:s.log.length <1024:=Classical.byContradiction fun e=>by
    rw[if_pos ⟨ho,by omega⟩]at hE;exact absurd hE (by decide)
   exact⟨k.h,k.k,k.k2,k.e2,k.e,k.q,k.r,k.t,k.th,k.g,by show(s.log++[_]).length<=1024;simp;omega,by show(s.M++[_]).length<=100000;simp;omega,k.on,k.now,k.st,k.ql,k.tok⟩
 exact k
theorem Qcq (k:MOk P s) (hM:ZL P=true) (i1:1<=id) (i2:id<=s.T.length) (hm:s.M.length<=99980):MOk P (Y5 P s id a):=by
 have e9:=Q97 k i1 i2;unfold Y5
 split
 · unfold mdS
   split
   · rename_i hb
     split
     · exact Q3U k
     rename_i hT;unfold mdB at hb;simp only[v0g,decide_eq_true_eq]at hb;obtain⟨_,⟨f0,f1⟩,hc⟩:=hb
     have efn:(mdN s id a (QR s.H a.v).of).fn=(QR s.H a.v).of:=by
      unfold mdN mdT;split;rfl;split<;>rfl
     have nX:=(Yz hM f0 f1);have k1:=Q6w (t:=mdN s id a (QR s.H a.v).of) (cells:=(QR s.H a.v).vals) k hM (by rw[efn];exact f0) (by rw[efn];exact f1) (by rw[efn];omega);have eM:(Y9 P s (mdN s id a (QR s.H a.v).of) (QR s.H a.v).vals).M=s.M:=by unfold Y9;split<;>rfl
     exact Q9V (s:=Yj _ _ _ _) (Q6x k1 (by rw[eM];simp;omega)) (Qb1 hM e9)
   exact k
 rename_i hk
 split
 · exact k
 split
 · exact Q3U k
 rename_i hE
 have hE:ZE P s a=0:=by
  unfold ZE at hE ⊢;rw[if_neg hk]at hE ⊢
  split at hE
  · exact absurd rfl hE
  rename_i h;rw[if_neg h]
 exact Q9V (Q9W k hm hE hk) (Qb1 hM e9)
theorem Q9X (k:MOk P s) (hm:s.M.length<=99990):MOk P (JX s id):=by
 have k1:MOk P (Yj (stM s id 2) 1 id 0):=Q6x (s:=stM s id 2) (Qcr k (v0l ..)) (by show(s.M++[_]).length<=100000;simp;omega);unfold JX
 split
 · exact Q6x k1 (by show((s.M++[_])++[_]).length<=100000;simp;omega)
 exact k1
theorem QeE {n:Int} (k:MOk P s) (hm:s.M.length<=99990):MOk P (Q15 s id n):=
 Q6x (s:=trM (stM s id 3) id n) (Qcr (s:=stM s id 3) (Qcr k (v0l ..)) (v0l ..)) (by show(s.M++[_]).length<=100000;simp;omega)
end
section
variable {P:Prg} {s:MS} {id:Int} {a:MAsk}
theorem Q3Q {n q:Int} (h:ofI s n q≠0):ofI s n q=n/\(1<=n/\n<=s.T.length)/\(tkT s.T n).kind=q:=by
 unfold ofI at h ⊢
 split at h
 · rename_i hc;rw[if_pos hc];exact⟨rfl,⟨hc.1,hc.2.1⟩,hc.2.2⟩
 exact absurd rfl h
theorem mdT_f {fn:Int} (ho:a.op=23\/a.op=24\/a.op=28):(mdN s id a fn).by'=id/\(mdN s id a fn).mark=s.M.length/\(mdN s id a fn).kind=mdK a/\(mdN s id a fn).prev=0/\(a.op=28->(mdN s id a fn).looper= -1)/\(a.op≠28->(mdN s id a fn).looper=a.looper)/\((mdN s id a fn).delay=0\/(mkO a.op=true/\a.op≠28/\a.op≠24/\(mdN s id a fn).delay=a.n)):=by
 unfold mdN mdT mdK;rcases ho with h|h|h
 · rw[if_neg (by omega),if_neg (by omega),if_neg (by omega)];exact⟨rfl,rfl,rfl,rfl,fun e=>by omega,fun _=>rfl,.inr ⟨by rw[h];rfl,by omega,by omega,rfl⟩⟩
 · rw[if_neg (by omega),if_pos h,if_neg (by omega)];exact⟨rfl,rfl,rfl,rfl,fun e=>by omega,fun _=>rfl,.inl rfl⟩
 rw[if_pos h,if_pos h];exact⟨rfl,rfl,rfl,rfl,fun _=>rfl,fun e=>absurd h e,.inl rfl⟩
theorem Qb9 (c:Core P s) (k:MOk P s) (A:AskH P a) (i1:1<=id) (i2:id<=s.T.length) (hr:(tkT s.T id).state=2) (ho:mkO a.op=true):Core P (mdS P s id a):=by
 have ho':a.op=23\/a.op=24\/a.op=28:=by simpa[mkO]using ho
 unfold mdS
 split
 · split
   · exact c.same rfl rfl rfl rfl rfl rfl
   rename_i hb hT;obtain⟨f1,f2,f3,f4,f5,f6,f7⟩:=mdT_f (s:=s) (id:=id) (fn:=(QR s.H a.v).of) ho';generalize hm:mdN s id a (QR s.H a.v).of=t at*;have hq:mdK a=4\/mdK a=5:=by unfold mdK;split;exact .inr rfl;exact .inl rfl
   have iP:a.op=28↔mdK a=5:=by unfold mdK;split<;>omega
   have hlq:=k.q;have hn:=k.now;have eQ:=Qby (P:=P) (s:=s) (t:=t) (c:=(QR s.H a.v).vals) hT;have eM:(Y9 P s t (QR s.H a.v).vals).M=s.M:=by unfold Y9;split<;>rfl
   have eo:(Y9 P s t (QR s.H a.v).vals).on=s.on:=by unfold Y9;split<;>rfl
   have en:(Y9 P s t (QR s.H a.v).vals).now=s.now:=by unfold Y9;split<;>rfl
   have an:t.kind=5↔t.looper <0:=by
    rw[f3];by_cases e:a.op=28
    · rw[f5 e];exact⟨fun _=>by omega,fun _=>iP.1 e⟩
    have:=A.lo ho e;rw[f6 e];exact⟨fun h=>absurd (iP.2 h) e,fun h=>by omega⟩
   have ai:t.looper <s.Q.length:=by
    by_cases e:a.op=28
    · rw[f5 e];omega
    have:=A.lo ho e;rw[f6 e];omega
   have hdl:0<=s.now+t.delay:=by
    rcases f7 with h| ⟨h1,h2,h3,h4⟩
    · omega
    have:=A.d h1 h2 h3;omega
   refine(c.made (t:=t) (id:=id) (q:=mdK a) (a:=Q6v) i1 i2 hr f1 f2 hq f3 an f4 ai hdl).same eQ.2 ?_ eQ.1 Q8c eo en;show(Y9 P s t _).M++[_]=_;rw[eM]
 exact c
theorem Q8O (c:Core P s) (k:MOk P s) (A:AskH P a) (i1:1<=id) (i2:id<=s.T.length) (hr:(tkT s.T id).state=2) (hd:ZU P s a≠true) (hk:mkO a.op≠true) (hw:a.op=29->ofI s a.v 5≠0->(tkT s.T (ofI s a.v 5)).state=3):Core P (Zk s id a).1:=by
 have acc: ∀(z q x:Int) (w:Bool),Core P (Ji s id z q x w):=fun z q x w=>c.note (x:=⟨3,id,0,⟨z,q,x,0,w⟩⟩) i1 i2 hr (.inl rfl);have eu:ZU P s a=false:=by cases h:ZU P s a with|false=>rfl|true=>exact absurd h hd
 unfold ZU at eu;rw[if_neg hk]at eu;unfold Zk
 split;exact acc _ _ _ _
 split;exact(acc _ _ _ _).same rfl rfl rfl rfl rfl rfl
 split
 · rename_i ho;rw[if_pos ho]at eu;have:=Q3Q (of_decide_eq_false eu);rw[this.1];exact c.can i1 i2 hr this.2.1.1 this.2.1.2 this.2.2
 rename_i h25;rw[if_neg h25]at eu
 split
 · rename_i ho;obtain⟨e0,e1⟩:=A.e ho;have jV:=k.on;obtain⟨e,he⟩: ∃e:Nat,a.n=e:=⟨a.n.toNat,by omega⟩;unfold Jk
   split
   · have:=(acc a.site 6 a.n true).flag (id:=id) (e:=e) (a:=Q6v) i1 i2 hr (by show e <s.on.length;omega);refine this.same rfl ?_ rfl rfl ?_ rfl
     · show(s.M++[_])++[⟨7,id,a.n,Q6v⟩]=(s.M++[_])++[⟨7,id,e,Q6v⟩];rw[he]
     show s.on.set a.n.toNat ((s.M.length:Int)+1)=s.on.set e ((s.M++[_]).length:Nat);rw[v0j,v1l,show a.n.toNat=e by omega];rfl
   exact(acc a.site 6 a.n true).same rfl rfl rfl rfl rfl rfl
 split
 · rename_i ho;rw[if_pos ho]at eu;have h0:=of_decide_eq_false eu;have hs:=hw ho h0;obtain⟨e1,e2,e3⟩:=Q3Q h0;rw[e1]at hs ⊢;exact c.note (x:=⟨6,id,a.v,Q6v⟩) i1 i2 hr (.inr (.inl ⟨rfl,e2,e3,hs⟩))
 split
 · exact(acc _ _ _ _).same rfl rfl rfl rfl rfl rfl
 exact c
theorem Qba (c:Core P s) (k:MOk P s) (A:AskH P a) (i1:1<=id) (i2:id<=s.T.length) (hr:(tkT s.T id).state=2) (hw:a.op=29->ofI s a.v 5≠0->(tkT s.T (ofI s a.v 5)).state=3):Core P (Y5 P s id a):=by
 unfold Y5
 split
 · rename_i ho;exact Qb9 c k A i1 i2 hr ho
 rename_i ho
 split
 · exact c
 rename_i hd
 split
 · exact c.same rfl rfl rfl rfl rfl rfl
 exact(Q8O c k A i1 i2 hr hd ho hw).same rfl rfl rfl rfl rfl rfl
structure DeedK (s s':MS) (id:Int):Prop where
 r:s'.runs=s.runs
 l:s.T.length<=s'.T.length
 th:s.Th.length<=s'.Th.length
 t: ∀j:Int,1<=j->j<=s.T.length->(tkT s'.T j).looper=(tkT s.T j).looper/\((tkT s.T j).state=2->(tkT s'.T j).state=2)/\((tkT s'.T j).state=1->(tkT s.T j).state=1)/\((tkT s'.T j).state=2->(tkT s.T j).state=2)
 h: ∀j:Int,1<=j->j<=s.Th.length->j≠id->Zt s' j=Zt s j
 n: ∀j:Int,s.Th.length <j->j<=s'.Th.length->Yc (Zt s' j)=false
 f:s.full=true->s'.full=true
theorem Je:DeedK s s id:=⟨rfl,v0b _,v0b _,fun _ _ _=>⟨rfl,fun h=>h,fun h=>h,fun h=>h⟩,fun _ _ _ _=>rfl,fun j h1 h2=>by omega,fun h=>h⟩
theorem Qdm {T':MThr} {j:Int} (i1:1<=id) (j1:1<=j) (h:j≠id):Zt (thS s id T') j=Zt s j:=by
 unfold Zt thS;show((s.Th.set _ _)[_]?).getD _=_;rw[List.getElem?_set_ne (by omega)]
theorem KA {s':MS} (h1:s'.runs=s.runs) (h2:s'.T=s.T) (h3:s'.Th=s.Th) (h4:s'.full=s.full):DeedK s s' id:=
 ⟨h1,by rw[h2];exact v0b _,by rw[h3];exact v0b _,fun _ _ _=>by rw[h2];exact⟨rfl,fun h=>h,fun h=>h,fun h=>h⟩,fun _ _ _ _=>by unfold Zt;rw[h3],fun j a b=>by rw[h3]at b;omega,fun h=>by rw[h4];exact h⟩
theorem DeedK.setT {s':MS} {T':MThr} (d:DeedK s s' id) (i1:1<=id) (i2:id<=s.Th.length):DeedK s (thS s' id T') id:=
 ⟨d.r,d.l,by show _<=(s'.Th.set _ _).length;rw[v0q];exact d.th,d.t,fun j j1 j2 ao=>by rw[Qdm i1 j1 ao];exact d.h j j1 j2 ao,fun j j1 j2=>by
  have j2:j<=((s'.Th.set _ _).length:Nat):=j2;rw[v0q]at j2
  rw[Qdm i1 (by omega) (by omega)];exact d.n j j1 j2,d.f⟩
theorem canM_k {z o:Int} (o1:1<=o) (o2:o<=s.T.length):DeedK s (Q2R s id z o) id:=by
 unfold Q2R
 split
 · rename_i hs;rw[Qdl]at hs;refine⟨rfl,Nat.le_of_eq (v0l ..).symm,v0b _,fun j j1 j2=>?_,fun _ _ _ _=>rfl,fun j h1 h2=>by have h2:j<=(s.Th.length:Nat):=h2;omega,fun h=>h⟩;show(tkT (s.T.modify _ _) j).looper=_/\(_->(tkT (s.T.modify _ _) j).state=2)/\((tkT (s.T.modify _ _) j).state=1->_)/\((tkT (s.T.modify _ _) j).state=2->_);rw[Zh o1 o2 j1]
   split
   · rename_i e;subst e;exact⟨rfl,fun h=>by omega,fun h=>by have h:(4:Int)=1:=h;omega,fun h=>by have h:(4:Int)=2:=h;omega⟩
   exact⟨rfl,fun h=>h,fun h=>h,fun h=>h⟩
 exact KA rfl rfl rfl rfl
theorem Qbx {t:MTask} {cs:List Int} (e9:s.Th.length=s.T.length):DeedK s (Y9 P s t cs) id:=by
 unfold Y9
 split
 · exact Je
 refine⟨rfl,?_,?_,fun j j1 j2=>?_,fun j j1 j2 _=>?_,fun j h1 h2=>?_,fun h=>h⟩
 · show _<=(s.T++[_]).length;simp
 · show _<=(s.Th++[_]).length;simp
 · show(tkT (s.T++[_]) j).looper=_/\(_->(tkT (s.T++[_]) j).state=2)/\((tkT (s.T++[_]) j).state=1->_)/\((tkT (s.T++[_]) j).state=2->_);rw[Zs j1 j2];exact⟨rfl,fun h=>h,fun h=>h,fun h=>h⟩
 · unfold Zt;show((s.Th++[_])[_]?).getD _=_;rw[v0z (by omega)]
 have h2:j<=((s.Th++[_]).length:Nat):=h2;rw[v0j,v1l]at h2;unfold Zt;show Yc (((s.Th++[_])[_]?).getD _)=false;rw[show(j -1).toNat=s.Th.length by omega,v0Q (v0b _),Nat.sub_self];rfl
theorem deed_k (k:MOk P s) (i1:1<=id) (i2:id<=s.T.length):DeedK s (Y5 P s id a) id:=by
 have e9:=k.th;unfold Y5
 split
 · unfold mdS
   split
   · split
     · exact⟨rfl,v0b _,v0b _,fun _ _ _=>⟨rfl,fun h=>h,fun h=>h,fun h=>h⟩,fun _ _ _ _=>rfl,fun j h1 h2=>by have h2:j<=(s.Th.length:Nat):=h2;omega,fun _=>rfl⟩
     have d:=Qbx (P:=P) (id:=id) (t:=mdN s id a (QR s.H a.v).of) (cs:=(QR s.H a.v).vals) e9;exact DeedK.setT (s':=Yj _ _ _ _) ⟨d.r,d.l,d.th,d.t,d.h,d.n,d.f⟩ i1 (by omega)
   exact Je
 rename_i hk
 split
 · exact Je
 rename_i hd
 split
 · exact⟨rfl,v0b _,v0b _,fun _ _ _=>⟨rfl,fun h=>h,fun h=>h,fun h=>h⟩,fun _ _ _ _=>rfl,fun j h1 h2=>by have h2:j<=(s.Th.length:Nat):=h2;omega,fun _=>rfl⟩
 refine DeedK.setT ?_ i1 (by omega);unfold Zk
 split;exact KA rfl rfl rfl rfl
 split;exact KA rfl rfl rfl rfl
 split
 · rename_i ho;have eu:ZU P s a=false:=by cases h:ZU P s a with|false=>rfl|true=>exact absurd h hd
   unfold ZU at eu;rw[if_neg hk,if_pos ho]at eu;have:=Q3Q (of_decide_eq_false eu);rw[this.1];exact canM_k this.2.1.1 this.2.1.2
 split
 · unfold Jk
   split<;>exact KA rfl rfl rfl rfl
 split;exact KA rfl rfl rfl rfl
 split;exact KA rfl rfl rfl rfl
 exact Je
theorem Qb6 (h:ZE P s a≠0):(Y5 P s id a).full=true:=by
 unfold ZE at h;unfold Y5
 split
 · rename_i ho;rw[if_pos ho]at h;unfold mdE at h
   split at h
   · rename_i hc;unfold mdS;rw[if_pos hc.1,if_pos hc.2]
   exact absurd rfl h
 rename_i ho;rw[if_neg ho]at h
 split at h
 · rename_i hc
   have hb:ZU P s a≠true:=by
    unfold ZU;rw[if_neg ho,if_neg (by omega),if_neg (by omega)];decide
   rw[if_neg hb];have:ZE P s a=11:=by unfold ZE;rw[if_neg ho,if_pos hc]
   rw[if_pos this]
 exact absurd rfl h
end
section
variable {P:Prg} {s:MS} {id:Int}
structure RInv (P:Prg) (s:MS):Prop where
 c:Core P s
 k:MOk P s
 th:s.full=false-> ∀j:Int,1<=j->j<=s.T.length->(tkT s.T j).state=1\/(tkT s.T j).state=2->Yc (Zt s j)=false
theorem RInv.run (R:RInv P s):RunH P s where
 k:=R.k
 po:=fun n h1 h2 h4=>by
  have h4:(tkT s.T n).kind=4:=h4;have:=(R.c.tk.kd n h1 h2).2;have h:=R.c.lt n h1 h2;have hq:=R.k.q;show 0<=(tkT s.T n).looper/\(tkT s.T n).looper <P.loopers;refine⟨Classical.byContradiction fun e=>?_,by omega⟩;have:=this.2 (by omega);omega
 ov:=fun hf id h=>by
  unfold Q1q at h;simp only[v0g,decide_eq_true_eq]at h;exact R.th hf id h.1.1 h.1.2 (.inr h.2)
 it:=fun L hL x hx=>by
  obtain⟨l,hl,rfl⟩:=v0N.1 hL;exact(R.c.q.it l _ (v0c hl) x hx).1
 ru:=fun r hr=>by
  obtain⟨l,hl,rfl⟩:=v0N.1 hr
  have e:reg s.runs l=s.runs[l]:=by
   unfold reg;rw[v0i,v0c hl];rfl
  by_cases h:reg s.runs l=0
  · rw[<-e,h];omega
  have:=(R.c.rs l hl h).1;rw[e]at this;omega
theorem RInv.up (R:RInv P s) (h:s.steps <20000):RInv P (upS s):=⟨R.c.same rfl rfl rfl rfl rfl rfl,Q9U R.k h,R.th⟩
theorem RInv.full (R:RInv P s):RInv P (Q8J s):=⟨R.c.same rfl rfl rfl rfl rfl rfl,Q3U R.k,fun h=>by have h:true=false:=h;cases h⟩
theorem DeedK.trans {s1 s2:MS} (d:DeedK s s1 id) (e:DeedK s1 s2 id) (e9:s.Th.length=s.T.length) (i2:id<=s.T.length):DeedK s s2 id where
 r:=e.r.trans d.r
 l:=v0t d.l e.l
 th:=v0t d.th e.th
 t :=fun j j1 j2=>by
   have a:=d.t j j1 j2;have b:=e.t j j1 (by have:=d.l;omega);exact⟨b.1.trans a.1,fun h=>b.2.1 (a.2.1 h),fun h=>a.2.2.1 (b.2.2.1 h),fun h=>a.2.2.2 (b.2.2.2 h)⟩
 h:=fun j j1 j2 ao=>(e.h j j1 (by have:=d.th;omega) ao).trans (d.h j j1 j2 ao)
 n :=fun j j1 j2=>by
   by_cases h:j<=s1.Th.length
   · rw[e.h j (by omega) h (by omega)];exact d.n j j1 h
   exact e.n j (by omega) j2
 f:=fun h=>e.f (d.f h)
theorem Q1Q {s':MS} (R:RInv P s) (hf:s.full=false) (k':MOk P s') (d:DeedK s s' id) (j:Int) (j1:1<=j) (j2:j<=s'.T.length) (ao:j≠id) (hs:(tkT s'.T j).state=1\/(tkT s'.T j).state=2):Yc (Zt s' j)=false:=by
 have h1:=R.k.th;have h2:=k'.th;by_cases h:j<=s.T.length
 · rw[d.h j j1 (by omega) ao];have:=d.t j j1 h;exact R.th hf j j1 h (hs.imp this.2.2.1 this.2.2.2)
 exact d.n j (by omega) (by omega)
theorem Q8X {T:MThr} {a:MAsk} (i1:1<=id) (i2:id<=s.T.length) (hr:(tkT s.T id).state=2) (hw:Jj P s id=0) (ha:a=Q4u (Qa P (Zt s id)) (Qv (Zt s id)).regs) (ho:a.op=29) (h0:ofI s a.v 5≠0):(tkT s.T (ofI s a.v 5)).state=3:=by
 obtain⟨e1,e2,e3⟩:=Q3Q h0;rw[e1];have eo:(Qa P (Zt s id)).op=29:=by rw[ha]at ho;exact ho
 have ev:a.v=Q4E P s id:=by
  rw[ha];unfold Q4u Q4E;simp only[eo];rfl
 refine Classical.byContradiction fun ao=>?_
 have hb:Q1I P s id=true:=by
  unfold Q1I;rw[<-ev];show(((decide (1<=a.v)&&decide (a.v<=s.T.length))&&decide ((tkT s.T a.v).kind=5))&& !decide ((tkT s.T a.v).state=3))=true;rw[decide_eq_true e2.1,decide_eq_true e2.2,decide_eq_true e3,decide_eq_false ao];rfl
 unfold Jj at hw;rw[if_pos ⟨by unfold Q1q;show(decide _&&decide _&&decide ((tkT s.T id).state=2))=true;rw[decide_eq_true i1,decide_eq_true i2,decide_eq_true hr];rfl,eo,hb⟩,<-ev]at hw;omega
theorem Q7h {b:Bool} {e:Int} {s':MS} (R:RInv P s) (hM:ZL P=true) (hf:s.full=false) (hm:s.M.length<=99970) (i1:1<=id) (i2:id<=s.T.length) (hr:(tkT s.T id).state=2) (hw:Jj P s id=0) (x:Q8T P s id b e s'):
 (b=false/\RInv P s'/\s'.M.length<=s.M.length+3)\/(b=true/\ ∃s1 n,s'=Q15 s1 id n/\Core P s1/\MOk P s1/\s1.M.length<=s.M.length+3/\DeedK s s1 id):=by
 obtain⟨a,e0,T',H',x,h⟩:=x;have e9:=R.k.th;have k1:=QdA R.k x (by omega);have c1:Core P (stT s id a T' H'):=Core.accs a.acc _ (R.c.same (s':= {thS s id T' with H:=H'}) rfl rfl rfl rfl rfl rfl) i1 i2 hr
 have eM1:(stT s id a T' H').M.length<=s.M.length+1:=by
  have:=x.acc;unfold stT;rw[Q1S];show s.M.length+_<=_;omega
 have d1:DeedK s (stT s id a T' H') id:=DeedK.setT (s':= {s with H:=H',M:=(stT s id a T' H').M}) (KA rfl rfl rfl rfl) i1 (by omega)
 have kD:a.op≠0->Core P (Y5 P (stT s id a T' H') id a)/\MOk P (Y5 P (stT s id a T' H') id a):=fun h0=>by
  obtain⟨_,hT,hH,ha,_⟩:=x.ask h0;refine⟨Qba c1 k1 (Q4O x hM (Q97 R.k i1 i2) h0) i1 i2 hr fun ho gJ=>?_,Qcq k1 hM i1 i2 (by omega)⟩;exact Q8X (s:=s) (T:=T') i1 i2 hr hw ha ho gJ
 have cD:Core P (stD P (stT s id a T' H') id a)/\MOk P (stD P (stT s id a T' H') id a)/\DeedK s (stD P (stT s id a T' H') id a) id:=by
  unfold stD
  split
  · exact⟨c1,k1,d1⟩
  rename_i h0;exact⟨(kD h0).1,(kD h0).2,d1.trans (deed_k k1 i1 i2) e9 i2⟩
 have eMD:(stD P (stT s id a T' H') id a).M.length<=s.M.length+3:=by
  have:=(Q65 (P:=P) (s:=stT s id a T' H') (id:=id) (a:=a)).2;omega
 rcases h with⟨_,rfl,_,rfl⟩| ⟨_,h0,hE,rfl,_,rfl⟩| ⟨_,_,_,h⟩
 · refine .inl ⟨rfl,⟨R.c.same rfl rfl rfl rfl rfl rfl,?_,fun h=>by have h:true=false:=h;cases h⟩,by show s.M.length<=_;omega⟩;have k2:=Q9V (id:=id) R.k x.t;exact⟨x.h,k2.k,k2.k2,k2.e2,k2.e,k2.q,k2.r,k2.t,k2.th,k2.g,k2.lg,k2.m,k2.on,k2.now,k2.st,k2.ql,k2.tok⟩
 · refine .inl ⟨rfl,⟨(kD h0).1,(kD h0).2,fun h=>?_⟩,by have:=(Q2z (P:=P) (s:=stT s id a T' H') (id:=id) (a:=a)).2;omega⟩;rw[Qb6 hE]at h;cases h
 rcases h with⟨_,aW,rfl,rfl⟩| ⟨_,rfl,rfl⟩
 · refine .inl ⟨rfl,⟨cD.1,cD.2.1,fun _ j j1 j2 hs=>?_⟩,eMD⟩;by_cases hj:j=id
   · subst hj;exact aW
   exact Q1Q R hf cD.2.1 cD.2.2 j j1 j2 hj hs
 exact .inr ⟨rfl,_,_,rfl,cD.1,cD.2.1,eMD,cD.2.2⟩
theorem QaW {s1:MS} {n:Int} {runs:List Int} (R:RInv P s) (hf:s.full=false) (i1:1<=id) (i2:id<=s.T.length) (hr:(tkT s.T id).state=2) (c:Core P s1) (k:MOk P s1) (hm:s1.M.length<=99990) (d:DeedK s s1 id) (jP:runs=if 0<=(tkT s.T id).looper then s.runs.set (tkT s.T id).looper.toNat 0 else s.runs):RInv P {Q15 s1 id n with runs:=runs}:=by
 have dt:=d.t id i1 i2;have dl:=d.l;have i2':id<=s1.T.length:=by omega
 have hlen:runs.length=s1.runs.length:=by rw[jP,d.r];split;rw[v0q];rfl
 refine⟨c.end' i1 i2' (dt.2.1 hr) (by rw[jP,dt.1,d.r]),mok_R (s:=Q15 s1 id n) (QeE k hm) hlen,fun _ j j1 j2 hs=>?_⟩;have j2:j<=((Q15 s1 id n).T.length:Nat):=j2;have hs:(tkT (Q15 s1 id n).T j).state=1\/(tkT (Q15 s1 id n).T j).state=2:=hs;have eT:(Q15 s1 id n).T=s1.T.modify (id -1).toNat fun t=> {t with state:=3,trap:=n}:=end_T;rw[eT]at j2 hs;rw[v0l]at j2;rw[Zh i1 i2' j1]at hs
 split at hs
 · have hs:(3:Int)=1\/(3:Int)=2:=hs;omega
 rename_i hj;exact Q1Q R hf k d j j1 j2 hj hs
theorem QdM {s0:MS} (R:RInv P s) (hT:s0.T=s.T) (hTh:s0.Th=s.Th) (hf:s.full=false) (i1:1<=id) (i2:id<=s.T.length) (hs:(tkT s.T id).state=1) (j:Int) (j1:1<=j) (j2:j<=(JX s0 id).T.length) (h:(tkT (JX s0 id).T j).state=1\/(tkT (JX s0 id).T j).state=2):Yc (Zt (JX s0 id) j)=false:=by
 have eT:(JX s0 id).T=s.T.modify (id -1).toNat fun t=> {t with state:=2}:=by unfold JX;rw[<-hT];split<;>rfl
 have eTh:(JX s0 id).Th=s.Th:=by unfold JX;rw[<-hTh];split<;>rfl
 rw[eT,v0l]at j2;rw[eT,Zh i1 i2 j1]at h;unfold Zt;rw[eTh]
 split at h
 · rename_i e;subst e;exact R.th hf j j1 j2 (.inl hs)
 exact R.th hf j j1 j2 h
end
section
variable {P:Prg} {s s':MS}
theorem Q8b {s:MS} {id:Int}:(JX s id).M.length<=s.M.length+2:=by
 unfold JX
 split
 · show((s.M++[_])++[_]).length<=_;simp
 show(s.M++[_]).length<=_;simp
theorem QbK {id e:Int} (R:RInv P s) (hM:ZL P=true) (hm:s.M.length<=99960) (h:Qg0 P s id e s'):RInv P s'/\s'.M.length<=s.M.length+4:=by
 rcases h with⟨_,_,rfl⟩| ⟨_,rfl⟩| ⟨_,rfl⟩| ⟨hf,⟨i1,i2,hl,dM,hw⟩,av,h⟩
 · exact⟨R,by omega⟩
 · exact⟨R,by omega⟩
 · exact⟨R.full,by show s.M.length<=_;omega⟩
 have hl:(tkT s.T id).looper <0:=hl;have dM:(tkT s.T id).state≠3:=dM;have R1:=R.up av;rcases h with⟨hs,_,rfl⟩| ⟨hs,b,hx⟩
 · have hs:(tkT s.T id).state=1:=hs;exact⟨⟨R1.c.beginW i1 i2 hs hl,Q9X R1.k (by show s.M.length<=_;omega),fun _=>QdM R rfl rfl hf i1 i2 hs⟩,by have:=Q8b (s:=upS s) (id:=id);have e:(upS s).M=s.M:=rfl;rw[e]at this;omega⟩
 have hs:(tkT s.T id).state≠1:=hs
 have hr:(tkT s.T id).state=2:=by
  have:=R.c.q.st id i1 i2;have hk:=(R.c.tk.kd id i1 i2).2.2 hl;rcases this.1 with h|h|h|h
  · exact absurd h hs
  · exact h
  · exact absurd h dM
  have:=this.2 h;omega
 have em:(upS s).M=s.M:=rfl;rcases Q7h R1 hM hf (by show s.M.length<=_;omega) i1 i2 hr hw hx with⟨_,h,ft⟩| ⟨_,s1,n,rfl,c1,k1,ft,d⟩
 · exact⟨h,by rw[em]at ft;omega⟩
 rw[em]at ft;have h:=QaW (n:=n) (runs:=s1.runs) R1 hf i1 i2 hr c1 k1 (by omega) d (by rw[d.r,if_neg (by show ¬0<=(tkT s.T id).looper;omega)]);exact⟨h,by show(s1.M++[_]).length<=_;simp;omega⟩
theorem Qcx {l e:Int} (R:RInv P s) (hM:ZL P=true) (hm:s.M.length<=99960) (h:Qg3 P s l e s'):RInv P s'/\s'.M.length<=s.M.length+4:=by
 rcases h with⟨_,_,rfl⟩| ⟨_,rfl⟩| ⟨_,rfl⟩| ⟨hf,⟨l0,l1,hd,hw⟩,av,h⟩
 · exact⟨R,by omega⟩
 · exact⟨R,by omega⟩
 · exact⟨R.full,by show s.M.length<=_;omega⟩
 have R1:=R.up av;have bm:=R.c.rl;obtain⟨n,rfl⟩: ∃n:Nat,l=n:=⟨l.toNat,by omega⟩;have hn:n <s.Q.length:=by omega
 have hQ:s.Q[n]?=some (qAt s n):=by
  unfold qAt;rw[v0i,v0c hn];rfl
 rcases h with⟨hr,_,rfl⟩| ⟨hr,b,s2,hx,rfl⟩
 · have iT:=hd hr;have hx:Zq (qAt s n) s.now∈qAt s n:=Q6R iT;obtain⟨⟨⟨i1,i2⟩,hs⟩,_⟩:=Q8Z R.c.q R.c.mi R.c.tk hQ hr iT hx;have hc:=R1.c.turn (l:=n) (L:=qAt s n) hQ hr iT;unfold begR;rw[v0i];refine⟨⟨hc,?_,fun _=>QdM R (s0:= {upS s with Q:=s.Q.modify n fun L=>tkQ L s.now,runs:=s.runs.set n (Zq (qAt s n) s.now).task}) rfl rfl hf i1 i2 hs⟩,?_⟩
   · refine Q9X (mok_R (s:= {upS s with Q:=s.Q.modify n fun L=>tkQ L s.now}) (mok_Q R1.k (v0l ..) fun L hL=>ql_tk R.k hL) (v0q ..)) (by show s.M.length<=_;omega)
   have:=Q8b (s:= {upS s with Q:=s.Q.modify n fun L=>tkQ L s.now,runs:=s.runs.set n (Zq (qAt s n) s.now).task}) (id:=(Zq (qAt s n) s.now).task);refine v0t this ?_;show s.M.length+2<=_;omega
 obtain⟨⟨i1,i2⟩,hs,an⟩:=R.c.rs n (by omega) hr;have em:(upS s).M=s.M:=rfl;rcases Q7h R1 hM hf (by show s.M.length<=_;omega) i1 i2 hs (hw (by omega)) hx with⟨hb,h,ft⟩| ⟨hb,s1,k,rfl,c1,k1,ft,d⟩
 · rw[em]at ft;unfold ovrR;rw[hb];exact⟨h,by show s2.M.length<=_;omega⟩
 rw[em]at ft;unfold ovrR;rw[hb,if_pos rfl];have er:(Q15 s1 (reg s.runs n) k).runs=s.runs:=d.r
 have h:=QaW (n:=k) (runs:=s.runs.set n 0) R1 hf i1 i2 hs c1 k1 (by omega) d (by
  have e:(tkT (upS s).T (reg s.runs n)).looper=n:=an
  rw[e,if_pos (by omega)];rfl)
 rw[v0i,er];exact⟨h,by show(s1.M++[_]).length<=_;simp;omega⟩
theorem QaM {t:MTask} (R:RInv P s) (hM:ZL P=true) (f0:0<=t.fn) (f1:t.fn <P.funs.length) (cH:(Qt P t.fn).caps=0) (hk:t.kind=2\/t.kind=3) (hp:t.prev=0) (an:0<=t.looper/\t.looper <P.loopers) (hd:t.delay=0) (bI:t.front=false) (iR:t.looper=kdL P t) (hm:MadeI s.M t (s.T.length+1)):RInv P (Q4g P s t)/\(Q4g P s t).M.length=s.M.length:=by
 unfold Q4g
 split
 · exact⟨R.full,rfl⟩
 rename_i hT;obtain⟨g1,g2,g3,g4,g5,_⟩:=Q0l (s:=s) (t:=t) s.T.length;obtain⟨g6,g7,g8⟩:=Q5z (s:=s) (t:=t) s.T.length;have gp:=Q5A (s:=s) hp s.T.length;generalize hft:KI s t s.T.length=u at*;have hq:=R.k.q;have hn:=R.k.now;have eQ:=Qby (P:=P) (s:=s) (t:=u) (c:=[]) hT;have eM:(Y9 P s u []).M=s.M:=by unfold Y9;split<;>rfl
 have eo:(Y9 P s u []).on=s.on:=by unfold Y9;split<;>rfl
 have en:(Y9 P s u []).now=s.now:=by unfold Y9;split<;>rfl
 have ef:(Y9 P s u []).full=s.full:=by unfold Y9;split<;>rfl
 have hc:Core P (Y9 P s u []):=by
  refine(R.c.more (t:=u) (by rw[g1,g4];omega) ?_ ?_ (fun _=>?_) (by rw[g4];omega) hn.1 (by rw[g5];exact hd) (by rw[g7];exact bI)).same eQ.2 eM eQ.1 Q8c eo en
  · unfold MadeI QbA at hm ⊢;rw[g6,g1,g2];exact hm
  · rcases gp with h| ⟨h1,h2,h3⟩
    · exact .inl h
    exact .inr ⟨h1,by rw[g1];exact hk,by rw[g1];exact h2,by rw[g2];exact h3⟩
  unfold kdL at iR ⊢;rw[g1,g2,g4];exact iR
 have hr:=(Yz hM f0 f1).1;have bP:MOk P (Y9 P s u []):=Q6w R.k hM (by rw[g3];exact f0) (by rw[g3];exact f1) (by rw[g3];exact hr);refine⟨⟨hc,bP,fun hf j j1 j2 hs=>?_⟩,by rw[eM]⟩;rw[ef]at hf;have d:=Qbx (P:=P) (s:=s) (id:=0) (t:=u) (cs:=[]) R.k.th;exact Q1Q R hf bP d j j1 j2 (by omega) hs
theorem Qf8 {e n r:Int} (R:RInv P s) (hM:ZL P=true) (h:InjR P s e n r s'):RInv P s'/\s'.M.length<=s.M.length+4:=by
 rcases h with⟨_,_,rfl⟩| ⟨_,rfl⟩| ⟨hf,e0,e1,_,_,rfl⟩
 · exact⟨R,by omega⟩
 · exact⟨R,by omega⟩
 obtain⟨hl,dN⟩:=Q5e hM e0 e1;obtain⟨f0,f1,fc⟩:=K9 dN;have h:=QaM (t:=injT P s e n) R hM f0 f1 fc (.inr rfl) rfl hl rfl rfl rfl (R.c.on.made e0 (by rw[R.k.on];exact e1) rfl rfl rfl (Q42 R.c.mi (by omega)));exact⟨h.1,by rw[h.2];omega⟩
theorem QcC {c w r:Int} (R:RInv P s) (hM:ZL P=true) (h:LifR P s c w r s'):RInv P s'/\s'.M.length<=s.M.length+4:=by
 rcases h with⟨_,_,rfl⟩| ⟨_,rfl⟩| ⟨hf,c0,c1,bN,h⟩
 · exact⟨R,by omega⟩
 · exact⟨R,by omega⟩
 obtain⟨h4,h⟩:=h;obtain⟨hl,dN⟩:=Q7K hM c0 c1
 have fol:0<=reg (coA P c).2 w->RInv P (Q4g P s (QcD P c w))/\(Q4g P s (QcD P c w)).M.length=s.M.length:=fun h0=>by
  have hw:0<=w/\w<=3:=by
   unfold Q5V at bN;rw[v0g]at bN;exact Q1C bN.2
  obtain⟨f0,f1,fc⟩:=K9 (dN _ (v0m (Q7u (R:=(coA P c).2) hw.1 (by omega))) h0);exact QaM (t:=QcD P c w) R hM f0 f1 fc (.inl rfl) rfl hl rfl rfl rfl ⟨fun _=>⟨by show(2:Int)≠4;omega,by show(2:Int)≠5;omega⟩,fun h=>by have h:(0:Int)<= -1:=h;omega⟩
 rcases h with⟨h0,_,_,rfl⟩| ⟨_,s1,h,rfl⟩
 · have:=fol h0;exact⟨this.1,by rw[this.2];omega⟩
 have hK:(goL s.K c w).length=s.K.length:=by unfold goL;rw[if_pos bN,v0q]
 have go: ∀s1,RInv P s1->s1.K=s.K->RInv P {s1 with K:=goL s.K c w}:=fun s1 R1 e=>by
  have k:=R1.k;refine⟨R1.c.same rfl rfl rfl rfl rfl rfl,⟨k.h,hK.trans R.k.k,by show(goL s.K c w).length<=_;rw[hK];exact R.k.k2,k.e2,k.e,k.q,k.r,k.t,k.th,k.g,k.lg,k.m,k.on,k.now,k.st,k.ql,k.tok⟩,R1.th⟩
 rcases h with⟨_,rfl⟩| ⟨h0,_,rfl⟩
 · exact⟨go _ R rfl,by show s1.M.length<=_;omega⟩
 have:=fol h0;exact⟨go _ this.1 (QdF (.inr ⟨h0,by assumption,rfl⟩)).1,by show(Q4g P s (QcD P c w)).M.length<=_;rw[this.2];omega⟩
theorem do_inv {q a n r:Int} (R:RInv P s) (hM:ZL P=true) (hm:s.M.length<=99960) (h:DoR P s q a n r s'):RInv P s'/\s'.M.length<=s.M.length+4:=by
 rcases h with⟨_,h⟩| ⟨_,h⟩| ⟨_,h⟩| ⟨_,h⟩| ⟨_,h⟩| ⟨_,rfl⟩
 · exact Qcx R hM hm h
 · exact QbK R hM hm h
 · rcases h with⟨_,_,rfl⟩| ⟨_,rfl⟩| ⟨hf,_,h1,h2,rfl⟩
   · exact⟨R,by omega⟩
   · exact⟨R,by omega⟩
   refine⟨⟨R.c.tick (by omega),?_,R.th⟩,by show s.M.length<=_;omega⟩;have k:=R.k;exact⟨k.h,k.k,k.k2,k.e2,k.e,k.q,k.r,k.t,k.th,k.g,k.lg,k.m,k.on,⟨by have:=k.now.1;show 0<=s.now+n;omega,h2⟩,k.st,k.ql,k.tok⟩
 · exact Qf8 R hM h
 · exact QcC R hM h
 exact⟨R,by omega⟩
end
theorem core0 {P:Prg} {E:List Bool} {n:Nat}:Core P (Yw P E n) where
 mi:=mk0
 tk:=tk0
 q:=q0 rfl fun L hL=>List.eq_of_mem_replicate hL
 on:=on0
 lp:=fun id i1 i2=>by have i2:id<=(0:Nat):=i2;omega
 lt:=fun id i1 i2=>by have i2:id<=(0:Nat):=i2;omega
 rl:=by show(v0o n _).length=(v0o n _).length;rw[v0O,v0O]
 rs:=fun l hl ao=>by
  refine absurd ?_ ao;have hl:l <(v0o n (0:Int)).length:=hl;rw[v0O]at hl;show reg (v0o n 0) l=0;unfold reg;rw[v0i,List.getElem?_replicate,if_pos hl];rfl
theorem QeC {P:Prg} {E:List Bool} (hM:ZL P=true) (hE:E.length=P.events.length):RInv P (Qdz P E):=by
 have z:=QdE hM;have k0:=Qdy z hE;obtain⟨f0,f1,fc⟩:=K9 z.r;have hT: ¬256<=(Yw P E P.loopers).T.length:=by show ¬256<=0;omega
 have eQ:=Qby (P:=P) (s:=Yw P E P.loopers) (t:=Q5g P) (c:=[]) hT;have eM:(Qdz P E).M=(Yw P E P.loopers).M:=rfl;have hr:=(Yz hM f0 f1).1;have k1:MOk P (Qdz P E):=Q6w k0 hM f0 f1 hr;have lP:=z.l1;have hQ:=k0.q;refine⟨((core0 (n:=P.loopers)).more (t:=Q5g P) ⟨⟨by show(1:Int)<=1;omega,by show(1:Int)<=3;omega⟩,by show ¬(0:Int)<0;omega⟩ ⟨fun _=>⟨by show(1:Int)≠4;omega,by show(1:Int)≠5;omega⟩,fun h=>by have h:(0:Int)<= -1:=h;omega⟩ (.inl rfl) (fun h=>by have h:(1:Int)=2\/(1:Int)=3:=h;omega) (by show(0:Int)<_;omega) (v03 _) rfl rfl).same eQ.2 rfl eQ.1 Q8c rfl rfl,k1,fun _ j j1 j2 _=>?_⟩
 have d:=Qbx (P:=P) (s:=Yw P E P.loopers) (id:=0) (t:=Q5g P) (cs:=[]) k0.th;have:=k1.th;exact d.n j (by show(0:Int)<j;omega) (by rw[show(Y9 P (Yw P E P.loopers) (Q5g P) []).Th=(Qdz P E).Th from rfl,this];exact j2)
structure RunOk (T:List MTask) (M:List MMark):Prop where
 t:T.length<=256
 m:M.length<=60000
 lk: ∀i (hi:i <M.length),LkOk T (M.take i) M[i]
 tk:TkInv T M
theorem RInv.ok {P:Prg} {s:MS} (R:RInv P s) (hm:s.M.length<=60000):RunOk s.T s.M:=⟨R.k.t,hm,R.c.mi.lk,R.c.tk⟩
def mkI (M:List MMark) (j:Int):MMark:=(M[j.toNat]?).getD default
theorem QdC {M:List MMark} {j:Int} (h0:0<=j) (h1:j <M.length):M[j.toNat]?=some (mkI M j):=by
 unfold mkI;rw[v0c (by omega)];rfl
theorem ZD {M:List MMark} {i:Nat} (h:i <M.length):mkI M i=M[i]:=by
 unfold mkI;rw[v0i,v0c h];rfl
abbrev tsV (tb tc:Nat) (T:List MTask):Value:=.slice (some ⟨tb,0,none⟩) T.length tc
abbrev msV (ma:Option Addr) (mc:Nat) (M:List MMark):Value:=.slice ma M.length mc
structure RnAt (h:Hp) (tb tc:Nat) (ma:Option Addr) (mc:Nat) (T:List MTask) (M:List MMark):Prop where
 t: ∃r m,h.get tb=some (.cells (tkC T++r) 85 m)
 tl:tb <h.n
 m:0 <M.length-> ∃mb r m,ma=some ⟨mb,0,none⟩/\h.get mb=some (.cells (mkC M++r) 68 m)/\mb <h.n
section
variable {h h':Hp} {tb tc:Nat} {ma:Option Addr} {mc:Nat} {T:List MTask} {M:List MMark}
theorem RnAt.ext (x:RnAt h tb tc ma mc T M) (g:Ext h h'):RnAt h' tb tc ma mc T M where
 t:=by obtain⟨r,m,e⟩:=x.t;exact⟨r,m,(g.get _ x.tl).trans e⟩
 tl:=v0p x.tl g.n
 m:=fun hm=>by obtain⟨mb,r,m,e1,e2,e3⟩:=x.m hm;exact⟨mb,r,m,e1,(g.get _ e3).trans e2,v0p e3 g.n⟩
theorem RnAt.tk {id:Int} (x:RnAt h tb tc ma mc T M) (h1:1<=id) (h2:id<=T.length): ∃cs m,h.get tb=some (.cells cs 85 m)/\0+v0f (id -1)*15+15<=cs.length/\(cs.drop (0+v0f (id -1)*15)).take 15=tkV (tkT T id)/\ ∀f v,f <15->(tkV (tkT T id))[f]?=some v->cs[0+v0f (id -1)*15+f]?=some v:=by
 obtain⟨r,m,e⟩:=x.t
 have e1:T[(id -1).toNat]?=some (tkT T id):=by
  unfold tkT;rw[v0c (by omega)];rfl
 have e2:=Q4H r e1;refine⟨_,m,e,?_,by rw[v0e];exact e2,fun f v hf hv=>by rw[v0e];exact Qs e2 hf hv⟩;rw[v0j,Q1N];have:v0f (id -1)<T.length:=by omega
 have:=v1a 15 (show v0f (id -1)+1<=T.length from this);omega
theorem RnAt.mk' {j:Int} (x:RnAt h tb tc ma mc T M) (h0:0<=j) (h1:j <M.length): ∃mb cs m,ma=some ⟨mb,0,none⟩/\h.get mb=some (.cells cs 68 m)/\mb <h.n/\0+v0f j*8+8<=cs.length/\(cs.drop (0+v0f j*8)).take 8=mkV (mkI M j)/\ ∀f v,f <8->(mkV (mkI M j))[f]?=some v->cs[0+v0f j*8+f]?=some v:=by
 obtain⟨mb,r,m,e0,e,hl⟩:=x.m (by omega);have e2:=mkC_at r (QdC h0 h1);refine⟨mb,_,m,e0,e,hl,?_,by rw[v0e];exact e2,fun f v hf hv=>by rw[v0e];exact Qs e2 hf hv⟩;rw[v0j,QeK];have:=v1a 8 (show v0f j+1<=M.length by omega);omega
theorem RnAt.of {tv mv:Value} {b1 b2:List Nat} (h1:SlC 85 14 h tv (tkC T) T.length b1) (h2:SlC 68 7 h mv (mkC M) M.length b2) (hT:0 <T.length): ∃tb tc ma mc,tv=tsV tb tc T/\mv=msV ma mc M/\RnAt h tb tc ma mc T M:=by
 obtain⟨tb,tm,tc,tr,rfl,jj,htl⟩:=h1.at hT;obtain⟨ma,mc,rfl⟩:=Q6 h2;refine⟨tb,tc,ma,mc,rfl,rfl,⟨_,_,jj⟩,htl.2.1,fun hM=>?_⟩;obtain⟨mb,mm,mc',mr,hv,hg,hl⟩:=h2.at hM;cases hv;exact⟨mb,mr,mm,rfl,hg,hl.2.1⟩
end
section
variable {h0 h:Hp} {tb tc:Nat} {ma:Option Addr} {mc:Nat} {T:List MTask} {M L:List MMark} {k bb be:Nat} {y:MMark}
theorem Qa6 (hx:LkOk T L y) (h:y.kind=4\/y.kind=5):(1<=y.other/\y.other<=T.length)/\Zg L y.other 1 <0/\(tkT T y.other).by'=y.task/\y.task <y.other/\(tkT T y.other).mark=L.length/\(y.kind=4↔(tkT T y.other).kind=4)/\(y.kind=5↔(tkT T y.other).kind=5):=by
 rcases hx.k with h'|h'|h'| ⟨_,h'⟩| ⟨h',_⟩| ⟨h',_⟩
 · omega
 · omega
 · omega
 · exact h'
 · omega
 omega
theorem Q2d (hx:LkOk T L y) (h:y.kind=6):(1<=y.other/\y.other<=T.length)/\(tkT T y.other).kind=5/\0<=Zg L y.other 2:=by
 rcases hx.k with h'|h'|h'| ⟨h',_⟩| ⟨_,h'⟩| ⟨h',_⟩
 · omega
 · omega
 · omega
 · omega
 · exact h'
 omega
end
end Go.Proofs.YtljpajcmdjmeaaaGreat
