/- The walks and the laws, part i. Conditions: none. -/
import Derived.Test.YtljpajcmdjmeaaaGreatLh
import Derived.Test.YtljpajcmdjmeaaaGreatXd
import Derived.Test.YtljpajcmdjmeaaaGreatLg
set_option maxHeartbeats 16000000
set_option maxRecDepth 100000
open List renaming length_cons → v07, append_nil → v0k, count_cons → v0P, count_nil → v00, count_append → v04, map_append → v0G, map_congr_left → v1o, length_map → v0v, length_filter_le → v1F, getElem?_append_left → v0z
open Nat renaming zero_add → v0e, le_refl → v0b, zero_le → v0s
open Int renaming toNat_natCast → v0i
open Option renaming some → v0h
namespace Go.Proofs.YtljpajcmdjmeaaaGreat
open Go.X Go.May Go.Mac
section
variable {h h0:Hp} {s:Value} {cs:List Value} {n:Nat} {B:List Nat}
theorem k36 (hs:SlC 126 1 h s cs n B) (hc:cs.all cellV=true) (hn:n<=100000):C modE 36 [s] h fun v g'=> ∃bs,SH h [] [slR 126 1 v cs n bs] g':=by
 obtain⟨sa,sc,rfl⟩:=Q6 hs;refine Q9 (fu:=Tryz.f36) (by kernel_rfl) rfl ?_;have S:=SH.start h;refine Q7<|I2 rfl<|Z8<|I1 rfl<|Ir rfl rfl<|Q0<|Q2 rfl (fun hb=>?_) fun hb=>?_
 · skip
   refine Q7<|I2 rfl<|Q0<|Q8 ?_;refine⟨.inl rfl,_,rfl,?_⟩
   exact⟨[],by
    rcases hs with⟨_,rfl,rfl,_⟩| ⟨b,m,c,rest,e,_⟩
    · exact S.nilSl 126 1
    cases sa with
    |none=>cases e
    |some a=>cases hb⟩
 refine Q4<|Q7 ?_;refine Qc (e:=126) (z:=1) (zv:=.agg #[iV 0,iV 0]) [] S gn rfl (by kernel_rfl) (by kernel_rfl) (by kernel_rfl) (by kernel_rfl) rfl (by rfl) fun b1 g aJ S=>?_;refine I1 rfl ?_;have bL:=(hs.ext S.e0).src;obtain⟨v',h',aa,q1,q2,q3,q4⟩:=KB (n:=0) el126 (.inr ⟨b1,0,rfl,S.cel 0 rfl,.inl rfl,S.lt1 0 rfl,rfl,rfl⟩) bL hc (by omega);rw[v0e]at q2;have q2:SlN 126 1 h' v' cs n aa:=q2;have S':=S.upd (r':=slR 126 1 v' cs n aa) 0 rfl q3 q2.toC q2.toC.lt q4 q2.nodup;refine YS gn rfl rfl rfl q1 (fun _ hq=>by cases hq) ?_;refine I2 rfl<|Q0<|Q8 ⟨.inl rfl,_,rfl,⟨aa,S'⟩⟩
theorem k37 (hs:SlC 3 0 h s cs n B) (hc:cs.all cellV=true) (hn:n<=100000):C modE 37 [s] h fun v g'=> ∃bs,SH h [] [slR 3 0 v cs n bs] g':=by
 obtain⟨sa,sc,rfl⟩:=Q6 hs;refine Q9 (fu:=Tryz.f37) (by kernel_rfl) rfl ?_;have S:=SH.start h;refine Q7<|I2 rfl<|Z8<|I1 rfl<|Ir rfl rfl<|Q0<|Q2 rfl (fun hb=>?_) fun hb=>?_
 · skip
   refine Q7<|I2 rfl<|Q0<|Q8 ?_;refine⟨.inl rfl,_,rfl,?_⟩
   exact⟨[],by
    rcases hs with⟨_,rfl,rfl,_⟩| ⟨b,m,c,rest,e,_⟩
    · exact S.nilSl 3 0
    cases sa with
    |none=>cases e
    |some a=>cases hb⟩
 refine Q4<|Q7 ?_;refine Qc (e:=3) (z:=0) (zv:=.int .i64 0) [] S gn rfl (by kernel_rfl) (by kernel_rfl) (by kernel_rfl) (by kernel_rfl) rfl (by rfl) fun b1 g aJ S=>?_;refine I1 rfl ?_;have bL:=(hs.ext S.e0).src;obtain⟨v',h',aa,q1,q2,q3,q4⟩:=KB (n:=0) elO (.inr ⟨b1,0,rfl,S.cel 0 rfl,.inl rfl,S.lt1 0 rfl,rfl,rfl⟩) bL hc (by omega);rw[v0e]at q2;have q2:SlN 3 0 h' v' cs n aa:=q2;have S':=S.upd (r':=slR 3 0 v' cs n aa) 0 rfl q3 q2.toC q2.toC.lt q4 q2.nodup;refine YS gn rfl rfl rfl q1 (fun _ hq=>by cases hq) ?_;refine I2 rfl<|Q0<|Q8 ⟨.inl rfl,_,rfl,⟨aa,S'⟩⟩
theorem k40 (hs:SlC 137 2 h s cs n B) (hc:cs.all cellV=true) (hn:n<=100000):C modE 40 [s] h fun v g'=> ∃bs,SH h [] [slR 137 2 v cs n bs] g':=by
 obtain⟨sa,sc,rfl⟩:=Q6 hs;refine Q9 (fu:=Tryz.f40) (by kernel_rfl) rfl ?_;have S:=SH.start h;refine Q7<|I2 rfl<|Z8<|I1 rfl<|Ir rfl rfl<|Q0<|Q2 rfl (fun hb=>?_) fun hb=>?_
 · skip
   refine Q7<|I2 rfl<|Q0<|Q8 ?_;refine⟨.inl rfl,_,rfl,?_⟩
   exact⟨[],by
    rcases hs with⟨_,rfl,rfl,_⟩| ⟨b,m,c,rest,e,_⟩
    · exact S.nilSl 137 2
    cases sa with
    |none=>cases e
    |some a=>cases hb⟩
 refine Q4<|Q7 ?_;refine Qc (e:=137) (z:=2) (zv:=.agg #[iV 0,iV 0,.bool false]) [] S gn rfl (by kernel_rfl) (by kernel_rfl) (by kernel_rfl) (by kernel_rfl) rfl (by rfl) fun b1 g aJ S=>?_;refine I1 rfl ?_;have bL:=(hs.ext S.e0).src;obtain⟨v',h',aa,q1,q2,q3,q4⟩:=KB (n:=0) el137 (.inr ⟨b1,0,rfl,S.cel 0 rfl,.inl rfl,S.lt1 0 rfl,rfl,rfl⟩) bL hc (by omega);rw[v0e]at q2;have q2:SlN 137 2 h' v' cs n aa:=q2;have S':=S.upd (r':=slR 137 2 v' cs n aa) 0 rfl q3 q2.toC q2.toC.lt q4 q2.nodup;refine YS gn rfl rfl rfl q1 (fun _ hq=>by cases hq) ?_;refine I2 rfl<|Q0<|Q8 ⟨.inl rfl,_,rfl,⟨aa,S'⟩⟩
theorem k72 (hs:SlC 174 1 h s cs n B) (hc:cs.all cellV=true) (hn:n<=100000):C modE 72 [s] h fun v g'=> ∃bs,SH h [] [slR 174 1 v cs n bs] g':=by
 obtain⟨sa,sc,rfl⟩:=Q6 hs;refine Q9 (fu:=Tryz.f72) (by kernel_rfl) rfl ?_;have S:=SH.start h;refine Q7<|I2 rfl<|Z8<|I1 rfl<|Ir rfl rfl<|Q0<|Q2 rfl (fun hb=>?_) fun hb=>?_
 · skip
   refine Q7<|I2 rfl<|Q0<|Q8 ?_;refine⟨.inl rfl,_,rfl,?_⟩
   exact⟨[],by
    rcases hs with⟨_,rfl,rfl,_⟩| ⟨b,m,c,rest,e,_⟩
    · exact S.nilSl 174 1
    cases sa with
    |none=>cases e
    |some a=>cases hb⟩
 refine Q4<|Q7 ?_;refine Qc (e:=174) (z:=1) (zv:=.agg #[iV 0,.bool false]) [] S gn rfl (by kernel_rfl) (by kernel_rfl) (by kernel_rfl) (by kernel_rfl) rfl (by rfl) fun b1 g aJ S=>?_;refine I1 rfl ?_;have bL:=(hs.ext S.e0).src;obtain⟨v',h',aa,q1,q2,q3,q4⟩:=KB (n:=0) el174 (.inr ⟨b1,0,rfl,S.cel 0 rfl,.inl rfl,S.lt1 0 rfl,rfl,rfl⟩) bL hc (by omega);rw[v0e]at q2;have q2:SlN 174 1 h' v' cs n aa:=q2;have S':=S.upd (r':=slR 174 1 v' cs n aa) 0 rfl q3 q2.toC q2.toC.lt q4 q2.nodup;refine YS gn rfl rfl rfl q1 (fun _ hq=>by cases hq) ?_;refine I2 rfl<|Q0<|Q8 ⟨.inl rfl,_,rfl,⟨aa,S'⟩⟩
theorem k35 {kb:Nat} {c:List (Int×Bool)} {cv:Value} {cB:List Nat} (hg:h.get kb=some (.cells [cv] 171 0)) (hs:SlC 174 1 h cv (chC c) c.length cB) (hn:c.length<=100000):
 C modE 35 [Qk kb] h fun v g'=> ∃(hb:Nat) (ku:Value) (bs:List Nat),v=Qk hb/\SH h [] [cR hb (.cells [ku] 171 0),slR 174 1 ku (chC c) c.length bs] g':=by
 obtain⟨sa,sc,rfl⟩:=Q6 hs;refine Q9 (fu:=Tryz.f35) (by kernel_rfl) rfl ?_;have S:=SH.start h;refine Q7<|I2 rfl<|Z8<|I1 rfl<|Ip rfl rfl<|Q0<|Q2 rfl (fun hb=>?_) fun hb=>?_
 · skip
   refine Q5 ?_;cases hb
 refine Q4<|Q7<|I1 rfl<|I6 rfl<|I0 0 rfl<|I4 rfl hg rfl<|Ic [_] rfl rfl (C.mono (k72 hs (by simp[chC,chV,cellV]) hn) ?_);rintro v g ⟨vbs,S⟩;obtain⟨va,vc,rfl⟩:=Q6 (S.sl 0 rfl);refine⟨ag0,?_⟩;refine Qq (zv:=.agg #[.slice none 0 0]) (pl:=[(0,1)]) [(0,_)] gn rfl (by kernel_rfl) (by kernel_rfl) rfl (by rfl) ?_;refine Z9 S gn rfl rfl fun b1 g aJ S=>?_;refine I2 rfl<|Q0<|Q8 ⟨.inl rfl,_,rfl,⟨_,_,_,rfl,S⟩⟩
theorem k38 {b m cl cl0:Nat} {M:MsK Int} (S0:SH h0 [] [cR b (.map (([]:MsK Int).map (Zp iV)) cl0)] h) (hm:h0.get m=some (.map (M.map (Zp iV)) cl)) (hl:m <h0.n) (ok:OkK M cl):
 C modE 38 [.map (some b),.map (some m)] h fun _ g'=> ∃(N:MsK Int) (ncl:Nat),OkK N ncl/\(∀k,Jt N k=Jt M k)/\SH h [b] [cR b (.map (N.map (Zp iV)) ncl)] g':=by
 have SE:=S0.enterL;have m7:h.get m=some (.map (M.map (Zp iV)) cl):=S0.old0 hm hl
 have hmb:m≠b:=fun e=>by
  have:=S0.own0L b (by simp[owns,cR]);omega
 have gK:m <h.n:=Nat.lt_of_lt_of_le hl S0.e0.n;refine Q9 (fu:=Tryz.f38) (by kernel_rfl) rfl ?_;have S:=SE;refine Q7<|I1 rfl ?_;refine Q3C Q5p m7 S gn rfl rfl fun b1 g aJ S=>?_;refine Q0<|Qb<|QB [] [(0,_),(7,_)] (fun kk lv hh=> ∃(D U N:MsK Int) (ncl:Nat),lv=[]/\kk=U.length/\M.Perm (D++U)/\OkK N ncl/\(∀k,Jt N k=if k∈D.map (·.1)then Jt M k else none)/\SH h [b] [cR b1 (.iter (some m) cl (D.map (·.2.2)) cl),cR b (.map (N.map (Zp iV)) ncl)] hh) (n:=M.length) ?_ fun kk lv hh hI=>?_
 · exact⟨[],M,[],cl0,rfl,rfl,.refl _,OkK.nil _,fun k=>by simp[Q1F],S⟩
 obtain⟨D,U,N,ncl,rfl,hk,hp,hN,hg,S⟩:=hI;refine Q5 ?_;have lN:hh.get m=some (.map (M.map (Zp iV)) cl):=S.old m7 gK (by simpa using hmb);refine Q3 (by kernel_rfl) ?_;refine Q6h 0 S gn rfl rfl rfl lN ok hp fun nb na nD nU g nh nN S=>?_;refine Ix rfl nh<|Q0<|Q5<|Q2 rfl (fun hb=>?_) fun hb=>?_
 · skip
   refine Q4 ?_;obtain⟨y,nD',nP,nQ,nM,nA⟩:=nN.yes hb;subst nD';have nl:=nP.length_eq;rw[v07]at nl;refine Qb<|Q5 ?_;have lM:g.get m=some (.map (M.map (Zp iV)) cl):=S.old m7 gK (by simpa using hmb);refine Q3 (by kernel_rfl)<|Q3E 0 S gn rfl rfl rfl lM ok nM<|Ix rfl rfl<|Ix rfl rfl<|I2 rfl<|I2 rfl<|Q0<|Q3 (by kernel_rfl)<|I1 rfl<|I1 rfl<|I1 rfl ?_
   first|refine QV 0 S Q5p gn rfl rfl rfl rfl (fun g S=>ag0) fun g S=>?_|refine QV 1 S Q5p gn rfl rfl rfl rfl (fun g S=>ag0) fun g S=>?_|refine QV 2 S Q5p gn rfl rfl rfl rfl (fun g S=>ag0) fun g S=>?_|refine QV 3 S Q5p gn rfl rfl rfl rfl (fun g S=>ag0) fun g S=>?_
   refine Q0<|Qf ?_
   exact K3 nU.length [] (p:=⟨D++[y],nU,_,_,rfl,rfl,nQ,hN.put y.1 y.2.1,fun k=>by
    rw[Kw,hg];by_cases e:k=y.1
    · rw[if_pos e,if_pos (by simp[e]),Q0i ok.ks y nM e.symm]
    rw[if_neg e];have:k∈(D++[y]).map (·.1)↔k∈D.map (·.1):=by simp[e]
    simp only[this],S⟩)
 refine QF<|Qh<|Qn<|QE ?_;refine⟨.inr rfl,_,rfl,?_⟩;obtain⟨rfl,rfl⟩:=nN.no hb;refine⟨N,ncl,hN,fun k=>?_,S.drop⟩;rw[hg]
 split
 · rfl
 rename_i j0;rw[Q4d];rw[v0k]at hp;exact fun e=>j0 ((hp.map _).mem_iff.1 e)
end
abbrev rpF (s:CkS) (rb nb:Int->Nat) (a:Int):Res:=cR (rb a) (.cells (rnO (s.R a) (nb a)) 132 0)
abbrev npF (s:CkS) (nb:Int->Nat) (no:Int->List Nat) (a:Int):Res:=Jl (nb a) (rnA (s.R a)) (no a)
abbrev lpF (s:CkS) (lv:Q1n->Value) (lb:Q1n->List Nat):Q1n->Res:=mlF 137 2 lv (fun q=>toC (s.L q)) (fun q=>(s.L q).length) lb
theorem Qc0 {m:Option Nat}:sameV 20 (.map m) (.map m)=true:=by cases m<;>simp[sameV]
section
variable {h0 h:Hp} {ds:List Nat} {a b c i j o r k x p1 p2 p3 p4 p5 p6:Res} {R N M:List Res}
theorem Qfs (S:SH h0 ds [a,b,c,i,x,o,k,r,j] h):SH h0 ds [k,o,r,c,i,b,a,j] h:=S.sub (B:=[x]) (QC fun _ y=>by
 simp only[v0P,v00,v04];omega)
theorem Qfr (S:SH h0 ds [i,k,o,r,p1,p2,p3,p4,p5] h):SH h0 ds [i,o,r,k,p1,p2,p3,p4,p5] h:=S.sub (B:=[]) (QC fun _ y=>by
 simp only[v0P,v00,v04];omega)
theorem cp_rnd (S:SH h0 ds (c::b::i::o::r::p1::p2::p3::p4::p5::p6::(R++N)) h):SH h0 ds (i::o::r::p1::p2::p3::p4::p5::p6::((R++[b])++(N++[c]))) h:=S.sub (B:=[]) (QC fun _ y=>by
 simp only[v0P,v00,v04];omega)
theorem Qfq (S:SH h0 ds (j::i::o::r::k::p1::p2::p3::p4::p5::(R++N)) h):SH h0 ds (j::o::p5::k::p1::p2::p3::p4::r::(R++(N++[]))) h:=S.sub (B:=[i]) (QC fun _ y=>by
 simp only[v0P,v00,v04];omega)
theorem Qfp (S:SH h0 ds (c::b::i::o::r::p1::p2::p3::p4::p5::p6::(R++(N++M))) h):SH h0 ds (i::o::r::p1::p2::p3::p4::p5::p6::(R++(N++(M++[c])))) h:=S.sub (B:=[b]) (QC fun _ y=>by
 simp only[v0P,v00,v04];omega)
theorem cp_fin {R' N':List Res} (pR:R'.Perm R) (pN:N'.Perm N) (S:SH h0 ds (i::o::j::k::p1::p2::p3::p4::r::(R++(N++M))) h):SH h0 ds (p1::p2::o::p3::p4::k::r::j::(R'++(N'++M))) h:=S.sub (B:=[i]) (QC fun d y=>by
 have e1:=pR.count_eq y;have e2:=pN.count_eq y
 simp only[v0P,v00,v04];omega)
end
section
variable {s:CkS} {rb nb:Int->Nat} {no:Int->List Nat} {ks:List Int} {a:Int} {b c:Nat} {ow:List Nat}
theorem Qft (ha:a∉ks):(ks++[a]).map (rpF s (Qy rb a b) (Qy nb a c))=ks.map (rpF s rb nb)++[cR b (.cells (rnO (s.R a) c) 132 0)]/\
 (ks++[a]).map (npF s (Qy nb a c) (Qy no a ow))=ks.map (npF s nb no)++[Jl c (rnA (s.R a)) ow]:=by
 have e1: ∀x,x∈ks->x≠a:=fun x hx q=>ha (q▸hx);constructor
 · rw[v0G]
   congr 1
   · refine v1o fun x hx=>?_;have:=e1 x hx;unfold rpF;rw[Qp this,Qp this]
   show[rpF s (Qy rb a b) (Qy nb a c) a]=_;unfold rpF;rw[Qm,Qm]
 rw[v0G]
 congr 1
 · refine v1o fun x hx=>?_;have:=e1 x hx;unfold npF;rw[Qp this,Qp this]
 show[npF s (Qy nb a c) (Qy no a ow) a]=_;unfold npF;rw[Qm,Qm]
theorem Qfu {lv:Q1n->Value} {lb:Q1n->List Nat} {qs:List Q1n} {q:Q1n} {v:Value} {bs:List Nat} (hq:q∉qs):
 (qs++[q]).map (lpF s (upK lv q v) (upK lb q bs))=qs.map (lpF s lv lb)++[slR 137 2 v (toC (s.L q)) (s.L q).length bs]:=by
 rw[v0G]
 congr 1
 · refine v1o fun x hx=>?_;have:x≠q:=fun e=>hq (e▸hx);unfold lpF mlF;rw[Z1 this,Z1 this]
 show[lpF s (upK lv q v) (upK lb q bs) q]=_;unfold lpF mlF;rw[Zz,Zz]
end
theorem Qah {K:Type} {M D U:MsK K} {cl:Nat} {y:K×Value×Nat} (ok:OkK M cl) (p:M.Perm (D++[y]++U)):y.1∉D.map (·.1):=fun h=>by
 have nd:=(p.map (·.1)).nodup_iff.1 ok.ks;rw[v0G,v0G,List.append_assoc,List.nodup_append]at nd;exact nd.2.2 _ h y.1 (by simp) rfl
section
variable {h:Hp} {cb:Nat} {s:CkS} {w:CkW}
theorem Qd8 {h0:Hp} {ds:List Nat} (ok:OkW s w) (S:SH h0 ds (ckL cb s w) h):SH h0 ds [ckR cb s (owns (ckL cb s w))] h:=Kj (B:=[]) (by rw[v0k];exact S) ⟨_,rfl,ok⟩
theorem k12r:C modE 12 [] h fun v g'=> ∃(ob hb b1 b2 b3:Nat),v=Qk ob/\SH h [] [cR hb (.cells [.slice none 0 0] 171 0),cR ob (.cells [Qk hb,.slice none 0 0,.map (some b1),.map (some b2),.slice none 0 0,.map (some b3),iV 0] 123 0),cR b1 (.map [] 0),cR b2 (.map [] 0),cR b3 (.map [] 0)] g':=by
 refine Q9 (fu:=Tryz.f12) (by kernel_rfl) rfl ?_;have S:=SH.start h;refine Q7<|I2 rfl<|QP<|Ic [] rfl rfl (C.mono (k33) ?_);rintro v g ⟨hb,rfl,S⟩
 skip
 refine⟨ag0,?_⟩;refine YG S gn rfl fun b1 g aJ S=>?_;refine YG S gn rfl fun b2 g bK S=>?_;refine YG S gn rfl fun b3 g fV S=>?_;refine Qq (zv:=.agg #[.pointer none,.slice none 0 0,.map none,.map none,.slice none 0 0,.map none,iV 0]) (pl:=[(0,1),(1,1),(2,1),(3,1),(4,1),(5,1),(6,1)]) [(0,_),(2,_),(3,_),(5,_)] gn rfl (by kernel_rfl) (by kernel_rfl) rfl (by rfl) ?_;refine Z9 S gn rfl rfl fun b4 g jL S=>?_;refine I2 rfl<|Q0<|Q8 ?_;refine⟨.inl rfl,_,rfl,?_⟩
 have S:SH h [] [cR b4 (.cells [Qk hb,.slice none 0 0,.map (some b1),.map (some b2),.slice none 0 0,.map (some b3),iV 0] 123 0),cR b3 (.map [] 0),cR b2 (.map [] 0),cR b1 (.map [] 0),cR hb (.cells [.slice none 0 0] 171 0)] _:=S
 exact⟨b4,hb,b1,b2,b3,rfl,SH.prm S (QC fun _ y=>by
  simp only[v0P,v00];omega)⟩
theorem k13 (G:CkG h cb s w) (od:s.O.Nodup) (n1:s.ch.length<=100000) (n2:s.S.length<=100000) (n3:s.O.length<=100000) (n4: ∀q,(s.L q).length<=100000):
 C modE 13 [Qk cb] h fun v g'=> ∃(ob:Nat) (bs:List Nat),v=Qk ob/\SH h [] [ckR ob s bs] g':=by
 have cf:=G.atl 2 rfl;have cW:h.get w.hb=some (.cells [w.cv] 171 0)/\w.hb <h.n:=G.atl 0 rfl;have bS:SlC 174 1 h w.cv (chC s.ch) s.ch.length w.cb:=G.at 1 rfl;have iO:SlC 126 1 h w.sv (stC s.S) s.S.length w.sb:=G.at 3 rfl;have kU:SlC 3 0 h w.ov (isV s.O) s.O.length w.ob:=G.at 4 rfl;have hkm:h.get w.kr=some (.map (w.KM.map (Zp iV)) w.kcl)/\w.kr <h.n:=G.atl 5 rfl;have jQ:h.get w.rr=some (.map (w.RM.map (Zp iV)) w.rcl)/\w.rr <h.n:=G.atl 6 rfl;have lO:h.get w.lr=some (.map (w.LM.map (Zp Qcy)) w.lcl)/\w.lr <h.n:=G.atl 7 rfl;obtain⟨sa,sc,dw⟩:=Q6 iO;obtain⟨oa,oc,aW⟩:=Q6 kU;unfold QdY at cf;rw[dw,aW]at cf
 rw[dw]at iO;rw[aW]at kU;refine Q9 (fu:=Tryz.f13) (by kernel_rfl) rfl ?_;have S:=SH.start h;refine Q7<|I2 rfl<|Z8<|I1 rfl<|Ic [_] rfl rfl (Ql (k34 cf.1) ⟨ag0,?_⟩);refine Q0<|Q2 rfl (fun hb=>?_) fun hb=>?_
 · skip
   refine Q5 ?_;exact absurd hb (by decide)
 refine Q4<|Q7<|Ic [] rfl rfl (C.mono (k12r) ?_);rintro v g ⟨ob,jF,kr,rr,lr,rfl,S⟩
 skip
 refine⟨ag0,?_⟩;refine I2 rfl<|Q0<|Q5<|Yq [(0,[]),(1,[]),(2,[]),(3,[]),(4,[]),(5,[]),(6,[]),(7,[]),(9,[]),(10,[]),(11,[]),(12,[]),(14,[]),(15,[]),(16,[]),(17,[]),(19,[]),(20,[]),(21,[]),(22,[]),(8,[12,17,22]),(13,[17,22]),(18,[22]),(23,[]),(24,[]),(25,[]),(26,[]),(27,[]),(28,[]),(29,[]),(30,[]),(31,[]),(32,[]),(33,[]),(34,[])] (by kernel_rfl) (by kernel_rfl) (by kernel_rfl) (by kernel_rfl)<|I1 rfl<|I1 rfl<|I1 rfl<|I1 rfl<|I1 rfl<|I6 rfl<|I0 0 rfl<|I4 rfl (S.old0 cf.1 cf.2) rfl<|I1 rfl ?_
 refine I6 rfl<|I0 1 rfl<|I4 rfl (S.old0 cf.1 cf.2) rfl<|I1 rfl<|I6 rfl<|I0 4 rfl<|I4 rfl (S.old0 cf.1 cf.2) rfl<|I1 rfl<|I6 rfl<|I0 6 rfl<|I4 rfl (S.old0 cf.1 cf.2) rfl<|Ic [_] rfl rfl (C.mono (k35 (S.old0 cW.1 cW.2) (bS.ext S.e0) n1) ?_);rintro v g ⟨fQ,oD,cb1,rfl,S2⟩;have S:=SH.retL (A:=[]) (B:=[_,_,_,_,_]) S S2;refine⟨(ag1 (ZO gn rfl (by kernel_rfl) (S.old0 cf.1 cf.2) rfl rfl K8) (ag1 (ZO gn rfl (by kernel_rfl) (S.old0 cf.1 cf.2) rfl rfl K8) (ag1 (ZO gn rfl (by kernel_rfl) (S.old0 cf.1 cf.2) rfl rfl Kr) ag0))),?_⟩
 refine Ic [_] rfl rfl (C.mono (k36 (iO.ext S.e0) (by simp[stC,stV,cellV]) n2) ?_);rintro v g ⟨sb1,S2⟩;have S:=SH.retL (A:=[]) (B:=[_,_,_,_,_,_,_]) S S2;obtain⟨mh,mg,rfl⟩:=Q6 (S.sl 0 rfl);refine⟨(ag1 (ZO gn rfl (by kernel_rfl) (S.old0 cf.1 cf.2) rfl rfl K8) (ag1 (ZO gn rfl (by kernel_rfl) (S.old0 cf.1 cf.2) rfl rfl Kr) ag0)),?_⟩;refine Ic [_] rfl rfl (C.mono (k37 (kU.ext S.e0) (by simp[isV,cellV]) n3) ?_);rintro v g ⟨ob1,S2⟩;have S:=SH.retL (A:=[]) (B:=[_,_,_,_,_,_,_,_]) S S2;obtain⟨mn,ml,rfl⟩:=Q6 (S.sl 0 rfl);refine⟨(ag1 (ZO gn rfl (by kernel_rfl) (S.old0 cf.1 cf.2) rfl rfl Kr) ag0),?_⟩;refine I6 rfl<|I0 0 rfl ?_
 refine Qg 5 S gn rfl rfl rfl (by kernel_rfl) rfl (by decide) (by simp) (fun g S=>ag0) fun g S=>?_;refine I6 rfl<|I0 1 rfl ?_;refine Qg 5 S gn rfl rfl rfl (by kernel_rfl) rfl (by decide) (by simp) (fun g S=>ag0) fun g S=>?_;refine I6 rfl<|I0 4 rfl ?_;refine Qg 5 S gn rfl rfl rfl (by kernel_rfl) rfl (by decide) (by simp) (fun g S=>ag0) fun g S=>?_;refine I6 rfl<|I0 6 rfl ?_;refine Qg 5 S gn rfl rfl rfl (by kernel_rfl) rfl (by decide) (by simp) (fun g S=>ag0) fun g S=>?_;refine Q0<|Q5 ?_;have S:=Qfs S;refine I9<|I1 rfl<|I6 rfl<|I0 2 rfl<|I4 rfl (S.cel 1 rfl) rfl<|I1 rfl ?_
 refine I6 rfl<|I0 2 rfl<|I4 rfl (S.old0 cf.1 cf.2) rfl<|Ic [_,_] rfl rfl (C.mono (k38 (SH.fst (A:=[_]) S) hkm.1 hkm.2 G.ok.km) ?_);rintro v g ⟨KM1,kE,kok1,kg1,S2⟩;have S:=SH.retL (A:=[_]) (B:=[_,_,_,_,_,_,_]) S S2;refine⟨ag0,?_⟩;refine Z8<|I1 rfl<|I6 rfl<|I0 3 rfl<|I4 rfl (S.old0 cf.1 cf.2) rfl ?_;refine Q3C Q2N (S.old0 jQ.1 jQ.2) S gn rfl rfl fun b1 g aJ S=>?_;refine Q0<|Qb ?_
 refine QB [] [(0,_),(3,_),(56,_)] (fun kk lv hh=> ∃(D U N:MsK Int) (ncl:Nat) (rb nb:Int->Nat) (no:Int->List Nat),lv=[]/\kk=U.length/\w.RM.Perm (D++U)/\OkK N ncl/\(∀a,Jt N a=if a∈D.map (·.1)then some (Qk (rb a))else none)/\SH h [] (cR b1 (.iter (some w.rr) w.rcl (D.map (·.2.2)) w.rcl)::cR ob (.cells [Qk fQ,.slice mh s.S.length mg,.map (some kr),.map (some rr),.slice mn s.O.length ml,.map (some lr),iV s.last] 123 0)::cR rr (.map (N.map (Zp iV)) ncl)::cR kr (.map (KM1.map (Zp iV)) kE)::cR fQ (.cells [oD] 171 0)::slR 174 1 oD (chC s.ch) s.ch.length cb1::slR 126 1 (.slice mh s.S.length mg) (stC s.S) s.S.length sb1::slR 3 0 (.slice mn s.O.length ml) (isV s.O) s.O.length ob1::cR lr (.map [] 0)::((D.map (·.1)).map (rpF s rb nb)++(D.map (·.1)).map (npF s nb no))) hh) (n:=w.RM.length) ?_ fun kk lv hh hI=>?_
 · exact⟨[],w.RM,[],0,fun _=>0,fun _=>0,fun _=>[],rfl,rfl,.refl _,OkK.nil _,fun k=>by simp[Q1F],Qfr S⟩
 obtain⟨D,U,N,ncl,rb,nbf,nof,rfl,hk,hp,hN,hg,S⟩:=hI;refine Q7 ?_;refine Q6h 0 S gn rfl rfl rfl (S.old0 jQ.1 jQ.2) G.ok.rm hp fun nb na nD nU g nh nN S=>?_;refine Ix rfl nh<|Q0<|Q5<|Q2 rfl (fun hb=>?_) fun hb=>?_
 · skip
   refine Q4 ?_;obtain⟨⟨ya,yv,yb⟩,nD',nP,nQ,nM,nA⟩:=nN.yes hb;subst nD';have nl:=nP.length_eq;rw[v07]at nl;have gR:=Q0i G.ok.rm.ks _ nM rfl;rw[G.ok.rg]at gR;have mw:ya∈s.O:=Decidable.byContradiction fun e=>by rw[if_neg e]at gR;cases gR
   rw[if_pos mw]at gR;have lG:Qk (w.rb ya)=yv:=v0h.inj gR;subst lG;obtain⟨r,hr⟩:=(G.ok.ro ya).2 mw;obtain⟨lJ,bm,gF⟩:=G.run hr;refine Qb<|Q7<|Q3E 0 S gn rfl rfl rfl (S.old0 jQ.1 jQ.2) G.ok.rm nM<|Ix rfl rfl<|Ix rfl rfl<|I2 rfl<|I2 rfl<|QP<|I1 rfl<|I6 rfl<|I3 20 rfl (S.old0 lJ bm) (v0b 20) ?_;refine Qx (zv:=.agg #[iV 0,iV 0,iV 0,iV 0,iV 0,iV 0,iV 0,.bool false,iV 0,iV 0,iV 0,iV 0,iV 0,iV 0,iV 0,iV 0,.pointer none,iV 0,iV 0,.bool false]) S gn rfl (by kernel_rfl) fun b2 g bK S=>?_
   refine Qi (n:=20) 0 S gn rfl rfl (by kernel_rfl) (by kernel_rfl) rfl rfl (by decide) rfl (fun g S=>ag0) fun g S=>?_;refine QP<|I1 rfl<|I6 rfl<|I0 16 rfl<|I4 rfl (S.old0 lJ bm) rfl<|Ic [_] rfl rfl (C.mono (k39 (gF.ext S.e0)) ?_);rintro v g ⟨bK,iY,rfl,xc,xn,x⟩;have S:=S.push (r:=Jl bK r.A iY) x xc xc.lt xn (Q88 xc);refine⟨ag0,?_⟩;refine I0 16 rfl ?_;refine Qg 1 S gn rfl rfl rfl (by kernel_rfl) rfl (by decide) (show(16:Nat)<20 by decide) (fun g S=>ag0) fun g S=>?_;refine Q0<|Q3 (by kernel_rfl)<|I1 rfl<|I6 rfl<|I0 3 rfl<|I4 rfl (S.cel 3 rfl) rfl ?_
   refine I1 rfl ?_;refine QV 4 S Q2N gn rfl rfl rfl rfl (fun g S=>ag0) fun g S=>?_;refine Q0 ?_;have fh:=Qah G.ok.rm nQ;have mZ:=Qft (s:=s) (rb:=rb) (nb:=nbf) (no:=nof) (b:=b2) (c:=bK) (ow:=iY) fh;rw[hr]at mZ;have S:=cp_rnd S;refine Qf ?_
   exact K3 nU.length [] (p:=⟨D++[(ya,Qk (w.rb ya),yb)],nU,_,_,Qy rb ya b2,Qy nbf ya bK,Qy nof ya iY,rfl,rfl,nQ,hN.put ya (Qk b2),fun k=>by
    rw[Kw,hg];by_cases e:k=ya
    · rw[if_pos e,if_pos (by simp[e]),e,Qm]
    · rw[if_neg e,Qp e];have:k∈(D++[(ya,Qk (w.rb ya),yb)]).map (·.1)↔k∈D.map (·.1):=by simp[e]
      simp only[this],by
    rw[v0G (f:=fun x:Int×Value×Nat=>x.1)];show SH h [] (_::_::_::_::_::_::_::_::_::((D.map (·.1)++[ya]).map (rpF s (Qy rb ya b2) (Qy nbf ya bK))++(D.map (·.1)++[ya]).map (npF s (Qy nbf ya bK) (Qy nof ya iY)))) _;rw[mZ.1,mZ.2]
    exact S⟩)
 refine QF<|Qh<|Qn<|QE<|Q5<|Q5 ?_;obtain⟨hU0,hD0⟩:=nN.no hb;subst hU0;subst nD;refine Q3 (by kernel_rfl)<|I1 rfl<|I6 rfl<|I0 5 rfl<|I4 rfl (S.old0 cf.1 cf.2) rfl ?_;refine Q3C Q41 (S.old0 lO.1 lO.2) S gn rfl rfl fun b3 g fV S=>?_;refine Q0<|Qb ?_
 refine QB [] [(3,_),(80,_)] (fun kk lv hh=> ∃(D2 U N2:MsK Q1n) (iZ:Nat) (lvf:Q1n->Value) (lbf:Q1n->List Nat),lv=[]/\kk=U.length/\w.LM.Perm (D2++U)/\OkK N2 iZ/\(∀a,Jt N2 a=if a∈D2.map (·.1)then some (lvf a)else none)/\SH h [] (cR b3 (.iter (some w.lr) w.lcl (D2.map (·.2.2)) w.lcl)::cR ob (.cells [Qk fQ,.slice mh s.S.length mg,.map (some kr),.map (some rr),.slice mn s.O.length ml,.map (some lr),iV s.last] 123 0)::cR lr (.map (N2.map (Zp Qcy)) iZ)::cR kr (.map (KM1.map (Zp iV)) kE)::cR fQ (.cells [oD] 171 0)::slR 174 1 oD (chC s.ch) s.ch.length cb1::slR 126 1 (.slice mh s.S.length mg) (stC s.S) s.S.length sb1::slR 3 0 (.slice mn s.O.length ml) (isV s.O) s.O.length ob1::cR rr (.map (N.map (Zp iV)) ncl)::((D.map (·.1)).map (rpF s rb nbf)++((D.map (·.1)).map (npF s nbf nof)++(D2.map (·.1)).map (lpF s lvf lbf)))) hh) (n:=w.LM.length) ?_ fun kk lv hh hI=>?_
 · exact⟨[],w.LM,[],0,fun _=>.nilFunc,fun _=>[],rfl,rfl,.refl _,OkK.nil _,fun k=>by simp[Q1F],Qfq S⟩
 obtain⟨D2,U,N2,iZ,lvf,lbf,rfl,hk,hp2,hN2,da,S⟩:=hI;refine Q7 ?_;refine Q6h 0 S gn rfl rfl rfl (S.old0 lO.1 lO.2) G.ok.lm.ok hp2 fun nb na nD nU g nh nN S=>?_;refine Ix rfl nh<|Q0<|Q5<|Q2 rfl (fun hb=>?_) fun hb=>?_
 · skip
   refine Q4 ?_;obtain⟨⟨ya,yv,yb⟩,nD',nP,nQ,nM,nA⟩:=nN.yes hb;subst nD';have nl:=nP.length_eq;rw[v07]at nl;have gR:=Q0i G.ok.lm.ok.ks _ nM rfl;rw[G.ok.lm.g]at gR;have mw:ya∈w.ks:=Decidable.byContradiction fun e=>by rw[if_neg e]at gR;cases gR
   rw[if_pos mw]at gR;have lG:w.lv ya=yv:=v0h.inj gR;have hls:SlC 137 2 h (w.lv ya) (toC (s.L ya)) (s.L ya).length (w.lb ya):=(G.hold _ (by unfold ckL ckT;simp only[List.mem_cons,List.mem_append];right;right;right;right;right;right;right;right;right;right;exact List.mem_map_of_mem mw)).1;rw[lG]at hls;obtain⟨la,lc,fM⟩:=Q6 hls;subst fM;refine Qb<|Q7<|Q3E 0 S gn rfl rfl rfl (S.old0 lO.1 lO.2) G.ok.lm.ok nM<|Ix rfl rfl<|Ix rfl rfl ?_;refine Qx (zv:=.agg #[iV 0,iV 0,iV 0]) S gn rfl (by kernel_rfl) fun b4 g jL S=>?_
   refine Qi (n:=3) 0 S gn rfl rfl (by kernel_rfl) (by kernel_rfl) rfl rfl (by decide) rfl (fun g S=>ag0) fun g S=>?_;refine I2 rfl<|Q0<|Yq [(0,[]),(1,[]),(2,[]),(3,[]),(4,[]),(5,[]),(6,[3,4]),(7,[])] (by kernel_rfl) (by kernel_rfl) (by kernel_rfl) (by kernel_rfl)<|I1 rfl<|I6 rfl<|I0 5 rfl<|I4 rfl (S.cel 2 rfl) rfl<|I3 3 rfl (S.cel 0 rfl) (v0b _)<|I1 rfl<|Ic [_] rfl rfl (C.mono (k40 (hls.ext S.e0) (by simp[toC,toV,cellV]) (n4 ya)) ?_);rintro v g ⟨lb2,S2⟩;have S:=SH.retL (A:=[]) (B:=_::_) S S2;obtain⟨la2,lc2,rfl⟩:=Q6 (S.sl 0 rfl)
   refine⟨(ag1 (ZO gn rfl (by kernel_rfl) (S.cel 3 rfl) rfl rfl Qc0) (ag1 (Q1H (n:=3) gn rfl (by kernel_rfl) (by kernel_rfl) (S.cel 1 rfl) (v0b _) rfl (by simp[sameV,sameV.sameL,Zc,Qcy])) ag0)),?_⟩;refine QV (k:=ya) 4 S Q41 gn rfl rfl rfl rfl (fun g S=>ag0) fun g S=>?_;refine Q0 ?_;have fh:=Qah G.ok.lm.ok nQ;have mZ:=Qfu (s:=s) (lv:=lvf) (lb:=lbf) (v:=.slice la2 (s.L ya).length lc2) (bs:=lb2) fh;have S:=Qfp S;refine Qf ?_
   exact K3 nU.length [] (p:=⟨D2++[(ya,_,yb)],nU,_,_,upK lvf ya (.slice la2 (s.L ya).length lc2),upK lbf ya lb2,rfl,rfl,nQ,hN2.put ya _,fun k=>by
    rw[Kw,da];by_cases e:k=ya
    · rw[if_pos e,if_pos (by simp[e]),e,Zz]
    · rw[if_neg e,Z1 e];have:k∈(D2++[(ya,Value.slice la (s.L ya).length lc,yb)]).map (·.1)↔k∈D2.map (·.1):=by simp[e]
      simp only[this],by
    rw[v0G (f:=fun x:Q1n×Value×Nat=>x.1)];show SH h [] (_::_::_::_::_::_::_::_::_::(_++(_++(D2.map (·.1)++[ya]).map (lpF s (upK lvf ya (.slice la2 (s.L ya).length lc2)) (upK lbf ya lb2))))) _;rw[mZ]
    exact S⟩)
 refine QF<|Qh<|Qn<|QE<|Q5 ?_;obtain⟨hU0,hD0⟩:=nN.no hb;subst hU0;subst nD;refine Q3 (by kernel_rfl)<|I1 rfl<|I2 rfl<|Q0<|Q8 ?_;refine⟨.inl rfl,_,rfl,?_⟩;rw[v0k]at hp hp2
 have pO:s.O.Perm (D.map (·.1)):=by
  refine(List.perm_ext_iff_of_nodup od ((hp.map (·.1)).nodup_iff.1 G.ok.rm.ks)).2 fun a=>?_;rw[<-(hp.map (·.1)).mem_iff];constructor
  · intro ha;refine Decidable.byContradiction fun e=>?_;have:=Q4d e;rw[G.ok.rg,if_pos ha]at this;cases this
  intro ha;obtain⟨y,hy,rfl⟩:=List.mem_map.1 ha;have:=Q0i G.ok.rm.ks y hy rfl;rw[G.ok.rg]at this;exact Decidable.byContradiction fun e=>by rw[if_neg e]at this;cases this
 have hqs: ∀q,q∈w.ks->q∈D2.map (·.1):=fun q hq=>by
  rw[<-(hp2.map (·.1)).mem_iff];refine Decidable.byContradiction fun e=>?_;have:=Q4d e;rw[G.ok.lm.g,if_pos hq]at this;cases this
 have S:=cp_fin (pO.map (rpF s rb nbf)) (pO.map (npF s nbf nof)) S;obtain⟨w2,aC⟩: ∃w2:CkW,w2=⟨fQ,kr,rr,lr,oD,.slice mh s.S.length mg,.slice mn s.O.length ml,cb1,sb1,ob1,KM1,kE,N,ncl,N2,iZ,D2.map (·.1),rb,nbf,nof,lvf,lbf⟩:=⟨_,rfl⟩
 have ok2:OkW s w2:=by
  subst aC;refine⟨kok1,fun m=>by rw[kg1];exact G.ok.kg m,hN,fun a=>?_,G.ok.ro,⟨hN2,(hp2.map (·.1)).nodup_iff.1 G.ok.lm.ok.ks,fun k=>(da k).trans (by split<;>rfl)⟩,fun q hq=>G.ok.lz q fun e=>hq (hqs q e)⟩;show Jt N a=if a∈s.O then some (Qk (rb a))else none
  rw[hg];have:=pO.mem_iff (a:=a);simp only[this]
 subst aC;exact⟨ob,_,rfl,Qd8 ok2 S⟩
end
open Go.Model
def CkE (s s2:CkS):Prop:=s.ch=s2.ch/\s.S=s2.S/\ ∀a,(s.R a).map ORn.ch=(s2.R a).map ORn.ch
theorem QaQ {p q:Nat->Bool}: ∀l:List Nat,(∀i,i∈l->p i=q i)->l.find? p=l.find? q
 | [],_=>rfl
 | a::l,h=>by
   rw[List.find?_cons,List.find?_cons,h a (by simp),QaQ l fun i hi=>h i (by simp[hi])]
theorem Q4e {α β:Type} {f g:Int->Option α} {k:Int} {v w:α} {F:α->β} (h: ∀a,(f a).map F=(g a).map F) (e:F v=F w): ∀a,(Qy f k (some v) a).map F=(Qy g k (some w) a).map F:=fun a=>by
 unfold Qy
 split
 · simp[e]
 exact h a
section
variable {T:List MTask} {M:List MMark} {N:Nat} {s s2 s' s2':CkS} {rs rs2:List Int}
theorem QfN (I:CkI T M N s) {A B:Int->Int} {X:Nat->Prop} (hA:Rep (cF s.S) (nF s.S) N A X) (hB:Rep (cF s.S) (nF s.S) N B X):ZC s.ch A=ZC s.ch B:=by
 unfold ZC;rw[QaQ _ fun i hi=>?_];have hi:=List.mem_range.1 hi;obtain⟨j,hj,e1,e2⟩:=I.cv i (by omega) (by omega);have h1:=hA j hj;have h2:=hB j hj;rw[e1,e2]at h1 h2;unfold Q2O
 have:decide (mkF s.ch i<=A i)=decide (mkF s.ch i<=B i):=by
  rw[decide_eq_decide];exact h1.trans h2.symm
 rw[this]
theorem Qe5 (ok:RunOk T M) (I:CkI T M N s) (I2:CkI T M N s2) (hk:N <M.length) (e:CkE s s2) (h:Q4A T M N s s' rs) (h2:Q4A T M N s2 s2' rs2):CkE s' s2':=by
 obtain⟨s1,r,A1,kb,rfl,hc,_⟩:=h;obtain⟨t1,r2,B1,kb2,rfl,ki,_⟩:=h2;obtain⟨e1,e2,e3⟩:=e;rcases hc with⟨h1,rfl,hr,_,_⟩| ⟨h1,A,hA,hb,rfl,rfl,rfl⟩
 · rcases ki with⟨h1',rfl,bn,_,_⟩| ⟨h1',_⟩
   · have cW:r.ch=r2.ch:=by
      have:=e3 (mkI M (N:Int)).task;rw[hr,bn]at this;exact v0h.inj this
     exact⟨by show List.set _ _ _=List.set _ _ _;rw[e1,cW],by show _++_=_++_;rw[e1,e2,cW],Q4e e3 cW⟩
   exact absurd h1' h1
 rcases ki with⟨h1',_⟩| ⟨h1',B,hB,hb2,rfl,rfl,rfl⟩
 · exact absurd h1 h1'
 have hcb:ZC s.ch A1=ZC s2.ch B1:=by
  rw[QfN I hA (B:=B1) (by rw[e2];exact hB),e1]
 have cW:(ckB (tkT T (mkI M (N:Int)).task) s.ch A1).ch=(ckB (tkT T (mkI M (N:Int)).task) s2.ch B1).ch:=by
  show((ZC s.ch A1:Nat):Int)=((ZC s2.ch B1:Nat):Int);rw[hcb]
 have ae:(Q2S s (mkI M (N:Int)).task (tkT T (mkI M (N:Int)).task) A1).ch=(Q2S s2 (mkI M (N:Int)).task (tkT T (mkI M (N:Int)).task) B1).ch:=by
  show YJ _ _=YJ _ _;rw[hcb,e1]
 refine⟨?_,?_,Q4e (Q4e e3 cW) cW⟩
 · show List.set _ _ _=List.set _ _ _;rw[ae,cW]
 show(s.S++_:List (Int×Int))=s2.S++_;rw[e2,ae,cW]
open Classical in
noncomputable def rsF (T:List MTask) (M:List MMark) (N:Nat):List Int:=((List.range N).filter fun a=>Q2B M a N&& !(decide (HB T M a N))).map fun a:Nat=>(a:Int)
theorem Q7e (ok:RunOk T M) (I:CkI T M N s) (hk:N <M.length) (h:Q4A T M N s s' rs):rs=rsF T M N:=by
 classical
 exact Qe4 ok I hk h (F:=fun a b=>decide (HB T M a b)) fun a b _ _=>decide_eq_true_iff
theorem Qef:(rsF T M N).length<=N:=by
 unfold rsF;rw[v0v];exact Nat.le_trans (v1F _ _) (by rw[List.length_range];omega)
end
theorem elR:ElN modE 57 39 0 23:=⟨by kernel_rfl,by kernel_rfl,by kernel_rfl,.slice none 0 0,by kernel_rfl,rfl⟩
def stU (st:Nat->CkS) (j:Nat) (s:CkS) (k:Nat):CkS:=if k<=j then st k else s
theorem Q2Y {st:Nat->CkS} {j k:Nat} {s:CkS} (h:k<=j):stU st j s k=st k:=if_pos h
theorem Q7j {st:Nat->CkS} {j:Nat} {s:CkS}:stU st j s (j+1)=s:=if_neg (by omega)
structure CpA (T:List MTask) (M:List MMark) (j:Nat) (st:Nat->CkS):Prop where
 i: ∀k,k<=j->CkI T M k (st k)
 t: ∀k,k <j-> ∃rs,Q4A T M k (st k) (st (k+1)) rs
def CpO (n j:Nat) (st:Nat->CkS) (pl:List (Nat×(Int->Int))) (op:Option Addr) (OB:List Res):Prop:=
 (j<=n/\op=none/\OB=[])\/(n <j/\ ∃ob bs,op=some ⟨ob,0,none⟩/\OB=[ckR ob (st n) bs]/\ ∀m p,(st n).K m=some p->p∈pl)
def CpR (F:Nat->List Int) (n:Nat) (vs:List Value) (RS:List Res):Prop:=
 vs.length=n/\ ∀k,k <n-> ∃a c b,vs[k]?=some (.slice a (F k).length c)/\slR 3 0 (.slice a (F k).length c) (isV (F k)) (F k).length b∈RS
section
variable {T:List MTask} {M:List MMark} {j n:Nat} {st:Nat->CkS} {s:CkS} {rs:List Int} {pl kB:List (Nat×(Int->Int))} {op:Option Addr} {OB RS:List Res} {vs:List Value} {F:Nat->List Int}
theorem CpA.up (ok:RunOk T M) (x:CpA T M j st) (hj:j <M.length) (h:Q4A T M j (st j) s rs):CpA T M (j+1) (stU st j s) where
 i k hk:=by
   by_cases e:k<=j
   · rw[Q2Y e];exact x.i k e
   obtain rfl:k=j+1:=by omega
   rw[Q7j];exact Q3w ok (x.i j (v0b _)) hj h
 t k hk:=by
   by_cases e:k <j
   · rw[Q2Y (by omega),Q2Y (by omega)];exact x.t k e
   obtain rfl:k=j:=by omega
   rw[Q2Y (v0b _),Q7j];exact⟨rs,h⟩
theorem CpO.skip (x:CpO n j st pl op OB) (h:j≠n):CpO n (j+1) st pl op OB:=by
 rcases x with⟨a,b⟩| ⟨a,b⟩
 · exact .inl ⟨by omega,b⟩
 exact .inr ⟨by omega,b⟩
theorem CpO.none_at (x:CpO n n st pl op OB):op=none/\OB=[]:=by
 rcases x with⟨_,b⟩| ⟨a,_⟩
 · exact b
 omega
theorem CpO.up (x:CpO n (j+1) st pl op OB) (h: ∀p,p∈pl->p∈kB):CpO n (j+1) (stU st j s) kB op OB:=by
 rcases x with⟨a,b⟩| ⟨a,ob,bs,e1,e2,e3⟩
 · exact .inl ⟨a,b⟩
 exact .inr ⟨a,ob,bs,e1,by rw[Q2Y (by omega)];exact e2,fun m p q=>h p (e3 m p (by rw[Q2Y (by omega)]at q;exact q))⟩
theorem CpO.off (x:CpO n j st pl none OB):j<=n:=by
 rcases x with⟨a,_⟩| ⟨_,ob,bs,e,_⟩
 · exact a
 cases e
theorem CpO.on {a:Addr} (x:CpO n j st pl (some a) OB):n <j/\ ∃ob bs,a=⟨ob,0,none⟩/\OB=[ckR ob (st n) bs]/\ ∀m p,(st n).K m=some p->p∈pl:=by
 rcases x with⟨_,e,_⟩| ⟨h,ob,bs,e,b⟩
 · cases e
 exact⟨h,ob,bs,v0h.inj e,b⟩
theorem CpR.up {a:Option Addr} {c:Nat} {b:List Nat} (x:CpR F n vs RS):CpR F (n+1) (vs++[.slice a (F n).length c]) (slR 3 0 (.slice a (F n).length c) (isV (F n)) (F n).length b::RS):=by
 refine⟨by rw[List.length_append,x.1];rfl,fun k hk=>?_⟩;by_cases e:k <n
 · obtain⟨a',c',b',h1,h2⟩:=x.2 k e;exact⟨a',c',b',by rw[v0z (by rw[x.1];exact e)];exact h1,List.mem_cons_of_mem _ h2⟩
 obtain rfl:k=n:=by omega
 exact⟨a,c,b,by rw[List.getElem?_append_right (by rw[x.1];exact v0b _),x.1,Nat.sub_self];rfl,List.mem_cons_self⟩
theorem Q9v {i:Nat} {v:Value} (r:List Value) (h:vs[i]?=some v):(vs++r)[0+Int.toNat (i:Int)*1]?=some v:=by
 rw[v0e,Nat.mul_one,v0i,v0z (List.getElem?_eq_some_iff.1 h).1,h]
theorem Qd7 (I:CkI T M j s) (hj:j<=M.length) (hM:M.length<=200):s.O.Nodup/\s.ch.length<=100000/\s.S.length<=100000/\s.O.length<=100000/\ ∀q,(s.L q).length<=100000:=by
 have h1:=I.co;have h2:=I.ol;have h3:=I.n;refine⟨I.od,by omega,by omega,by omega,fun q=>?_⟩;rw[I.l q];unfold Qcz Q6n;rw[v0v];have:=v1F (fun i=>atB M q i) (List.range j);rw[List.length_range]at this;omega
end
section
variable {h0 h:Hp} {ds:List Nat} {a b c d e f t x:Res} {OB RS:List Res}
theorem QfA (S:SH h0 ds (t::a::b::c::d::([]++RS)) h):SH h0 ds (a::b::c::d::([t]++RS)) h:=S.sub (B:=[]) (QC fun _ y=>by
 simp only[v0P,v00,v04];omega)
theorem Qfz (S:SH h0 ds (t::x::a::b::c::d::(OB++RS)) h):SH h0 ds (a::b::c::d::(OB++(x::RS))) h:=S.sub (B:=[t]) (QC fun _ y=>by
 simp only[v0P,v00,v04];omega)
theorem Qfx (S:SH h0 ds [t,a,b,c] h):SH h0 ds (a::b::c::t::([]++[])) h:=S.sub (B:=[]) (QC fun _ y=>by
 simp only[v0P,v00,v04];omega)
theorem Qfy (S:SH h0 ds (a::b::c::d::([t]++RS)) h):SH h0 ds (t::b::a::c::d::RS) h:=S.sub (B:=[]) (QC fun _ y=>by
 simp only[v0P,v00,v04];omega)
end
section
variable {h:Hp} {P:Prg} {lo cl gl fu co ev si ev2:Value} {l:List Ent}
theorem o4 (X:PrgAt h P lo cl gl fu co ev si) (E:RowP 3 EntD h ev2 l) (pa:Int):C modE 4 [Qds P lo cl gl fu co ev si,ev2,iV pa] h fun v _=>v=.bool true:=by
 obtain⟨ea,ec,rfl⟩:=E.val;refine Q9 (fu:=Tryz.f4) (by kernel_rfl) rfl ?_;have S:=SH.start h;refine Q7 ?_;refine Z9 S gn rfl rfl fun b1 g aJ S=>?_;refine I2 rfl<|Z8<|I3 8 rfl (S.cel 0 rfl) (v0b _)<|Ic [_] rfl rfl (C.mono (c4 (X.ext S.e0)) ?_);rintro v g ⟨⟨mu,rfl⟩,x⟩;have S:=S.grow x;refine⟨ag0,?_⟩;refine I1 rfl<|ZX (dc:=22) rfl (fun fz=>?_) fun fz=>?_
 · skip
   refine ZY (n:=3) (dc:=22) (w:=false) rfl fz rfl<|IT rfl fz rfl<|I1 rfl ?_
   refine Z4 (n:=3) rfl rfl rfl gn rfl (fun hb=>by
    refine D1 hb rfl<|D7 hb rfl<|Dg hb rfl rfl ?_
    exact Q0 ⟨rfl,rfl,3,rfl,rfl⟩) ?_
   refine I1 rfl ?_
   refine Z4 (n:=2) rfl rfl rfl gn rfl (fun hb=>by
    refine D1 hb rfl<|Dl hb rfl rfl ?_
    exact Q0 ⟨rfl,rfl,2,rfl,rfl⟩) ?_
   refine Q0<|Q2 rfl (fun hb=>?_) fun hb=>?_
   · skip
     refine Q7<|Qck (f:=7) (v:=.bool true) gn rfl (by kernel_rfl) (by kernel_rfl) ag0<|I2 rfl<|Q0<|Q8 ⟨.inl rfl,_,rfl,(rfl)⟩
   refine Q4<|Q5 ?_;exact absurd hb (by simp)
 refine D3 8 fz rfl (S.cel 0 rfl) (v0b _)<|Dc fz [_] rfl rfl (C.mono (c5 (X.ext S.e0)) ?_);rintro v g ⟨rfl,x⟩;have S:=S.grow x;refine⟨ag0,?_⟩;refine Db fz rfl<|Iu rfl fz rfl<|I1 rfl ?_
 refine Z4 (n:=3) rfl rfl rfl gn rfl (fun hb=>by
  refine D1 hb rfl<|D7 hb rfl<|Dg hb rfl rfl ?_
  exact Q0 ⟨rfl,rfl,3,rfl,rfl⟩) ?_
 refine I1 rfl ?_
 refine Z4 (n:=2) rfl rfl rfl gn rfl (fun hb=>by
  refine D1 hb rfl<|Dl hb rfl rfl ?_
  exact Q0 ⟨rfl,rfl,2,rfl,rfl⟩) ?_
 refine Q0<|Q2 rfl (fun hb=>?_) fun hb=>?_
 · skip
   refine Q7<|Qck (f:=7) (v:=.bool true) gn rfl (by kernel_rfl) (by kernel_rfl) ag0<|I2 rfl<|Q0<|Q8 ⟨.inl rfl,_,rfl,(rfl)⟩
 refine Q4<|Q7 ?_
 have hM:ZL P=true/\l.length<=120/\0<=pa:=by
  simp at hb;exact⟨hb.1.1,by have:=hb.1.2;omega,by have:=hb.2;omega⟩
 obtain⟨n,rfl⟩: ∃n:Nat,pa=n:=⟨pa.toNat,by omega⟩;refine I3 8 rfl (S.cel 0 rfl) (v0b _)<|Ic [_] rfl rfl (C.mono (m11 (V:=⟨lo,cl,gl,fu,co,ev,si⟩) (X.ext S.e0) hM.1) ?_);rintro v g ⟨mb,ph,E0,ae,tp,u0,rfl,hE0,S2⟩;have S:=SH.retL (A:=[]) (B:=[_]) S S2;have hR0:=QeC hM.1 hE0;have hM0:(Qdz P E0).M.length=0:=rfl;have hT0:(Qdz P E0).T.length=1:=rfl;refine⟨ag0,?_⟩;refine I2 rfl<|Z8<|I2 rfl<|Q0<|Qb ?_
 refine QB [(8,_)] [(1,_),(2,_),(7,_)] (fun kk lv hh=> ∃(i:Nat) (s:MS) (ae tp u:List Nat),lv=[(8,iV i)]/\kk=l.length -i/\i<=l.length/\SH h [] [hpR ph s.H ae,mcR mb ph P ⟨lo,cl,gl,fu,co,ev,si⟩ s tp u,cR b1 (.cells [lo,cl,gl,fu,co,ev,iV P.main,si] 30 0)] hh/\RInv P s/\1<=s.T.length/\s.M.length<=160) (n:=l.length) ?_ fun kk lv hh hI=>?_
 · exact⟨0,Qdz P E0,ae,tp,u0,rfl,rfl,by omega,S,hR0,by rw[hT0];exact v0b _,by rw[hM0];exact v0s _⟩
 obtain⟨i,s,ae,tp,u,rfl,hk,hi,S,hR,hT,hMl⟩:=hI;refine Q5<|Q5 ?_;obtain⟨ka,kc,kw,aG⟩:=QeQ (S.held 1 rfl);refine Q3 (by kernel_rfl)<|I1 rfl<|I1 rfl<|I7 rfl<|Il rfl rfl<|I1 rfl ?_
 refine QY (n:=6) rfl rfl rfl gn rfl (fun hb=>by
  refine D1 hb rfl<|D6 hb rfl<|D0 16 hb rfl<|D4 hb rfl aG rfl<|D7 hb rfl<|Dl hb rfl rfl ?_
  exact Q0 ⟨rfl,rfl,6,rfl,rfl⟩) ?_
 refine Q0<|Q2 rfl (fun hb=>?_) fun hb=>?_
 · skip
   refine Q4 ?_;have hi:i <l.length/\s.M.length <155:=by simp at hb;omega
   obtain⟨vb,vo,vc,vcs,ve,vm,bR,kH,mB,hvn,e8⟩:=E.at (by omega);cases bR;have hent:(vcs.drop (vo+i*3)).take 3=[iV l[i].q,iV l[i].a,iV l[i].n]:=e8 i hi.1;have hvb:=Nat.mul_le_mul_right 3 (show i+1<=l.length from hi.1);refine Q5<|Qb<|Q3 (by kernel_rfl)<|I1 rfl<|I1 rfl<|I1 rfl<|I5o 3 rfl rfl<|Zb (n:=3) gn rfl rfl (by kernel_rfl) (by kernel_rfl) (S.old0 kH mB) (by rw[v0i];omega) ?_;rw[v0i,hent]
   refine Ic [_,_] rfl rfl (C.mono (m12 (q:=l[i].q) (a:=l[i].a) (n:=l[i].n) (SH.subL (A:=[_,_]) (B:=[_]) (SH.start h) (by simp) S) X hM.1 hR.run (by omega)) ?_);rintro v g ⟨r,s2,aM,tl,u2,rfl,hD,S2⟩;have S:=SH.retL (A:=[_,_]) (B:=[_]) S S2;have oy:=do_inv hR hM.1 (by omega) hD;have hT2:=do_T hD;refine⟨ag0,?_⟩;refine Q0<|Q3 (by kernel_rfl)<|I1 rfl<|Iao rfl rfl<|I2 rfl<|Q0 ?_;exact K3 (l.length - (i+1)) [(8,_)] (p:=⟨i+1,s2,aM,_,u2,rfl,rfl,by omega,S,oy.1,by omega,by have:=oy.2;omega⟩)
 refine QF<|Qh<|Qn<|QE<|Q7<|I1 rfl<|Ic [_] rfl rfl (C.mono (m14 (SH.sub1 (SH.start h) (by simp) S 1 rfl)) ?_);rintro v g0 ⟨tv,mv,k1,k2,rfl,q1,q2,q3,q4,x⟩;obtain⟨tb,tc,ma,mc,rfl,rfl,lJ⟩:=RnAt.of q1 q2 (by omega);have R:=lJ.ext x;have ok:=hR.ok (by omega);have hML:s.M.length<=200:=by omega
 have S:=SH.start g0;refine⟨ag0,?_⟩;refine Qx (zv:=.agg #[.slice none 0 0,.slice none 0 0]) S gn rfl (by kernel_rfl) fun b4 g jL S=>?_;refine Qi (n:=2) 0 S gn rfl rfl (by kernel_rfl) (by kernel_rfl) rfl rfl (by decide) rfl (fun g S=>ag0) fun g S=>?_;refine QP<|Ic [] rfl rfl (C.mono (k12) ?_);rintro v g ⟨cb,bs0,pbs0,rfl,S2⟩;have S:=Qfx ((SH.retL (A:=[]) (B:=[_]) S S2).nilSl 39 0);refine⟨ag0,?_⟩;refine I2 rfl<|QP<|I2 rfl<|QP<|I2 rfl<|Z8<|I2 rfl<|Q0<|Qb ?_
 refine QB [(11,_),(12,_),(13,_)] [(2,_),(9,_),(10,_)] (fun kk lv hh=> ∃(j:Nat) (st:Nat->CkS) (pl:List (Nat×(Int->Int))) (op:Option Addr) (rv:Value) (vs:List Value) (vb bs pbs:List Nat) (OB RS:List Res),lv=[(11,.pointer op),(12,rv),(13,iV j)]/\kk=s.M.length -j/\j<=s.M.length/\CpA s.T s.M j st/\(∀m p,(st j).K m=some p->p∈pl)/\CpO n j st pl op OB/\CpR (rsF s.T s.M) j vs RS/\SH g0 [] (ckR cb (st j) bs::plR pl pbs::cR b4 (.cells [tsV tb tc s.T,msV ma mc s.M] 52 0)::slR 39 0 rv vs j vb::(OB++RS)) hh) (n:=s.M.length) ?_ fun kk lv hh hI=>?_
 · exact⟨0,fun _=>ck0,[],none,_,[],[],bs0,pbs0,[],[],rfl,rfl,v0s _,⟨fun k hk=>by
  obtain rfl:k=0:=by omega
  exact ck0_ok,fun k hk=>by omega⟩,fun m p h=>absurd h (by simp[ck0]),.inl ⟨v0s _,rfl,rfl⟩,⟨rfl,fun k hk=>by omega⟩,S⟩
 obtain⟨j,st,pl,op,rv,vs,vb,bs,pbs,OB,RS,rfl,hk,hj,hA,hK,hO,hRw,S⟩:=hI;refine Q5<|Q7<|I1 rfl<|I0 1 rfl<|I4 rfl (S.cel 2 rfl) rfl<|I7 rfl<|Il rfl rfl<|Q0<|Q2 rfl (fun hb=>?_) fun hb=>?_
 · skip
   refine Q4 ?_;have hj:j <s.M.length:=by simpa using hb
   refine Q5<|Qb<|ZF [(2,iV (n:Int)),(9,Qk b4),(10,Qk cb),(12,rv),(13,iV (j:Int))] (fun lv hh=> ∃(op:Option Addr) (OB:List Res),lv=[(11,.pointer op)]/\CpO n (j+1) st pl op OB/\SH g0 [] (ckR cb (st j) bs::plR pl pbs::cR b4 (.cells [tsV tb tc s.T,msV ma mc s.M] 52 0)::slR 39 0 rv vs j vb::(OB++RS)) hh) ?_ fun lv hh hJ=>?_
   · skip
     refine Q7<|I1 rfl<|I1 rfl<|Ie rfl rfl<|Q0<|Q2 rfl (fun hb=>?_) fun hb=>?_
     · skip
       refine Q3 (by kernel_rfl)<|I1 rfl ?_;obtain rfl:j=n:=by simp at hb;omega
       obtain⟨rfl,rfl⟩:=hO.none_at;obtain⟨w,G⟩:=QfD (cb:=cb) (s:=st j) (bs:=bs) S (by simp);have hz:=Qd7 (hA.i j (v0b _)) (Nat.le_of_lt hj) hML;refine Ic [_] rfl rfl (C.mono (k13 G hz.1 hz.2.1 hz.2.2.1 hz.2.2.2.1 hz.2.2.2.2) ?_);rintro v g ⟨ob,obs,rfl,S2⟩;have S:=QfA (SH.retL (A:=[]) (B:=_::_::_::_::([]++RS)) S S2);refine⟨ag0,?_⟩;refine I2 rfl<|Q0 ?_;exact Zr [(11,_)] (p:=⟨some ⟨ob,0,none⟩,[ckR ob (st j) obs],rfl,.inr ⟨by omega,ob,obs,rfl,rfl,hK⟩,S⟩)
     refine Q4 ?_;exact Zr [(11,_)] (p:=⟨op,OB,rfl,hO.skip (by intro q;subst q;simp at hb),S⟩)
   obtain⟨op,OB,rfl,hO,S⟩:=hJ;refine Q5 ?_;obtain⟨nb,ncs,nm,iQ,ng,nln,nll,nlr,nlf⟩:=R.mk' (j:=(j:Int)) (by omega) (by omega);refine I9<|I1 rfl<|I0 1 rfl<|I4 rfl (S.cel 2 rfl) rfl<|I1 rfl ?_;rw[iQ];refine I5o 8 rfl rfl ?_;rw[<-iQ];refine I3 8 rfl (S.old0 ng nln) nll ?_;rw[nlr];refine I0 0 rfl<|I4 rfl (S.cel 2 rfl) rfl<|Ic [_,_,_] rfl rfl (C.mono (k14 (h0:=g0) ok (hA.i j (v0b _)) hj hML (SH.fst (A:=[_,_]) S) R hK) ?_);rintro v g ⟨sT,rs,rv2,plT,bsT,pbsT,rbs,rfl,fR,HP',hPl,S4⟩;have S:=SH.retL (A:=[_,_]) (B:=_::_::(OB++RS)) S S4
   have S:SH g0 [] (slR 3 0 rv2 (isV rs) rs.length rbs::ckR cb sT bsT::plR plT pbsT::cR b4 (.cells [tsV tb tc s.T,msV ma mc s.M] 52 0)::slR 39 0 rv vs j vb::(OB++RS)) g:=S;obtain⟨ra,rc,bX⟩:=Q6 (S.sl 0 rfl);subst bX;have fH:=Q7e ok (hA.i j (v0b _)) hj fR;subst fH;refine⟨ag0,?_⟩;refine I1 rfl<|Ix rfl rfl<|Ix rfl rfl<|I2 rfl<|I2 rfl<|Z8<|I1 rfl<|In rfl rfl<|Q0<|Q2 rfl (fun hb=>?_) fun hb=>?_
   · skip
     refine Q5 ?_;exact absurd hb (by decide)
   refine Q4<|Q3 (by kernel_rfl)<|I1 rfl<|I1 rfl ?_;refine Qc (e:=39) (z:=0) (zv:=.slice none 0 0) [(0,_)] S gn rfl (by kernel_rfl) (by kernel_rfl) (by kernel_rfl) (by kernel_rfl) rfl (by rfl) fun b5 g nb5 S=>?_;refine QM (e:=39) (z:=0) (by':=23) 5 0 S elR gn rfl rfl rfl rfl rfl rfl (by rfl) (by omega) (fun s' aa g S=>ag0) fun s' aa g S=>?_;refine I2 rfl<|Q0<|Q3 (by kernel_rfl)<|I1 rfl<|Iao rfl rfl<|I2 rfl<|Q0 ?_
   exact K3 (s.M.length - (j+1)) [(11,_),(12,_),(13,_)] (p:=⟨j+1,stU st j sT,plT,op,s',_,aa,bsT,pbsT,OB,_::RS,rfl,rfl,by omega,hA.up ok hj fR,by rw[Q7j];exact HP',hO.up hPl,hRw.up,by rw[Q7j];exact Qfz S⟩)
 refine QF<|Qh<|Qn<|QE<|Q5<|Q5 ?_;have hjm:j=s.M.length:=by simp at hb;omega
 refine Q3 (by kernel_rfl)<|I1 rfl<|Ip rfl rfl<|Q0<|Q2 rfl (fun hb=>?_) fun hb=>?_
 · skip
   refine Q7 ?_;obtain rfl:op=none:=by simpa using hb
   have hjn:=hO.off;refine I1 rfl<|I0 1 rfl<|I4 rfl (S.cel 2 rfl) rfl<|I7 rfl<|Ih rfl rfl<|I1 rfl ?_
   refine QY (n:=1) rfl rfl rfl gn rfl (fun hb=>by
    refine Qck (f:=7) (v:=.bool true) (gy rfl rfl rfl hb) rfl (by kernel_rfl) (by kernel_rfl) ag0 ?_
    exact Q0 ⟨rfl,rfl,1,rfl,rfl⟩) ?_
   refine I2 rfl<|Q0<|Q8 ?_;refine⟨.inl rfl,_,rfl,?_⟩;exact congrArg Value.bool (by simp;omega)
 refine Q4<|Q5<|Q5 ?_
 obtain⟨a,rfl⟩: ∃a,op=some a:=by
  cases op with
  |none=>simp at hb
  |some a=>exact⟨a,rfl⟩
 obtain⟨hnj,ob,obs,rfl,rfl,hKo⟩:=hO.on;have S:=Qfy S;refine Q3 (by kernel_rfl)<|I1 rfl<|I2 rfl<|Q0<|Qb<|QB [(16,_)] [(9,_),(10,_),(11,_),(12,_)] (fun kk lv hh=> ∃(i:Nat) (s2:CkS) (pl2:List (Nat×(Int->Int))) (bk cA:List Nat),lv=[(16,iV i)]/\kk=j -i/\n<=i/\i<=j/\CkI s.T s.M i s2/\CkE (st i) s2/\(∀m p,s2.K m=some p->p∈pl2)/\SH g0 [] (ckR ob s2 bk::plR pl2 cA::ckR cb (st j) bs::cR b4 (.cells [tsV tb tc s.T,msV ma mc s.M] 52 0)::slR 39 0 rv vs j vb::RS) hh) (n:=j -n) ?_ fun kk lv hh hI=>?_
 · exact⟨n,st n,pl,obs,pbs,rfl,rfl,v0b _,by omega,hA.i n (by omega),⟨rfl,rfl,fun _=>rfl⟩,hKo,S⟩
 obtain⟨i,s2,pl2,bk,cA,rfl,j0,hni,gk,hIb,hE,hK2,S⟩:=hI;refine Q5<|Q7<|I1 rfl<|I0 1 rfl<|I4 rfl (S.cel 3 rfl) rfl<|I7 rfl<|Il rfl rfl<|Q0<|Q2 rfl (fun hb=>?_) fun hb=>?_
 · skip
   refine Q4 ?_;have hi:i <s.M.length:=by simpa using hb
   obtain⟨nb,ncs,nm,iQ,ng,nln,nll,nlr,nlf⟩:=R.mk' (j:=(i:Int)) (by omega) (by omega);refine Q5<|Qb<|Q5<|I9<|I1 rfl<|I0 1 rfl<|I4 rfl (S.cel 3 rfl) rfl<|I1 rfl ?_;rw[iQ];refine I5o 8 rfl rfl ?_;rw[<-iQ];refine I3 8 rfl (S.old0 ng nln) nll ?_;rw[nlr];refine I0 0 rfl<|I4 rfl (S.cel 3 rfl) rfl<|Ic [_,_,_] rfl rfl (C.mono (k14 (h0:=g0) ok hIb hi hML (SH.fst (A:=[_,_]) S) R hK2) ?_);rintro v g ⟨sT,rs,rv2,plT,bsT,pbsT,rbs,rfl,fR,HP',hPl,S4⟩;have S:=SH.retL (A:=[_,_]) (B:=_::_::_::RS) S S4
   have S:SH g0 [] (slR 3 0 rv2 (isV rs) rs.length rbs::ckR ob sT bsT::plR plT pbsT::ckR cb (st j) bs::cR b4 (.cells [tsV tb tc s.T,msV ma mc s.M] 52 0)::slR 39 0 rv vs j vb::RS) g:=S;obtain⟨ra,rc,bX⟩:=Q6 (S.sl 0 rfl);subst bX;have fH:=Q7e ok hIb hi fR;subst fH;obtain⟨rs',hT3⟩:=hA.t i (by omega);have hE':=Qe5 ok (hA.i i (by omega)) hIb hi hE hT3 fR;have hIc:=Q3w ok hIb hi fR;obtain⟨xa,xc,xb,je,jd⟩:=hRw.2 i (by omega);obtain⟨qb,qm,qc,qr,cy,dV,_⟩:=(S.sl 5 rfl).at (by omega);have bm:=Qef (T:=s.T) (M:=s.M) (N:=i);refine⟨ag0,?_⟩;refine I1 rfl<|Ix rfl rfl<|Ix rfl rfl<|I2 rfl ?_
   refine I2 rfl<|Z8<|I1 rfl<|In rfl rfl<|I1 rfl ?_
   refine Z4 (n:=8) rfl rfl rfl gn rfl (fun hb=>by
    refine D1 hb rfl<|D7 hb rfl<|D1 hb rfl<|D1 hb rfl ?_;rw[cy];refine D5o 1 hb rfl rfl ?_;rw[<-cy];refine D4 hb rfl dV (Q9v qr je)<|D7 hb rfl<|Dn hb rfl rfl ?_
    exact Q0 ⟨rfl,rfl,8,rfl,rfl⟩) ?_
   refine Q0<|Q2 rfl (fun hb=>?_) fun hb=>?_
   · skip
     refine Q5 ?_;exact absurd hb (by simp)
   refine Q4<|Q7<|I2 rfl<|Q0<|Qb<|QB [(19,_)] [(9,_),(10,_),(11,_),(12,_),(16,_),(17,_)] (fun kk lv hh=> ∃k:Nat,lv=[(19,iV k)]/\kk=(rsF s.T s.M i).length -k/\k<=(rsF s.T s.M i).length/\SH g0 [] (slR 3 0 (.slice ra (rsF s.T s.M i).length rc) (isV (rsF s.T s.M i)) (rsF s.T s.M i).length rbs::ckR ob sT bsT::plR plT pbsT::ckR cb (st j) bs::cR b4 (.cells [tsV tb tc s.T,msV ma mc s.M] 52 0)::slR 39 0 rv vs j vb::RS) hh) (n:=(rsF s.T s.M i).length) ?_ fun kk lv hh hI=>?_
   · exact⟨0,rfl,rfl,v0s _,S⟩
   obtain⟨k,rfl,hk3,eI,S⟩:=hI;refine Q5<|Q7<|I1 rfl<|I1 rfl<|I7 rfl<|Il rfl rfl<|Q0<|Q2 rfl (fun hb=>?_) fun hb=>?_
   · skip
     refine Q4 ?_;have eI:k <(rsF s.T s.M i).length:=by simpa using hb
     have bj:(rsF s.T s.M i)[k]?=some (rsF s.T s.M i)[k]:=List.getElem?_eq_getElem eI;obtain⟨yb,ym,yc,yr,lG,hyg,_⟩:=(S.sl 0 rfl).at (by omega);obtain⟨qb,qm,qc,qr,cy,dV,_⟩:=(S.sl 5 rfl).at (by omega);obtain⟨zb,zm,zc,zr,eY,hzg,_⟩:=SlC.at (S.hold _ (show slR 3 0 (.slice xa (rsF s.T s.M i).length xc) (isV (rsF s.T s.M i)) (rsF s.T s.M i).length xb∈_ by simp[jd])) (by omega);refine Q5<|Qb<|Q5<|I9<|I1 rfl<|I1 rfl ?_;rw[lG];refine I5o 1 rfl rfl ?_;rw[<-lG];refine I4 rfl hyg (Qam yr bj)<|I1 rfl<|I1 rfl ?_;rw[cy];refine I5o 1 rfl rfl ?_;rw[<-cy]
     refine I4 rfl dV (Q9v qr je)<|I1 rfl ?_;rw[eY];refine I5o 1 rfl rfl ?_;rw[<-eY];refine I4 rfl hzg (Qam zr bj)<|In rfl rfl<|Q0<|Q2 rfl (fun hb=>?_) fun hb=>?_
     · skip
       refine Q5 ?_;exact absurd hb (by simp)
     refine Q4<|Q3 (by kernel_rfl)<|I1 rfl<|Iao rfl rfl<|I2 rfl<|Q0 ?_;exact K3 ((rsF s.T s.M i).length - (k+1)) [(19,_)] (p:=⟨k+1,rfl,rfl,by omega,S⟩)
   refine QF<|Qh<|Qn<|QE<|Q3 (by kernel_rfl)<|I1 rfl<|Iao rfl rfl<|I2 rfl<|Q0 ?_;exact K3 (j - (i+1)) [(16,_)] (p:=⟨i+1,sT,plT,bsT,pbsT,rfl,rfl,by omega,by omega,hIc,hE',HP',S.drop⟩)
 refine QF<|Qh<|Qn<|QE<|Q5 ?_;obtain rfl:i=j:=by simp at hb;omega
 obtain⟨w,G⟩:=QfD (cb:=ob) (s:=s2) (bs:=bk) S (by simp);obtain⟨w2,G2⟩:=QfD (cb:=cb) (s:=st i) (bs:=bs) S (by simp);refine Q3 (by kernel_rfl)<|I1 rfl<|Ic [_] rfl rfl (Ql (k15 G) ⟨ag0,?_⟩);refine I1 rfl<|Ic [_] rfl rfl (Ql (k15 G2) ⟨ag0,?_⟩);refine Ie rfl rfl<|I1 rfl ?_
 refine QY (n:=5) rfl rfl rfl gn rfl (fun hb=>by
  refine D1 hb rfl<|Dc hb [_] rfl rfl (Ql (k16 G) ⟨ag0,?_⟩);refine D1 hb rfl<|Dc hb [_] rfl rfl (Ql (k16 G2) ⟨ag0,?_⟩);refine De hb rfl rfl ?_
  exact Q0 ⟨rfl,rfl,5,rfl,rfl⟩) ?_
 refine I1 rfl ?_
 refine QY (n:=1) rfl rfl rfl gn rfl (fun hb=>by
  refine Qck (f:=7) (v:=.bool true) (gy rfl rfl rfl hb) rfl (by kernel_rfl) (by kernel_rfl) ag0 ?_
  exact Q0 ⟨rfl,rfl,1,rfl,rfl⟩) ?_
 refine I2 rfl<|Q0<|Q8 ?_;refine⟨.inl rfl,_,rfl,?_⟩;exact congrArg Value.bool (by simp[hE.1,hE.2.1])
end
end Go.Proofs.YtljpajcmdjmeaaaGreat
