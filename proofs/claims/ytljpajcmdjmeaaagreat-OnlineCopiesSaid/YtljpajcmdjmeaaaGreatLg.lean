/- The walks and the laws, part Lg. Conditions: none. -/
import Derived.Test.YtljpajcmdjmeaaaGreatLf
import Derived.Test.YtljpajcmdjmeaaaGreatXe
import Derived.Test.YtljpajcmdjmeaaaGreatXd
set_option maxHeartbeats 16000000
open List renaming length_set → v0q, mem_of_getElem? → v0m, mem_cons → v0r, mem_append → v0x, mem_map_of_mem → v1b, length_append → v0j, range → v0w, mem_range → v1r, append_nil → v0k, mem_map → v0H, map_append → v0G, map_congr_left → v1o, nodup_cons → v0R, count_cons → v0P, count_append → v04, count_nil → v00, length_map → v0v, mem_append_left → v1C, mem_append_right → v2f, getElem?_eq_getElem → v0c, mem_cons_of_mem → v0S, mem_filter → v1v, filter_filter → v17
open Nat renaming zero_add → v0e, zero_le → v0s, le_refl → v0b
open Int renaming toNat_of_nonneg → v1S, toNat_natCast → v0i
open Bool renaming or_eq_false_iff → v06
namespace Go.Proofs.YtljpajcmdjmeaaaGreat
open Go.X Go.May Go.Mac
def chV (p:Int×Bool):List Value:=[iV p.1,.bool p.2]
def stV (p:Int×Int):List Value:=[iV p.1,iV p.2]
def toV (x:Int×Int×Bool):List Value:=[iV x.1,iV x.2.1,.bool x.2.2]
def chC (c:List (Int×Bool)):List Value:=c.flatMap chV
def stC (S:List (Int×Int)):List Value:=S.flatMap stV
def toC (l:List (Int×Int×Bool)):List Value:=l.flatMap toV
theorem Q70 (c:List (Int×Bool)):(chC c).length=c.length*2:=Q2r chV 2 (fun _=>rfl) c
theorem Q9g (c:List (Int×Int)):(stC c).length=c.length*2:=Q2r stV 2 (fun _=>rfl) c
theorem QdZ (c:List (Int×Int×Bool)):(toC c).length=c.length*3:=Q2r toV 3 (fun _=>rfl) c
theorem QdJ {α:Type} (f:α->List Value) (w:Nat) (hf: ∀a,(f a).length=w) (rest:List Value) {l:List α} {j:Nat} {o:α} (h:l[j]?=some o) {k:Nat} (hk:k <w):(l.flatMap f++rest)[j*w+k]?=(f o)[k]?:=by
 rw[<-Q6N f w hf rest l j o h,List.getElem?_take,if_pos hk,List.getElem?_drop]
theorem Q0Q {α:Type} (v:α): ∀(l:List α) (j:Nat),l.modify j (fun _=>v)=l.set j v
 | [],_=>by simp
 |a::l,0=>by simp
 |a::l,j+1=>by simp[Q0Q v l j]
theorem Qbj {c:List (Int×Bool)} {i:Int} (r:List Value) (h0:0<=i) (h1:i <c.length):(chC c++r)[0+i.toNat*2+0]?=some (iV (mkF c i))/\(chC c++r)[0+i.toNat*2+1]?=some (.bool (opF c i)):=by
 have h:=QdD (c:=c) (i:=i.toNat) (by omega);rw[v1S h0]at h;rw[v0e];exact⟨QdJ chV 2 (fun _=>rfl) r h (by omega),QdJ chV 2 (fun _=>rfl) r h (by omega)⟩
theorem Qbi {c:List (Int×Bool)} {i:Int} (h0:0<=i) (h1:i <c.length):(∀v,(chC c).set (0+i.toNat*2+0) (iV v)=chC (c.set i.toNat (v,opF c i)))/\(∀b,(chC c).set (0+i.toNat*2+1) (.bool b)=chC (c.set i.toNat (mkF c i,b))):=by
 have h:=QdD (c:=c) (i:=i.toNat) (by omega);rw[v1S h0]at h;rw[v0e];refine⟨fun v=>?_,fun b=>?_⟩
 · have:=Q5C chV 2 0 (fun _=>(v,opF c i)) (iV v) (fun _=>rfl) (by omega) c i.toNat _ h rfl;rw[Q0Q]at this;exact this
 have:=Q5C chV 2 1 (fun _=>(mkF c i,b)) (.bool b) (fun _=>rfl) (by omega) c i.toNat _ h rfl;rw[Q0Q]at this;exact this
theorem Qdn {S:List (Int×Int)} {j:Nat} (r:List Value) (h:j <S.length):((stC S++r).drop (0+j*2)).take 2=[iV (cF S j),iV (nF S j)]:=by
 rw[v0e];exact Q6N stV 2 (fun _=>rfl) r S j _ (cF_in h)
theorem el174:ElN modE 169 174 1 15:=⟨by kernel_rfl,by kernel_rfl,by kernel_rfl,.agg #[.int .i64 0,.bool false],by kernel_rfl,rfl⟩
theorem el126:ElN modE 121 126 1 15:=⟨by kernel_rfl,by kernel_rfl,by kernel_rfl,.agg #[.int .i64 0,.int .i64 0],by kernel_rfl,rfl⟩
theorem el137:ElN modE 134 137 2 23:=⟨by kernel_rfl,by kernel_rfl,by kernel_rfl,.agg #[.int .i64 0,.int .i64 0,.bool false],by kernel_rfl,rfl⟩
theorem elO:ElN modE 39 3 0 7:=⟨by kernel_rfl,by kernel_rfl,by kernel_rfl,.int .i64 0,by kernel_rfl,rfl⟩
theorem Q6c {e z n n':Nat} {s:Value} {cs:List Value} {bs:List Nat} (h:n=n'):slR e z s cs n bs=slR e z s cs n' bs:=by rw[h]
abbrev chR (hb:Nat) (c:List (Int×Bool)) (cv:Value) (bs:List Nat):List Res:=[cR hb (.cells [cv] 171 0),slR 174 1 cv (chC c) c.length bs]
section
variable {h h0:Hp} {kb:Nat} {c:List (Int×Bool)} {cv:Value} {bs:List Nat} {i:Int}
theorem k80 {a:Option Addr} {n m:Nat} (hg:h.get kb=some (.cells [.slice a n m] 171 0)):CP modE 80 [Qk kb,iV i] h (.bool (decide (0<=i)&&decide (i <n))):=by
 refine Q9 (fu:=Tryz.f80) (by kernel_rfl) rfl ?_;have S:=SH.start h;refine Q7<|I2 rfl<|QP<|I1 rfl<|Iq rfl rfl<|I1 rfl ?_
 refine QY (n:=2) rfl rfl rfl gn rfl (fun hb=>by
  refine D1 hb rfl<|Dh hb rfl rfl ?_
  exact Q0 ⟨rfl,rfl,2,rfl,rfl⟩) ?_
 refine I1 rfl ?_
 refine QY (n:=7) rfl rfl rfl gn rfl (fun hb=>by
  refine D1 hb rfl<|D1 hb rfl<|D6 hb rfl<|D0 0 hb rfl<|D4 hb rfl hg rfl<|D7 hb rfl<|Dl hb rfl rfl ?_
  exact Q0 ⟨rfl,rfl,7,rfl,rfl⟩) ?_
 refine I2 rfl<|Q0<|Q8 ⟨.inl rfl,_,rfl,⟨rfl,rfl⟩⟩
theorem k49 {a:Option Addr} {n m:Nat} (hg:h.get kb=some (.cells [.slice a n m] 171 0)):CP modE 49 [Qk kb] h (iV n):=by
 refine Q9 (fu:=Tryz.f49) (by kernel_rfl) rfl ?_;have S:=SH.start h;refine Q7<|I2 rfl<|Z8<|I1 rfl<|Ip rfl rfl<|Q0<|Q2 rfl (fun hb=>?_) fun hb=>?_
 · skip
   refine Q5 ?_;exact absurd hb (by simp)
 refine Q4<|Q7<|I1 rfl<|I6 rfl<|I0 0 rfl<|I4 rfl hg rfl<|I7 rfl<|I2 rfl<|Q0<|Q8 ⟨.inl rfl,_,rfl,⟨rfl,rfl⟩⟩
theorem k44 (S0:SH h0 [] (chR kb c cv bs) h) (i0:0<=i) (i1:i <c.length) (m0:0<=mkF c i) (m1:mkF c i<=100000):C modE 44 [Qk kb,iV i] h fun v g'=>v=iV (mkF c i+1)/\SH h (owns (chR kb c cv bs)) (chR kb (c.set i.toNat (mkF c i+1,opF c i)) cv bs) g':=by
 have SE:=S0.enterL;obtain⟨rb,rm,rc,rr,bZ,da,_⟩:=(SE.sl 1 rfl).at (by omega);have hg:=SE.cel 0 rfl;subst bZ;have gs:=Qbj rr i0 i1;refine Q9 (fu:=Tryz.f44) (by kernel_rfl) rfl ?_;have S:=SE;refine Q7<|I2 rfl<|Z8<|I1 rfl<|I1 rfl<|Ic [_,_] rfl rfl (Ql (k80 hg) ⟨ag0,?_⟩);refine Ib rfl<|Q0<|Q2 rfl (fun hb=>?_) fun hb=>?_
 · skip
   refine Q5 ?_;exact absurd hb (by simp;omega)
 refine Q4<|Q7<|I1 rfl<|I6 rfl<|I0 0 rfl<|I4 rfl (S.cel 0 rfl) rfl<|I1 rfl<|I5o 2 rfl rfl<|I0 0 rfl<|I4 rfl da gs.1<|Iao rfl rfl<|I5o 2 rfl rfl<|I0 0 rfl<|Zm 1 S gn rfl rfl rfl (by kernel_rfl) rfl rfl (by rw[Q70];omega) (fun g S=>ag0) fun g S=>?_;rw[(Qbi i0 i1).1]at S;rw[Q6c (show c.length=(c.set i.toNat (mkF c i+1,opF c i)).length from v0q.symm)]at S;have hlen:(c.set i.toNat (mkF c i+1,opF c i)).length=c.length:=v0q;obtain⟨rb2,rm2,rc2,rr2,jC,cw,_⟩:=(S.sl 1 rfl).at (by omega);have hg4:=S.cel 0 rfl
 rw[hlen]at jC;cases jC;have gs2:=Qbj (c:=c.set i.toNat (mkF c i+1,opF c i)) rr2 i0 (by omega);rw[(Q0S i0 i1).1,Qm]at gs2;refine QP<|I1 rfl<|I6 rfl<|I0 0 rfl<|I4 rfl hg4 rfl<|I1 rfl<|I5o 2 rfl rfl<|I0 0 rfl<|I4 rfl cw gs2.1<|I2 rfl<|Q0<|Q8 ⟨.inl rfl,_,rfl,⟨rfl,S⟩⟩
theorem k46 (S0:SH h0 [] (chR kb c cv bs) h) (i0:0<=i) (i1:i <c.length):C modE 46 [Qk kb,iV i] h fun _ g'=>SH h (owns (chR kb c cv bs)) (chR kb (c.set i.toNat (mkF c i,false)) cv bs) g':=by
 have SE:=S0.enterL;obtain⟨rb,rm,rc,rr,bZ,da,_⟩:=(SE.sl 1 rfl).at (by omega);have hg:=SE.cel 0 rfl;subst bZ;refine Q9 (fu:=Tryz.f46) (by kernel_rfl) rfl ?_;have S:=SE;refine Q7<|I1 rfl<|I1 rfl<|Ic [_,_] rfl rfl (Ql (k80 hg) ⟨ag0,?_⟩);refine Q0<|Q2 rfl (fun hb=>?_) fun hb=>?_
 · skip
   refine Q3 (by kernel_rfl)<|I1 rfl<|I6 rfl<|I0 0 rfl<|I4 rfl (S.cel 0 rfl) rfl<|I1 rfl<|I5o 2 rfl rfl<|I0 1 rfl<|Zm 1 S gn rfl rfl rfl (by kernel_rfl) rfl rfl (by rw[Q70];omega) (fun g S=>ag0) fun g S=>?_;rw[(Qbi i0 i1).2]at S;rw[Q6c (show c.length=(c.set i.toNat (mkF c i,false)).length from v0q.symm)]at S;refine Q0 ?_;refine⟨.inr rfl,_,rfl,?_⟩;exact S
 refine Q4 ?_;refine⟨.inr rfl,_,rfl,?_⟩;exact absurd hb (by simp;omega)
end
structure CkW where
 hb:Nat
 kr:Nat
 rr:Nat
 lr:Nat
 cv:Value
 sv:Value
 ov:Value
 cb:List Nat
 sb:List Nat
 ob:List Nat
 KM:MsK Int
 kcl:Nat
 RM:MsK Int
 rcl:Nat
 LM:MsK Q1n
 lcl:Nat
 ks:List Q1n
 rb:Int->Nat
 nb:Int->Nat
 no:Int->List Nat
 lv:Q1n->Value
 lb:Q1n->List Nat
def rnV (r:ORn) (nb:Nat):List Value:=tkV r.t++[iV r.ch,Qk nb,iV r.fc,iV r.fn,.bool r.over]
def rnO (o:Option ORn) (nb:Nat):List Value:=match o with
 |some r=>rnV r nb
 |none=>[]
def rnA (o:Option ORn):Int->Int:=match o with
 |some r=>r.A
 |none=>Q8e
def Jl (b:Nat) (A:Int->Int) (own:List Nat):Res:=⟨own,fun h=>CkAt h b A own,fun h h' e hn x=>by
 obtain⟨r,M,cl,x,rfl⟩:=x;have e1:=e b (by simp);have e2:=e r (by simp)
 exact⟨r,M,cl,⟨by rw[e1.2];exact x.top,by rw[e2.2];exact x.mp,x.ms,x.ne,by omega,by omega⟩,rfl⟩⟩
theorem Q88 {h:Hp} {b:Nat} {A:Int->Int} {own:List Nat} (x:CkAt h b A own):own.Nodup:=by
 obtain⟨r,M,cl,x,rfl⟩:=x;simp[x.ne]
def Q4B (s:CkS) (w:CkW) (a:Int):Res:=cR (w.rb a) (.cells (rnO (s.R a) (w.nb a)) 132 0)
def Q5a (s:CkS) (w:CkW) (a:Int):Res:=Jl (w.nb a) (rnA (s.R a)) (w.no a)
abbrev QdY (s:CkS) (w:CkW):List Value:=[Qk w.hb,w.sv,.map (some w.kr),.map (some w.rr),w.ov,.map (some w.lr),iV s.last]
abbrev ckT (s:CkS) (w:CkW):List Res:=s.O.map (Q4B s w)++(s.O.map (Q5a s w)++w.ks.map (mlF 137 2 w.lv (fun q=>toC (s.L q)) (fun q=>(s.L q).length) w.lb))
abbrev ckL (cb:Nat) (s:CkS) (w:CkW):List Res:=cR w.hb (.cells [w.cv] 171 0)::slR 174 1 w.cv (chC s.ch) s.ch.length w.cb::cR cb (.cells (QdY s w) 123 0)::slR 126 1 w.sv (stC s.S) s.S.length w.sb::slR 3 0 w.ov (isV s.O) s.O.length w.ob::
 cR w.kr (.map (w.KM.map (Zp iV)) w.kcl)::cR w.rr (.map (w.RM.map (Zp iV)) w.rcl)::cR w.lr (.map (w.LM.map (Zp Qcy)) w.lcl)::ckT s w
structure OkW (s:CkS) (w:CkW):Prop where
 km:OkK w.KM w.kcl
 kg: ∀m,Jt w.KM m=(s.K m).map fun p=>Qk p.1
 rm:OkK w.RM w.rcl
 rg: ∀a,Jt w.RM a=if a∈s.O then some (Qk (w.rb a))else none
 ro: ∀a,(∃r,s.R a=some r)↔a∈s.O
 lm:MlOk w.LM w.lcl w.ks w.lv
 lz: ∀q,q∉w.ks->s.L q=[]
def ckR (cb:Nat) (s:CkS) (bs:List Nat):Res:=Q3r (fun L=> ∃w,L=ckL cb s w/\OkW s w) bs
def plR (pl:List (Nat×(Int->Int))) (bs:List Nat):Res:=Q3r (fun L=> ∃ow:Nat->List Nat,L=pl.map fun p=>Jl p.1 p.2 (ow p.1)) bs
structure CkG (h:Hp) (cb:Nat) (s:CkS) (w:CkW):Prop where
 hold: ∀r,r∈ckL cb s w->Held r h
 ok:OkW s w
def PlG (h:Hp) (K:Int->Option (Nat×(Int->Int))):Prop:= ∀m p,K m=some p-> ∃own,Held (Jl p.1 p.2 own) h
section
variable {h h' h0:Hp} {ds:List Nat} {A B:List Res} {cb:Nat} {s:CkS} {w:CkW} {K:Int->Option (Nat×(Int->Int))}
theorem CkG.ext (x:CkG h cb s w) (g:Ext h h'):CkG h' cb s w:=⟨fun r hr=>(x.hold r hr).ext g,x.ok⟩
theorem PlG.ext (x:PlG h K) (g:Ext h h'):PlG h' K:=fun m p e=>by
 obtain⟨own,y⟩:=x m p e;exact⟨own,y.ext g⟩
theorem CkG.at (x:CkG h cb s w) (i:Nat) {r:Res} (e:(ckL cb s w)[i]?=some r):r.P h:=(x.hold r (v0m e)).1
theorem CkG.atl (x:CkG h cb s w) (i:Nat) {b:Nat} {o:AObj} (e:(ckL cb s w)[i]?=some (cR b o)):h.get b=some o/\b <h.n:=⟨x.at i e,(x.hold _ (v0m e)).2 b (by simp[cR])⟩
theorem CkG.run (x:CkG h cb s w) {a:Int} {r:ORn} (hr:s.R a=some r):h.get (w.rb a)=some (.cells (rnV r (w.nb a)) 132 0)/\w.rb a <h.n/\CkAt h (w.nb a) r.A (w.no a):=by
 have ho:a∈s.O:=(x.ok.ro a).1 ⟨r,hr⟩;have h1:=x.hold (Q4B s w a) (by unfold ckL ckT;simp only[v0r,v0x];right;right;right;right;right;right;right;right;left;exact v1b ho);have h2:=x.hold (Q5a s w a) (by unfold ckL ckT;simp only[v0r,v0x];right;right;right;right;right;right;right;right;right;left;exact v1b ho);have e1:h.get (w.rb a)=some (.cells (rnO (s.R a) (w.nb a)) 132 0):=h1.1;have e2:CkAt h (w.nb a) (rnA (s.R a)) (w.no a):=h2.1;rw[hr]at e1 e2;exact⟨e1,h1.2 _ (by simp[Q4B,cR]),e2⟩
theorem Q5p:KeyT modE 118 3 129 iV:=KeyT.int (by kernel_rfl) (by kernel_rfl)
theorem Q2N:KeyT modE 119 3 130 iV:=KeyT.int (by kernel_rfl) (by kernel_rfl)
theorem Q41:KeyT modE 120 64 134 Qcy:=by
 refine⟨by kernel_rfl,fun h a b=>?_,fun a=>by kernel_rfl⟩;have hs:modE.P.stoodInHeld 64=false:=by kernel_rfl
 simp only[KV,und32,Qcy,hs,cond_false,eq32];obtain⟨a1,a2,a3⟩:=a;obtain⟨b1,b2,b3⟩:=b;by_cases e1:a1=b1
 · by_cases e2:a2=b2
   · by_cases e3:a3=b3
     · subst e1;subst e2;subst e3;simp[sameV,sameV.sameL,Zc]
     simp[e3]
   simp[e2]
 simp[e1]
theorem k34 {l:List Value} (hg:h.get cb=some (.cells (Qk w.hb::l) 123 0)):CP modE 34 [Qk cb] h (.bool false):=by
 refine Q9 (fu:=Tryz.f34) (by kernel_rfl) rfl ?_;have S:=SH.start h;refine Q7<|I2 rfl<|QP<|I1 rfl<|Ip rfl rfl<|I1 rfl ?_
 refine Z4 (n:=5) rfl rfl rfl gn rfl (fun hb=>by
  refine D1 hb rfl<|D6 hb rfl<|D0 0 hb rfl<|D4 hb rfl hg rfl<|Dp hb rfl rfl ?_
  exact Q0 ⟨rfl,rfl,5,rfl,rfl⟩) ?_
 refine I2 rfl<|Q0<|Q8 ⟨.inl rfl,_,rfl,⟨rfl,rfl⟩⟩
theorem k15 (G:CkG h cb s w):CP modE 15 [Qk cb] h (iV s.S.length):=by
 have hg:=(G.atl 2 rfl).1;obtain⟨sa,sc,dw⟩:=Q6 (G.at 3 rfl);unfold QdY at hg;rw[dw]at hg;refine Q9 (fu:=Tryz.f15) (by kernel_rfl) rfl ?_;have S:=SH.start h;refine Q7<|I2 rfl<|Z8<|I1 rfl<|Ic [_] rfl rfl (Ql (k34 hg) ⟨ag0,?_⟩);refine Q0<|Q2 rfl (fun hb=>?_) fun hb=>?_
 · skip
   refine Q5 ?_;exact absurd hb (by decide)
 refine Q4<|Q7<|I1 rfl<|I6 rfl<|I0 1 rfl<|I4 rfl hg rfl<|I7 rfl<|I2 rfl<|Q0<|Q8 ⟨.inl rfl,_,rfl,⟨rfl,rfl⟩⟩
theorem k16 (G:CkG h cb s w):CP modE 16 [Qk cb] h (iV s.ch.length):=by
 have hg:=(G.atl 2 rfl).1;have hg0:=(G.atl 0 rfl).1;obtain⟨sa,sc,dw⟩:=Q6 (G.at 1 rfl);rw[dw]at hg0;refine Q9 (fu:=Tryz.f16) (by kernel_rfl) rfl ?_;have S:=SH.start h;refine Q7<|I2 rfl<|Z8<|I1 rfl<|Ic [_] rfl rfl (Ql (k34 hg) ⟨ag0,?_⟩);refine Q0<|Q2 rfl (fun hb=>?_) fun hb=>?_
 · skip
   refine Q5 ?_;exact absurd hb (by decide)
 refine Q4<|Q7<|I1 rfl<|I6 rfl<|I0 0 rfl<|I4 rfl hg rfl<|Ic [_] rfl rfl (Ql (k49 hg0) ⟨ag0,?_⟩);refine I2 rfl<|Q0<|Q8 ⟨.inl rfl,_,rfl,⟨rfl,rfl⟩⟩
def kpA (o:Option (Nat×(Int->Int))):Option Addr:=o.map fun p=>⟨p.1,0,none⟩
abbrev kpV (o:Option (Nat×(Int->Int))):Value:=.pointer (kpA o)
theorem k71 {i:Int} {b:Nat} {A:Int->Int} {own:List Nat} (G:CkG h cb s w) (x:CkAt h b A own):C modE 71 [Qk cb,Qk b,iV i] h fun v g'=>v=.bool (hasB s.S (some A) i)/\Ext h g':=by
 have hg:=(G.atl 2 rfl).1;have eh:=(G.atl 2 rfl).2;obtain⟨sa,sc,dw⟩:=Q6 (G.at 3 rfl);unfold QdY at hg;rw[dw]at hg;refine Q9 (fu:=Tryz.f71) (by kernel_rfl) rfl ?_;have S:=SH.start h;refine Q7<|I2 rfl<|Z8<|I1 rfl<|Ip rfl rfl<|I1 rfl ?_
 refine Z4 (n:=2) rfl rfl rfl gn rfl (fun hb=>by
  refine D1 hb rfl<|Dl hb rfl rfl ?_
  exact Q0 ⟨rfl,rfl,2,rfl,rfl⟩) ?_
 refine I1 rfl ?_
 refine Z4 (n:=7) rfl rfl rfl gn rfl (fun hb=>by
  refine D1 hb rfl<|D1 hb rfl<|D6 hb rfl<|D0 1 hb rfl<|D4 hb rfl hg rfl<|D7 hb rfl<|Dh hb rfl rfl ?_
  exact Q0 ⟨rfl,rfl,7,rfl,rfl⟩) ?_
 refine Q0<|Q2 rfl (fun hb=>?_) fun hb=>?_
 · skip
   refine Q7<|I2 rfl<|Q0<|Q8 ?_;refine⟨.inl rfl,_,rfl,?_⟩
   have hf:hasB s.S (some A) i=false:=by
    simp only[Bool.or_eq_true,decide_eq_true_eq]at hb;simp only[hasB,Bool.and_eq_false_iff,v06,decide_eq_false_iff_not];left;rcases hb with(hb|hb)|hb
    · cases hb
    · left;omega
    right;omega
   exact⟨by rw[hf];rfl,S.e0⟩
 refine Q4 ?_
 have hi:0<=i/\i <s.S.length:=by
  simp only[v06,decide_eq_false_iff_not]at hb;omega
 obtain⟨qb,qm,qc,qr,cy,dV,cM⟩:=(show SlC 126 1 h w.sv (stC s.S) s.S.length w.sb from G.at 3 rfl).at (by omega);rw[dw]at cy;cases cy;have av:=Qdn (S:=s.S) qr (j:=i.toNat) (by omega);refine Q7<|I1 rfl<|I6 rfl<|I0 1 rfl<|I4 rfl hg rfl<|I1 rfl<|I5o 2 rfl rfl<|Zb (n:=2) gn rfl rfl (by kernel_rfl) (by kernel_rfl) dV (by rw[v0j,Q9g];omega) ?_;rw[av];refine Qx (zv:=.agg #[iV 0,iV 0]) S gn rfl (by kernel_rfl) fun b1 g aJ S=>?_;refine Qi (n:=2) 0 S gn rfl rfl (by kernel_rfl) (by kernel_rfl) rfl rfl (by decide) rfl (fun g S=>ag0) fun g S=>?_;refine QP ?_
 refine I1 rfl<|I0 0 rfl<|I4 rfl (S.cel 0 rfl) rfl<|I0 1 rfl<|I4 rfl (S.cel 0 rfl) rfl<|Ic [_,_,_] rfl rfl (Ql (k48 (x.ext S.e0)) ⟨ag0,?_⟩);refine I2 rfl<|Q0<|Q8 ?_;refine⟨.inl rfl,_,rfl,?_⟩
 exact⟨by
  simp only[hasB];rw[decide_eq_true hi.1,decide_eq_true (show i <s.S.length from hi.2)]
  rfl,S.e0⟩
end
section
variable {h h' h0:Hp} {cb:Nat} {s:CkS} {w:CkW}
theorem k71n {i:Int} (G:CkG h cb s w):C modE 71 [Qk cb,.pointer none,iV i] h fun v g'=>v=.bool (hasB s.S none i)/\Ext h g':=by
 have hg:=(G.atl 2 rfl).1;obtain⟨sa,sc,dw⟩:=Q6 (G.at 3 rfl);unfold QdY at hg;rw[dw]at hg;refine Q9 (fu:=Tryz.f71) (by kernel_rfl) rfl ?_;have S:=SH.start h;refine Q7<|I2 rfl<|Z8<|I1 rfl<|Ip rfl rfl<|I1 rfl ?_
 refine Z4 (n:=2) rfl rfl rfl gn rfl (fun hb=>by
  refine D1 hb rfl<|Dl hb rfl rfl ?_
  exact Q0 ⟨rfl,rfl,2,rfl,rfl⟩) ?_
 refine I1 rfl ?_
 refine Z4 (n:=7) rfl rfl rfl gn rfl (fun hb=>by
  refine D1 hb rfl<|D1 hb rfl<|D6 hb rfl<|D0 1 hb rfl<|D4 hb rfl hg rfl<|D7 hb rfl<|Dh hb rfl rfl ?_
  exact Q0 ⟨rfl,rfl,7,rfl,rfl⟩) ?_
 refine Q0<|Q2 rfl (fun hb=>?_) fun hb=>?_
 · skip
   refine Q7<|I2 rfl<|Q0<|Q8 ⟨.inl rfl,_,rfl,⟨rfl,S.e0⟩⟩
 exact absurd hb (by simp)
theorem k71o {i:Int} (G:CkG h cb s w) (o:Option (Nat×(Int->Int))) (x: ∀p,o=some p-> ∃own,Held (Jl p.1 p.2 own) h):C modE 71 [Qk cb,kpV o,iV i] h fun v g'=>v=.bool (hasB s.S (o.map (·.2)) i)/\Ext h g':=by
 cases o with
 |none=>exact k71n G
 | some p=>
   obtain⟨own,y⟩:=x p rfl;exact k71 G y.1
theorem QdG {o:Option Value} {p:Option (Nat×(Int->Int))} (e:o=p.map fun p=>Qk p.1):o.getD (.pointer none)=kpV p:=by
 rw[e];cases p<;>rfl
theorem k76 {a b:MTask} (G:CkG h cb s w) (P:PlG h s.K):C modE 76 [Qk cb,.agg (tkV a).toArray,.agg (tkV b).toArray] h fun v g'=>v=.bool (QbF s.S s.K a b)/\Ext h g':=by
 have hg:=(G.atl 2 rfl).1;have eh:=(G.atl 2 rfl).2;have hk:=(G.atl 5 rfl).1;have eI:=(G.atl 5 rfl).2;have kg:=G.ok.kg b.mark;refine Q9 (fu:=Tryz.f76) (by kernel_rfl) rfl ?_;have S:=SH.start h;refine Q7 ?_;refine Z9 S gn rfl rfl fun b1 g aJ S=>?_;refine Z9 S gn rfl rfl fun b2 g bK S=>?_;refine I2 rfl<|Q0<|Q5<|I9<|I0 0 rfl<|I4 rfl (S.cel 1 rfl) rfl<|Ie rfl rfl<|I1 rfl ?_
 refine QY (n:=3) rfl rfl rfl gn rfl (fun hb=>by
  refine D0 0 hb rfl<|D4 hb rfl (S.cel 0 rfl) rfl<|De hb rfl rfl ?_
  exact Q0 ⟨rfl,rfl,3,rfl,rfl⟩) ?_
 refine I1 rfl ?_
 refine QY (n:=3) rfl rfl rfl gn rfl (fun hb=>by
  refine D0 7 hb rfl<|D4 hb rfl (S.cel 0 rfl) rfl<|Db hb rfl ?_
  exact Q0 ⟨rfl,rfl,3,rfl,rfl⟩) ?_
 refine I1 rfl ?_
 refine QY (n:=9) rfl rfl rfl gn rfl (fun hb=>by
  refine D0 7 hb rfl<|D4 hb rfl (S.cel 1 rfl) rfl<|D1 hb rfl ?_
  refine Z4 (n:=5) rfl rfl rfl (gy rfl rfl rfl hb) rfl (fun hb=>by
   refine D0 8 hb rfl<|D4 hb rfl (S.cel 0 rfl) rfl<|D0 8 hb rfl<|D4 hb rfl (S.cel 1 rfl) rfl<|Dh hb rfl rfl ?_
   exact Q0 ⟨rfl,rfl,5,rfl,rfl⟩) ?_
  exact Q0 ⟨rfl,rfl,4,rfl,rfl⟩) ?_
 refine I1 rfl<|ZX (dc:=31) rfl (fun bJ=>?_) fun bJ=>?_
 · skip
   refine D1 bJ rfl<|D1 bJ rfl<|D6 bJ rfl<|D0 2 bJ rfl<|D4 bJ rfl (S.old0 hg eh) rfl<|D0 13 bJ rfl<|D4 bJ rfl (S.cel 0 rfl) rfl<|Zv (zv:=.pointer none) Q5p (gy rfl rfl rfl bJ) rfl rfl rfl (S.old0 hk eI) (by kernel_rfl)<|D0 13 bJ rfl<|D4 bJ rfl (S.cel 1 rfl) rfl ?_;rw[QdG kg];refine Dc bJ [_,_,_] rfl rfl (C.mono (k71o (G.ext S.e0) (s.K b.mark) fun p e=>(P.ext S.e0) b.mark p e) ?_);rintro v g ⟨rfl,x⟩;have S:=S.grow x;refine⟨ag0,?_⟩;refine IT rfl bJ rfl<|I2 rfl<|Q0<|Q8 ⟨.inl rfl,_,rfl,⟨by unfold QbF;rw[bJ];rfl,S.e0⟩⟩
 refine ZY (n:=11) (dc:=31) (w:=true) rfl bJ rfl<|Iu rfl bJ rfl<|I2 rfl<|Q0<|Q8 ⟨.inl rfl,_,rfl,⟨by unfold QbF;rw[bJ];rfl,S.e0⟩⟩
def rpA (s:CkS) (w:CkW) (a:Int):Option Addr:=if a∈s.O then some ⟨w.rb a,0,none⟩else none
theorem Q1Z (ok:OkW s w) (a:Int):(Jt w.RM a).getD (.pointer none)=.pointer (rpA s w a):=by
 rw[ok.rg];unfold rpA;split<;>rfl
theorem Q0I {a:Int} (h:a∈s.O):rpA s w a=some ⟨w.rb a,0,none⟩:=if_pos h
theorem Q9u {a:Int} (h:a∉s.O):rpA s w a=none:=if_neg h
end
theorem find_range {p:Nat->Bool} {n i:Nat} (hi:i <n) (h:p i=true) (hb: ∀j,j <i->p j=false):(v0w n).find? p=some i:=by
 have e:v0w n=v0w i++(v0w (n -i)).map (i+ ·):=by rw[<-List.range_add];congr 1;omega
 rw[e,List.find?_append,List.find?_eq_none.2 (fun j hj=>by rw[hb j (v1r.1 hj)];decide)];obtain⟨m,hm⟩: ∃m,n -i=m+1:=⟨n -i -1,by omega⟩;rw[hm,List.range_succ_eq_map];simp[h]
theorem QfO {c:List (Int×Bool)} {A:Int->Int} {i:Nat} (hi:i <c.length) (h:Q2O c A i=true) (hb: ∀j,j <i->Q2O c A j=false):ZC c A=i:=by
 unfold ZC;rw[find_range hi h hb];rfl
theorem Qbo {c:List (Int×Bool)} {A:Int->Int} (hb: ∀j,j <c.length->Q2O c A j=false):ZC c A=c.length:=by
 unfold ZC;rw[List.find?_eq_none.2 (fun j hj=>by rw[hb j (v1r.1 hj)];decide)];rfl
theorem QfE (c:List (Int×Bool)) (p:Int×Bool):chC (c++[p])=chC c++chV p:=by simp[chC]
abbrev chR3 (kb:Nat) (c:List (Int×Bool)) (cv:Value) (bs:List Nat) (b:Nat) (A:Int->Int) (own:List Nat):List Res:=[cR kb (.cells [cv] 171 0),slR 174 1 cv (chC c) c.length bs,Jl b A own]
section
variable {h h0:Hp} {kb b:Nat} {c:List (Int×Bool)} {cv:Value} {bs own:List Nat} {A:Int->Int}
theorem k77 (S0:SH h0 [] (chR3 kb c cv bs b A own) h) (hn:c.length<=100000):C modE 77 [Qk kb,Qk b] h fun v g'=> ∃(ku:Value) (aa:List Nat),v=iV (ZC c A:Nat)/\SH h (owns (chR3 kb c cv bs b A own)) (chR3 kb (YJ c (ZC c A)) ku aa b A own) g':=by
 have SE:=S0.enterL;obtain⟨sa,sc,dw⟩:=Q6 (SE.sl 1 rfl);have hg:=SE.cel 0 rfl;subst dw;have gc:CkAt h b A own:=SE.res 2 rfl;refine Q9 (fu:=Tryz.f77) (by kernel_rfl) rfl ?_;have S:=SE;refine Q7<|I2 rfl<|Z8<|I1 rfl<|Ip rfl rfl<|Q0<|Q2 rfl (fun hb=>?_) fun hb=>?_
 · skip
   refine Q5 ?_;exact absurd hb (by simp)
 refine Q4<|Q5<|Q7<|I1 rfl<|I6 rfl<|I0 0 rfl<|I4 rfl (S.cel 0 rfl) rfl<|I7 rfl<|I1 rfl<|Q0<|Qb<|QB [(13,_)] [(0,_),(1,_),(12,_)] (fun kk lv hh=> ∃i:Nat,lv=[(13,iV i)]/\kk=c.length -i/\i<=c.length/\hh=h/\ ∀j,j <i->Q2O c A j=false) (n:=c.length) ?_ fun kk lv hh hI=>?_
 · exact⟨0,rfl,rfl,v0s _,rfl,fun j hj=>absurd hj (Nat.not_lt_zero j)⟩
 obtain⟨i,rfl,hk,hi,rfl,bI⟩:=hI;refine Q7<|Il rfl rfl<|Q0<|Q5<|Q2 rfl (fun hb=>?_) fun hb=>?_
 · skip
   refine Q4 ?_;have hi:i <c.length:=by simp at hb;omega
   obtain⟨rb,rm,rc,rr,bZ,da,_⟩:=(SE.sl 1 rfl).at (by omega);cases bZ;have gs:=Qbj (c:=c) rr (i:=(i:Int)) (by omega) (by omega);refine Q5<|Qb<|Q7<|I1 rfl<|I2 rfl<|QP<|I1 rfl<|I6 rfl<|I0 0 rfl<|I4 rfl (S.cel 0 rfl) rfl<|I1 rfl<|I5o 2 rfl rfl<|I0 1 rfl<|I4 rfl da gs.2<|Ib rfl<|I1 rfl ?_
   refine QY (n:=11) rfl rfl rfl gn rfl (fun hb=>by
    refine D1 hb rfl<|D1 hb rfl<|D1 hb rfl<|D6 hb rfl<|D0 0 hb rfl<|D4 hb rfl (S.cel 0 rfl) rfl<|D1 hb rfl<|D5o 2 hb rfl rfl<|D0 0 hb rfl<|D4 hb rfl da gs.1<|Dc hb [_,_,_] rfl rfl (Ql (k48 gc) ⟨ag0,?_⟩)
    exact Q0 ⟨rfl,rfl,11,rfl,rfl⟩) ?_
   refine Q0<|Q2 rfl (fun hb=>?_) fun hb=>?_
   · skip
     have hC:ZC c A=i:=QfO hi hb bI;have hO:YJ c i=c.set i (mkF c i,true):=if_pos hi;refine Q7<|I1 rfl<|I6 rfl<|I0 0 rfl<|I4 rfl (S.cel 0 rfl) rfl<|I1 rfl<|I5o 2 rfl rfl<|I0 1 rfl<|Zm 1 SE gn rfl rfl rfl (by kernel_rfl) rfl rfl (by rw[Q70];omega) (fun g S=>ag0) fun g S=>?_;have av:=(Qbi (c:=c) (i:=(i:Int)) (by omega) (by omega)).2 true;rw[v0i]at av;rw[v0i,av,<-hO,Q6c (show c.length=(YJ c i).length by rw[hO,v0q])]at S;refine QP<|I1 rfl<|I2 rfl<|Q0 ?_
     refine Q8 ⟨.inl rfl,_,rfl,⟨_,_,by rw[hC];rfl,by rw[hC];exact S⟩⟩
   refine Q4<|Q3 (by kernel_rfl)<|Iao rfl rfl<|I1 rfl<|Q0 ?_
   exact K3 (c.length - (i+1)) [(13,_)] (p:=⟨i+1,rfl,rfl,by omega,rfl,fun j hj=>by
    by_cases q:j=i
    · rw[q];exact hb
    exact bI j (by omega)⟩)
 refine QF<|Qh<|Qn<|QE<|Q5 ?_;obtain rfl:i=c.length:=by simp at hb;omega
 have hC:=Qbo bI;have hO:YJ c c.length=c++[(0,true)]:=if_neg (by omega);have S:=SE;refine Q3 (by kernel_rfl)<|I1 rfl<|I1 rfl<|I6 rfl<|I0 0 rfl<|I4 rfl (S.cel 0 rfl) rfl<|Qq (zv:=.agg #[iV 0,.bool false]) (pl:=[(0,1),(1,1)]) [(1,_)] gn rfl (by kernel_rfl) (by kernel_rfl) rfl (by rfl) ?_;refine Qc (e:=174) (z:=1) (zv:=.agg #[iV 0,.bool false]) [(0,_)] S gn rfl (by kernel_rfl) (by kernel_rfl) (by kernel_rfl) (by kernel_rfl) rfl (by rfl) fun b1 g aJ S=>?_;refine QM (e:=174) (z:=1) (by':=15) 2 0 S el174 gn rfl rfl rfl rfl rfl rfl (by rfl) (by omega) (fun s' aa g S=>ag0) fun s' aa g S=>?_
 refine I6 rfl<|I0 0 rfl ?_;refine Qg 1 S gn rfl rfl (S.sl 2 rfl).cellV (by kernel_rfl) rfl (by decide) (by simp) (fun g S=>ag0) fun g S=>?_;obtain⟨va,vc,dT⟩:=Q6 (S.sl 2 rfl);have hg5:=S.cel 1 rfl;have hg6:g.get kb=some (.cells [.slice va (c.length+1) vc] 171 0):=by rw[<-dT];exact hg5
 refine QP<|I1 rfl<|I6 rfl<|I0 0 rfl<|I4 rfl hg6 rfl<|I7 rfl<|Iso rfl rfl<|I2 rfl<|Q0<|Q8 ?_;refine⟨.inl rfl,_,rfl,?_⟩
 exact⟨_,_,by rw[hC];show iV _=_;congr 1;omega,by
  rw[hC,hO];unfold chR3;rw[QfE,v0j]
  exact S.drop⟩
end
abbrev plL (pl:List (Nat×(Int->Int))) (ow:Nat->List Nat):List Res:=pl.map fun p=>Jl p.1 p.2 (ow p.1)
section
variable {h h' h0:Hp} {ds bs pbs:List Nat} {A B C F:List Res} {cb:Nat} {s:CkS} {w:CkW} {pl:List (Nat×(Int->Int))} {m r:Res} {ow:Nat->List Nat}
theorem SH.prm (S:SH h0 ds A h) (p:B.Perm A):SH h0 ds B h:=S.sub (B:=[]) (by rw[v0k];exact p)
theorem SH.heldM (S:SH h0 ds A h) (hr:r∈A):Held r h:=⟨S.hold r hr,fun i hi=>S.lt i (QK hr hi)⟩
theorem Q6Y (S:SH h0 ds (ckR cb s bs::plR pl pbs::B) h): ∃(w:CkW) (ow:Nat->List Nat),OkW s w/\SH h0 ds (ckL cb s w++(plL pl ow++B)) h:=by
 obtain⟨L,⟨w,rfl,ok⟩,_,S⟩:=Q2G S;have S:=SH.unmid S;obtain⟨L2,⟨ow,rfl⟩,_,S⟩:=Q2G S;exact⟨w,ow,ok,SH.prm S (List.perm_append_comm_assoc _ _ _)⟩
theorem Q4r (S:SH h0 ds (ckL cb s w++(plL pl ow++B)) h) (ok:OkW s w): ∃aa dD,SH h0 ds (ckR cb s aa::plR pl dD::B) h:=by
 have S:SH h0 ds (ckR cb s (owns (ckL cb s w))::(plL pl ow++B)) h:=Kj S ⟨w,rfl,ok⟩;have S:=SH.mid S;have S:SH h0 ds (plR pl (owns (plL pl ow))::(ckR cb s (owns (ckL cb s w))::B)) h:=Kj S ⟨ow,rfl⟩;exact⟨_,_,SH.swap S⟩
theorem pl_g (S:SH h0 ds A h) (hA: ∀r,r∈plL pl ow->r∈A) {K:Int->Option (Nat×(Int->Int))} (HP: ∀m p,K m=some p->p∈pl):PlG h K:=fun m p e=>
 ⟨ow p.1,SH.heldM S (hA _ (v0H.2 ⟨p,HP m p e,rfl⟩))⟩
theorem ck_g (S:SH h0 ds A h) (hA: ∀r,r∈ckL cb s w->r∈A) (ok:OkW s w):CkG h cb s w:=⟨fun _ hr=>SH.heldM S (hA _ hr),ok⟩
def addW (w:CkW) (id:Int) (rb nb:Nat) (no:List Nat) (cv ov:Value) (cb ob:List Nat):CkW:=
 {w with cv:=cv,ov:=ov,cb:=cb,ob:=ob,RM:=(J7 w.RM id (Qk rb) w.rcl).1,rcl:=(J7 w.RM id (Qk rb) w.rcl).2,rb:=Qy w.rb id rb,nb:=Qy w.nb id nb,no:=Qy w.no id no}
theorem QfV (ok:OkW s w) {id:Int} {rb nb:Nat} {no:List Nat} {cv ov:Value} {cb' ob:List Nat} {t:MTask} {A:Int->Int} (bU:id∉s.O):OkW (Q2S s id t A) (addW w id rb nb no cv ov cb' ob):=by
 refine⟨ok.km,ok.kg,ok.rm.put _ _,fun a=>?_,fun a=>?_,ok.lm,ok.lz⟩
 · show Jt (J7 w.RM id (Qk rb) w.rcl).1 a=if a∈s.O++[id]then some (Qk (Qy w.rb id rb a))else none
   rw[Kw,ok.rg];by_cases e:a=id
   · subst e;rw[if_pos rfl,if_pos (by simp),Qm]
   rw[if_neg e,Qp e];by_cases h:a∈s.O
   · rw[if_pos h,if_pos (by simp[h])]
   rw[if_neg h,if_neg (by simp[h,e])]
 show(∃r,Qy s.R id _ a=some r)↔a∈s.O++[id];by_cases e:a=id
 · subst e;rw[Qm];simp
 rw[Qp e,ok.ro];simp[e]
theorem Qbw {id:Int} {rb nb:Nat} {no:List Nat} {cv ov:Value} {cb' ob:List Nat} {t:MTask} {A:Int->Int} (bU:id∉s.O):
 (s.O++[id]).map (Q4B (Q2S s id t A) (addW w id rb nb no cv ov cb' ob))=s.O.map (Q4B s w)++[cR rb (.cells (rnV ⟨t,(ZC s.ch A:Nat),A,0,0,false⟩ nb) 132 0)]/\
 (s.O++[id]).map (Q5a (Q2S s id t A) (addW w id rb nb no cv ov cb' ob))=s.O.map (Q5a s w)++[Jl nb A no]:=by
 have e1: ∀a,a∈s.O->a≠id:=fun a ha q=>bU (q▸ha);have hR: ∀a,a≠id->(Q2S s id t A).R a=s.R a:=fun a h=>Qp h;have hI:(Q2S s id t A).R id=some ⟨t,(ZC s.ch A:Nat),A,0,0,false⟩:=Qm;constructor
 · rw[v0G]
   congr 1
   · refine v1o fun a ha=>?_;have:=e1 a ha;unfold Q4B;rw[hR a this];show cR (Qy w.rb id rb a) (.cells (rnO _ (Qy w.nb id nb a)) 132 0)=_;rw[Qp this,Qp this]
   show[cR (Qy w.rb id rb id) (.cells (rnO ((Q2S s id t A).R id) (Qy w.nb id nb id)) 132 0)]=_;rw[hI,Qm,Qm];rfl
 rw[v0G]
 congr 1
 · refine v1o fun a ha=>?_;have:=e1 a ha;unfold Q5a;rw[hR a this];show Jl (Qy w.nb id nb a) _ (Qy w.no id no a)=_;rw[Qp this,Qp this]
 show[Jl (Qy w.nb id nb id) (rnA ((Q2S s id t A).R id)) (Qy w.no id no id)]=_;rw[hI,Qm,Qm];rfl
theorem Qf1:KeyT modE 179 3 180 iV:=KeyT.int (by kernel_rfl) (by kernel_rfl)
def JmI (JM:MsK Int) (J:List Int):Prop:= ∀a,Jt JM a=if a∈J then some (.agg #[.bool true])else none
theorem JmI.get {JM:MsK Int} {J:List Int} (x:JmI JM J) (a:Int):(Jt JM a).getD (.agg #[.bool false])=.agg #[.bool (decide (a∈J))]:=by
 rw[x a];by_cases h:a∈J
 · rw[if_pos h,decide_eq_true h];rfl
 rw[if_neg h,decide_eq_false h];rfl
theorem JmI.put {JM:MsK Int} {J:List Int} (x:JmI JM J) (a:Int) (cl:Nat):JmI (J7 JM a (.agg #[.bool true]) cl).1 (a::J):=fun b=>by
 rw[Kw,x b];by_cases e:b=a
 · rw[if_pos e,if_pos (by simp[e])]
 rw[if_neg e];by_cases h:b∈J
 · rw[if_pos h,if_pos (by simp[h])]
 rw[if_neg h,if_neg (by simp[h,e])]
theorem SH.clk {b:Nat} {X Y:Int->Int} {own:List Nat} (S:SH h0 ds A h) (i:Nat) (e:A[i]?=some (Jl b X own)) (x:CkAt h' b Y own) (g:ExtB own h h'):SH h0 ds (A.set i (Jl b Y own)) h':=
 S.upd i e g x x.lt (fun _ hj=>.inl hj) (Q88 x)
theorem Q9S {J O:List Int} (nd:J.Nodup) (h: ∀a,a∈J->a∈O):J.length<=O.length:=by
 induction J generalizing O with
 |nil=>exact v0s _
 | cons a J ih=>
   have h1:=v0R.1 nd;have ha:=h a (by simp);have:=ih (O:=O.erase a) h1.2 fun b hb=>(List.mem_erase_of_ne (fun e=>h1.1 (by rw[<-e];exact hb))).2 (h b (by simp[hb]));rw[List.length_erase_of_mem ha]at this;have:=List.length_pos_of_mem ha;simp only[List.length_cons];omega
theorem QC {A B:List Res} (e: ∀(d:DecidableEq Res) (x:Res),A.count x=B.count x):A.Perm B:=by
 have d:DecidableEq Res:=fun a b=>Classical.propDecidable (a=b);exact List.perm_iff_count.2 fun x=>e d x
theorem QfL {X1 X2 Xt Xs Xo Xk Xr Xl b1 b2 clk run:Res} {Rs Ns Ls P:List Res} (S:SH h0 ds (run::X1::X2::clk::b1::b2::Xt::Xs::Xo::Xk::Xr::Xl::((Rs++(Ns++Ls))++P)) h):
 SH h0 ds ((X1::X2::Xt::Xs::Xo::Xk::Xr::Xl::((Rs++[run])++((Ns++[clk])++Ls)))++P) h:=S.sub (B:=[b1,b2]) (QC fun d x=>by
 simp only[v0P,v04,v00];omega)
theorem prm5 {a b c d e:Res} {R:List Res}:(d::e::b::c::a::R).Perm (a::b::c::d::e::R):=QC fun d x=>by
 simp only[v0P];omega
theorem Qam {O:List Int} {i:Nat} {a:Int} (r:List Value) (h:O[i]?=some a):(isV O++r)[0+Int.toNat (i:Int)*1]?=some (iV a):=by
 have hl:=(List.getElem?_eq_some_iff.1 h).1;rw[v0e,Nat.mul_one,v0i,List.getElem?_append_left (by rw[v0v];exact hl),List.getElem?_map,h];rfl
end
section
variable {h h0:Hp} {cb:Nat} {s:CkS} {bs pbs:List Nat} {pl:List (Nat×(Int->Int))} {T:List MTask} {M:List MMark} {N:Nat}
theorem k42 (ok:RunOk T M) (I:CkI T M N s) (hk:N <M.length) (h1:(mkI M (N:Int)).kind=1) (hM:M.length<=200) (S0:SH h0 [] [ckR cb s bs,plR pl pbs] h) (HP: ∀m p,s.K m=some p->p∈pl) {id:Int} {t:MTask} (bU:id=(mkI M (N:Int)).task) (ht:t=tkT T id):
 C modE 42 [Qk cb,iV id,.agg (tkV t).toArray] h fun _ g'=> ∃(A:Int->Int) (aa dD:List Nat),(Rep (cF s.S) (nF s.S) N A fun j=>HB T M j N)/\(∀i,0<=A i/\A i<=mkF s.ch i)/\SH h (owns [ckR cb s bs,plR pl pbs]) [ckR cb (Q2S s id t A) aa,plR pl dD] g':=by
 have SE:=S0.enterL;obtain⟨D,hD⟩: ∃D,D=owns [ckR cb s bs,plR pl pbs]:=⟨_,rfl⟩;rw[<-hD]at SE ⊢;obtain⟨w,ow,okw,SE⟩:=Q6Y (B:=[]) SE;have G:=ck_g SE (fun r hr=>v1C _ hr) okw;have PG:=pl_g SE (fun r hr=>v2f _ (v1C _ hr)) HP;have hg:=(G.atl 2 rfl).1;have eh:=(G.atl 2 rfl).2;have hgk:=(G.atl 5 rfl).1;have hgkl:=(G.atl 5 rfl).2;have bC:=(G.atl 6 rfl).1;have nC:=(G.atl 6 rfl).2;have kg:=okw.kg t.mark
 have fl:id∉s.O:=fun hh=>by
  have:=((I.k.o _).1 hh).2.2.2;rw[bU,Y6 ok hk h1]at this;omega
 have mV:=I.ol;have ew:=I.co;have aj: ∀i,i∈D->h0.n<=i:=by rw[hD];exact S0.own0L
 obtain⟨oa,oc,aW⟩:=Q6 (G.at 4 rfl);unfold QdY at hg;rw[aW]at hg
 have hfn: ∀a r,s.R a=some r->1<=r.fn:=fun a r hr=>by
  have R:=I.k.r a r hr;have ho:=(I.k.o a).1 ((I.k.ro a).1 ⟨r,hr⟩);rw[R.fn];exact(I.k.st _ (by omega)).2.1
 obtain⟨fi,jz⟩: ∃fi:Int->Prop,fi=fun a=>QbF s.S s.K (tkT T a) t=true:=⟨_,rfl⟩;refine Q9 (fu:=Tryz.f42) (by kernel_rfl) rfl ?_;have S:=SH.start h;refine Q7 ?_;refine Z9 S gn rfl rfl fun b1 g aJ S=>?_;refine Q0<|QdT<|Q7<|Ic [] rfl rfl (C.mono (k75) ?_);rintro v g ⟨nb,own,rfl,xc,xn,x⟩;have S:SH h [] [Jl nb Q8e own,cR b1 (.cells (tkV t) 85 0)] g:=S.push x xc xc.lt xn (Q88 xc);refine⟨ag0,?_⟩;refine I2 rfl<|Q0 ?_
 refine ZF [(0,Qk cb),(1,iV id),(5,Qk b1),(6,Qk nb)] (fun lv hh=>lv=[]/\SH h [] [Jl nb (orA Q8e (if 0<=t.mark then kF s.K t.mark else none)) own,cR b1 (.cells (tkV t) 85 0)] hh) ?_ fun lv hh hJ=>?_
 · skip
   refine Q5<|I9<|I1 rfl<|I6 rfl<|I0 2 rfl<|I4 rfl (S.old0 hg eh) rfl<|I0 13 rfl<|I4 rfl (S.cel 1 rfl) rfl<|Zv (zv:=.pointer none) Q5p gn rfl rfl rfl (S.old0 hgk hgkl) (by kernel_rfl)<|I2 rfl<|QP ?_;rw[QdG kg];obtain⟨ko,lR⟩: ∃ko,ko=s.K t.mark:=⟨_,rfl⟩;rw[<-lR];refine I0 13 rfl<|I4 rfl (S.cel 1 rfl) rfl<|Ih rfl rfl<|I1 rfl ?_
   refine QY (n:=2) rfl rfl rfl gn rfl (fun hb=>by
    refine D1 hb rfl<|Dq hb rfl rfl ?_
    exact Q0 ⟨rfl,rfl,2,rfl,rfl⟩) ?_
   refine Q0<|Q2 rfl (fun hb=>?_) fun hb=>?_
   · skip
     refine Q3 (by kernel_rfl) ?_
     obtain⟨hm,p,rfl⟩:0<=t.mark/\ ∃p,ko=some p:=by
      cases ko with
      |none=>exact absurd hb (by simp[kpA])
      |some p=>exact⟨by simpa[kpA]using hb,p,rfl⟩
     obtain⟨po,hp⟩:=(PG.ext S.e0) t.mark p lR.symm;refine I1 rfl<|I1 rfl<|Ic [_,_] rfl rfl (C.mono (k43 (S.res 0 rfl) hp.1) ?_);rintro v g ⟨xc,x⟩;have S:=SH.clk S 0 rfl xc x;refine⟨ag0,?_⟩;refine Q0 ?_
     exact Zr [] (p:=⟨rfl,by
      rw[if_pos hm,show kF s.K t.mark=some p.2 from by unfold kF;rw[<-lR];rfl]
      exact S⟩)
   refine Q4 ?_
   exact Zr [] (p:=⟨rfl,by
    have e:(if 0<=t.mark then kF s.K t.mark else none)=none:=by
     by_cases hm:0<=t.mark
     · rw[if_pos hm];unfold kF;rw[<-lR];cases ko with
       |none=>rfl
       |some p=>exact absurd hb (by simp[kpA];omega)
     exact if_neg hm
    rw[e];exact S⟩)
 obtain⟨rfl,S⟩:=hJ;refine ZF [(0,Qk cb),(1,iV id),(5,Qk b1),(6,Qk nb)] (fun lv hh=>lv=[]/\SH h [] [Jl nb (Qbq s t) own,cR b1 (.cells (tkV t) 85 0)] hh) ?_ fun lv hh hJ=>?_
 · skip
   refine Q5<|I9<|I1 rfl<|I6 rfl<|I0 3 rfl<|I4 rfl (S.old0 hg eh) rfl<|I0 14 rfl<|I4 rfl (S.cel 1 rfl) rfl<|Zv (zv:=.pointer none) Q2N gn rfl rfl rfl (S.old0 bC nC) (by kernel_rfl)<|I2 rfl<|QP ?_;rw[Q1Z okw];refine I1 rfl<|Iq rfl rfl<|Q0<|Q2 rfl (fun hb=>?_) fun hb=>?_
   · skip
     refine Q3 (by kernel_rfl) ?_
     have hpO:t.prev∈s.O:=by
      by_cases q:t.prev∈s.O
      · exact q
      rw[Q9u q]at hb;exact absurd hb (by simp)
     obtain⟨r,hR⟩:=(okw.ro t.prev).2 hpO;obtain⟨gr,grl,gc⟩:=G.run hR;rw[Q0I hpO];refine I1 rfl<|I1 rfl<|I6 rfl<|I0 16 rfl<|I4 rfl (S.old0 gr grl) rfl<|Ic [_,_] rfl rfl (C.mono (k43 (S.res 0 rfl) (gc.ext S.e0)) ?_);rintro v g ⟨xc,x⟩;have S:=SH.clk S 0 rfl xc x;refine⟨ag0,?_⟩;refine Q0 ?_
     exact Zr [] (p:=⟨rfl,by
      unfold Qbq;rw[hR]
      exact S⟩)
   refine Q4 ?_
   exact Zr [] (p:=⟨rfl,by
    have e:s.R t.prev=none:=by
     cases q:s.R t.prev with
     |none=>rfl
     |some r=>rw[Q0I ((okw.ro t.prev).1 ⟨r,q⟩)]at hb;exact absurd hb (by simp)
    unfold Qbq;rw[e]
    exact S⟩)
 obtain⟨rfl,S⟩:=hJ;refine Q7 ?_;refine YG S gn rfl fun b2 g bK S=>?_;refine I2 rfl<|Q0<|Q5<|QdW<|Q5<|Qb<|QB [] [(0,_),(1,_),(5,_),(6,_),(9,_)] (fun kk lv hh=> ∃(A:Int->Int) (J:List Int) (JM:MsK Int) (jcl:Nat),lv=[]/\kk=s.O.length -J.length/\J.Nodup/\(∀a,a∈J->a∈s.O)/\Joins s.R fi t.looper s.O (Qbq s t) A J/\JmI JM J/\SH h [] [cR b2 (.map (JM.map (Zp iV)) jcl),Jl nb A own,cR b1 (.cells (tkV t) 85 0)] hh) (n:=s.O.length) ?_ fun kk lv hh hI=>?_
 · exact⟨Qbq s t,[],[],0,rfl,rfl,List.nodup_nil,fun a ha=>(List.not_mem_nil ha).elim,.start,fun a=>rfl,S⟩
 obtain⟨A,J,JM,jcl,rfl,iS,hJn,hJO,hJs,hJM,S⟩:=hI;refine Qb<|Q5<|Q7<|I1 rfl<|I6 rfl<|I0 4 rfl<|I4 rfl (S.old0 hg eh) rfl<|I7 rfl<|I1 rfl<|Q0<|Qb<|QB [(52,_)] [(0,_),(1,_),(5,_),(6,_),(9,_),(50,_),(51,_)] (fun kk lv hh=> ∃i:Nat,lv=[(52,iV i)]/\kk=s.O.length -i/\i<=s.O.length/\(∀(j:Nat) a r,j <i->s.O[j]?=some a->a∉J-> ¬Jn s.R fi t.looper A a r)/\SH h [] [cR b2 (.map (JM.map (Zp iV)) jcl),Jl nb A own,cR b1 (.cells (tkV t) 85 0)] hh) (n:=s.O.length) ?_ fun kk lv hh hI=>?_
 · exact⟨0,rfl,rfl,v0s _,fun j a r hj=>absurd hj (Nat.not_lt_zero j),S⟩
 obtain⟨i,rfl,dA,hi,dY,S⟩:=hI;refine Q7<|Il rfl rfl<|Q0<|Q5<|Q2 rfl (fun hb=>?_) fun hb=>?_
 · skip
   refine Q4 ?_;have hi:i <s.O.length:=by simp at hb;omega
   obtain⟨qb,qm,qc,qr,cy,dV,cM⟩:=(show SlC 3 0 h w.ov (isV s.O) s.O.length w.ob from G.at 4 rfl).at (by omega);rw[aW]at cy;cases cy;obtain⟨a,ha⟩: ∃a,s.O[i]?=some a:=⟨_,v0c hi⟩;have ou:a∈s.O:=v0m ha;obtain⟨r,hR⟩:=(okw.ro a).2 ou;obtain⟨gr,grl,gc⟩:=G.run hR;refine Q5<|Qb<|Q7<|I5o 1 rfl rfl<|I4 rfl (S.old0 dV cM.2.1) (Qam qr ha)<|I2 rfl<|QP<|I1 rfl<|I6 rfl<|I0 3 rfl<|I4 rfl (S.old0 hg eh) rfl<|I1 rfl<|Zv (zv:=.pointer none) Q2N gn rfl rfl rfl (S.old0 bC nC) (by kernel_rfl) ?_
   rw[Q1Z okw,Q0I ou];refine I2 rfl<|Q0<|Q5<|Q5<|I9<|I1 rfl<|I6 rfl<|I0 19 rfl<|I4 rfl (S.old0 gr grl) rfl<|Ib rfl<|I1 rfl ?_
   refine Z4 (n:=4) rfl rfl rfl gn rfl (fun hb=>by
    refine D1 hb rfl<|D1 hb rfl<|Zv (zv:=.agg #[.bool false]) Qf1 (gy rfl rfl rfl hb) rfl rfl rfl (S.cel 0 rfl) (by kernel_rfl) ?_;rw[hJM.get];refine Q9O (v:=.bool (decide (a∈J))) (gy rfl rfl rfl hb) rfl rfl (by kernel_rfl) ?_
    exact Q0 ⟨rfl,rfl,4,rfl,rfl⟩) ?_
   refine I1 rfl ?_
   refine Z4 (n:=3) rfl rfl rfl gn rfl (fun hb=>by
    refine D0 4 hb rfl<|D4 hb rfl (S.cel 2 rfl) rfl<|Dl hb rfl rfl ?_
    exact Q0 ⟨rfl,rfl,3,rfl,rfl⟩) ?_
   refine I1 rfl ?_
   refine Z4 (n:=8) rfl rfl rfl gn rfl (fun hb=>by
    refine D1 hb rfl<|D6 hb rfl<|D0 0 hb rfl<|D0 4 hb rfl<|D4 hb rfl (S.old0 gr grl) rfl<|D0 4 hb rfl<|D4 hb rfl (S.cel 2 rfl) rfl<|Dn hb rfl rfl ?_
    exact Q0 ⟨rfl,rfl,8,rfl,rfl⟩) ?_
   refine Q0<|Q2 rfl (fun hb=>?_) fun hb=>?_
   · skip
     refine QF<|Qh<|QE<|Q3 (by kernel_rfl)<|Iao rfl rfl<|I1 rfl<|Q0 ?_
     exact K3 (s.O.length - (i+1)) [(52,_)] (p:=⟨i+1,rfl,rfl,by omega,fun j a' r' hj kZ hJ=>by
      by_cases q:j=i
      · rw[q,ha]at kZ;cases kZ;rintro⟨j1,j2,j3,j4,_⟩;rw[hR]at j1;cases j1;rw[j2,decide_eq_false hJ,decide_eq_false (show ¬t.looper <0 by omega),decide_eq_true j4]at hb;exact absurd hb (by decide)
      exact dY j a' r' (by omega) kZ hJ,S⟩)
   refine Q4 ?_
   obtain⟨g1,g2,g3,g4⟩:r.over=true/\a∉J/\0<=t.looper/\r.t.looper=t.looper:=by
    simp only[v06,Bool.not_eq_false',decide_eq_false_iff_not,decide_eq_true_eq]at hb;exact⟨hb.1.1.1,hb.1.1.2,by omega,hb.2⟩
   have h1f:=hfn a r hR;have dN:=(I.k.r a r hR).t;have hlc:(a::J).length=J.length+1:=rfl;have lu:(a::J).Nodup:=v0R.2 ⟨g2,hJn⟩;have lx: ∀b,b∈a::J->b∈s.O:=fun b aZ=>(v0r.1 aZ).elim (fun e=>by rw[e];exact ou) (hJO b);have hJl:=Q9S lu lx;refine Q5<|I9<|I1 rfl<|I1 rfl<|I6 rfl<|I0 17 rfl<|I0 0 rfl<|I4 rfl (S.old0 gr grl) rfl<|I1 rfl<|I6 rfl<|I0 17 rfl<|I0 1 rfl<|I4 rfl (S.old0 gr grl) rfl<|Ic [_,_,_] rfl rfl (Ql (k48 (S.res 1 rfl)) ⟨ag0,?_⟩);refine I1 rfl ?_
   refine ZX (dc:=100) rfl (fun bu=>?_) fun bu=>?_
   · skip
     refine ZY (n:=7) (dc:=100) (w:=false) rfl bu rfl<|IT rfl bu rfl<|Q0<|Q2 rfl (fun hb=>?_) fun hb=>?_
     · skip
       refine Q7<|I1 rfl<|I1 rfl<|Qq (zv:=.agg #[.bool false]) (pl:=[(0,1)]) [(0,_)] gn rfl (by kernel_rfl) (by kernel_rfl) rfl (by rfl) ?_;refine QV 0 S Qf1 gn rfl rfl rfl rfl (fun g S=>ag0) fun g S=>?_;refine QP<|I1 rfl<|I1 rfl<|I6 rfl<|I0 16 rfl<|I4 rfl (S.old0 gr grl) rfl<|Ic [_,_] rfl rfl (C.mono (k43 (S.res 1 rfl) (gc.ext S.e0)) ?_);rintro v g ⟨xc,x⟩;have S:=SH.clk S 1 rfl xc x;refine⟨ag0,?_⟩;refine Q0<|QF<|Q5Q (by decide)<|Qh<|Qn<|Q5Q (by decide)<|Qh<|QE ?_
       exact K3 (s.O.length - (a::J).length) [] (p:=⟨_,a::J,_,_,rfl,rfl,lu,lx,hJs.join ou ⟨hR,g1,g3,g4,.inl (by simp at bu;omega)⟩,hJM.put a jcl,S⟩)
     refine Q4<|Q3 (by kernel_rfl)<|Iao rfl rfl<|I1 rfl<|Q0 ?_;exact K3 (s.O.length - (i+1)) [(52,_)] (p:=(absurd hb (by decide)))
   refine D1 bu rfl<|D1 bu rfl<|D6 bu rfl<|D0 0 bu rfl<|Zb (n:=15) (gy rfl rfl rfl bu) rfl rfl (by kernel_rfl) (by kernel_rfl) (S.old0 gr grl) (by show 15<=20;decide)<|D3 15 bu rfl (S.cel 2 rfl) (v0b 15)<|Dc bu [_,_,_] rfl rfl (C.mono (k76 (a:=r.t) (b:=t) (G.ext S.e0) (PG.ext S.e0)) ?_);rintro v g ⟨rfl,x⟩;have S:=S.grow x;refine⟨ag0,?_⟩;refine Iu rfl bu rfl<|Q0<|Q2 rfl (fun hb=>?_) fun hb=>?_
   · skip
     refine Q7<|I1 rfl<|I1 rfl<|Qq (zv:=.agg #[.bool false]) (pl:=[(0,1)]) [(0,_)] gn rfl (by kernel_rfl) (by kernel_rfl) rfl (by rfl) ?_;refine QV 0 S Qf1 gn rfl rfl rfl rfl (fun g S=>ag0) fun g S=>?_;refine QP<|I1 rfl<|I1 rfl<|I6 rfl<|I0 16 rfl<|I4 rfl (S.old0 gr grl) rfl<|Ic [_,_] rfl rfl (C.mono (k43 (S.res 1 rfl) (gc.ext S.e0)) ?_);rintro v g ⟨xc,x⟩;have S:=SH.clk S 1 rfl xc x;refine⟨ag0,?_⟩;refine Q0<|QF<|Q5Q (by decide)<|Qh<|Qn<|Q5Q (by decide)<|Qh<|QE ?_
     exact K3 (s.O.length - (a::J).length) [] (p:=⟨_,a::J,_,_,rfl,rfl,lu,lx,hJs.join ou ⟨hR,g1,g3,g4,.inr (by rw[jz];show QbF _ _ (tkT T a) t=true;rw[<-dN];exact hb)⟩,hJM.put a jcl,S⟩)
   refine Q4<|Q3 (by kernel_rfl)<|Iao rfl rfl<|I1 rfl<|Q0 ?_
   exact K3 (s.O.length - (i+1)) [(52,_)] (p:=⟨i+1,rfl,rfl,by omega,fun j a' r' hj kZ hJ=>by
    by_cases q:j=i
    · rw[q,ha]at kZ;cases kZ;rintro⟨j1,_,_,_,j5⟩;rw[hR]at j1;cases j1;rcases j5 with j5|j5
      · simp at bu;omega
      rw[jz]at j5;have j5:QbF s.S s.K (tkT T a) t=true:=j5;rw[<-dN,hb]at j5;cases j5
    exact dY j a' r' (by omega) kZ hJ,S⟩)
 refine QF<|Qh<|Qn<|QE<|QF<|Q5Q (by decide)<|Qn<|QE<|Q5 ?_;obtain rfl:i=s.O.length:=by simp at hb;omega
 have cU: ∀a r,a∈s.O->a∉J-> ¬Jn s.R fi t.looper A a r:=fun a r ha hJ=>by
  obtain⟨j,hj,e⟩:=List.mem_iff_getElem.1 ha;exact dY j a r hj (by rw[v0c hj,e]) hJ
 obtain⟨fg,hbd⟩:(Rep (cF s.S) (nF s.S) N A fun j=>HB T M j N)/\ ∀i,0<=A i/\A i<=mkF s.ch i:=by
  subst bU;subst ht;subst jz;exact QfM ok I hk h1 hJs cU
 have S:SH h D ([cR b2 (.map (JM.map (Zp iV)) jcl),Jl nb A own,cR b1 (.cells (tkV t) 85 0)]++(ckL cb s w++(plL pl ow++[]))) hh:=SH.retL (A:=[]) SE S;have S:SH h D (cR w.hb (.cells [w.cv] 171 0)::slR 174 1 w.cv (chC s.ch) s.ch.length w.cb::Jl nb A own::cR b1 (.cells (tkV t) 85 0)::cR b2 (.map (JM.map (Zp iV)) jcl)::_) hh:=SH.prm S prm5;refine Yq [(0,[]),(1,[]),(2,[]),(3,[]),(4,[]),(5,[]),(6,[]),(7,[]),(8,[]),(9,[]),(10,[]),(12,[]),(11,[3,5]),(13,[]),(14,[]),(15,[])] (by kernel_rfl) (by kernel_rfl) (by kernel_rfl) (by kernel_rfl)<|I1 rfl<|I6 rfl<|I0 3 rfl<|I4 rfl (S.cel 5 rfl) rfl ?_
 refine I1 rfl<|I3 15 rfl (S.cel 3 rfl) (v0b _)<|I1 rfl<|I6 rfl<|I0 0 rfl<|I4 rfl (S.cel 5 rfl) rfl<|I1 rfl<|I1 rfl<|Ic [_,_] rfl rfl (C.mono (k77 (SH.subL S0 aj S) (by omega)) ?_);rintro v g ⟨ku,cb',rfl,S2⟩;have S:=SH.retL S S2;refine⟨(ag1 (ZO gn rfl (by kernel_rfl) (S.cel 5 rfl) rfl rfl (by simp[sameV])) (ag1 (Q1H (n:=15) gn rfl (by kernel_rfl) (by kernel_rfl) (S.cel 3 rfl) (v0b _) rfl (Qe1 t)) ag0)),?_⟩
 refine Qq (cs:=(rnV ⟨t,(ZC s.ch A:Nat),A,0,0,false⟩ nb).toArray) (zv:=.agg #[iV 0,iV 0,iV 0,iV 0,iV 0,iV 0,iV 0,.bool false,iV 0,iV 0,iV 0,iV 0,iV 0,iV 0,iV 0,iV 0,.pointer none,iV 0,iV 0,.bool false]) (pl:=[(0,15),(15,1),(16,1),(17,2),(19,1)]) [(0,_),(1,_),(2,_)] gn rfl (by kernel_rfl) (by kernel_rfl) rfl (by kernel_rfl) ?_;refine Z9 S gn rfl rfl fun b3 g fV S=>?_;refine QV 10 S Q2N gn rfl rfl rfl rfl (fun g S=>ag0) fun g S=>?_;refine Q0<|Q3 (by kernel_rfl)<|I1 rfl<|I1 rfl<|I6 rfl<|I0 4 rfl<|I4 rfl (S.cel 6 rfl) rfl<|I1 rfl ?_
 refine Qc (e:=3) (z:=0) (zv:=.int .i64 0) [(0,_)] S gn rfl (by kernel_rfl) (by kernel_rfl) (by kernel_rfl) (by kernel_rfl) rfl (by rfl) fun b4 g jL S=>?_;refine QM (e:=3) (z:=0) (by':=7) 9 0 S elO gn rfl rfl rfl rfl rfl rfl (by rfl) (by omega) (fun s' aa g S=>ag0) fun s' aa g S=>?_;refine I6 rfl<|I0 4 rfl ?_;refine Qg 7 S gn rfl rfl (S.sl 9 rfl).cellV (by kernel_rfl) rfl (by decide) (by simp) (fun g S=>ag0) fun g S=>?_;refine Q0 ?_;refine⟨.inr rfl,_,rfl,?_⟩
 exact(by
  have eO:isV (s.O++[id])=isV s.O++[iV id]:=v0G;have eL:(s.O++[id]).length=s.O.length+1:=v0j;have S:=QfL (Xo:=slR 3 0 s' (isV (s.O++[id])) (s.O++[id]).length aa) (run:=cR b3 (.cells (rnV ⟨t,(ZC s.ch A:Nat),A,0,0,false⟩ nb) 132 0)) (Rs:=s.O.map (Q4B s w)) (Ns:=s.O.map (Q5a s w)) (by rw[eO,eL];exact S.drop);have e:=Qbw (w:=w) (rb:=b3) (nb:=nb) (no:=own) (cv:=ku) (ov:=s') (cb':=cb') (ob:=aa) (t:=t) (A:=A) fl;rw[<-e.1,<-e.2]at S
  obtain⟨bz,fU,S⟩:=Q4r (w:=addW w id b3 nb own ku s' cb' aa) (B:=[]) (S:SH h D (ckL cb (Q2S s id t A) (addW w id b3 nb own ku s' cb' aa)++(plL pl ow++[])) _) (QfV okw fl)
  exact⟨A,bz,fU,fg,hbd,S⟩)
end
structure MayI (s:CkS) (n:Nat) (x:MMark):Prop where
 t:1<=x.task/\x.task<=n
 b:x.kind=1↔x.task∉s.O
 ov: ∀r,s.R x.task=some r->r.over=false
 o45:x.kind=4\/x.kind=5->1<=x.other/\x.other<=n
 o6:x.kind=6->(1<=x.other/\x.other<=n)/\ ∃r,s.R x.other=some r/\r.over=true
 k:1<=x.kind/\x.kind<=7
def ovB (s:CkS) (a:Int):Bool:=match s.R a with
 |some r=>r.over
 |none=>false
section
variable {h h' h0:Hp} {cb b:Nat} {s:CkS} {w:CkW}
theorem CkG.ov (G:CkG h cb s w) {a:Int} (ho:a∈s.O):h.get (w.rb a)=some (.cells (rnO (s.R a) (w.nb a)) 132 0)/\w.rb a <h.n/\(rnO (s.R a) (w.nb a))[19]?=some (.bool (ovB s a)):=by
 obtain⟨r,hr⟩:=(G.ok.ro a).2 ho;obtain⟨g1,g2,_⟩:=G.run hr;unfold ovB;rw[hr];exact⟨g1,g2,rfl⟩
theorem rp_is {a:Int}:(rpA s w a).isSome=decide (a∈s.O):=by
 by_cases h:a∈s.O
 · rw[Q0I h,decide_eq_true h];rfl
 rw[Q9u h,decide_eq_false h];rfl
theorem rp_mem {a:Int} (e:(rpA s w a).isSome=true):a∈s.O:=by rw[rp_is]at e;exact of_decide_eq_true e
theorem k74 {a:Option Addr} {n c:Nat} {i:Int} (hg:h.get b=some (.cells [.slice a n c] 40 0)):CP modE 74 [iV i,Qk b] h (.bool (decide (1<=i)&&decide (i<=n))):=by
 refine Q9 (fu:=Tryz.f74) (by kernel_rfl) rfl ?_;have S:=SH.start h;refine Q7<|I2 rfl<|QP<|I1 rfl<|Ih rfl rfl<|I1 rfl ?_
 refine QY (n:=4) rfl rfl rfl gn rfl (fun hb=>by
  refine D1 hb rfl<|D4 hb rfl hg rfl<|D7 hb rfl<|Dm hb rfl rfl ?_
  exact Q0 ⟨rfl,rfl,4,rfl,rfl⟩) ?_
 refine I2 rfl<|Q0<|Q8 ⟨.inl rfl,_,rfl,⟨rfl,rfl⟩⟩
theorem k41 {x:MMark} {ta:Option Addr} {n tc:Nat} (G:CkG h cb s w) (X:MayI s n x):C modE 41 [Qk cb,.agg (mkV x).toArray,.slice ta n tc] h fun v g'=>v=.bool true/\Ext h g':=by
 have hg:=(G.atl 2 rfl).1;have eh:=(G.atl 2 rfl).2;have hr:=(G.atl 6 rfl).1;have bm:=(G.atl 6 rfl).2;have okw:=G.ok;refine Q9 (fu:=Tryz.f41) (by kernel_rfl) rfl ?_;have S:=SH.start h;refine Q7 ?_;refine Z9 S gn rfl rfl fun b1 g aJ S=>?_;refine Z9 S gn rfl rfl fun b2 g bK S=>?_;refine I2 rfl<|QP<|JG gn rfl rfl<|I2 rfl<|Q0<|Q5<|I9<|I1 rfl<|I6 rfl<|I0 3 rfl<|I4 rfl (S.old0 hg eh) rfl<|I0 1 rfl<|I4 rfl (S.cel 1 rfl) rfl<|Zv (zv:=.pointer none) Q2N gn rfl rfl rfl (S.old0 hr bm) (by kernel_rfl) ?_;rw[Q1Z okw];refine I2 rfl ?_
 refine Q0<|Q5<|Qb<|Q7<|I1 rfl<|I0 1 rfl<|I4 rfl (S.cel 1 rfl) rfl<|Ic [_] rfl rfl (Ql (k74 (S.cel 0 rfl)) ⟨ag0,?_⟩);refine Ib rfl<|I1 rfl ?_
 refine Z4 (n:=6) rfl rfl rfl gn rfl (fun hb=>by
  refine D1 hb rfl<|Dp hb rfl rfl<|D0 0 hb rfl<|D4 hb rfl (S.cel 1 rfl) rfl<|De hb rfl rfl<|o_neb (gy rfl rfl rfl hb) rfl rfl rfl (by kernel_rfl) ?_
  exact Q0 ⟨rfl,rfl,6,rfl,rfl⟩) ?_
 refine I1 rfl ?_
 refine Z4 (n:=8) rfl rfl rfl gn rfl (fun hb=>by
  refine D1 hb rfl<|Dq hb rfl rfl<|D1 hb rfl ?_
  refine QY (n:=4) rfl rfl rfl (gy rfl rfl rfl hb) rfl (fun hb=>by
   have hO:=rp_mem hb;have gv:=G.ov hO;rw[Q0I hO]at hb ⊢;refine D1 hb rfl<|D6 hb rfl<|D0 19 hb rfl<|D4 hb rfl (S.old0 gv.1 gv.2.1) gv.2.2 ?_;rw[<-Q0I (w:=w) hO]
   exact Q0 ⟨rfl,rfl,4,rfl,rfl⟩) ?_
  exact Q0 ⟨rfl,rfl,4,rfl,rfl⟩) ?_
 refine I2 rfl<|Q0<|Q2 rfl (fun hb=>?_) fun hb=>?_
 · skip
   refine Q7 ?_
   exact absurd hb (by
    have e:((rpA s w x.task).isSome&&ovB s x.task)=false:=by
     unfold ovB;cases q:s.R x.task with
     |none=>simp
     |some r=>rw[show(match some r with|some r=>r.over|none=>false)=r.over from rfl,X.ov r q];simp
    have e2:decide (1<=x.task)=true:=decide_eq_true X.t.1;have e3:decide (x.task<=n)=true:=decide_eq_true X.t.2
    have e4:(rpA s w x.task).isNone=decide (x.kind=1):=by
     by_cases q:x.kind=1
     · rw[decide_eq_true q,Q9u (X.b.1 q)];rfl
     rw[decide_eq_false q,Q0I (Classical.byContradiction fun y=>q (X.b.2 y))];rfl
    rw[e,e2,e3,e4]at hb
    simp at hb)
 refine Q7<|I0 0 rfl<|I4 rfl (S.cel 1 rfl) rfl<|Ie rfl rfl<|I1 rfl ?_
 refine Z4 (n:=3) rfl rfl rfl gn rfl (fun hb=>by
  refine D0 0 hb rfl<|D4 hb rfl (S.cel 1 rfl) rfl<|De hb rfl rfl ?_
  exact Q0 ⟨rfl,rfl,3,rfl,rfl⟩) ?_
 refine I2 rfl<|Q0<|Q2 rfl (fun hb=>?_) fun hb=>?_
 · skip
   refine Q7<|I1 rfl<|I0 2 rfl<|I4 rfl (S.cel 1 rfl) rfl<|Ic [_] rfl rfl (Ql (k74 (S.cel 0 rfl)) ⟨ag0,?_⟩);refine I2 rfl<|Q0<|Q8 ?_;refine⟨.inl rfl,_,rfl,?_⟩
   exact⟨by
    have:=X.o45 (by simpa using hb)
    rw[decide_eq_true this.1,decide_eq_true this.2];rfl,S.e0⟩
 refine Q7<|I0 0 rfl<|I4 rfl (S.cel 1 rfl) rfl<|Ie rfl rfl<|I2 rfl<|Q0<|Q2 rfl (fun hb=>?_) fun hb=>?_
 · skip
   have hb6:=hb;refine Q5<|I9<|I1 rfl<|I0 2 rfl<|I4 rfl (S.cel 1 rfl) rfl<|Ic [_] rfl rfl (Ql (k74 (S.cel 0 rfl)) ⟨ag0,?_⟩);refine I1 rfl ?_
   refine QY (n:=8) rfl rfl rfl gn rfl (fun hb=>by
    refine D1 hb rfl<|D6 hb rfl<|D0 3 hb rfl<|D4 hb rfl (S.old0 hg eh) rfl<|D0 2 hb rfl<|D4 hb rfl (S.cel 1 rfl) rfl<|Zv (zv:=.pointer none) Q2N (gy rfl rfl rfl hb) rfl rfl rfl (S.old0 hr bm) (by kernel_rfl) ?_;rw[Q1Z okw];refine Dq hb rfl rfl ?_
    exact Q0 ⟨rfl,rfl,8,rfl,rfl⟩) ?_
   refine I1 rfl ?_
   skip
   refine QY (n:=10) rfl rfl rfl gn rfl (fun hb=>by
    refine D1 hb rfl<|D6 hb rfl<|D0 3 hb rfl<|D4 hb rfl (S.old0 hg eh) rfl<|D0 2 hb rfl<|D4 hb rfl (S.cel 1 rfl) rfl<|Zv (zv:=.pointer none) Q2N (gy rfl rfl rfl hb) rfl rfl rfl (S.old0 hr bm) (by kernel_rfl) ?_;have hO:x.other∈s.O:=(okw.ro _).1 ((X.o6 (by simpa using hb6)).2.imp fun r h=>h.1);have gv:=G.ov hO;rw[Q1Z okw,Q0I hO];rw[Q0I hO]at hb;refine D6 hb rfl<|D0 19 hb rfl<|D4 hb rfl (S.old0 gv.1 gv.2.1) gv.2.2 ?_;rw[<-Q0I (w:=w) hO]
    exact Q0 ⟨rfl,rfl,10,rfl,rfl⟩) ?_
   refine I2 rfl<|Q0<|Q8 ?_;refine⟨.inl rfl,_,rfl,?_⟩
   exact⟨by
    obtain⟨q1,r,q2,q3⟩:=X.o6 (by simpa using hb6);have hO:x.other∈s.O:=(okw.ro _).1 ⟨r,q2⟩;rw[decide_eq_true q1.1,decide_eq_true q1.2,Q0I hO];unfold ovB;rw[q2];show Value.bool r.over=_
    rw[q3],S.e0⟩
 refine Q4<|Q7<|I0 0 rfl<|I4 rfl (S.cel 1 rfl) rfl<|Ih rfl rfl<|I1 rfl ?_
 refine QY (n:=3) rfl rfl rfl gn rfl (fun hb=>by
  refine D0 0 hb rfl<|D4 hb rfl (S.cel 1 rfl) rfl<|Dm hb rfl rfl ?_
  exact Q0 ⟨rfl,rfl,3,rfl,rfl⟩) ?_
 refine I2 rfl<|Q0<|Q8 ⟨.inl rfl,_,rfl,⟨by rw[decide_eq_true X.k.1,decide_eq_true X.k.2];rfl,S.e0⟩⟩
end
def QbE (s:CkS) (x:MMark) (A:Int->Int) (o:Int×Int×Bool):Bool:=(!decide (o.2.1=x.task)&&(o.2.2||x.acc.write))&& !(decide (nF s.S o.1.toNat <1)||decide (nF s.S o.1.toNat<=A (cF s.S o.1.toNat)))
def QbD (s:CkS) (x:MMark) (A:Int->Int) (i:Nat):List Int:=(((s.L (Y7 x)).take i).filter (QbE s x A)).map (·.1)
def Qel (s:CkS) (x:MMark) (A:Int->Int):List Int:=((s.L (Y7 x)).filter (QbE s x A)).map (·.1)
def Qgb (s:CkS) (x:MMark) (m:Nat):CkS:= {s with L:=upK s.L (Y7 x) (s.L (Y7 x)++[((m:Int),x.task,x.acc.write)])}
section
variable {h h' h0:Hp} {cb:Nat} {s:CkS} {w:CkW} {x:MMark} {A:Int->Int}
theorem Q24 {i:Nat} {o:Int×Int×Bool} (h:(s.L (Y7 x))[i]?=some o):QbD s x A (i+1)=if QbE s x A o=true then QbD s x A i++[o.1]else QbD s x A i:=by
 unfold QbD;rw[List.take_add_one,h,Option.toList_some,List.filter_append,List.filter_cons]
 split
 · simp
 simp
theorem Qc8:QbD s x A (s.L (Y7 x)).length=Qel s x A:=by unfold QbD Qel;rw[List.take_length]
theorem Qc7 {i:Nat}:(QbD s x A i).length<=(s.L (Y7 x)).length:=by
 unfold QbD;rw[v0v];exact Nat.le_trans (List.length_filter_le _ _) (by rw[List.length_take];omega)
theorem QdL (G:CkG h cb s w) (q:Q1n):SlC 137 2 h ((Jt w.LM q).getD (.slice none 0 0)) (toC (s.L q)) (s.L q).length (if q∈w.ks then w.lb q else[]):=by
 rw[G.ok.lm.g];by_cases hq:q∈w.ks
 · rw[if_pos hq,if_pos hq]
   have:=G.hold (mlF 137 2 w.lv (fun q=>toC (s.L q)) (fun q=>(s.L q).length) w.lb q) (by
    unfold ckL ckT;simp only[v0r,v0x];right;right;right;right;right;right;right;right;right;right
    exact v1b hq)
   exact this.1
 rw[if_neg hq,if_neg hq,G.ok.lz q hq];exact .inl ⟨rfl,rfl,rfl,rfl⟩
theorem to_at {l:List (Int×Int×Bool)} {i:Nat} {o:Int×Int×Bool} (r:List Value) (h:l[i]?=some o):((toC l++r).drop (0+i*3)).take 3=toV o:=by
 rw[v0e];exact Q6N toV 3 (fun _=>rfl) r l i o h
theorem Qe0 (l:List (Int×Int×Bool)) (p:Int×Int×Bool):toC (l++[p])=toC l++toV p:=by simp[toC]
theorem Qdf {ds:List Nat} {r b X1 X2 Xt Xs Xo Xk Xr Xl:Res} {Rs Ns Ls:List Res} (S:SH h0 ds (r::b::X1::X2::Xt::Xs::Xo::Xk::Xr::Xl::(Rs++(Ns++Ls))) h):SH h0 ds (Xl::(Ls++(r::b::X1::X2::Xt::Xs::Xo::Xk::Xr::(Rs++Ns)))) h:=SH.prm S (QC fun d y=>by
 simp only[v0P,v04];omega)
theorem Qdg {ds:List Nat} {r b X1 X2 Xt Xs Xo Xk Xr Xl:Res} {Rs Ns Ls:List Res} (S:SH h0 ds (Xl::(Ls++(r::b::X1::X2::Xt::Xs::Xo::Xk::Xr::(Rs++Ns)))) h):SH h0 ds (r::X1::X2::Xt::Xs::Xo::Xk::Xr::Xl::(Rs++(Ns++Ls))) h:=S.sub (B:=[b]) (QC fun d y=>by
 simp only[v0P,v04,v00];omega)
theorem k47 (S0:SH h0 [] (ckL cb s w) h) (okw:OkW s w) {m:Nat} {r:ORn} {a:Int} (hR:s.R a=some r) (hL: ∀o,o∈s.L (Y7 x)->0<=o.1/\o.1 <s.S.length) (hn:(s.L (Y7 x)).length<=100000):
 C modE 47 [Qk cb,iV m,.agg (mkV x).toArray,.func (.func 48) #[Qk (w.nb a)] #[]] h fun v g'=> ∃(w':CkW) (aa:List Nat),OkW (Qgb s x m) w'/\SH h (owns (ckL cb s w)) (slR 3 0 v (isV (Qel s x r.A)) (Qel s x r.A).length aa::ckL cb (Qgb s x m) w') g':=by
 have SE:=S0.enterL;obtain⟨D,hD⟩: ∃D,D=owns (ckL cb s w):=⟨_,rfl⟩;rw[<-hD]at SE ⊢;obtain⟨sa,sc,dw⟩:=Q6 (SE.sl 3 rfl);obtain⟨va,vc,hV⟩:=Q6 (QdL (ck_g SE (fun r hr=>hr) okw) (Y7 x));obtain⟨n,jY⟩: ∃n,n=(s.L (Y7 x)).length:=⟨_,rfl⟩;rw[<-jY]at hV hn;refine Q9 (fu:=Tryz.f47) (by kernel_rfl) rfl ?_;have S:=SE;refine Q7 ?_;refine Z9 S gn rfl rfl fun b1 g aJ S=>?_;refine I2 rfl<|Q0<|Q5<|Q5<|I9<|I1 rfl<|I6 rfl<|I0 5 rfl<|I4 rfl (S.cel 3 rfl) rfl<|I0 3 rfl<|I0 1 rfl ?_
 refine Zb (n:=3) gn rfl rfl (by kernel_rfl) (by kernel_rfl) (S.cel 0 rfl) (by show 7<=8;decide)<|Zv (k:=Y7 x) (zv:=.slice none 0 0) Q41 gn rfl rfl rfl (S.cel 8 rfl) (by kernel_rfl) ?_;rw[hV];refine I7 rfl<|I1 rfl<|Q0<|Qb<|QB [(8,_),(21,_)] [(0,_),(1,_),(3,_),(6,_),(19,_),(20,_)] (fun kk lv hh=> ∃(i:Nat) (l:Value) (bs:List Nat),lv=[(8,l),(21,iV i)]/\kk=n -i/\i<=n/\SH h D (slR 3 0 l (isV (QbD s x r.A i)) (QbD s x r.A i).length bs::cR b1 (.cells (mkV x) 68 0)::ckL cb s w) hh) (n:=n) ?_ fun kk lv hh hI=>?_
 · exact⟨0,_,[],rfl,rfl,v0s _,S.nilSl 3 0⟩
 obtain⟨i,l,bs,rfl,hk,hi,S⟩:=hI;refine Q7<|Il rfl rfl<|Q0<|Q5<|Q2 rfl (fun hb=>?_) fun hb=>?_
 · skip
   refine Q4 ?_;have hi:i <n:=by simpa using hb
   have G1:=ck_g S (fun r hr=>v0S _ (v0S _ hr)) okw;obtain⟨qb,qm,qc,qr,cy,dV,_⟩:=(QdL G1 (Y7 x)).at (by omega);rw[hV,<-jY]at cy;cases cy;obtain⟨o,ho⟩: ∃o,(s.L (Y7 x))[i]?=some o:=⟨_,v0c (by omega)⟩;obtain⟨o0,o1⟩:=hL o (v0m ho);have hot:=to_at qr ho;have bm:=Qc7 (s:=s) (x:=x) (A:=r.A) (i:=i);rw[<-jY]at bm;refine Q5<|Qb<|Q7<|I5o 3 rfl rfl<|Zb (n:=3) gn rfl rfl (by kernel_rfl) (by kernel_rfl) dV (by rw[v0j,QdZ,v0i];omega) ?_;rw[v0i,hot]
   refine Qx (zv:=.agg #[iV 0,iV 0,.bool false]) S gn rfl (by kernel_rfl) fun b2 g bK S=>?_;refine Qi (n:=3) 0 S gn rfl rfl (by kernel_rfl) (by kernel_rfl) rfl rfl (by decide) rfl (fun g S=>ag0) fun g S=>?_;refine Q0<|Q5<|I9<|I1 rfl<|I6 rfl<|I0 1 rfl<|I4 rfl (S.cel 5 rfl) rfl ?_;rw[dw];obtain⟨pb,pm,pc,pr,fY,jo,_⟩:=(S.sl 6 rfl).at (by omega);have mF:=dw;rw[fY]at mF;have av:=Qdn (S:=s.S) pr (j:=o.1.toNat) (by omega);cases mF;refine I0 0 rfl<|I4 rfl (S.cel 0 rfl) rfl<|I5o 2 rfl rfl ?_
   refine Zb (n:=2) gn rfl rfl (by kernel_rfl) (by kernel_rfl) jo (by rw[v0j,Q9g];omega) ?_;rw[av];refine Qx (zv:=.agg #[iV 0,iV 0]) S gn rfl (by kernel_rfl) fun b3 g fV S=>?_;refine Qi (n:=2) 0 S gn rfl rfl (by kernel_rfl) (by kernel_rfl) rfl rfl (by decide) rfl (fun g S=>ag0) fun g S=>?_;refine QP<|I0 1 rfl<|I4 rfl (S.cel 1 rfl) rfl<|I0 1 rfl<|I4 rfl (S.cel 3 rfl) rfl<|In rfl rfl<|I1 rfl ?_
   refine QY (n:=7) rfl rfl rfl gn rfl (fun hb=>by
    refine D0 2 hb rfl<|D4 hb rfl (S.cel 1 rfl) rfl<|D1 hb rfl ?_
    refine Z4 (n:=3) rfl rfl rfl (gy rfl rfl rfl hb) rfl (fun hb=>by
     refine D0 3 hb rfl<|D0 4 hb rfl<|D4 hb rfl (S.cel 3 rfl) rfl ?_
     exact Q0 ⟨rfl,rfl,3,rfl,rfl⟩) ?_
    exact Q0 ⟨rfl,rfl,4,rfl,rfl⟩) ?_
   refine I1 rfl<|ZX (dc:=47) rfl (fun cj=>?_) fun cj=>?_
   · skip
     refine D1 cj rfl<|D0 0 cj rfl<|D4 cj rfl (S.cel 0 rfl) rfl<|D0 1 cj rfl<|D4 cj rfl (S.cel 0 rfl) rfl ?_;have G2:=ck_g S (fun r hr=>v0S _ (v0S _ (v0S _ (v0S _ hr)))) okw;refine Dc cj [_,_] rfl rfl (Ql (k48 (G2.run hR).2.2) ⟨ag0,?_⟩);refine Db cj rfl<|IT rfl cj rfl<|Q0<|Q2 rfl (fun hb=>?_) fun hb=>?_
     · skip
       refine Q3 (by kernel_rfl)<|I1 rfl<|I0 0 rfl<|I4 rfl (S.cel 1 rfl) rfl ?_;refine Qc (e:=3) (z:=0) (zv:=.int .i64 0) [(0,_)] S gn rfl (by kernel_rfl) (by kernel_rfl) (by kernel_rfl) (by kernel_rfl) rfl (by rfl) fun b4 g jL S=>?_;refine QM (e:=3) (z:=0) (by':=7) 3 0 S elO gn rfl rfl rfl rfl rfl rfl (by rfl) (by omega) (fun s' aa g S=>ag0) fun s' aa g S=>?_;refine I2 rfl<|Q0<|Q3 (by kernel_rfl)<|Iao rfl rfl<|I1 rfl<|Q0 ?_
       exact K3 (n - (i+1)) [(8,_),(21,_)] (p:=⟨i+1,s',aa,rfl,rfl,by omega,by
        have hh:QbE s x r.A o=true:=by unfold QbE;rw[cj];exact hb
        rw[Q24 ho,if_pos hh,Q0Y,v0j];exact S.drop.drop.drop⟩)
     refine Q4<|Q3 (by kernel_rfl)<|Iao rfl rfl<|I1 rfl<|Q0 ?_
     exact K3 (n - (i+1)) [(8,_),(21,_)] (p:=⟨i+1,l,bs,rfl,rfl,by omega,by
      have hh:QbE s x r.A o=false:=by unfold QbE;rw[cj];exact hb
      rw[Q24 ho,if_neg (by rw[hh];decide)];exact S.drop.drop⟩)
   refine ZY (n:=7) (dc:=47) (w:=true) rfl cj rfl<|Iu rfl cj rfl<|Q0<|Q2 rfl (fun hb=>?_) fun hb=>?_
   · skip
     exact absurd hb (by decide)
   refine Q4<|Q3 (by kernel_rfl)<|Iao rfl rfl<|I1 rfl<|Q0 ?_
   exact K3 (n - (i+1)) [(8,_),(21,_)] (p:=⟨i+1,l,bs,rfl,rfl,by omega,by
    have hh:QbE s x r.A o=false:=by unfold QbE;rw[cj];rfl
    rw[Q24 ho,if_neg (by rw[hh];decide)];exact S.drop.drop⟩)
 refine QF<|Qh<|Qn<|QE<|Q5 ?_;obtain rfl:i=n:=by simp at hb;omega
 rw[jY,Qc8]at S;refine Yq [(0,[]),(1,[]),(2,[]),(3,[]),(4,[]),(5,[]),(6,[]),(7,[]),(8,[]),(9,[]),(10,[]),(11,[]),(12,[]),(13,[]),(14,[]),(15,[]),(16,[]),(18,[]),(17,[]),(19,[])] (by kernel_rfl) (by kernel_rfl) (by kernel_rfl) (by kernel_rfl)<|I1 rfl<|I6 rfl<|I0 5 rfl<|I4 rfl (S.cel 4 rfl) rfl<|I0 3 rfl<|I0 1 rfl<|Zb (n:=3) gn rfl rfl (by kernel_rfl) (by kernel_rfl) (S.cel 1 rfl) (by show 7<=8;decide)<|I1 rfl<|I0 1 rfl<|I4 rfl (S.cel 1 rfl) rfl<|I0 3 rfl<|I0 4 rfl<|I4 rfl (S.cel 1 rfl) rfl ?_
 refine Qq (cs:= #[iV m,iV x.task,.bool x.acc.write]) (zv:=.agg #[iV 0,iV 0,.bool false]) (pl:=[(0,1),(1,1),(2,1)]) [(0,_),(1,_),(2,_)] gn rfl (by kernel_rfl) (by kernel_rfl) rfl (by kernel_rfl) ?_;have S1:=Qdf S;obtain⟨v0,b0,Y,jN,S,back⟩:=QeI S1 okw.lm (fun q hq=>by rw[okw.lz q hq];exact⟨rfl,rfl⟩) (Y7 x);refine Qc (cs:= #[iV m,iV x.task,.bool x.acc.write]) (e:=137) (z:=2) (zv:=.agg #[iV 0,iV 0,.bool false]) [(0,_)] S gn rfl (by kernel_rfl) (by kernel_rfl) (by kernel_rfl) (by kernel_rfl) rfl (by kernel_rfl) fun b6 g nb6 S=>?_
 refine Q6i (k:=Y7 x) (zv:=.slice none 0 0) 2 S Q41 gn rfl rfl rfl (by kernel_rfl) rfl (fun g S=>ag0) fun g S=>?_;refine Ix rfl rfl ?_;rw[Q92,<-jN];refine Ix rfl rfl ?_;refine QM (e:=137) (z:=2) (by':=23) 1 0 S el137 gn rfl rfl rfl rfl rfl rfl (by rfl) (by omega) (fun s' aa g S=>ag0) fun s' aa g S=>?_;refine Q3D (k:=Y7 x) (zv:=.slice none 0 0) 2 S okw.lm.ok gn rfl rfl rfl rfl (fun g S=>ag0) fun g S=>?_;refine QP<|I1 rfl<|I2 rfl<|Q0<|Q8 ?_;refine⟨.inl rfl,_,rfl,?_⟩
 exact(by
  have S2:=back _ _ _ _ _ _ _ _ _ S.drop
  have e1:upK (fun q=>toC (s.L q)) (Y7 x) (toC (s.L (Y7 x))++toV ((m:Int),x.task,x.acc.write))=fun q=>toC ((Qgb s x m).L q):=funext fun q=>by
   show _=toC (upK s.L _ _ q);by_cases e:q=Y7 x
   · subst e;rw[Zz,Zz,Qe0]
   rw[Z1 e,Z1 e]
  have e2:upK (fun q=>(s.L q).length) (Y7 x) ((s.L (Y7 x)).length+1)=fun q=>((Qgb s x m).L q).length:=funext fun q=>by
   show _=(upK s.L _ _ q).length;by_cases e:q=Y7 x
   · subst e;rw[Zz,Zz,v0j];rfl
   rw[Z1 e,Z1 e]
  have S3:SH h D (cR w.lr _::((Qaw w.ks (Y7 x)).map (mlF 137 2 (upK w.lv (Y7 x) s') (upK (fun q=>toC (s.L q)) (Y7 x) (toC (s.L (Y7 x))++toV ((m:Int),x.task,x.acc.write))) (upK (fun q=>(s.L q).length) (Y7 x) ((s.L (Y7 x)).length+1)) (upK w.lb (Y7 x) aa))++_)) _:=S2;rw[e1,e2]at S3;refine⟨{w with LM:=(J7 w.LM (Y7 x) s' w.lcl).1,lcl:=(J7 w.LM (Y7 x) s' w.lcl).2,ks:=Qaw w.ks (Y7 x),lv:=upK w.lv (Y7 x) s',lb:=upK w.lb (Y7 x) aa},bs,⟨okw.km,okw.kg,okw.rm,okw.rg,okw.ro,okw.lm.put _ _,fun q hq=>?_⟩,Qdg S3⟩;have hq2:q∉Qaw w.ks (Y7 x):=hq;rw[Q3W]at hq2;show upK s.L _ _ q=[];rw[Z1 fun e=>hq2 (.inr e)]
  exact okw.lz q fun e=>hq2 (.inl e))
end
def tkS (s:CkS) (x:MMark) (c:List (Int×Bool)) (p:Int×Int) (r':ORn):CkS:=⟨c,s.S++[p],s.K,s.O,Qy s.R x.task (some r'),s.L,x.task⟩
def Q37 (s:CkS) (x:MMark) (r:ORn) (A1:Int->Int):CkS:=tkS s x (s.ch.set r.ch.toNat (mkF s.ch r.ch+1,opF s.ch r.ch)) (r.ch,mkF s.ch r.ch+1) {r with A:=Qy A1 r.ch (mkF s.ch r.ch+1)}
def ckB (t:MTask) (c:List (Int×Bool)) (A:Int->Int):ORn:=⟨t,(ZC c A:Nat),A,0,0,false⟩
def Q4A (T:List MTask) (M:List MMark) (N:Nat) (s s':CkS) (rs:List Int):Prop:= ∃(s1:CkS) (r:ORn) (A1:Int->Int) (kb:Nat),s'=Z3 s1 (mkI M (N:Int)) r A1 kb/\
 (((mkI M (N:Int)).kind≠1/\s1=s/\s.R (mkI M (N:Int)).task=some r/\r.over=false/\(((mkI M (N:Int)).kind≠6/\A1=r.A)\/((mkI M (N:Int)).kind=6/\ ∃r2,s.R (mkI M (N:Int)).other=some r2/\r2.over=true/\A1=fun k=>max (r.A k) (r2.A k))))\/
  ((mkI M (N:Int)).kind=1/\ ∃A,(Rep (cF s.S) (nF s.S) N A fun j=>HB T M j N)/\(∀i,0<=A i/\A i<=mkF s.ch i)/\s1=Q2S s (mkI M (N:Int)).task (tkT T (mkI M (N:Int)).task) A/\r=ckB (tkT T (mkI M (N:Int)).task) s.ch A/\A1=A))/\
 rs=if(mkI M (N:Int)).kind=3 then Qel (Q37 s1 (mkI M (N:Int)) r A1) (mkI M (N:Int)) (Qy A1 r.ch (mkF s1.ch r.ch+1))else[]
section
variable {h h' h0:Hp} {ds:List Nat} {cb:Nat} {s:CkS} {w:CkW} {x:MMark} {r:ORn} {A1:Int->Int} {kb:Nat}
theorem Q9c (hk:x.kind=1) (ho:r.over=false):Z3 s x r A1 kb=tkS s x (s.ch.set r.ch.toNat (mkF s.ch r.ch+1,opF s.ch r.ch)) (r.ch,mkF s.ch r.ch+1) {r with A:=Qy A1 r.ch (mkF s.ch r.ch+1),fc:=r.ch,fn:=mkF s.ch r.ch+1}:=by
 unfold Z3 tkS;rw[if_neg (show ¬x.kind=2 by omega),if_neg (show ¬(x.kind=4\/x.kind=5\/x.kind=7) by omega),if_pos hk,if_pos hk,if_neg (show ¬x.kind=3 by omega),decide_eq_false (show ¬x.kind=2 by omega),<-ho]
theorem Q9b (hk:x.kind=2):Z3 s x r A1 kb=tkS s x (s.ch.set r.ch.toNat (mkF s.ch r.ch+1,false)) (r.ch,mkF s.ch r.ch+1) {r with A:=Qy A1 r.ch (mkF s.ch r.ch+1),over:=true}:=by
 unfold Z3 tkS;rw[if_pos hk,if_neg (show ¬(x.kind=4\/x.kind=5\/x.kind=7) by omega),if_neg (show ¬x.kind=1 by omega),if_neg (show ¬x.kind=1 by omega),if_neg (show ¬x.kind=3 by omega),decide_eq_true hk]
theorem Q9a (hk:x.kind=4\/x.kind=5\/x.kind=7) (ho:r.over=false):Z3 s x r A1 kb= {Q37 s x r A1 with K:=Qy s.K s.S.length (some (kb,Qy A1 r.ch (mkF s.ch r.ch+1)))}:=by
 unfold Z3 Q37 tkS;rw[if_neg (show ¬x.kind=2 by omega),if_pos hk,if_neg (show ¬x.kind=1 by omega),if_neg (show ¬x.kind=1 by omega),if_neg (show ¬x.kind=3 by omega),decide_eq_false (show ¬x.kind=2 by omega),<-ho]
theorem take_3 (hk:x.kind=3) (ho:r.over=false):Z3 s x r A1 kb=Qgb (Q37 s x r A1) x s.S.length:=by
 unfold Z3 Qgb Q37 tkS;rw[if_neg (show ¬x.kind=2 by omega),if_neg (show ¬(x.kind=4\/x.kind=5\/x.kind=7) by omega),if_neg (show ¬x.kind=1 by omega),if_neg (show ¬x.kind=1 by omega),if_pos hk,decide_eq_false (show ¬x.kind=2 by omega),<-ho]
theorem take_6 (hk:x.kind=6) (ho:r.over=false):Z3 s x r A1 kb=Q37 s x r A1:=by
 unfold Z3 Q37 tkS;rw[if_neg (show ¬x.kind=2 by omega),if_neg (show ¬(x.kind=4\/x.kind=5\/x.kind=7) by omega),if_neg (show ¬x.kind=1 by omega),if_neg (show ¬x.kind=1 by omega),if_neg (show ¬x.kind=3 by omega),decide_eq_false (show ¬x.kind=2 by omega),<-ho]
theorem Q7B {O:List Int} {a:Int} {f f':Int->Res} (ha:a∈O) (nd:O.Nodup) (e: ∀b,b≠a->f' b=f b):(O.map f').Perm (f' a::(O.erase a).map f):=by
 have p:=(List.perm_cons_erase ha).map f';rw[List.map_cons]at p
 have e2:(O.erase a).map f'=(O.erase a).map f:=v1o fun b hb=>e b fun q=>by
  rw[q]at hb;exact(nd.mem_erase_iff.1 hb).1 rfl
 rw[e2]at p;exact p
theorem Qec {X1 X2 Xt Xs Xo Xk Xr Xl b1 run now:Res} {Rs Ns Rs' Ns' Ls P:List Res} (pR:Rs.Perm (run::Rs')) (pN:Ns.Perm (now::Ns')) (S:SH h0 ds ((X1::X2::Xt::Xs::Xo::Xk::Xr::Xl::(Rs++(Ns++Ls)))++(P++[b1])) h):
 SH h0 ds (X1::X2::b1::run::now::Xt::Xs::Xo::Xk::Xr::Xl::((Rs'++(Ns'++Ls))++P)) h:=SH.prm S (QC fun d y=>by
 have e1:=pR.count_eq y;have e2:=pN.count_eq y
 simp only[v0P,v04,v00]at e1 e2 ⊢;omega)
theorem rnIn {X1 X2 Xt Xs Xo Xk Xr Xl b2 b1 run now:Res} {Rs Ns Rs' Ns' Ls P:List Res} (pR:Rs.Perm (run::Rs')) (pN:Ns.Perm (now::Ns')) (S:SH h0 ds (X1::X2::b2::b1::run::now::Xt::Xs::Xo::Xk::Xr::Xl::((Rs'++(Ns'++Ls))++P)) h):
 SH h0 ds ((X1::X2::Xt::Xs::Xo::Xk::Xr::Xl::(Rs++(Ns++Ls)))++P) h:=S.sub (B:=[b2,b1]) (QC fun d y=>by
 have e1:=pR.count_eq y;have e2:=pN.count_eq y
 simp only[v0P,v04,v00]at e1 e2 ⊢;omega)
theorem prm3 {a b c:Res} {R:List Res}:(b::c::a::R).Perm (a::b::c::R):=QC fun d x=>by
 simp only[v0P];omega
theorem Q9h (l:List (Int×Int)) (p:Int×Int):stC (l++[p])=stC l++[iV p.1,iV p.2]:=by simp[stC,stV]
theorem Qeb {A:Int->Int} {k n:Int} (h0:0<=k) (h1:0<=n):Qdp A k n=Qy A k n:=if_neg (by omega)
theorem clk_b {b:Nat} {A:Int->Int} {own:List Nat} (y:CkAt h b A own):b∈own:=by
 obtain⟨r,M,cl,_,rfl⟩:=y;simp
theorem Q9F {s':CkS} {w':CkW} {a:Int} {r':ORn} {nb:Nat} (ha:a∈s.O) (nd:s.O.Nodup) (hR:s'.R=Qy s.R a (some r')) (e1:w'.rb=w.rb) (e2:w'.nb=w.nb) (hn:nb=w.nb a):
 (s.O.map (Q4B s' w')).Perm (cR (w.rb a) (.cells (rnV r' nb) 132 0)::(s.O.erase a).map (Q4B s w)):=by
 have p:=Q7B (f:=Q4B s w) (f':=Q4B s' w') ha nd fun b hb=>by
  unfold Q4B;rw[hR,e1,e2,Qp hb]
 have e:Q4B s' w' a=cR (w.rb a) (.cells (rnV r' nb) 132 0):=by
  unfold Q4B;rw[hR,e1,e2,Qm,hn];rfl
 rw[e]at p;exact p
theorem Q9G {s':CkS} {w':CkW} {a:Int} {r':ORn} (ha:a∈s.O) (nd:s.O.Nodup) (hR:s'.R=Qy s.R a (some r')) (e1:w'.nb=w.nb) (e2:w'.no=w.no):
 (s.O.map (Q5a s' w')).Perm (Jl (w.nb a) r'.A (w.no a)::(s.O.erase a).map (Q5a s w)):=by
 have p:=Q7B (f:=Q5a s w) (f':=Q5a s' w') ha nd fun b hb=>by
  unfold Q5a;rw[hR,e1,e2,Qp hb]
 have e:Q5a s' w' a=Jl (w.nb a) r'.A (w.no a):=by
  unfold Q5a;rw[hR,e1,e2,Qm];rfl
 rw[e]at p;exact p
theorem OkW.rup {s':CkS} {w':CkW} {a:Int} {r':ORn} (ok:OkW s w) (ha:a∈s.O) (hR:s'.R=Qy s.R a (some r')) (hO:s'.O=s.O) (hK:s'.K=s.K) (hL:s'.L=s.L) (k1:w'.KM=w.KM) (k2:w'.kcl=w.kcl) (q1:w'.RM=w.RM) (q2:w'.rcl=w.rcl) (q3:w'.rb=w.rb) (l1:w'.LM=w.LM) (l2:w'.lcl=w.lcl) (l3:w'.ks=w.ks) (l4:w'.lv=w.lv):OkW s' w':=by
 refine⟨by rw[k1,k2];exact ok.km,fun m=>by rw[k1,hK];exact ok.kg m,by rw[q1,q2];exact ok.rm,fun b=>by rw[q1,hO,q3];exact ok.rg b,fun b=>?_,by rw[l1,l2,l3,l4];exact ok.lm,fun q hq=>by rw[l3]at hq;rw[hL];exact ok.lz q hq⟩;rw[hO,hR];by_cases e:b=a
 · rw[e,Qm];exact⟨fun _=>ha,fun _=>⟨_,rfl⟩⟩
 rw[Qp e];exact ok.ro b
end
def PreJ (T:List MTask) (M:List MMark) (N:Nat) (s s1:CkS) (r:ORn):Prop:=
 ((mkI M (N:Int)).kind≠1/\s1=s/\s.R (mkI M (N:Int)).task=some r/\r.over=false)\/
 ((mkI M (N:Int)).kind=1/\ ∃A,(Rep (cF s.S) (nF s.S) N A fun j=>HB T M j N)/\(∀i,0<=A i/\A i<=mkF s.ch i)/\s1=Q2S s (mkI M (N:Int)).task (tkT T (mkI M (N:Int)).task) A/\r=ckB (tkT T (mkI M (N:Int)).task) s.ch A)
section
variable {T:List MTask} {M:List MMark} {N:Nat} {s s1:CkS} {r:ORn}
theorem in_O (ok:RunOk T M) (I:CkI T M N s) (hk:N <M.length) (h1:(mkI M (N:Int)).kind≠1):(mkI M (N:Int)).task∈s.O:=by
 obtain⟨t1,t2⟩:=Ko ok hk;have:=running ok hk h1;exact(I.k.o _).2 ⟨t1,t2,this.1,this.2.1⟩
theorem Qer (ok:RunOk T M) (I:CkI T M N s) (hk:N <M.length) (h1:(mkI M (N:Int)).kind=1):(mkI M (N:Int)).task∉s.O:=fun h=>by
 have:=((I.k.o _).1 h).2.2.2;rw[Y6 ok hk h1]at this;omega
theorem QdH (ok:RunOk T M) (I:CkI T M N s) (hk:N <M.length) (h6:(mkI M (N:Int)).kind=6):(1<=(mkI M (N:Int)).other/\(mkI M (N:Int)).other<=T.length)/\ ∃r,s.R (mkI M (N:Int)).other=some r/\r.over=true:=by
 have lk:=ok.lk N hk;rw[<-ZD hk]at lk;have hj:=Q2d lk h6;obtain⟨e0,e1⟩:=Q7S ok hk h6;have hb:=Q0o ok e0;have hO:(mkI M (N:Int)).other∈s.O:=(I.k.o _).2 ⟨hj.1.1,hj.1.2,hb.1,by omega⟩;obtain⟨r,hr⟩:=(I.k.ro _).2 hO;exact⟨hj.1,r,hr,(I.k.r _ r hr).ov.2 ⟨e0,by omega⟩⟩
theorem may_i (ok:RunOk T M) (I:CkI T M N s) (hk:N <M.length):MayI s T.length (mkI M (N:Int)):=by
 have lk:=ok.lk N hk;rw[<-ZD hk]at lk;refine⟨Ko ok hk,⟨fun h=>Qer ok I hk h,fun h=>Classical.byContradiction fun h1=>h (in_O ok I hk h1)⟩,fun r hr=>?_,fun h=>(Qa6 lk h).1,fun h=>QdH ok I hk h,?_⟩
 · by_cases h1:(mkI M (N:Int)).kind=1
   · exact absurd ((I.k.ro _).1 ⟨r,hr⟩) (Qer ok I hk h1)
   obtain⟨r',fJ,ho⟩:=I.k.running ok hk h1;rw[hr]at fJ;cases fJ;exact ho
 rcases lk.k with h|h|h| ⟨h,_⟩| ⟨h,_⟩| ⟨h,_⟩<;>omega
structure PreF (s s1:CkS) (N:Nat) (a:Int) (r:ORn):Prop where
 R:s1.R a=some r
 ov:r.over=false
 K:s1.K=s.K
 S:s1.S=s.S
 L:s1.L=s.L
 O:a∈s1.O
 nd:s1.O.Nodup
 c:0<=r.ch/\r.ch <s1.ch.length
 l:s1.ch.length<=N+1
 mke:mkF s1.ch=mkF s.ch
 old: ∀b q,s.R b=some q->b≠a->s1.R b=some q
theorem pre_f (ok:RunOk T M) (I:CkI T M N s) (hk:N <M.length) (J:PreJ T M N s s1 r):PreF s s1 N (mkI M (N:Int)).task r:=by
 have ew:=I.co;have mV:=I.ol;rcases J with⟨h1,rfl,hr,ho⟩| ⟨h1,A,hA,hb,rfl,rfl⟩
 · exact⟨hr,ho,rfl,rfl,rfl,in_O ok I hk h1,I.od,(I.k.r _ r hr).ch,by omega,rfl,fun b q h _=>h⟩
 obtain⟨o1,o2,o3,o4⟩:=Q9K (Q4t (c:=s.ch) (A:=A));have new:=Qer ok I hk h1;refine⟨Qm,rfl,rfl,rfl,rfl,by show _∈s.O++[_];simp,?_,⟨by show(0:Int)<=((ZC s.ch A:Nat):Int);omega,by show((ZC s.ch A:Nat):Int)<((YJ s.ch (ZC s.ch A)).length:Nat);omega⟩,?_,o1,fun b q h hb=>?_⟩
 · show(s.O++[_]).Nodup;rw[List.nodup_append];exact⟨I.od,by simp,fun a ha b hb e=>by simp at hb;rw[e,hb]at ha;exact new ha⟩
 · show(YJ s.ch (ZC s.ch A)).length<=_;rw[o4];split<;>omega
 show Qy _ _ _ b=_;rw[Qp hb];exact h
theorem Q4J {A1:Int->Int} {kb:Nat} {rs:List Int} {y:MMark} (hy:y=mkI M (N:Int)) (J:PreJ T M N s s1 r) (hA:(y.kind≠6/\A1=r.A)\/(y.kind=6/\ ∃r2,s.R y.other=some r2/\r2.over=true/\A1=fun k=>max (r.A k) (r2.A k)))
 (fH:rs=if y.kind=3 then Qel (Q37 s1 y r A1) y (Qy A1 r.ch (mkF s1.ch r.ch+1))else[]):Q4A T M N s (Z3 s1 y r A1 kb) rs:=by
 subst hy;refine⟨s1,r,A1,kb,rfl,?_,fH⟩;rcases J with⟨h1,h2,h3,h4⟩| ⟨h1,A,q1,q2,q3,q4⟩
 · exact .inl ⟨h1,h2,h3,h4,hA⟩
 refine .inr ⟨h1,A,q1,q2,q3,q4,?_⟩;rcases hA with⟨_,e⟩| ⟨e,_⟩
 · rw[e,q4];rfl
 omega
abbrev tkL (cb:Nat) (s:CkS) (w:CkW) (a:Int) (r:ORn) (A1:Int->Int) (b1:Nat) (y:MMark) (P:List Res):List Res:=
 cR w.hb (.cells [w.cv] 171 0)::slR 174 1 w.cv (chC s.ch) s.ch.length w.cb::cR b1 (.cells (mkV y) 68 0)::cR (w.rb a) (.cells (rnV r (w.nb a)) 132 0)::Jl (w.nb a) A1 (w.no a)::cR cb (.cells (QdY s w) 123 0)::slR 126 1 w.sv (stC s.S) s.S.length w.sb::slR 3 0 w.ov (isV s.O) s.O.length w.ob::
 cR w.kr (.map (w.KM.map (Zp iV)) w.kcl)::cR w.rr (.map (w.RM.map (Zp iV)) w.rcl)::cR w.lr (.map (w.LM.map (Zp Qcy)) w.lcl)::(((s.O.erase a).map (Q4B s w)++((s.O.erase a).map (Q5a s w)++w.ks.map (mlF 137 2 w.lv (fun q=>toC (s.L q)) (fun q=>(s.L q).length) w.lb)))++P)
theorem Qe2 {h h0:Hp} {ds:List Nat} {cb b1:Nat} {w:CkW} {a:Int} {y:MMark} {P:List Res} (hR:s.R a=some r) (ha:a∈s.O) (nd:s.O.Nodup) (S:SH h0 ds (ckL cb s w++(P++[cR b1 (.cells (mkV y) 68 0)])) h):SH h0 ds (tkL cb s w a r r.A b1 y P) h:=
 Qec (Q9F (s:=s) (a:=a) (s':=s) (w':=w) ha nd (by rw[<-hR,Q6M]) rfl rfl rfl) (Q9G (s:=s) (a:=a) (s':=s) (w':=w) ha nd (by rw[<-hR,Q6M]) rfl rfl) S
theorem QbQ {h h0:Hp} {ds:List Nat} {cb b1:Nat} {w:CkW} {a b:Int} {y:MMark} {A1:Int->Int} {P:List Res} {q:ORn} (S:SH h0 ds (tkL cb s w a r A1 b1 y P) h) (nd:s.O.Nodup) (hb:b∈s.O) (eU:b≠a) (hq:s.R b=some q):
 h.get (w.rb b)=some (.cells (rnV q (w.nb b)) 132 0)/\CkAt h (w.nb b) q.A (w.no b):=by
 have hm:b∈s.O.erase a:=nd.mem_erase_iff.2 ⟨eU,hb⟩
 have h1:=SH.heldM S (r:=Q4B s w b) (by
  simp only[v0r,v0x];right;right;right;right;right;right;right;right;right;right;right;left;left
  exact v1b hm)
 have h2:=SH.heldM S (r:=Q5a s w b) (by
  simp only[v0r,v0x];right;right;right;right;right;right;right;right;right;right;right;left;right;left
  exact v1b hm)
 have e1:h.get (w.rb b)=some (.cells (rnO (s.R b) (w.nb b)) 132 0):=h1.1;have e2:CkAt h (w.nb b) (rnA (s.R b)) (w.no b):=h2.1;rw[hq]at e1 e2;exact⟨e1,e2⟩
theorem Q3u {h h0:Hp} {ds:List Nat} {cb:Nat} {w:CkW} {pl:List (Nat×(Int->Int))} {ow:Nat->List Nat} (S:SH h0 ds (ckL cb s w++plL pl ow) h) (ok:OkW s w): ∃aa dD,SH h0 ds [ckR cb s aa,plR pl dD] h:=
 Q4r (B:=[]) (by rw[v0k];exact S) ok
theorem Qf0 {x:Res} {A P:List Res}:(A++(P++[x])).Perm (x::(A++P)):=by
 rw[<-List.append_assoc];exact List.perm_append_comm (l₂:=[x])
theorem QbP {h h0:Hp} {ds:List Nat} {cb:Nat} {w:CkW} {x:Res} {pl:List (Nat×(Int->Int))} {ow:Nat->List Nat} (S:SH h0 ds (x::(ckL cb s w++plL pl ow)) h) (ok:OkW s w): ∃aa dD,SH h0 ds [x,ckR cb s aa,plR pl dD] h:=by
 have S1:SH h0 ds (ckL cb s w++(plL pl ow++[x])) h:=SH.prm S Qf0;obtain⟨b1,b2,S2⟩:=Q4r S1 ok;exact⟨b1,b2,SH.comm (A:=[_,_]) S2⟩
theorem Qea {c:List (Int×Bool)} {i:Int} {m:Int} {b:Bool} (h0:0<=i) (h1:i <c.length):(c.set i.toNat (m,b)).set i.toNat (mkF (c.set i.toNat (m,b)) i,false)=c.set i.toNat (m,false):=by
 rw[(Q0S h0 h1).1,Qm,List.set_set]
theorem Qed {h h0:Hp} {ds:List Nat} {m X1 X2 Xt Xs Xo Xk Xr Xl b2 b1 run now:Res} {Rs Ns Rs' Ns' Ls P:List Res} (pR:Rs.Perm (run::Rs')) (pN:Ns.Perm (now::Ns')) (S:SH h0 ds (m::X1::X2::b2::b1::run::now::Xt::Xs::Xo::Xk::Xr::Xl::((Rs'++(Ns'++Ls))++P)) h):
 SH h0 ds ((X1::X2::Xt::Xs::Xo::Xk::Xr::Xl::(Rs++(Ns++Ls)))++(m::P)) h:=S.sub (B:=[b2,b1]) (QC fun d y=>by
 have e1:=pR.count_eq y;have e2:=pN.count_eq y
 simp only[v0P,v04,v00]at e1 e2 ⊢;omega)
theorem Q7d {h h0:Hp} {ds:List Nat} {cb:Nat} {w:CkW} {y:MMark} {r':ORn} {c:List (Int×Bool)} {p:Int×Int} {sv':Value} {sb':List Nat} {b2 b1:Res} {P:List Res} (ha:y.task∈s.O) (nd:s.O.Nodup)
 (S:SH h0 ds (cR w.hb (.cells [w.cv] 171 0)::slR 174 1 w.cv (chC c) c.length w.cb::b2::b1::cR (w.rb y.task) (.cells (rnV r' (w.nb y.task)) 132 0)::Jl (w.nb y.task) r'.A (w.no y.task)::cR cb (.cells [Qk w.hb,sv',.map (some w.kr),.map (some w.rr),w.ov,.map (some w.lr),iV y.task] 123 0)::slR 126 1 sv' (stC s.S++[iV p.1,iV p.2]) (s.S.length+1) sb'::slR 3 0 w.ov (isV s.O) s.O.length w.ob::
  cR w.kr (.map (w.KM.map (Zp iV)) w.kcl)::cR w.rr (.map (w.RM.map (Zp iV)) w.rcl)::cR w.lr (.map (w.LM.map (Zp Qcy)) w.lcl)::(((s.O.erase y.task).map (Q4B s w)++((s.O.erase y.task).map (Q5a s w)++w.ks.map (mlF 137 2 w.lv (fun q=>toC (s.L q)) (fun q=>(s.L q).length) w.lb)))++P)) h):
 SH h0 ds (ckL cb (tkS s y c p r') {w with sv:=sv',sb:=sb'}++P) h:=by
 have e1:stC (s.S++[p])=stC s.S++[iV p.1,iV p.2]:=Q9h _ _;have e2:(s.S++[p]).length=s.S.length+1:=v0j;rw[<-e1,<-e2]at S;exact rnIn (Q9F (s:=s) (a:=y.task) (s':=tkS s y c p r') (w':= {w with sv:=sv',sb:=sb'}) (r':=r') (w:=w) ha nd rfl rfl rfl rfl) (Q9G (s:=s) (a:=y.task) (s':=tkS s y c p r') (w':= {w with sv:=sv',sb:=sb'}) (r':=r') (w:=w) ha nd rfl rfl rfl) S
theorem Qe3 {h h0:Hp} {ds:List Nat} {cb:Nat} {w:CkW} {y:MMark} {r':ORn} {c:List (Int×Bool)} {p:Int×Int} {sv':Value} {sb':List Nat} {m b2 b1:Res} {P:List Res} {KM':MsK Int} {ja:Nat} {K':Int->Option (Nat×(Int->Int))} (ha:y.task∈s.O) (nd:s.O.Nodup)
 (S:SH h0 ds (m::cR w.hb (.cells [w.cv] 171 0)::slR 174 1 w.cv (chC c) c.length w.cb::b2::b1::cR (w.rb y.task) (.cells (rnV r' (w.nb y.task)) 132 0)::Jl (w.nb y.task) r'.A (w.no y.task)::cR cb (.cells [Qk w.hb,sv',.map (some w.kr),.map (some w.rr),w.ov,.map (some w.lr),iV y.task] 123 0)::slR 126 1 sv' (stC s.S++[iV p.1,iV p.2]) (s.S.length+1) sb'::slR 3 0 w.ov (isV s.O) s.O.length w.ob::
  cR w.kr (.map (KM'.map (Zp iV)) ja)::cR w.rr (.map (w.RM.map (Zp iV)) w.rcl)::cR w.lr (.map (w.LM.map (Zp Qcy)) w.lcl)::(((s.O.erase y.task).map (Q4B s w)++((s.O.erase y.task).map (Q5a s w)++w.ks.map (mlF 137 2 w.lv (fun q=>toC (s.L q)) (fun q=>(s.L q).length) w.lb)))++P)) h):
 SH h0 ds (ckL cb {tkS s y c p r' with K:=K'} {w with sv:=sv',sb:=sb',KM:=KM',kcl:=ja}++(m::P)) h:=by
 have e1:stC (s.S++[p])=stC s.S++[iV p.1,iV p.2]:=Q9h _ _;have e2:(s.S++[p]).length=s.S.length+1:=v0j;rw[<-e1,<-e2]at S;exact Qed (Q9F (s:=s) (a:=y.task) (s':= {tkS s y c p r' with K:=K'}) (w':= {w with sv:=sv',sb:=sb',KM:=KM',kcl:=ja}) (r':=r') (w:=w) ha nd rfl rfl rfl rfl) (Q9G (s:=s) (a:=y.task) (s':= {tkS s y c p r' with K:=K'}) (w':= {w with sv:=sv',sb:=sb',KM:=KM',kcl:=ja}) (r':=r') (w:=w) ha nd rfl rfl rfl) S
theorem Q93 {w:CkW} {y:MMark} {r':ORn} {c:List (Int×Bool)} {p:Int×Int} {sv':Value} {sb':List Nat} (ok:OkW s w) (ha:y.task∈s.O):OkW (tkS s y c p r') {w with sv:=sv',sb:=sb'}:=ok.rup ha rfl rfl rfl rfl rfl rfl rfl rfl rfl rfl rfl rfl rfl
theorem tk_okK {w:CkW} {y:MMark} {r':ORn} {c:List (Int×Bool)} {p:Int×Int} {sv':Value} {sb':List Nat} {m:Int} {q:Nat×(Int->Int)} (ok:OkW s w) (ha:y.task∈s.O):OkW {tkS s y c p r' with K:=Qy s.K m (some q)} {w with sv:=sv',sb:=sb',KM:=(J7 w.KM m (Qk q.1) w.kcl).1,kcl:=(J7 w.KM m (Qk q.1) w.kcl).2}:=by
 have o:=Q93 (y:=y) (r':=r') (c:=c) (p:=p) (sv':=sv') (sb':=sb') ok ha;refine⟨ok.km.put _ _,fun k=>?_,o.rm,o.rg,o.ro,o.lm,o.lz⟩;show Jt (J7 w.KM m (Qk q.1) w.kcl).1 k=(Qy s.K m (some q) k).map _;rw[Kw,ok.kg];by_cases e:k=m
 · rw[if_pos e,e,Qm];rfl
 rw[if_neg e,Qp e]
theorem Qcc {pl:List (Nat×(Int->Int))} {ow:Nat->List Nat} {kb:Nat} {A:Int->Int} {kow:List Nat} (h: ∀p,p∈pl->p.1≠kb):plL ((kb,A)::pl) (fun b=>if b=kb then kow else ow b)=Jl kb A kow::plL pl ow:=by
 have e:pl.map (fun p=>Jl p.1 p.2 ((fun b=>if b=kb then kow else ow b) p.1))=plL pl ow:=v1o fun p hp=>by
  show Jl p.1 p.2 (if p.1=kb then kow else ow p.1)=_;rw[if_neg (h p hp)]
 show Jl kb A (if kb=kb then kow else ow kb)::pl.map (fun p=>Jl p.1 p.2 ((fun b=>if b=kb then kow else ow b) p.1))=_;rw[if_pos rfl,e]
end
section
variable {h h0:Hp} {cb tb tc mc:Nat} {ma:Option Addr} {s:CkS} {bs pbs:List Nat} {pl:List (Nat×(Int->Int))} {T:List MTask} {M:List MMark} {N:Nat}
theorem k14 (ok:RunOk T M) (I:CkI T M N s) (hk:N <M.length) (hM:M.length<=200) (S0:SH h0 [] [ckR cb s bs,plR pl pbs] h) (R0:RnAt h0 tb tc ma mc T M) (HP: ∀m p,s.K m=some p->p∈pl):
 C modE 14 [Qk cb,.agg (mkV (mkI M (N:Int))).toArray,tsV tb tc T] h fun v g'=> ∃(s':CkS) (rs:List Int) (rv:Value) (kB:List (Nat×(Int->Int))) (aa dD rbs:List Nat),v=.tuple #[rv,iV 0]/\Q4A T M N s s' rs/\(∀m p,s'.K m=some p->p∈kB)/\(∀p,p∈pl->p∈kB)/\
   SH h (owns [ckR cb s bs,plR pl pbs]) [slR 3 0 rv (isV rs) rs.length rbs,ckR cb s' aa,plR kB dD] g':=by
 have SE:=S0.enterL;have R:=R0.ext S0.e0;obtain⟨D,hD⟩: ∃D,D=owns [ckR cb s bs,plR pl pbs]:=⟨_,rfl⟩;have aj: ∀i,i∈D->h0.n<=i:=by rw[hD];exact S0.own0L
 rw[<-hD]at SE ⊢;have bN:=may_i ok I hk;have jw:=QdH ok I hk;have dz:=(ok.lk N hk).k;rw[<-ZD hk]at dz;have hhT:=ok.t;have mV:=I.ol;have hIn:=I.n;have hmkb:=I.mkb;obtain⟨y,hy⟩: ∃y,y=mkI M (N:Int):=⟨_,rfl⟩;rw[<-hy]at bN jw dz ⊢;obtain⟨⟨gT,ht2⟩,_,_,_,_,_⟩:=bN;have bN:=may_i ok I hk;rw[<-hy]at bN;obtain⟨tcs,tm,ttg,ttl,ttr,ttf⟩:=R.tk gT ht2
 have G: ∃w,CkG h cb s w/\ ∀p,p∈pl->p.1 <h.n:=by
  obtain⟨w,ow,okw,SE⟩:=Q6Y (B:=[]) SE;refine⟨w,ck_g SE (fun r hr=>v1C _ hr) okw,fun p hp=>?_⟩;have hm:=SH.heldM SE (r:=Jl p.1 p.2 (ow p.1)) (v2f _ (v1C _ (v0H.2 ⟨p,hp,rfl⟩)));exact hm.2 p.1 (clk_b hm.1)
 obtain⟨w0,G,hplt⟩:=G;refine Q9 (fu:=Tryz.f14) (by kernel_rfl) rfl ?_;have S:=SH.start h;refine Q7 ?_;refine Z9 S gn rfl rfl fun b1 g aJ S=>?_;refine I2 rfl<|I2 rfl<|Q0<|Q5<|Qb<|Q7<|I1 rfl<|Ic [_] rfl rfl (Ql (k34 ((G.ext S.e0).atl 2 rfl).1) ⟨ag0,?_⟩);refine I2 rfl<|Q0<|Q2 rfl (fun hb=>?_) fun hb=>?_
 · skip
   refine Q5 ?_;exact absurd hb (by decide)
 refine Q7<|I1 rfl<|I3 8 rfl (S.cel 0 rfl) (v0b 8)<|I1 rfl<|Ic [_,_,_] rfl rfl (C.mono (k41 (G.ext S.e0) bN) ?_);rintro v g ⟨rfl,x⟩;have S:=S.grow x;refine⟨ag0,?_⟩;refine Ib rfl<|I2 rfl<|Q0<|Q2 rfl (fun hb=>?_) fun hb=>?_
 · skip
   refine Q5 ?_;exact absurd hb (by decide)
 refine Q4<|ZF [(0,Qk cb),(4,Qk b1)] (fun lv hh=>lv=[]/\ ∃(s1:CkS) (r:ORn) (bz fU:List Nat),PreJ T M N s s1 r/\SH h D [cR b1 (.cells (mkV y) 68 0),ckR cb s1 bz,plR pl fU] hh) ?_ fun lv hh hJ=>?_
 · skip
   refine Q7<|I0 0 rfl<|I4 rfl (S.cel 0 rfl) rfl<|Ie rfl rfl<|Q0<|Q2 rfl (fun hb=>?_) fun hb=>?_
   · skip
     refine I9<|I1 rfl<|I0 1 rfl<|I4 rfl (S.cel 0 rfl) rfl<|I1 rfl<|I0 1 rfl<|I4 rfl (S.cel 0 rfl) rfl<|Iso rfl rfl<|I5o 15 rfl rfl<|I3 15 rfl (S.old0 ttg R.tl) ttl ?_;rw[ttr];have S3:SH h D ([cR b1 (.cells (mkV y) 68 0)]++[ckR cb s bs,plR pl pbs]) _:=SH.retL (A:=[]) SE S;have S3:=SH.comm S3;refine QZ [_,_,_] gn rfl rfl (by kernel_rfl) rfl (C.mono (k42 ok I hk (by rw[<-hy];exact of_decide_eq_true hb) hM (SH.subL S0 aj S3) HP (congrArg MMark.task hy) rfl) ?_);rintro v g ⟨A,bz,fU,hA,fB,S4⟩;have S:=SH.comm (SH.retL S3 S4);refine⟨ag0,?_⟩;refine Q0 ?_
     exact Zr [] (p:=⟨rfl,_,_,bz,fU,.inr ⟨by rw[<-hy];exact of_decide_eq_true hb,A,hA,fB,by rw[<-hy],rfl⟩,S⟩)
   refine Q4 ?_;exact Zr [] (p:=⟨rfl,_,_,bs,pbs,.inl ⟨by rw[<-hy];exact of_decide_eq_false hb,rfl,(I.k.running ok hk (by rw[<-hy];exact of_decide_eq_false hb)).choose_spec.1,(I.k.running ok hk (by rw[<-hy];exact of_decide_eq_false hb)).choose_spec.2⟩,SH.retL (A:=[]) SE S⟩)
 obtain⟨rfl,s1,r,bz,fU,hJ,S⟩:=hJ;refine Q5 ?_;have F:=pre_f ok I hk hJ;rw[<-hy]at F;have hSl:s1.S.length=N:=by rw[F.S];exact hIn
 have gO:=F.c.1;have lY:=F.c.2;have cK:=F.l;have lN:=hmkb r.ch;rw[<-F.mke]at lN;obtain⟨w,ow,okw,S⟩:=Q6Y (B:=[cR b1 (.cells (mkV y) 68 0)]) (SH.comm (A:=[_]) S);have S:=Qe2 F.R F.O F.nd S;refine I9<|I1 rfl<|I6 rfl<|I0 3 rfl<|I4 rfl (S.cel 5 rfl) rfl<|I0 1 rfl<|I4 rfl (S.cel 2 rfl) rfl<|Zv (zv:=.pointer none) Q2N gn rfl rfl rfl (S.cel 9 rfl) (by kernel_rfl) ?_;rw[Q1Z okw,Q0I F.O];refine I2 rfl<|Q0 ?_
 refine ZF [(0,Qk cb),(4,Qk b1),(8,Qk (w.rb y.task))] (fun lv hh=>lv=[]/\ ∃A1,((y.kind≠6/\A1=r.A)\/(y.kind=6/\ ∃r2,s.R y.other=some r2/\r2.over=true/\A1=fun k=>max (r.A k) (r2.A k)))/\SH h D (tkL cb s1 w y.task r A1 b1 y (plL pl ow)) hh) ?_ fun lv hh hJ=>?_
 · skip
   refine Q7<|I0 0 rfl<|I4 rfl (S.cel 2 rfl) rfl<|Ie rfl rfl<|Q0<|Q2 rfl (fun hb=>?_) fun hb=>?_
   · skip
     refine I9 ?_;have h6:=of_decide_eq_true hb;obtain⟨r2,bn,mT⟩:=(jw h6).2
     have ao:y.other≠y.task:=fun e=>by
      rcases hJ with⟨_,_,q3,q4⟩| ⟨q1,_⟩
      · rw[<-hy,<-e,bn]at q3;cases q3;rw[mT]at q4;cases q4
      rw[<-hy]at q1;omega
     have oy:=F.old _ _ bn ao;have hO2:=(okw.ro _).1 ⟨r2,oy⟩;obtain⟨gr2,gc2⟩:=QbQ S F.nd hO2 ao oy;refine I1 rfl<|I6 rfl<|I0 16 rfl<|I4 rfl (S.cel 3 rfl) rfl<|I1 rfl<|I6 rfl<|I0 3 rfl<|I4 rfl (S.cel 5 rfl) rfl<|I0 2 rfl<|I4 rfl (S.cel 2 rfl) rfl<|Zv (zv:=.pointer none) Q2N gn rfl rfl rfl (S.cel 9 rfl) (by kernel_rfl) ?_;rw[Q1Z okw,Q0I hO2];refine I6 rfl<|I0 16 rfl<|I4 rfl gr2 rfl<|Ic [_,_] rfl rfl (C.mono (k43 (S.res 4 rfl) gc2) ?_);rintro v g ⟨xc,x⟩;have S:=SH.clk S 4 rfl xc x;refine⟨ag0,?_⟩;refine Q0 ?_
     exact Zr [] (p:=⟨rfl,_,.inr ⟨h6,r2,bn,mT,rfl⟩,S⟩)
   refine Q4 ?_;exact Zr [] (p:=⟨rfl,r.A,.inl ⟨of_decide_eq_false hb,rfl⟩,S⟩)
 obtain⟨rfl,A1,oA,S⟩:=hJ;refine Q5<|Yq [(0,[]),(1,[]),(2,[]),(3,[]),(4,[]),(5,[]),(6,[]),(7,[]),(8,[]),(9,[]),(10,[]),(11,[]),(14,[]),(12,[3]),(13,[]),(15,[])] (by kernel_rfl) (by kernel_rfl) (by kernel_rfl) (by kernel_rfl)<|I1 rfl<|I6 rfl<|I0 15 rfl<|I4 rfl (S.cel 3 rfl) rfl<|I1 rfl<|I6 rfl<|I0 0 rfl<|I4 rfl (S.cel 5 rfl) rfl<|I1 rfl<|I6 rfl<|I0 15 rfl<|I4 rfl (S.cel 3 rfl) rfl ?_;refine Qx (zv:=.agg #[iV 0,iV 0]) S gn rfl (by kernel_rfl) fun b2 g bK S=>?_;have S:=SH.prm S prm3
 refine Ic [_,_] rfl rfl (C.mono (k44 (SH.subL S0 aj S) gO lY lN.1 (by omega)) ?_);rintro v g ⟨rfl,S2⟩;have S:=SH.retL S S2;refine⟨(ag1 (ZO gn rfl (by kernel_rfl) (S.cel 4 rfl) rfl rfl Kr) ag0),?_⟩;refine Qq (cs:= #[iV r.ch,iV (mkF s1.ch r.ch+1)]) (zv:=.agg #[iV 0,iV 0]) (pl:=[(0,1),(1,1)]) [(0,_),(1,_)] gn rfl (by kernel_rfl) (by kernel_rfl) rfl (by kernel_rfl) ?_;refine Qi (n:=2) 2 S gn rfl rfl (by kernel_rfl) (by kernel_rfl) rfl rfl (by decide) rfl (fun g S=>ag0) fun g S=>?_;refine Q0<|Q5<|I9<|I1 rfl<|I6 rfl<|I0 16 rfl<|I4 rfl (S.cel 4 rfl) rfl<|I0 0 rfl ?_
 refine I4 rfl (S.cel 2 rfl) rfl<|I0 1 rfl<|I4 rfl (S.cel 2 rfl) rfl<|Ic [_,_,_] rfl rfl (C.mono (k45 (S.res 5 rfl) (by omega) (by omega)) ?_);rintro v g ⟨xc,x⟩;rw[Qeb gO (by omega)]at xc;have S:=SH.clk S 5 rfl xc x;obtain⟨sa,sc,dw⟩:=Q6 (S.sl 7 rfl);refine⟨ag0,?_⟩;refine QP<|I1 rfl<|I6 rfl<|I0 1 rfl<|I4 rfl (S.cel 6 rfl) rfl ?_;rw[dw];refine I7 rfl<|I2 rfl<|Q0<|Q5<|I9<|I1 rfl<|I1 rfl<|I6 rfl<|I0 1 rfl<|I4 rfl (S.cel 6 rfl) rfl<|I3 2 rfl (S.cel 2 rfl) (v0b _) ?_
 refine Qc (cs:= #[iV r.ch,iV (mkF s1.ch r.ch+1)]) (e:=126) (z:=1) (zv:=.agg #[iV 0,iV 0]) [(0,_)] S gn rfl (by kernel_rfl) (by kernel_rfl) (by kernel_rfl) (by kernel_rfl) rfl (by kernel_rfl) fun b3 g fV S=>?_;refine QM (e:=126) (z:=1) (by':=15) 8 0 S el126 gn rfl rfl rfl rfl rfl rfl (by rfl) (by omega) (fun s' aa g S=>ag0) fun s' aa g S=>?_;refine I6 rfl<|I0 1 rfl ?_;refine Qg 7 S gn rfl rfl (S.sl 8 rfl).cellV (by kernel_rfl) rfl (by decide) (by simp) (fun g S=>ag0) fun g S=>?_;refine Q0<|Q5 ?_;have S:=S.drop;refine Q3 (by kernel_rfl)<|I1 rfl<|I0 1 rfl<|I4 rfl (S.cel 3 rfl) rfl<|I6 rfl ?_
 refine I0 6 rfl ?_;refine Qg 6 S gn rfl rfl rfl (by kernel_rfl) rfl (by decide) (by simp) (fun g S=>ag0) fun g S=>?_;refine Z8<|I0 0 rfl<|I4 rfl (S.cel 3 rfl) rfl<|Q0<|Qb<|Q7<|Ie rfl rfl<|I2 rfl<|Q0<|Q2 rfl (fun hb=>?_) fun hb=>?_
 · skip
   have k1:=of_decide_eq_true hb;refine Q3 (by kernel_rfl)<|I1 rfl<|I3 2 rfl (S.cel 2 rfl) (v0b _)<|I6 rfl<|I0 17 rfl ?_;refine Qc2 (cs':=rnV {r with fc:=r.ch,fn:=mkF s1.ch r.ch+1} (w.nb y.task)) 4 S gn rfl rfl (by kernel_rfl) (by kernel_rfl) rfl rfl (by decide) (by show 17+2<=20;decide) rfl (fun g S=>ag0) fun g S=>?_;refine QP<|I2 rfl<|I2 rfl<|Q0<|Q8 ?_;refine⟨.inl rfl,_,rfl,?_⟩
   exact(by
    have S3:=Q7d (r':= {r with A:=Qy A1 r.ch (mkF s1.ch r.ch+1),fc:=r.ch,fn:=mkF s1.ch r.ch+1}) (p:=(r.ch,mkF s1.ch r.ch+1)) F.O F.nd S;rw[<-Q9c (kb:=0) k1 F.ov]at S3;obtain⟨bk,cA,S4⟩:=Q3u S3 (by rw[Q9c k1 F.ov];exact Q93 okw F.O)
    exact⟨_,[],_,pl,bk,cA,[],rfl,Q4J hy hJ oA (by rw[if_neg (show ¬y.kind=3 by omega)]),fun m p hp=>HP m p (by rw[Q9c k1 F.ov]at hp;rw[<-F.K];exact hp),fun p hp=>hp,S4.nilSl 3 0⟩)
 refine Q5 ?_;have k1:=of_decide_eq_false hb;refine Q3 (by kernel_rfl)<|Ie rfl rfl<|I2 rfl<|Q0<|Q2 rfl (fun hb=>?_) fun hb=>?_
 · skip
   refine Q5 ?_;have k2:=of_decide_eq_true hb;refine Q3 (by kernel_rfl)<|I1 rfl<|I6 rfl<|I0 19 rfl ?_;refine Qg 4 S gn rfl rfl rfl (by kernel_rfl) rfl (by decide) (by show 19 <20;decide) (fun g S=>ag0) fun g S=>?_;refine Q0<|I9<|I1 rfl<|I6 rfl<|I0 0 rfl<|I4 rfl (S.cel 6 rfl) rfl<|I1 rfl<|I6 rfl<|I0 15 rfl<|I4 rfl (S.cel 4 rfl) rfl ?_;refine QZ [_,_] gn rfl rfl (by kernel_rfl) rfl (C.mono (k46 (SH.subL S0 aj S) gO (by rw[v0q];exact lY)) ?_);rintro v g S2;have S:=SH.retL S S2;rw[Qea gO lY]at S;refine⟨ag0,?_⟩;refine QP ?_
   refine I2 rfl<|I2 rfl<|Q0<|Q8 ?_;refine⟨.inl rfl,_,rfl,?_⟩
   exact(by
    have S3:=Q7d (r':= {r with A:=Qy A1 r.ch (mkF s1.ch r.ch+1),over:=true}) (p:=(r.ch,mkF s1.ch r.ch+1)) F.O F.nd S;rw[<-Q9b (kb:=0) k2]at S3;obtain⟨bk,cA,S4⟩:=Q3u S3 (by rw[Q9b k2];exact Q93 okw F.O)
    exact⟨_,[],_,pl,bk,cA,[],rfl,Q4J hy hJ oA (by rw[if_neg (show ¬y.kind=3 by omega)]),fun m p hp=>HP m p (by rw[Q9b k2]at hp;rw[<-F.K];exact hp),fun p hp=>hp,S4.nilSl 3 0⟩)
 have k2:=of_decide_eq_false hb;refine Yt 102 [(4,124),(5,125),(7,126)] [(0,_),(4,_),(8,_),(10,_),(102,_)] (by kernel_rfl) rfl (by repeat(first|exact trivial|refine⟨rfl,?_⟩)) (by rfl) (fun hb=>?_) fun hb=>?_
 · skip
   have k3:y.kind=4\/y.kind=5\/y.kind=7:=by simpa using hb
   refine Yq [(0,[]),(1,[]),(2,[]),(3,[]),(4,[]),(5,[]),(6,[]),(7,[]),(8,[]),(9,[3]),(10,[])] (by kernel_rfl) (by kernel_rfl) (by kernel_rfl) (by kernel_rfl)<|I1 rfl<|I6 rfl<|I0 2 rfl<|I4 rfl (S.cel 6 rfl) rfl<|I1 rfl<|I1 rfl<|I6 rfl<|I0 16 rfl<|I4 rfl (S.cel 4 rfl) rfl<|Ic [_] rfl rfl (C.mono (k39 (S.res 5 rfl)) ?_);rintro v g ⟨kb,kow,rfl,xc,xn,x⟩
   have bI: ∀p,p∈pl->p.1≠kb:=fun p hp e=>by
    have h1:=hplt p hp;have h2:=xn kb (clk_b xc);have h3:=S.ext.n;omega
   have S:=S.push (r:=Jl kb _ kow) x xc xc.lt xn (Q88 xc);refine⟨(ag1 (ZO gn rfl (by kernel_rfl) (S.cel 7 rfl) rfl rfl (by simp[sameV])) ag0),?_⟩;refine QV 10 S Q5p gn rfl rfl rfl rfl (fun g S=>ag0) fun g S=>?_;refine QP<|I2 rfl<|I2 rfl<|Q0<|Q8 ?_;refine⟨.inl rfl,_,rfl,?_⟩
   exact(by
    have S3:=Qe3 (r':= {r with A:=Qy A1 r.ch (mkF s1.ch r.ch+1)}) (p:=(r.ch,mkF s1.ch r.ch+1)) (K':=Qy s1.K s1.S.length (some (kb,Qy A1 r.ch (mkF s1.ch r.ch+1)))) F.O F.nd S;rw[<-Qcc bI]at S3;have S3:SH h D (ckL cb (Z3 s1 y r A1 kb) {w with sv:=s',sb:=aa,KM:=(J7 w.KM (s1.S.length:Int) (Qk kb) w.kcl).1,kcl:=(J7 w.KM (s1.S.length:Int) (Qk kb) w.kcl).2}++plL ((kb,Qy A1 r.ch (mkF s1.ch r.ch+1))::pl) (fun b=>if b=kb then kow else ow b)) g:=by rw[Q9a k3 F.ov];exact S3
    obtain⟨bk,cA,S4⟩:=Q3u S3 (by rw[Q9a k3 F.ov];exact tk_okK (q:=(kb,Qy A1 r.ch (mkF s1.ch r.ch+1))) okw F.O)
    exact⟨_,[],_,_,bk,cA,[],rfl,Q4J hy hJ oA (by rw[if_neg (show ¬y.kind=3 by omega)]),fun m p hp=>by
     rw[Q9a k3 F.ov]at hp;have hp:Qy s1.K s1.S.length (some (kb,Qy A1 r.ch (mkF s1.ch r.ch+1))) m=some p:=hp;by_cases e:m=s1.S.length
     · rw[e,Qm]at hp;cases hp;exact List.mem_cons_self
     rw[Qp e,F.K]at hp;exact v0S _ (HP m p hp),fun p hp=>v0S _ hp,S4.nilSl 3 0⟩)
 refine Q5 ?_;have k3: ¬(y.kind=4\/y.kind=5\/y.kind=7):=by simpa using hb
 refine Q3 (by kernel_rfl)<|Ie rfl rfl<|I2 rfl<|Q0<|Q2 rfl (fun hb=>?_) fun hb=>?_
 · skip
   refine Q5 ?_;have k4:=of_decide_eq_true hb;refine I9<|I1 rfl<|I1 rfl<|I3 8 rfl (S.cel 3 rfl) (v0b 8)<|I1 rfl<|I6 rfl<|I0 16 rfl<|I4 rfl (S.cel 4 rfl) rfl<|Q6s gn rfl rfl ?_;have S3:SH h D (ckL cb (Q37 s1 y r A1) {w with sv:=s',sb:=aa}++plL pl ow) g:=Q7d (r':= {r with A:=Qy A1 r.ch (mkF s1.ch r.ch+1)}) (p:=(r.ch,mkF s1.ch r.ch+1)) F.O F.nd S;have hLs:(Q37 s1 y r A1).L (Y7 y)=Qcz M N (Y7 y):=by show s1.L _=_;rw[F.L];exact I.l _
   have hSl3:(Q37 s1 y r A1).S.length=N+1:=by show(s1.S++[_]).length=_;rw[v0j,hSl];rfl
   have hL47: ∀o,o∈(Q37 s1 y r A1).L (Y7 y)->0<=o.1/\o.1 <(Q37 s1 y r A1).S.length:=fun o ho=>by
    rw[hLs]at ho;obtain⟨i,hi,rfl⟩:=v0H.1 ho;have:=v1r.1 (v1v.1 hi).1;rw[hSl3];show(0:Int)<=(i:Int)/\(i:Int)<((N+1:Nat):Int);omega
   have hn47:((Q37 s1 y r A1).L (Y7 y)).length<=100000:=by
    rw[hLs];unfold Qcz;rw[v0v];have:=Qcb (M:=M) (n:=N) (q:=Y7 y);omega
   refine Ic [_,_,_,_] rfl rfl (C.mono (k47 (a:=y.task) (r:= {r with A:=Qy A1 r.ch (mkF s1.ch r.ch+1)}) (m:=s1.S.length) (SH.subL S0 aj S3) (Q93 okw F.O) Qm hL47 hn47) ?_);rintro v g ⟨w4,rbs,okw4,S4⟩;have S:=SH.retL S3 S4;refine⟨ag0,?_⟩;refine I2 rfl<|I2 rfl<|Q0<|Q8 ?_;refine⟨.inl rfl,_,rfl,?_⟩
   exact(by
    have e3:=take_3 (s:=s1) (A1:=A1) (kb:=0) k4 F.ov;obtain⟨bk,cA,S5⟩:=QbP S okw4;rw[<-e3]at S5
    exact⟨_,_,v,pl,bk,cA,rbs,rfl,Q4J hy hJ oA (by rw[if_pos k4]),fun m p hp=>HP m p (by rw[e3]at hp;rw[<-F.K];exact hp),fun p hp=>hp,S5⟩)
 refine Q4<|Q7<|I2 rfl<|I2 rfl<|Q0<|Q8 ?_;refine⟨.inl rfl,_,rfl,?_⟩
 exact(by
  have k4:=of_decide_eq_false hb
  have k6:y.kind=6:=by
   rcases dz with q|q|q| ⟨q,_⟩| ⟨q,_⟩| ⟨q,_⟩<;>omega
  have S3:=Q7d (r':= {r with A:=Qy A1 r.ch (mkF s1.ch r.ch+1)}) (p:=(r.ch,mkF s1.ch r.ch+1)) F.O F.nd S;have e6:=take_6 (s:=s1) (A1:=A1) (kb:=0) k6 F.ov;have S3:SH h D (ckL cb (Z3 s1 y r A1 0) {w with sv:=s',sb:=aa}++plL pl ow) g:=by rw[e6];exact S3
  obtain⟨bk,cA,S4⟩:=Q3u S3 (by rw[e6];exact Q93 okw F.O)
  exact⟨_,[],_,pl,bk,cA,[],rfl,Q4J hy hJ oA (by rw[if_neg k4]),fun m p hp=>HP m p (by rw[e6]at hp;rw[<-F.K];exact hp),fun p hp=>hp,S4.nilSl 3 0⟩)
end
open Go.Model
section
variable {T:List MTask} {M:List MMark} {N:Nat} {s s':CkS} {rs:List Int}
theorem Q3w (ok:RunOk T M) (I:CkI T M N s) (hk:N <M.length) (h:Q4A T M N s s' rs):CkI T M (N+1) s':=by
 obtain⟨s1,r,A1,kb,rfl,hc,_⟩:=h;rcases hc with⟨h1,rfl,hr,ho,hA⟩| ⟨h1,A,hA,hb,rfl,rfl,rfl⟩
 · refine I.take ok hk rfl h1 hr ho ?_;rcases hA with hA| ⟨h6,r2,bn,jX,e⟩
   · exact .inl hA
   exact .inr ⟨h6,r2.A,Q6P ok I bn jX,(I.k.r _ r2 bn).bd,e⟩
 exact I.begin ok hk rfl h1 hA hb
theorem Qe4 (ok:RunOk T M) (I:CkI T M N s) (hk:N <M.length) (h:Q4A T M N s s' rs) {F:FB} (hF: ∀a b,a <M.length->b <M.length->(F a b=true↔HB T M a b)):
 rs=((v0w N).filter fun a=>Q2B M a N&& !F a N).map fun a:Nat=>(a:Int):=by
 have I':=Q3w ok I hk h;obtain⟨s1,r,A1,kb,gX,hc,fH⟩:=h
 have hL:s1.L=s.L/\s1.S=s.S/\mkF s1.ch=mkF s.ch:=by
  rcases hc with⟨h1,rfl,_⟩| ⟨h1,A,hA,hb,rfl,_⟩
  · exact⟨rfl,rfl,rfl⟩
  exact⟨rfl,rfl,(Q9K (Q4t (c:=s.ch) (A:=A))).1⟩
 by_cases h3:(mkI M (N:Int)).kind=3
 · rw [if_pos h3]at fH;obtain⟨r',fJ,fg⟩:=I'.before ok;have aR:s'.last=(mkI M (N:Int)).task:=by rw[gX];rfl
   rw[aR,gX]at fJ;have bn:(Z3 s1 (mkI M (N:Int)) r A1 kb).R (mkI M (N:Int)).task=some {r with A:=Qy A1 r.ch (mkF s1.ch r.ch+1),fc:=if(mkI M (N:Int)).kind=1 then r.ch else r.fc,fn:=if(mkI M (N:Int)).kind=1 then mkF s1.ch r.ch+1 else r.fn,over:=decide ((mkI M (N:Int)).kind=2)}:=Qm;rw[bn]at fJ;cases fJ;have hSS:s'.S=s1.S++[(r.ch,mkF s1.ch r.ch+1)]:=by rw[gX];rfl
   have hlen:s1.S.length=N:=by rw[hL.2.1];exact I.n
   rw[fH];unfold Qel;have hLL:(Q37 s1 (mkI M (N:Int)) r A1).L (Y7 (mkI M (N:Int)))=Qcz M N (Y7 (mkI M (N:Int))):=by show s1.L _=_;rw[hL.1];exact I.l _
   rw[hLL];unfold Qcz;rw[List.filter_map,List.map_map]
   have e2:(v0w N).filter (fun a=>Q2B M a N&& !F a N)=(Q6n M N (Y7 (mkI M (N:Int)))).filter (fun k=>hitB M k N&& !F k N):=by
    have e:=Qd3 (M:=M) (n:=N) h3
    have e3:(v0w N).filter (fun a=>Q2B M a N&& !F a N)=((v0w N).filter fun k=>Q2B M k N).filter (fun k=> !F k N):=by
     rw[v17];congr 1;funext a;exact Bool.and_comm _ _
    rw[e3,e,v17];congr 1;funext a;exact Bool.and_comm _ _
   rw[e2]
   have e4: ∀k,k∈Q6n M N (Y7 (mkI M (N:Int)))->((QbE (Q37 s1 (mkI M (N:Int)) r A1) (mkI M (N:Int)) (Qy A1 r.ch (mkF s1.ch r.ch+1)))∘fun i:Nat=>((i:Int),(mkI M (i:Int)).task,(mkI M (i:Int)).acc.write)) k=(hitB M k N&& !F k N):=fun k j0=>by
    have hkN:=v1r.1 (v1v.1 j0).1;have ox:(Q37 s1 (mkI M (N:Int)) r A1).S=s'.S:=by rw[hSS];rfl
    have av:=(I'.k.st k (by omega)).2.1;have hr:=fg k (by omega)
    have hh:(decide (nF s'.S k <1)||decide (nF s'.S k<=Qy A1 r.ch (mkF s1.ch r.ch+1) (cF s'.S k)))=F k N:=by
     rw[decide_eq_false (by omega),Bool.false_or]
     have:(nF s'.S k<=Qy A1 r.ch (mkF s1.ch r.ch+1) (cF s'.S k))↔F k N=true:=by
      rw[hF k N (by omega) hk];refine hr.trans ⟨fun q=>q.elim (fun e=>by omega) id,.inr⟩
     cases hf:F k N with
     |true=>exact decide_eq_true (this.2 hf)
     |false=>exact decide_eq_false fun q=>by rw[this.1 q]at hf;cases hf
    show((!decide ((mkI M (k:Int)).task=(mkI M (N:Int)).task)&&((mkI M (k:Int)).acc.write||(mkI M (N:Int)).acc.write))&& !(decide (nF (Q37 s1 (mkI M (N:Int)) r A1).S (k:Int).toNat <1)||decide (nF (Q37 s1 (mkI M (N:Int)) r A1).S (k:Int).toNat<=Qy A1 r.ch (mkF s1.ch r.ch+1) (cF (Q37 s1 (mkI M (N:Int)) r A1).S (k:Int).toNat))))=_;rw[ox,v0i,hh];unfold hitB;rw[Bool.or_comm (mkI M (k:Int)).acc.write]
   rw[List.filter_congr e4];rfl
 rw[if_neg h3]at fH;have e:=Qbc (M:=M) (n:=N) h3
 have e3:(v0w N).filter (fun a=>Q2B M a N&& !F a N)=((v0w N).filter fun k=>Q2B M k N).filter (fun k=> !F k N):=by
  rw[v17];congr 1;funext a;exact Bool.and_comm _ _
 rw[fH,e3,e];rfl
end
section
variable {h:Hp} {tb tc:Nat} {ma:Option Addr} {mc:Nat} {T:List MTask} {M:List MMark} {id k:Int}
end
structure OW where
 ov:Value
 bv:Value
 ev:Value
 ob:List Nat
 bb:List Nat
 be:List Nat
 c:List Nat
section
variable {h0 h:Hp} {ds bs:List Nat} {A:List Res} {k tb tc:Nat} {ma:Option Addr} {mc:Nat} {T:List MTask} {M:List MMark} {F:FB} {a b:Int} {w:OW}
end
end Go.Proofs.YtljpajcmdjmeaaaGreat
