/- The walks and the laws, part Lh. Conditions: none. -/
import Derived.Test.YtljpajcmdjmeaaaGreatLg
import Derived.Test.YtljpajcmdjmeaaaGreatLb
import Derived.Test.YtljpajcmdjmeaaaGreatLa
import Derived.Test.YtljpajcmdjmeaaaGreatXd
import Derived.Test.YtljpajcmdjmeaaaGreatXc
open List renaming not_mem_nil → v1n, length_modify → v0l, drop_succ_cons → v1D, drop_zero → v0U, take_succ_cons → v1E, take_zero → v1p, cons → v1g, mem_cons → v0r, map_cons → v0B
open Nat renaming le_refl → v0b
open Option renaming some → v0h
namespace Go.Proofs.YtljpajcmdjmeaaaGreat
open Go.X Go.May Go.Mac Go.Model
section
variable {T:List MTask} {M:List MMark} {F F2:FB} {a b:Int} {j:Nat}
end
section
variable {h0 h:Hp} {ds bs:List Nat} {k tb tc:Nat} {ma:Option Addr} {mc:Nat} {T:List MTask} {M:List MMark} {F:FB}
end
section
variable {T:List MTask} {M:List MMark} {W F:FB} {k a b:Nat}
end
section
variable {h0 h:Hp} {ds bs:List Nat} {k tb tc:Nat} {ma:Option Addr} {mc:Nat} {T:List MTask} {M:List MMark} {F:FB}
end
section
variable {T:List MTask} {M:List MMark} {F0 F:FB} {ch:Bool} {a b:Int}
end
section
variable {h0 h:Hp} {ds bs:List Nat} {k tb tc:Nat} {ma:Option Addr} {mc:Nat} {T:List MTask} {M:List MMark} {F:FB}
end
section
variable {h:Hp} {tb tc:Nat} {ma:Option Addr} {mc:Nat} {T:List MTask} {M:List MMark} {k:Int}
end
section
variable {h h0:Hp} {tb tc:Nat} {ma:Option Addr} {mc:Nat} {T:List MTask} {M:List MMark} {k:Int}
end
theorem QeB {h h0:Hp} {ds:List Nat} {X1 X2 Xt Xs Xo Xk Xr Xl:Res} (S:SH h0 ds [X2,Xs,Xo,Xt,Xl,Xr,Xk,X1] h):SH h0 ds [X1,X2,Xt,Xs,Xo,Xk,Xr,Xl] h:=SH.prm S (QC fun d x=>by
 simp only[List.count_cons,List.count_nil];omega)
section
variable {h h0:Hp} {tb tc mc:Nat} {ma:Option Addr} {T:List MTask} {M:List MMark}
theorem k33:C modE 33 [] h fun v g'=> ∃hb,v=Qk hb/\SH h [] [cR hb (.cells [.slice none 0 0] 171 0)] g':=by
 refine Q9 (fu:=Tryz.f33) (by kernel_rfl) rfl ?_;have S:=SH.start h;refine Q7<|I2 rfl<|QP<|Qq (zv:=.agg #[.slice none 0 0]) (pl:=[(0,1)]) [] gn rfl (by kernel_rfl) (by kernel_rfl) rfl (by rfl) ?_;refine Z9 S gn rfl rfl fun b1 g aJ S=>?_;refine I2 rfl<|Q0<|Q8 ⟨.inl rfl,_,rfl,⟨_,rfl,S⟩⟩
theorem k12:C modE 12 [] h fun v g'=> ∃(cb:Nat) (bs pbs:List Nat),v=Qk cb/\SH h [] [ckR cb ck0 bs,plR [] pbs] g':=by
 refine Q9 (fu:=Tryz.f12) (by kernel_rfl) rfl ?_;have S:=SH.start h;refine Q7<|I2 rfl<|QP<|Ic [] rfl rfl (C.mono (k33) ?_);rintro v g ⟨hb,rfl,S⟩
 skip
 refine⟨ag0,?_⟩;refine YG S gn rfl fun b1 g aJ S=>?_;refine YG S gn rfl fun b2 g bK S=>?_;refine YG S gn rfl fun b3 g fV S=>?_;refine Qq (zv:=.agg #[.pointer none,.slice none 0 0,.map none,.map none,.slice none 0 0,.map none,iV 0]) (pl:=[(0,1),(1,1),(2,1),(3,1),(4,1),(5,1),(6,1)]) [(0,_),(2,_),(3,_),(5,_)] gn rfl (by kernel_rfl) (by kernel_rfl) rfl (by rfl) ?_;refine Z9 S gn rfl rfl fun b4 g jL S=>?_;refine I2 rfl<|Q0<|Q8 ?_;refine⟨.inl rfl,_,rfl,?_⟩
 exact(by
  have S1:=QeB (((S.nilSl 3 0).nilSl 126 1).nilSl 174 1);have S2:SH h [] (ckL b4 ck0 ⟨hb,b1,b2,b3,.slice none 0 0,.slice none 0 0,.slice none 0 0,[],[],[],[],0,[],0,[],0,[],fun _=>0,fun _=>0,fun _=>[],fun _=>.slice none 0 0,fun _=>[]⟩++(plL [] (fun _=>[])++[])) _:=S1;obtain⟨bs,pbs,S3⟩:=Q4r S2 ⟨OkK.nil _,fun m=>rfl,OkK.nil _,fun a=>rfl,fun a=>⟨fun⟨r,h⟩=>absurd h (by simp[ck0]),fun h=>(v1n h).elim⟩,MlOk.nil _,fun q _=>rfl⟩
  exact⟨b4,bs,pbs,rfl,S3⟩)
end
section
variable {h h0:Hp} {tb tc mc:Nat} {ma:Option Addr} {T:List MTask} {M:List MMark} {cb N:Nat} {s:CkS}
theorem QfD {A:List Res} {ds bs:List Nat} (S:SH h0 ds A h) (hm:ckR cb s bs∈A): ∃w,CkG h cb s w:=by
 obtain⟨L,⟨w,rfl,ok⟩,ho,hp⟩:=S.hold _ hm;refine⟨w,fun r hr=>⟨hp r hr,fun i hi=>S.lt i (QK hm ?_)⟩,ok⟩;show i∈bs;rw[<-ho];exact QK hr hi
end
theorem do_T {P:Prg} {s s':MS} {q a n r:Int} (h:DoR P s q a n r s'):s.T.length<=s'.T.length:=by
 have fol: ∀t,s.T.length<=(Q4g P s t).T.length:=fun t=>by
  unfold Q4g
  split
  · exact v0b _
  unfold Y9
  split
  · exact v0b _
  show _<=(s.T++[_]).length;simp
 have beg: ∀(s1:MS) (id:Int),s1.T.length=s.T.length->s.T.length<=(JX s1 id).T.length:=fun s1 id e=>by
  have:(JX s1 id).T=s1.T.modify (id -1).toNat fun t=> {t with state:=2}:=by unfold JX;split<;>rfl
  rw[this,v0l,e];exact v0b _
 have stp: ∀(s1:MS) (id e:Int) (b:Bool) (s2:MS),s1.T.length=s.T.length->Q8T P s1 id b e s2->s.T.length<=s2.T.length:=fun s1 id e b s2 e1 hx=>by
  obtain⟨a,e0,T',H',x,h⟩:=hx;have hD:=(Q65 (P:=P) (s:=stT s1 id a T' H') (id:=id) (a:=a)).1;have hT:(stT s1 id a T' H').T.length=s1.T.length:=rfl;rcases h with⟨_,_,_,rfl⟩| ⟨_,_,_,_,_,rfl⟩| ⟨_,_,_,h⟩
  · exact Nat.le_of_eq e1.symm
  · have:=(Q2z (P:=P) (s:=stT s1 id a T' H') (id:=id) (a:=a)).1;omega
  rcases h with⟨_,_,_,rfl⟩| ⟨_,_,rfl⟩
  · omega
  have e3: ∀(s3:MS) k,(Q15 s3 id k).T.length=s3.T.length:=fun s3 k=>by
   show((s3.T.modify _ _).modify _ _).length=_;rw[v0l,v0l]
  rw[e3];omega
 rcases h with⟨_,h⟩| ⟨_,h⟩| ⟨_,h⟩| ⟨_,h⟩| ⟨_,h⟩| ⟨_,rfl⟩
 · rcases h with⟨_,_,rfl⟩| ⟨_,rfl⟩| ⟨_,rfl⟩| ⟨_,_,_,h⟩
   · exact v0b _
   · exact v0b _
   · exact v0b _
   rcases h with⟨_,_,rfl⟩| ⟨_,b,s2,hx,rfl⟩
   · exact beg _ _ rfl
   have:=stp (upS s) _ _ _ _ rfl hx;unfold ovrR
   split<;>exact this
 · rcases h with⟨_,_,rfl⟩| ⟨_,rfl⟩| ⟨_,rfl⟩| ⟨_,_,_,h⟩
   · exact v0b _
   · exact v0b _
   · exact v0b _
   rcases h with⟨_,_,rfl⟩| ⟨_,b,hx⟩
   · exact beg _ _ rfl
   exact stp (upS s) _ _ _ _ rfl hx
 · rcases h with⟨_,_,rfl⟩| ⟨_,rfl⟩| ⟨_,_,_,_,rfl⟩<;>exact v0b _
 · rcases h with⟨_,_,rfl⟩| ⟨_,rfl⟩| ⟨_,_,_,_,_,rfl⟩
   · exact v0b _
   · exact v0b _
   exact fol _
 · rcases h with⟨_,_,rfl⟩| ⟨_,rfl⟩| ⟨_,_,_,_,_,h⟩
   · exact v0b _
   · exact v0b _
   rcases h with⟨_,_,_,rfl⟩| ⟨_,s1,h,rfl⟩
   · exact fol _
   rcases h with⟨_,rfl⟩| ⟨_,_,rfl⟩
   · exact v0b _
   exact fol _
 exact v0b _
structure Ent where
 q:Int
 a:Int
 n:Int
def EntD (cs:List Value) (e:Ent):Prop:=cs=[iV e.q,iV e.a,iV e.n]
section
variable {h0 h:Hp} {P:Prg} {V:PrV} {mb ph:Nat} {s:MS} {tp bs:List Nat}
theorem QeQ (p:Held (mcR mb ph P V s tp bs) h): ∃(a:Option Addr) (c:Nat) (w:MW),h.get mb=some (.cells (pvL P V++[Qk ph,Qk w.lb,w.qv,w.rv,w.tv,w.hv,w.gv,w.lv,.slice a s.M.length c,w.ov,iV s.now,iV s.steps,.bool s.full]) 45 0):=by
 obtain⟨⟨_,⟨w,hw,rfl⟩,ho,hp⟩,hl⟩:=p;have hm:SlC 68 7 h w.mv (mkC s.M) s.M.length w.mvb:=hp (slR 68 7 w.mv (mkC s.M) s.M.length w.mvb) (by simp[mcL,mcH]);obtain⟨a,c,e⟩:=Q6 hm;have:=hp (cR mb (.cells (pvL P V++[Qk ph,Qk w.lb,w.qv,w.rv,w.tv,w.hv,w.gv,w.lv,w.mv,w.ov,iV s.now,iV s.steps,.bool s.full]) 45 0)) (by simp[mcL,mcH]);rw[e]at this;exact⟨a,c,w,this⟩
end
section
variable {h:Hp} {P:Prg} {lo cl gl fu co ev si ev2:Value} {l:List Ent}
end
end Go.Proofs.YtljpajcmdjmeaaaGreat
namespace Go.May
open Go.ChangeShapes Go.WideShapes Go.ChangeAt Go.RowKit Go.Deep Go.X
def RS (P:Program) (h:Hp) (t:TypeId) (cs:List Value):Prop:=Rd P h t cs/\Sz P h 140737488351232 t cs
structure St (P:Program) (s:TypeId) (n:Nat) (L:List (Nat×Nat)):Prop where
 und: ∃fs,P.underlying s=some (.struct fs)/\fs.toList.map (fun f=>(f.type,f.offset))=L
 cells:P.cellsOf s=n
section
variable {P:Program} {h:Hp} {s t e:TypeId} {cs:List Value} {n w:Nat} {L:List (Nat×Nat)}
theorem St.len (z:St P s n L) (x:RS P h s cs):cs.length=n:=by
 obtain⟨fs,h1,_⟩:=z.und;rw[<-z.cells];exact(x.1.inv_struct h1).1
theorem St.fld (z:St P s n L) (x:RS P h s cs) (i:Nat) {o:Nat} (hL:L[i]?=some (t,o)) (ht:P.cellsOf t=w):RS P h t ((cs.drop o).take w):=by
 obtain⟨fs,h1,h2⟩:=z.und;have h3:(fs.toList[i]?).map (fun f=>(f.type,f.offset))=some (t,o):=by rw[<-List.getElem?_map,h2,hL]
 cases hf:fs.toList[i]? with
 |none=>rw[hf]at h3;cases h3
 | some f=>
   rw[hf]at h3;simp only[Option.map_some,v0h.injEq,Prod.mk.injEq]at h3;have cJ:fs[i]?=some f:=by rw[<-Array.getElem?_toList];exact hf
   rw[<-ht];exact⟨x.1.fld h1 i o t cJ h3,x.2.fld h1 i o t cJ h3⟩
theorem Y3 (ht:P.underlying t=some (.int .i64)) (x:RS P h t cs): ∃n,cs=[iV n]/\I64 n:=by
 obtain⟨k,e,h1,h2⟩:=x.1.inv_int ht;exact⟨k,e,h1,h2⟩
theorem Q7r (ht:P.underlying t=some .string) (x:RS P h t cs): ∃s,cs=[.string s]:=by
 obtain⟨k,e,_⟩:=x.1.inv_string ht;exact⟨k,e⟩
theorem Qee (ht:P.underlying t=some .bool) (x:RS P h t cs): ∃b,cs=[.bool b]:=x.1.inv_bool ht
theorem KC {α:Type} {by':Nat} {D:List Value->α->Prop} (ht:P.underlying t=some (.slice e)) (hc:P.cellsOf e=w) (hw:0 <w) (hb:P.bytesOf e=by') (hD: ∀cs,RS P h e cs-> ∃a,D cs a) (x:RS P h t cs):
 ∃v l,cs=[v]/\RowP w D h v l/\l.length*by'<=140737488351232/\l.length<=9223372036854775807:=by
 obtain⟨x1,x2⟩:=x;obtain⟨a,n,c,rfl,hn,ki,_,_,aq⟩:=x1.inv_slice ht (by rw[hc];exact hw);obtain⟨z1,z2⟩:=x2.inv ht;rw[hb]at z1
 have hm : n ≤ 9223372036854775807 := by have:maxLen=9223372036854775807:=by decide
                                         omega
 rcases aq with rfl| ⟨b,o,xs,u,rfl,hb,hg,hl,hr⟩
 · exact⟨_,[],rfl,.inl ⟨rfl,a,c,rfl⟩,by simp,by simp⟩
 have z3:=z2 b o xs u 1 rfl hg;rw[hc]at hl hr z3;obtain⟨l,cP,hlq⟩:=Qeg (Q:=fun i (k:α)=>D ((xs.drop (o+i*w)).take w) k) fun i hi=>hD _ ⟨hr i hi,z3 i hi⟩;exact⟨_,l,rfl,.inr ⟨b,o,c,xs,u,1,by rw[cP],hg,hb,by rw[cP];exact hl,hlq⟩,by rw[cP];exact z1,by rw[cP];exact hm⟩
theorem Qc4 {v:Value} {l:List Int} (x:RowP 1 (fun c (k:Int)=>c=[iV k]) h v l):RowV h v (isV l):=by
 rcases x with⟨rfl,a,c,rfl⟩| ⟨b,o,c,cs,e,m,h1,h2,h3,h4,h5⟩
 · exact .inl ⟨rfl,a,c,rfl⟩
 refine .inr ⟨b,o,c,cs,e,m,by rw[List.length_map];exact h1,h2,h3,fun i hi=>?_⟩;have aX:i <l.length:=by simpa using hi
 have:=one_at (h5 i aX);rw[Nat.mul_one]at this;rw[this,List.getElem_map]
end
structure PrgTy (P:Program) (tP tStrs tCls tCl tGls tGl tFns tFn tCode tIns tCos tCo tArr tEvs tEv tSis tSi tInt tI64 tOp tStr tBool tInts tTys:Nat) (L1 L2 L3 L4 L5 L6 L7:List (Nat×Nat)):Prop where
 prg:St P tP 8 L1
 l1:L1=[(tStrs,0),(tCls,1),(tGls,2),(tFns,3),(tCos,4),(tEvs,5),(tInt,6),(tSis,7)]
 cls:St P tCl 3 L2
 l2:L2=[(tStr,0),(tStrs,1),(tTys,2)]
 fn:St P tFn 4 L3
 l3:L3=[(tStr,0),(tInt,1),(tInt,2),(tCode,3)]
 ins:St P tIns 8 L4
 l4:L4=[(tOp,0),(tInt,1),(tInt,2),(tInt,3),(tI64,4),(tInts,5),(tInt,6),(tInt,7)]
 co:St P tCo 6 L5
 l5:L5=[(tStr,0),(tInt,1),(tArr,2)]
 ev:St P tEv 4 L6
 l6:L6=[(tStr,0),(tInt,1),(tBool,2),(tInt,3)]
 si:St P tSi 2 L7
 l7:L7=[(tInt,0),(tInt,1)]
 uStrs:P.underlying tStrs=some (.slice tStr)/\P.cellsOf tStrs=1
 uCls:P.underlying tCls=some (.slice tCl)/\P.cellsOf tCls=1
 uGls:P.underlying tGls=some (.slice tGl)/\P.cellsOf tGls=1
 uFns:P.underlying tFns=some (.slice tFn)/\P.cellsOf tFns=1
 uCode:P.underlying tCode=some (.slice tIns)/\P.cellsOf tCode=1
 uCos:P.underlying tCos=some (.slice tCo)/\P.cellsOf tCos=1
 uEvs:P.underlying tEvs=some (.slice tEv)/\P.cellsOf tEvs=1
 uSis:P.underlying tSis=some (.slice tSi)/\P.cellsOf tSis=1
 uInts:P.underlying tInts=some (.slice tInt)/\P.cellsOf tInts=1
 uTys:(∃e,P.underlying tTys=some (.slice e)/\P.cellsOf e=1)/\P.cellsOf tTys=1
 uArr:P.underlying tArr=some (.array 4 tInt)/\P.cellsOf tArr=4
 uInt:P.underlying tInt=some (.int .i64)/\P.cellsOf tInt=1
 uI64:P.underlying tI64=some (.int .i64)/\P.cellsOf tI64=1
 uOp:P.underlying tOp=some (.int .i64)/\P.cellsOf tOp=1
 uStr:P.underlying tStr=some .string/\P.cellsOf tStr=1
 uBool:P.underlying tBool=some .bool/\P.cellsOf tBool=1
 bInt:P.bytesOf tInt=8
 gl:P.cellsOf tGl=2
section
variable {P:Program} {h:Hp} {cs:List Value} {tP tStrs tCls tCl tGls tGl tFns tFn tCode tIns tCos tCo tArr tEvs tEv tSis tSi tInt tI64 tOp tStr tBool tInts tTys:Nat} {L1 L2 L3 L4 L5 L6 L7:List (Nat×Nat)}
variable (Y:PrgTy P tP tStrs tCls tCl tGls tGl tFns tFn tCode tIns tCos tCo tArr tEvs tEv tSis tSi tInt tI64 tOp tStr tBool tInts tTys L1 L2 L3 L4 L5 L6 L7)
include Y
theorem PrgTy.rd_ins (x:RS P h tIns cs): ∃a,InsD h cs a:=by
 have hl:=Y.ins.len x;have hL:=Y.l4;subst hL;obtain⟨n0,e0,r0⟩:=Y3 Y.uOp.1 (Y.ins.fld x 0 (t:=tOp) (o:=0) rfl Y.uOp.2);obtain⟨n1,e1,r1⟩:=Y3 Y.uInt.1 (Y.ins.fld x 1 (t:=tInt) (o:=1) rfl Y.uInt.2);obtain⟨n2,e2,r2⟩:=Y3 Y.uInt.1 (Y.ins.fld x 2 (t:=tInt) (o:=2) rfl Y.uInt.2);obtain⟨n3,e3,r3⟩:=Y3 Y.uInt.1 (Y.ins.fld x 3 (t:=tInt) (o:=3) rfl Y.uInt.2);obtain⟨n4,e4,r4⟩:=Y3 Y.uI64.1 (Y.ins.fld x 4 (t:=tI64) (o:=4) rfl Y.uI64.2)
 obtain⟨v,l,e5,r5,z5,_⟩:=KC (D:=fun c (k:Int)=>c=[iV k]/\I64 k) Y.uInts.1 Y.uInt.2 (by omega) Y.bInt (fun cs y=>by obtain⟨k,e,r⟩:=Y3 Y.uInt.1 y;exact⟨k,e,r⟩) (Y.ins.fld x 5 (t:=tInts) (o:=5) rfl Y.uInts.2);obtain⟨n6,e6,r6⟩:=Y3 Y.uInt.1 (Y.ins.fld x 6 (t:=tInt) (o:=6) rfl Y.uInt.2);obtain⟨n7,e7,_⟩:=Y3 Y.uInt.1 (Y.ins.fld x 7 (t:=tInt) (o:=7) rfl Y.uInt.2)
 match cs,hl with
 | [c0,c1,c2,c3,c4,c5,c6,c7],_=>
   simp only[v1D,v0U,v1E,v1p,v1g.injEq,and_true]at e0 e1 e2 e3 e4 e5 e6 e7;subst e0;subst e1;subst e2;subst e3;subst e4;subst e5;subst e6;subst e7;refine⟨⟨n0,n1,n2,n3,n4,l,n6⟩,⟨c5,n7,rfl,Qc4 (r5.ext (.refl _) fun _ _ d=>d.1)⟩,r0,r1,r2,r3,r4,by show l.length<=_;omega,fun k hk=>?_,r6⟩;obtain⟨i,hi,rfl⟩:=List.mem_iff_getElem.1 hk;obtain⟨_,_,_,_,_,_,_,_,_,_,hd⟩:=r5.at (by have nB:i <l.length:=hi;omega);exact(hd i hi).2
theorem PrgTy.rd_fn (x:RS P h tFn cs): ∃a,FunD h cs a:=by
 have hl:=Y.fn.len x;have hL:=Y.l3;subst hL;obtain⟨s,e0⟩:=Q7r Y.uStr.1 (Y.fn.fld x 0 (t:=tStr) (o:=0) rfl Y.uStr.2);obtain⟨n1,e1,r1⟩:=Y3 Y.uInt.1 (Y.fn.fld x 1 (t:=tInt) (o:=1) rfl Y.uInt.2);obtain⟨n2,e2,r2⟩:=Y3 Y.uInt.1 (Y.fn.fld x 2 (t:=tInt) (o:=2) rfl Y.uInt.2);obtain⟨v,l,e3,r3,_,z3⟩:=KC Y.uCode.1 Y.ins.cells (by omega) rfl (fun cs y=>Y.rd_ins y) (Y.fn.fld x 3 (t:=tCode) (o:=3) rfl Y.uCode.2)
 match cs,hl with
 | [c0,c1,c2,c3],_=>
   simp only[v1D,v0U,v1E,v1p,v1g.injEq,and_true]at e0 e1 e2 e3;subst e0;subst e1;subst e2;subst e3;exact⟨⟨n1,n2,l⟩,⟨s,c3,rfl,r3⟩,r1,r2,z3⟩
theorem PrgTy.rd_cl (x:RS P h tCl cs): ∃a,ClassD cs a:=by
 have hl:=Y.cls.len x;have hL:=Y.l2;subst hL;obtain⟨s,e0⟩:=Q7r Y.uStr.1 (Y.cls.fld x 0 (t:=tStr) (o:=0) rfl Y.uStr.2);obtain⟨v1,l1,e1,r1,_,z1⟩:=KC (D:=fun c (_:Unit)=>True) Y.uStrs.1 Y.uStr.2 (by omega) rfl (fun cs y=>⟨(),trivial⟩) (Y.cls.fld x 1 (t:=tStrs) (o:=1) rfl Y.uStrs.2);obtain⟨⟨te,ue,ce⟩,ct⟩:=Y.uTys;obtain⟨v2,l2,e2,r2,_,z2⟩:=KC (D:=fun c (_:Unit)=>True) ue ce (by omega) rfl (fun cs y=>⟨(),trivial⟩) (Y.cls.fld x 2 (t:=tTys) (o:=2) rfl ct);obtain⟨a1,c1',rfl⟩:=r1.val;obtain⟨a2,c2',rfl⟩:=r2.val
 match cs,hl with
 | [c0,c1,c2],_=>
   simp only[v1D,v0U,v1E,v1p,v1g.injEq,and_true]at e0 e1 e2;subst e0;subst e1;subst e2;exact⟨(l1.length,l2.length),⟨s,a1,c1',a2,c2',rfl⟩,z1,z2⟩
theorem PrgTy.rd_co (x:RS P h tCo cs): ∃a,CompD cs a:=by
 have hl:=Y.co.len x;have hL:=Y.l5;subst hL;obtain⟨s,e0⟩:=Q7r Y.uStr.1 (Y.co.fld x 0 (t:=tStr) (o:=0) rfl Y.uStr.2);obtain⟨n1,e1,r1⟩:=Y3 Y.uInt.1 (Y.co.fld x 1 (t:=tInt) (o:=1) rfl Y.uInt.2);have x2:=(Y.co.fld x 2 (t:=tArr) (o:=2) rfl Y.uArr.2).1
 match cs,hl with
 | [c0,c1,c2,c3,c4,c5],_=>
   simp only[v1D,v0U,v1E,v1p,v1g.injEq,and_true]at e0 e1;subst e0;subst e1;have h4:=(x2.inv_array Y.uArr.1).2
   have f: ∀i,i <4-> ∃n,((([c2,c3,c4,c5]:List Value).drop (i*1)).take 1)=[iV n]/\I64 n:=fun i hi=>by
    have:=h4 i hi;rw[Y.uInt.2]at this;obtain⟨k,e,q1,q2⟩:=this.inv_int Y.uInt.1;exact⟨k,e,q1,q2⟩
   obtain⟨f0,g0,q0⟩:=f 0 (by omega);obtain⟨f1,g1,q1⟩:=f 1 (by omega);obtain⟨f2,g2,q2⟩:=f 2 (by omega);obtain⟨f3,g3,q3⟩:=f 3 (by omega);simp only[Nat.mul_one,v1D,v0U,v1E,v1p,v1g.injEq,and_true]at g0 g1 g2 g3;subst g0;subst g1;subst g2;subst g3;refine⟨(n1,[f0,f1,f2,f3]),⟨s,f0,f1,f2,f3,rfl,rfl⟩,r1,fun k hk=>?_⟩;simp only[v0r,v1n,or_false]at hk;rcases hk with rfl|rfl|rfl|rfl<;>assumption
theorem PrgTy.rd_ev (x:RS P h tEv cs): ∃a,EventD cs a:=by
 have hl:=Y.ev.len x;have hL:=Y.l6;subst hL;obtain⟨s,e0⟩:=Q7r Y.uStr.1 (Y.ev.fld x 0 (t:=tStr) (o:=0) rfl Y.uStr.2);obtain⟨n1,e1,r1⟩:=Y3 Y.uInt.1 (Y.ev.fld x 1 (t:=tInt) (o:=1) rfl Y.uInt.2);obtain⟨b2,e2⟩:=Qee Y.uBool.1 (Y.ev.fld x 2 (t:=tBool) (o:=2) rfl Y.uBool.2);obtain⟨n3,e3,r3⟩:=Y3 Y.uInt.1 (Y.ev.fld x 3 (t:=tInt) (o:=3) rfl Y.uInt.2)
 match cs,hl with
 | [c0,c1,c2,c3],_=>
   simp only[v1D,v0U,v1E,v1p,v1g.injEq,and_true]at e0 e1 e2 e3;subst e0;subst e1;subst e2;subst e3;exact⟨(n1,n3),⟨s,b2,rfl⟩,r1,r3⟩
theorem PrgTy.rd_si (x:RS P h tSi cs): ∃a,SiteD cs a:=by
 have hl:=Y.si.len x;have hL:=Y.l7;subst hL;obtain⟨n0,e0,r0⟩:=Y3 Y.uInt.1 (Y.si.fld x 0 (t:=tInt) (o:=0) rfl Y.uInt.2);obtain⟨n1,e1,r1⟩:=Y3 Y.uInt.1 (Y.si.fld x 1 (t:=tInt) (o:=1) rfl Y.uInt.2)
 match cs,hl with
 | [c0,c1],_=>
   simp only[v1D,v0U,v1E,v1p,v1g.injEq,and_true]at e0 e1;subst e0;subst e1;exact⟨(n0,n1),rfl,r0,r1⟩
theorem PrgTy.rd (x:RS P h tP cs): ∃p lo cl gl fu co ev si,cs=Q8U p lo cl gl fu co ev si/\PrgAt h p lo cl gl fu co ev si:=by
 have hl:=Y.prg.len x;have hL:=Y.l1;subst hL;obtain⟨v0,l0,e0,r0,_,z0⟩:=KC (D:=fun c (_:Unit)=>True) Y.uStrs.1 Y.uStr.2 (by omega) rfl (fun cs y=>⟨(),trivial⟩) (Y.prg.fld x 0 (t:=tStrs) (o:=0) rfl Y.uStrs.2);obtain⟨v1,l1,e1,r1,_,z1⟩:=KC Y.uCls.1 Y.cls.cells (by omega) rfl (fun cs y=>Y.rd_cl y) (Y.prg.fld x 1 (t:=tCls) (o:=1) rfl Y.uCls.2);obtain⟨v2,l2,e2,r2,_,z2⟩:=KC (D:=fun c (_:Unit)=>True) Y.uGls.1 Y.gl (by omega) rfl (fun cs y=>⟨(),trivial⟩) (Y.prg.fld x 2 (t:=tGls) (o:=2) rfl Y.uGls.2)
 obtain⟨v3,l3,e3,r3,_,z3⟩:=KC Y.uFns.1 Y.fn.cells (by omega) rfl (fun cs y=>Y.rd_fn y) (Y.prg.fld x 3 (t:=tFns) (o:=3) rfl Y.uFns.2);obtain⟨v4,l4,e4,r4,_,z4⟩:=KC Y.uCos.1 Y.co.cells (by omega) rfl (fun cs y=>Y.rd_co y) (Y.prg.fld x 4 (t:=tCos) (o:=4) rfl Y.uCos.2);obtain⟨v5,l5,e5,r5,_,z5⟩:=KC Y.uEvs.1 Y.ev.cells (by omega) rfl (fun cs y=>Y.rd_ev y) (Y.prg.fld x 5 (t:=tEvs) (o:=5) rfl Y.uEvs.2);obtain⟨n6,e6,r6⟩:=Y3 Y.uInt.1 (Y.prg.fld x 6 (t:=tInt) (o:=6) rfl Y.uInt.2);obtain⟨v7,l7,e7,r7,_,z7⟩:=KC Y.uSis.1 Y.si.cells (by omega) rfl (fun cs y=>Y.rd_si y) (Y.prg.fld x 7 (t:=tSis) (o:=7) rfl Y.uSis.2)
 obtain⟨a0,c0',rfl⟩:=r0.val;obtain⟨a2,c2',rfl⟩:=r2.val
 match cs,hl with
 | [c0,c1,c2,c3,c4,c5,c6,c7],_=>
   simp only[v1D,v0U,v1E,v1p,v1g.injEq,and_true]at e0 e1 e2 e3 e4 e5 e6 e7;subst e0;subst e1;subst e2;subst e3;subst e4;subst e5;subst e6;subst e7;exact⟨⟨l0.length,l1,l2.length,l3,l4,l5,n6,l7⟩,_,_,_,_,_,_,_,rfl,⟨⟨a0,c0',rfl⟩,r1,⟨a2,c2',rfl⟩,r3,r4,r5,r7,r6,z0,z1,z2,z3,z4,z5,z7⟩⟩
end
end Go.May
namespace Go.Proofs.YtljpajcmdjmeaaaGreat
open Go.ChangeShapes Go.WideShapes Go.ChangeAt Go.RowKit Go.Deep Go.X Go.May Go.Mac
set_option maxRecDepth 100000
theorem Qct:Tryz.prog.underlying 4=some .bool:=by kernel_rfl
theorem QeG:ownKnob Tryz.prog.godebug=none:=by kernel_rfl
theorem Qcs:laidOutB Tryz.prog=true:=by kernel_rfl
theorem mod_ct:Tryz.prog.cellTypes Tryz.prog.depth 30=some [22,23,24,25,26,27,3,28]:=by kernel_rfl
theorem QeH:Tryz.prog.cellsOf 30=8:=by kernel_rfl
theorem Q6y:Tryz.prog.underlying 3=some (.int .i64):=by kernel_rfl
noncomputable def fsA (s:Nat):Array Field:=match Tryz.prog.underlying s with|some (.struct fs)=>fs|_=> #[]
theorem mod_ty:PrgTy Tryz.prog 30 22 23 148 24 275 25 73 71 76 26 151 149 27 96 28 80 3 2 74 9 4 39 146 [(22,0),(23,1),(24,2),(25,3),(26,4),(27,5),(3,6),(28,7)] [(9,0),(22,1),(146,2)] [(9,0),(3,1),(3,2),(71,3)] [(74,0),(3,1),(3,2),(3,3),(2,4),(39,5),(3,6),(3,7)] [(9,0),(3,1),(149,2)] [(9,0),(3,1),(4,2),(3,3)] [(3,0),(3,1)] where
 prg:=⟨⟨fsA 30,by kernel_rfl,by kernel_rfl⟩,by kernel_rfl⟩
 l1:=rfl
 cls:=⟨⟨fsA 148,by kernel_rfl,by kernel_rfl⟩,by kernel_rfl⟩
 l2:=rfl
 fn:=⟨⟨fsA 73,by kernel_rfl,by kernel_rfl⟩,by kernel_rfl⟩
 l3:=rfl
 ins:=⟨⟨fsA 76,by kernel_rfl,by kernel_rfl⟩,by kernel_rfl⟩
 l4:=rfl
 co:=⟨⟨fsA 151,by kernel_rfl,by kernel_rfl⟩,by kernel_rfl⟩
 l5:=rfl
 ev:=⟨⟨fsA 96,by kernel_rfl,by kernel_rfl⟩,by kernel_rfl⟩
 l6:=rfl
 si:=⟨⟨fsA 80,by kernel_rfl,by kernel_rfl⟩,by kernel_rfl⟩
 l7:=rfl
 uStrs:=⟨by kernel_rfl,by kernel_rfl⟩
 uCls:=⟨by kernel_rfl,by kernel_rfl⟩
 uGls:=⟨by kernel_rfl,by kernel_rfl⟩
 uFns:=⟨by kernel_rfl,by kernel_rfl⟩
 uCode:=⟨by kernel_rfl,by kernel_rfl⟩
 uCos:=⟨by kernel_rfl,by kernel_rfl⟩
 uEvs:=⟨by kernel_rfl,by kernel_rfl⟩
 uSis:=⟨by kernel_rfl,by kernel_rfl⟩
 uInts:=⟨by kernel_rfl,by kernel_rfl⟩
 uTys:=⟨⟨273,by kernel_rfl,by kernel_rfl⟩,by kernel_rfl⟩
 uArr:=⟨by kernel_rfl,by kernel_rfl⟩
 uInt:=⟨by kernel_rfl,by kernel_rfl⟩
 uI64:=⟨by kernel_rfl,by kernel_rfl⟩
 uOp:=⟨by kernel_rfl,by kernel_rfl⟩
 uStr:=⟨by kernel_rfl,by kernel_rfl⟩
 uBool:=⟨by kernel_rfl,by kernel_rfl⟩
 bInt:=by kernel_rfl
 gl:=by kernel_rfl
section
variable {H:Type} {enc:TypeId×Value->H} {W:World} {r:Reach} {base:Nat} {v:Value}
theorem ok_int {t:TypeId} {k:IntKind} (ht:Tryz.prog.underlying t=some (.int k)) (h:Value.okWide Tryz.prog W r base t v): ∃k' n,v=.int k' n:=by
 simp only[Value.okWide,ht,Cell.okWide]at h;cases v<;>simp only[Cell.ok,ht]at h<;>first|exact h.elim|exact⟨_,_,rfl⟩
theorem Q55 {t e:TypeId} (ht:Tryz.prog.underlying t=some (.slice e)) (h:Value.okWide Tryz.prog W r base t v):VRel (Mp.all W) v v/\Q6l v<=Q3t W:=by
 rcases Q9L ht h with rfl| ⟨a,len,cap,rfl,hb⟩
 · exact⟨.nils 0 0,by simp[Q6l]⟩
 refine⟨Qbt (w:=W) a len cap hb,?_⟩;have:=Q02 W;simp only[Q6l];omega
theorem Qca {d:DataW H} {ps:List MemPlace} (aT:Value.okWide Tryz.prog W r base 30 v) (ht:DataW.Trod enc Tryz.prog W 0 (fun _=>true) true 30 v d ps) (hB: ∀n,n∈d.weights Tryz.prog 30->n<=140737488351232):
 ∃P lo cl gl fu co ev si,v=Qds P lo cl gl fu co ev si/\VRel (Mp.all W) v v/\PrgAt (Hp.all W) P lo cl gl fu co ev si:=by
 obtain⟨fs,av,_⟩:=mod_ty.prg.und;simp only[Value.okWide,av]at aT;obtain⟨cs,rfl,cq,ts,hts,_,hc⟩:=aT;rw[mod_ct,v0h.injEq]at hts;subst hts;rw[QeH]at cq;obtain⟨cs⟩:=cs
 match cs,cq with
 | [f0,f1,f2,f3,f4,f5,f6,f7],_=>
   obtain⟨_,e0,h0⟩:=hc 0 f0 rfl;obtain⟨_,e1,h1⟩:=hc 1 f1 rfl;obtain⟨_,e2,h2⟩:=hc 2 f2 rfl;obtain⟨_,e3,h3⟩:=hc 3 f3 rfl;obtain⟨_,e4,h4⟩:=hc 4 f4 rfl;obtain⟨_,e5,h5⟩:=hc 5 f5 rfl;obtain⟨_,e6,h6⟩:=hc 6 f6 rfl;obtain⟨_,e7,h7⟩:=hc 7 f7 rfl;simp at e0 e1 e2 e3 e4 e5 e6 e7;subst e0;subst e1;subst e2;subst e3;subst e4;subst e5;subst e6;subst e7;have q0:=Q55 mod_ty.uStrs.1 (v:=f0) (by simp only[Value.okWide,mod_ty.uStrs.1];exact h0);have q1:=Q55 mod_ty.uCls.1 (v:=f1) (by simp only[Value.okWide,mod_ty.uCls.1];exact h1);have q2:=Q55 mod_ty.uGls.1 (v:=f2) (by simp only[Value.okWide,mod_ty.uGls.1];exact h2)
   have q3:=Q55 mod_ty.uFns.1 (v:=f3) (by simp only[Value.okWide,mod_ty.uFns.1];exact h3);have q4:=Q55 mod_ty.uCos.1 (v:=f4) (by simp only[Value.okWide,mod_ty.uCos.1];exact h4);have q5:=Q55 mod_ty.uEvs.1 (v:=f5) (by simp only[Value.okWide,mod_ty.uEvs.1];exact h5);have q7:=Q55 mod_ty.uSis.1 (v:=f7) (by simp only[Value.okWide,mod_ty.uSis.1];exact h7);obtain⟨k6,n6,rfl⟩:=ok_int Q6y (v:=f6) (by simp only[Value.okWide,Q6y];exact h6)
   have hv:VsRel (Mp.all W) [f0,f1,f2,f3,f4,f5,.int k6 n6,f7] [f0,f1,f2,f3,f4,f5,.int k6 n6,f7]:=
    .cons q0.1 (.cons q1.1 (.cons q2.1 (.cons q3.1 (.cons q4.1 (.cons q5.1 (.cons (.int _ _) (.cons q7.1 (.nil _))))))))
   obtain⟨fuel,hf⟩:=ht;have cK:(Value.agg #[f0,f1,f2,f3,f4,f5,.int k6 n6,f7]).cells.toList=[f0,f1,f2,f3,f4,f5,.int k6 n6,f7]:=rfl;have hf:DataW.trod enc Tryz.prog W 0 (fun _=>true) true fuel 30 [f0,f1,f2,f3,f4,f5,.int k6 n6,f7]=some (d,ps):=hf
   have gZ: ∀v,v∈[f0,f1,f2,f3,f4,f5,.int k6 n6,f7]->Q6l v<=Q3t W:=fun v hm=>by
    simp only[v0r,v1n,or_false]at hm;rcases hm with rfl|rfl|rfl|rfl|rfl|rfl|rfl|rfl
    · exact q0.2
    · exact q1.2
    · exact q2.2
    · exact q3.2
    · exact q4.2
    · exact q5.2
    · simp[Q6l]
    exact q7.2
   have gV:([f0,f1,f2,f3,f4,f5,.int k6 n6,f7]:List Value).map (JB (Mp.all W))=[f0,f1,f2,f3,f4,f5,.int k6 n6,f7]:=by
    simp only[v0B,List.map_nil,Yf q0.1,Yf q1.1,Yf q2.1,Yf q3.1,Yf q4.1,Yf q5.1,Yf q7.1,Yf (.int k6 n6:VRel (Mp.all W) (.int k6 n6) (.int k6 n6))]
   have hr:=Ka fuel 30 _ _ gZ hf;have hz:=J3 (B:=140737488351232) fuel 30 _ _ gZ hB hf;rw[gV]at hr hz;obtain⟨P,lo,cl,gl,fu,co,ev,si,ee,X⟩:=mod_ty.rd ⟨hr,hz⟩;simp only[Q8U,v1g.injEq,and_true]at ee;obtain⟨rfl,rfl,rfl,rfl,rfl,rfl,e6,rfl⟩:=ee;exact⟨P,_,_,_,_,_,_,_,by rw[e6],.agg' hv,X⟩
theorem ent_st:St Tryz.prog 49 3 [(47,0),(3,1),(2,2)]:=⟨⟨fsA 49,by kernel_rfl,by kernel_rfl⟩,by kernel_rfl⟩
theorem Q2w:Tryz.prog.underlying 31=some (.slice 49)/\Tryz.prog.cellsOf 49=3/\Tryz.prog.bytesOf 49=24:=⟨by kernel_rfl,by kernel_rfl,by kernel_rfl⟩
theorem QdK:Tryz.prog.underlying 47=some (.int .i64)/\Tryz.prog.cellsOf 47=1:=⟨by kernel_rfl,by kernel_rfl⟩
theorem rd_ent {h:Hp} {cs:List Value} (x:RS Tryz.prog h 49 cs): ∃a:Ent,EntD cs a:=by
 have hl:=ent_st.len x;obtain⟨n0,e0,_⟩:=Y3 QdK.1 (ent_st.fld x 0 (t:=47) (o:=0) rfl QdK.2);obtain⟨n1,e1,_⟩:=Y3 mod_ty.uInt.1 (ent_st.fld x 1 (t:=3) (o:=1) rfl mod_ty.uInt.2);obtain⟨n2,e2,_⟩:=Y3 mod_ty.uI64.1 (ent_st.fld x 2 (t:=2) (o:=2) rfl mod_ty.uI64.2)
 match cs,hl with
 | [c0,c1,c2],_=>
   simp only[v1D,v0U,v1E,v1p,v1g.injEq,and_true]at e0 e1 e2;subst e0;subst e1;subst e2;exact⟨⟨n0,n1,n2⟩,rfl⟩
theorem Qfl {d:DataW H} {ps:List MemPlace} (aT:Value.okWide Tryz.prog W r base 31 v) (ht:DataW.Trod enc Tryz.prog W 0 (fun _=>true) true 31 v d ps) (hB: ∀n,n∈d.weights Tryz.prog 31->n<=140737488351232):
 ∃l:List Ent,VRel (Mp.all W) v v/\RowP 3 EntD (Hp.all W) v l:=by
 have q0:=Q55 Q2w.1 (v:=v) aT;obtain⟨fuel,hf⟩:=ht
 obtain⟨a,n,c,rfl⟩: ∃a n c,v=.slice a n c:=by
  rcases Q9L Q2w.1 aT with rfl| ⟨a,len,cap,rfl,_⟩
  · exact⟨_,_,_,rfl⟩
  exact⟨_,_,_,rfl⟩
 have hf:DataW.trod enc Tryz.prog W 0 (fun _=>true) true fuel 31 [.slice a n c]=some (d,ps):=hf
 have gZ: ∀v,v∈[Value.slice a n c]->Q6l v<=Q3t W:=fun v hm=>by
  rw[List.mem_singleton]at hm;subst hm;exact q0.2
 have gV:([Value.slice a n c]:List Value).map (JB (Mp.all W))=[.slice a n c]:=by
  simp only[v0B,List.map_nil,Yf q0.1]
 have hr:=Ka fuel 31 _ _ gZ hf;have hz:=J3 (B:=140737488351232) fuel 31 _ _ gZ hB hf;rw[gV]at hr hz;obtain⟨v',l,ee,aq,_⟩:=KC Q2w.1 Q2w.2.1 (by omega) Q2w.2.2 (fun cs x=>rd_ent x) ⟨hr,hz⟩;simp only[v1g.injEq,and_true]at ee;subst ee;exact⟨l,q0.1,aq⟩
theorem Q3H {a:Assume} {C:Checked} {os:Os} {f:FuncId} {fn:Func} {s:ChangeSpec} {conds:List PathCond} {apart fresh handsOn again:Bool}
 (own:ownKnob C.prog.godebug=none) (started:os.Started) (noInit:C.prog.inits.idxOf? f=none) (hfn:C.prog.funcs[f]?=some fn)
 (witness: ∃(w:World) (tape:Tape) (i:Input),w.os=os/\(w.forCall tape i).Shaped C.prog/\i.vars=[]/\Input.okWide C.prog (w.forCall tape i) .any w.heap.size f i/\
  s.pre6 enc C.prog fn conds apart (w.forCall tape i).memory i.args/\a.holds C.prog (lone (Frame.enter C.prog f i.args .normal) [] (w.forCall tape i)))
 (contract: ∀(W:World) (base:Nat) (args:Array Value) (ds gs:List (DataW H)) (before:List MemPlace),
  (∀(j:Nat) t v,fn.params[j]?=some t->args[j]?=some v->Value.okWide C.prog W .any base t v)->
  DataW.Whole enc C.prog fn.params.toList s.vars apart W args.toList ds gs before->
  (DataW.weightsEach C.prog (fn.params.toList++s.plain.varTypes C.prog) (ds++gs)).all (· <=reachBytes)=true->
  Calls C.prog f args W fun e W'=> ∃v,e=.returned v/\s.post enc C.prog fn apart fresh handsOn again W args v W'):
 ReturnsInHanded a C os f .any (s.pre6 enc C.prog fn conds apart) (s.post enc C.prog fn apart fresh handsOn again):=by
 refine returnsInHanded_of_calls own started noInit witness ?_;intro w tape i _ _ _ aT kR hholds;obtain⟨_,_,_,gA,hfn',_,_,_,_,hval⟩:=aT;have e:gA=fn:=v0h.inj (hfn'.symm.trans hfn);subst e;obtain⟨⟨ds,gs,before,hw,hc⟩,hz⟩:=kR;have gE:=DataW.Whole.of_heap (w':=w.forCall tape i) (by rfl) hw;refine(contract (w.forCall tape i) w.heap.size i.args ds gs before hval gE (hz.weights hw)).mono fun e W' ⟨v,he,hp⟩=>?_;subst he;exact ChangeSpec.post_blind hp
end
end Go.Proofs.YtljpajcmdjmeaaaGreat
