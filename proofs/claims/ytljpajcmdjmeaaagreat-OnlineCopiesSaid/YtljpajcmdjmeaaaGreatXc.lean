/- The calculus of memory and steps, part Xc. Conditions: none. -/
import Derived.Test.YtljpajcmdjmeaaaGreatXb
import Derived.Test.YtljpajcmdjmeaaaGreatXa
import Derived.Sort.Grow
import Derived.Deep.Draws
import Derived.OpenVars
import Derived.Deep.Slices
import Derived.Lib.LaidTab
import Derived.OpenShut
open List renaming all_cons → v1e, length_append → v0j, length_map → v0v, getElem?_append_left → v0z, mem_of_getElem? → v0m, getElem?_append_right → v0Q, getElem?_map → v0D, getElem?_eq_some_iff → v0y, getElem?_eq_getElem → v0c, mem_map_of_mem → v1b, cons_append → v08, nil_append → v1c, drop_eq_getElem_cons → v1J, range → v0w, drop_zero → v0U, getElem?_cons_succ → v1Y, map_cons → v0B, map_nil → v1u, getElem?_cons_zero → v0W, mem_cons → v0r, mem_cons_of_mem → v0S, take_append_drop → v01, append_nil → v0k, ext_getElem? → v1f, take_of_length_le → v1B, nodup_cons → v0R, mem_of_mem_drop → v2k, mem_of_mem_take → v18, getElem?_drop → v1m, getElem?_eq_none → v02
open Nat renaming blt → v0a, ble → v0n, beq → v0d, eq_of_beq_eq_true → v1h, beq_refl → v0I, zero_add → v0e, le_refl → v0b, le_trans → v0t, lt_of_lt_of_le → v0p
open Bool renaming not_eq_true' → v0J, cond_eq_ite → v0T, and_eq_true → v0g, or_eq_true → v0K, not_false → v1s, and_true → v1k
open Option renaming some → v0h
open Array renaming getElem?_toList → v1z, getElem?_eq_getElem → v1V, mem_of_getElem? → v13, getElem?_eq_none → v16, getElem?_eq_some_iff → v0V
namespace Go.X
noncomputable section
def Qad (es:List MapEntry) (seen:List Nat):List MapEntry:=es.filter fun e=> !JN e.born seen
def Qg5 (es:List MapEntry) (seen:List Nat) (since:Nat):List MapEntry:=(Qad es seen).filter fun e=>v0a e.born since
def newX (es:List MapEntry) (seen:List Nat) (since:Nat):List MapEntry:=(Qad es seen).filter fun e=> !v0a e.born since
def Qdt:List MapEntry->List (Option MapEntry)
 | []=>[none]
 |_::_=>[]
def Q1u (es:List MapEntry) (seen:List Nat) (since:Nat):List (Option MapEntry):=
 Qdt (Qg5 es seen since)++(Qg5 es seen since++newX es seen since).map some
def Q2a {α:Type}:List α->Bool
 | []=>true
 |_::_=>false
def Q7Q (es:List MapEntry) (seen:List Nat) (last:Nat):Bool:= !(!Q2a seen&& !Q2a es&&es.all fun e=>v0n last e.born)
def nextC (r m since:Nat) (seen:List Nat) (cl:Nat) (h:Hp):Option MapEntry->Nx
 |some e=>.value (.tuple #[.bool true,e.key,e.val]) (h.put r (.iter (some m) since (seen++[e.born]) cl))
 |none=>.value (.tuple #[.bool false]) h
def JV (tm:Tr Value) (h:Hp) (o:Oper):Option (List Nx):=
 match o.op with
 | .next it false=>(match ev tm it with
   | .pointer (some ⟨r,0,none⟩)=>(match h.get r with
     | some (.iter (some m) since seen last)=>(match h.get m with
       |some (.map es cl)=>cond (Q7Q es seen last) (some ((Q1u es seen since).map (nextC r m since seen cl h))) none
       |_=>none)
     |_=>none)
   |_=>none)
 | .entry it=>(match ev tm it with
   | .pointer (some ⟨r,0,none⟩)=>(match h.get r with
     | some (.iter (some m) _ seen last)=>(match h.get m,seen.getLast? with
       | some (.map es cl),some stamp=>cond (v0d cl last) (match es.find? (fun e=>v0d e.born stamp)with
         |some e=>some [.value (.tuple #[e.key,e.val]) h]
         |none=>none) none
       |_,_=>none)
     |_=>none)
   |_=>none)
 |_=>none
def Q5R (s:St):Option (List Nx):=
 match s with
 | ⟨⟨_,_,tm,.inRegion ops (i::_)::_,_,.run,_,_⟩,_,h⟩=>(match ops[i]? with
   | some o=>(match QD ops tm o with
     |some true=>JV tm h o
     |_=>none)
   |none=>none)
 |_=>none
def QbV (E:Env) (n:Nx) (s:St):Option St:=
 match s with
 | ⟨fr,cs,h⟩=>ZT E fr cs h n
end
theorem Q0b (b:Nat): ∀l:List Nat,l.contains b=JN b l
 | []=>rfl
 | x ::r=>by
   rw[List.contains_cons,JN,Q0b b r];cases h:v0d b x with
   |true=>rw[v1h h];simp
   | false=>
     have:(b==x)=false:=by
      cases hb:(b==x)with
      |false=>rfl
      |true=>have e:=eq_of_beq hb;subst e;rw[v0I]at h;cases h
     rw[this];rfl
section
variable {M:Mp}
theorem EsRel.cons_iff {e e':MapEntry} {l m:List MapEntry}:EsRel M (e::l) (e'::m)↔ERel M e e'/\EsRel M l m:=by
 constructor
 · rintro⟨h1,h2⟩;exact⟨h2 0 e e' rfl rfl,by simpa using h1,fun i a b ha hb=>h2 (i+1) a b (by simpa using ha) (by simpa using hb)⟩
 rintro⟨h1,h2,h3⟩;refine⟨by simp[h2],fun i a b ha hb=>?_⟩;cases i with
 |zero=>simp at ha hb;subst ha;subst hb;exact h1
 |succ i=>exact h3 i a b (by simpa using ha) (by simpa using hb)
theorem EsRel.filter (p:Nat->Bool): ∀ {l m:List MapEntry},EsRel M l m->EsRel M (l.filter fun e=>p e.born) (m.filter fun e=>p e.born)
 | [],[],_=>⟨rfl,fun i a b ha hb=>by simp at ha⟩
 | [],_::_,h=>by have:=h.1;simp at this
 |_::_,[],h=>by have:=h.1;simp at this
 | e::l,e'::m,h=>by
   obtain⟨h1,h2⟩:=EsRel.cons_iff.1 h;have ih:=EsRel.filter p h2;have hb:e'.born=e.born:=h1.2.2;simp only[List.filter_cons,hb]
   split
   · exact EsRel.cons_iff.2 ⟨h1,ih⟩
   exact ih
theorem EsRel.append: ∀ {a b c d:List MapEntry},EsRel M a b->EsRel M c d->EsRel M (a++c) (b++d)
 | [],[],_,_,_,k=>k
 | [],_::_,_,_,h,_=>by have:=h.1;simp at this
 |_::_,[],_,_,h,_=>by have:=h.1;simp at this
 |_::_,_::_,_,_,h,k=>EsRel.cons_iff.2 ⟨(EsRel.cons_iff.1 h).1,EsRel.append (EsRel.cons_iff.1 h).2 k⟩
theorem EsRel.all (p:Nat->Bool): ∀ {l m:List MapEntry},EsRel M l m->(m.all fun e=>p e.born)=l.all fun e=>p e.born
 | [],[],_=>rfl
 | [],_::_,h=>by have:=h.1;simp at this
 |_::_,[],h=>by have:=h.1;simp at this
 | e::l,e'::m,h=>by
   obtain⟨h1,h2⟩:=EsRel.cons_iff.1 h;rw[v1e,v1e,EsRel.all p h2,h1.2.2]
theorem EsRel.none {l m:List MapEntry} (h:EsRel M l m):Q2a m=Q2a l:=by
 match l,m,h with
 | [],[],_=>rfl
 | [],_::_,h=>have:=h.1;simp at this
 |_::_,[],h=>have:=h.1;simp at this
 |_::_,_::_,_=>rfl
end
theorem JI {α:Type} (l:Array α):l.isEmpty=Q2a l.toList:=by
 obtain⟨l⟩:=l;cases l<;>simp[Q2a]
def Q18 (es:Array MapEntry) (seen:Array Nat) (since:Nat):Array (Option MapEntry):=
 (if((es.filter fun e=> !seen.contains e.born).filter fun e=>decide (e.born <since)).isEmpty then #[none]else #[])++
  (((es.filter fun e=> !seen.contains e.born).filter fun e=>decide (e.born <since))++((es.filter fun e=> !seen.contains e.born).filter fun e=>decide (e.born>=since))).map some
section
variable {W:World} {B:Nat->Prop} {E:Env} {M:Mp} {h:Hp} {w:World} {lo:Nat} {aO:List Frame}
theorem Qd9 {es:List MapEntry} {ak:Array MapEntry} (he:EsRel M es ak.toList) (seen:List Nat) (since:Nat):
 (Q18 ak seen.toArray since).size=(Q1u es seen since).length/\
 ∀ (c:Nat) (x:Option MapEntry),(Q1u es seen since)[c]?=some x->(match(x:Option MapEntry)with
   |none=>(Q18 ak seen.toArray since)[c]?=some none
   |some e=> ∃e',(Q18 ak seen.toArray since)[c]?=some (some e')/\ERel M e e'):=by
 have jZ:EsRel M (Qad es seen) (ak.toList.filter fun e=> !seen.toArray.contains e.born):=by
  have h1:=he.filter fun n=> !JN n seen
  have h2:(fun e:MapEntry=> !seen.toArray.contains e.born)=fun e=> !JN e.born seen:=by
   funext e;rw[<-Q0b];simp
  rw[h2];exact h1
 have hold:EsRel M (Qg5 es seen since) ((ak.toList.filter fun e=> !seen.toArray.contains e.born).filter fun e=>decide (e.born <since)):=by
  have h1:=jZ.filter fun n=>v0a n since
  have h2:(fun e:MapEntry=>decide (e.born <since))=fun e=>v0a e.born since:=by
   funext e
   cases hb:v0a e.born since with
   |true=>exact decide_eq_true ((QT _ _).1 hb)
   |false=>exact decide_eq_false fun ai=>by rw[(QT _ _).2 ai]at hb;cases hb
  rw[h2];exact h1
 have fl:EsRel M (newX es seen since) ((ak.toList.filter fun e=> !seen.toArray.contains e.born).filter fun e=>decide (e.born>=since)):=by
  have h1:=jZ.filter fun n=> !v0a n since
  have h2:(fun e:MapEntry=>decide (e.born>=since))=fun e=> !v0a e.born since:=by
   funext e
   cases hb:v0a e.born since with
   |true=>exact decide_eq_false fun k5=>by have:=(QT _ _).1 hb;omega
   |false=>exact decide_eq_true (by
    rcases Nat.lt_or_ge e.born since with ai|k5
    · rw[(QT _ _).2 ai]at hb;cases hb
    exact k5)
  rw[h2];exact h1
 have cX:=hold.append fl
 have hM:(Q18 ak seen.toArray since).toList=Qdt ((ak.toList.filter fun e=> !seen.toArray.contains e.born).filter fun e=>decide (e.born <since))++
  ((((ak.toList.filter fun e=> !seen.toArray.contains e.born).filter fun e=>decide (e.born <since)))++((ak.toList.filter fun e=> !seen.toArray.contains e.born).filter fun e=>decide (e.born>=since))).map some:=by
  unfold Q18;rw[JI];simp only[Array.toList_append,Array.toList_map,Array.toList_filter]
  congr 1
  generalize (List.filter (fun e=>decide (e.born <since)) (List.filter (fun e=> !seen.toArray.contains e.born) ak.toList))=q;cases q<;>rfl
 have cq:(Q18 ak seen.toArray since).size=(Q18 ak seen.toArray since).toList.length:=(Array.length_toList).symm;have bj: ∀c:Nat,(Q18 ak seen.toArray since)[c]?=(Q18 ak seen.toArray since).toList[c]?:=fun c=>(v1z).symm;rw[cq];simp only[bj];rw[hM];unfold Q1u;generalize (List.filter (fun e=>decide (e.born <since)) (List.filter (fun e=> !seen.toArray.contains e.born) ak.toList))=o' at hold cX;generalize (List.filter (fun e=>decide (e.born>=since)) (List.filter (fun e=> !seen.toArray.contains e.born) ak.toList))=n' at cX;generalize Qg5 es seen since=o at hold cX;generalize newX es seen since=n at cX
 have kR:Qdt o'=Qdt o:=by
  match o,o',hold with
  | [],[],_=>rfl
  | [],_::_,h=>have:=h.1;simp at this
  |_::_,[],h=>have:=h.1;simp at this
  |_::_,_::_,_=>rfl
 rw[kR]
 have hpn: ∀x,x∈Qdt o->x=none:=by
  intro x hx
  match o,hx with
  | [],hx=>simpa[Qdt]using hx
  |_::_,hx=>cases hx
 generalize Qdt o=pre at*;refine⟨by simp only[v0j,v0v];have:=cX.1;simp only[v0j]at this;omega,fun c x hx=>?_⟩;by_cases hc:c <pre.length
 · rw[v0z hc]at hx;have:=hpn x (v0m hx);subst this;rw[v0z hc];exact hx
 rw[v0Q (by omega),v0D,Option.map_eq_some_iff]at hx;obtain⟨e,hx,rfl⟩:=hx;simp only;rw[v0Q (by omega),v0D];have ai:c -pre.length <(o'++n').length:=by rw[<-cX.1];exact(v0y.1 hx).1
 have h1:(o'++n')[c -pre.length]?=some (o'++n')[c -pre.length]:=v0c ai;rw[h1];exact⟨_,rfl,cX.2 _ _ _ hx h1⟩
theorem Q6Z (P:Program) (H:HRel W B M h w) (n:Nat) (hn:0 <n): ∃c w1,(choose (.mapNext n)).run P w=.ok c w1/\HRel W B M h w1/\w1.heap=w.heap/\c <n:=by
 by_cases hf:(Question.mapNext n).forced=true
 · exact⟨0,w,by simp[choose,Sem.run,hf],H,rfl,hn⟩
 refine⟨(Question.mapNext n).cut (w.tape w.drawn (.mapNext n)),{w with drawn:=w.drawn+1},by simp[choose,Sem.run,hf],World.drew_HRel H _ (Nat.le_succ _),rfl,Nat.mod_lt _ hn⟩
theorem Qco (P:Program) (r since last cl:Nat) (seen:Array Nat) (m:Nat) (es:Array MapEntry) (ty:TypeId) (hr:(getObj r).run P w=.ok (.mapIter (some m) since seen last) w) (hm:(getObj m).run P w=.ok (.map es cl) w)
 (aT:(!seen.isEmpty&& !es.isEmpty&&es.all fun e=>decide (e.born>=last))=false):
 (Instr.next (.pointer (some ⟨r,0,none⟩)) false ty).run P w=
  ((choose (.mapNext (Q18 es seen since).size)).run P w).andThen fun c w1=>((match(Q18 es seen since)[c]? with
    |some (some e)=>(do setObj r (.mapIter (some m) since (seen.push e.born) cl);pure (.tuple #[.bool true,e.key,e.val]):Sem Value)
    |some none=>pure (.tuple #[.bool false])
    |none=>stuck "Next: no such candidate"):Sem Value).run P w1:=by
 unfold Instr.next;simp only[Sem.run_bind,hr,Result.andThen_ok,hm,aT];simp only[Bool.false_eq_true,if_false,Sem.run_bind];unfold Q18;rfl
theorem Q81: ∀ {es m:List MapEntry} (stamp:Nat),EsRel M es m->(match es.find? (fun e=>v0d e.born stamp)with
 |some e=> ∃e',m.find? (fun e=>e.born==stamp)=some e'/\ERel M e e'
 |none=>True)
 | [],_,_,_=>trivial
 |_::_,[],_,h=>by have:=h.1;simp at this
 | e ::l,e'::m,stamp,h=>by
   obtain⟨h1,h2⟩:=EsRel.cons_iff.1 h;have hb:e'.born=e.born:=h1.2.2;rw[List.find?_cons,List.find?_cons,hb];cases hq:v0d e.born stamp with
   | true=>
     have:(e.born==stamp)=true:=by rw[v1h hq];simp
     rw[this];exact⟨e',rfl,h1⟩
   | false=>
     have:(e.born==stamp)=false:=by
      cases hb:(e.born==stamp)with
      |false=>rfl
      |true=>have e:=eq_of_beq hb;rw[e,v0I]at hq;cases hq
     rw[this];exact Q81 stamp h2
theorem QfG {tm:Tr Value} {o:Oper} {ρ:Operand->Value} {l:List Nx} (H:HRel W B M h w) (hE: ∀x,x∈o.op.operands->VRel M (ev tm x) (ρ x)) (hq:JV tm h o=some l) (hn:Q2a l=false):
 ∃n,n∈l/\Qg2 W B E M h w n ((execOp ρ o).run E.P w):=by
 obtain⟨dst,op,ty,pos,after,guard⟩:=o;unfold JV at hq;simp only at hq hE
 split at hq
 case h_3=>cases hq
 · rename_i it;have hv:=hE it (by simp[Op.operands]);have iy:execOp ρ ⟨dst,.next it false,ty,pos,after,guard⟩=(do pure (.value (<-Instr.next (ρ it) false ty)):Sem Next):=rfl;rw[iy];generalize ρ it=v' at hv
   split at hq
   case h_2=>cases hq
   rename_i r lT;rw[lT]at hv;cases hv with
   |ptr hp=>
   rename_i p'
   split at hq
   case h_2=>cases hq
   rename_i m since seen last hg
   split at hq
   case h_2=>cases hq
   rename_i es cl hm
   replace hq:=Qd hq
   obtain⟨hl,hq⟩:=hq;cases hq
   have hn:0 <(Q1u es seen since).length:=by
    cases hc:Q1u es seen since with
    |nil=>rw[hc]at hn;cases hn
    |cons a b=>simp
   obtain⟨b,δ,S,x,hρ,hx,hδ,m',rfl,him⟩:=H.place hp.1 hg (by simp);subst hδ;have ep:=hp.2 b 0 S hρ;simp only[v0e]at ep;subst ep;obtain⟨Sm,ak,hρm,hxm,he,hgm⟩:=Yk (E:=E) H him hm;have bC:(getObj b).run E.P w=.ok (.mapIter (some m') since seen.toArray last) w:=by simp[getObj,Sem.run,hx]
   have aT:(!seen.toArray.isEmpty&& !ak.isEmpty&&ak.all fun e=>decide (e.born>=last))=false:=by
    unfold Q7Q at hl;rw[v0J]at hl;rw[JI,JI,he.none]
    have h1:(ak.all fun e=>decide (e.born>=last))=es.all fun e=>v0n last e.born:=by
     rw[<-Array.all_toList];rw[he.all (fun n=>decide (n>=last))]
     congr 1
     funext e
     cases hb:v0n last e.born with
     |true=>exact decide_eq_true ((Qr _ _).1 hb)
     |false=>exact decide_eq_false fun k5=>by rw[(Qr _ _).2 k5]at hb;cases hb
    rw[h1];exact hl
   obtain⟨cq,kh⟩:=Qd9 he seen since;obtain⟨c,w1,cW,H1,cp,hc⟩:=Q6Z E.P H (Q18 ak seen.toArray since).size (by rw[cq];exact hn);have ay:=Qco E.P b since last cl seen.toArray m' ak ty bC hgm aT;rw[cW,Result.andThen_ok]at ay;rw[cq]at hc;have nO:(Q1u es seen since)[c]?=some (Q1u es seen since)[c]:=by simp[hc]
   refine⟨nextC r m since seen cl h (Q1u es seen since)[c],v1b (v0m nO),?_⟩;generalize (Q1u es seen since)[c]=x at nO;cases x with
   | some e=>
     obtain⟨e',jE,lV⟩:=kh c _ nO;rw[jE]at ay;simp only at ay;have je:w1.heap[b]?=some (.mapIter (some m') since seen.toArray last):=by rw[cp];exact hx
     have aZ:e'.born=e.born:=lV.2.2;obtain⟨p1,p2,p3⟩:=HRel.setObj (E:=E) H1 (o:=.iter (some m) since (seen++[e.born]) cl) (x:=.mapIter (some m') since (seen.toArray.push e'.born) cl) hρ je (by intro c e f hh;cases hh) ⟨rfl,m',by rw[aZ];simp,him⟩;refine⟨.tuple #[.bool true,e'.key,e'.val],_,M,?_,Ev.refl M,p2,p3,.tuple' (.cons (.bool _) (.cons lV.1 (.cons lV.2.1 (.nil M))))⟩;rw[Sem.run_bind,ay];simp only[Sem.run_bind,p1,Result.andThen_ok,Sem.run_pure]
   | none=>
     have jE:=kh c _ nO;simp only at jE;rw[jE]at ay;simp only at ay;refine⟨.tuple #[.bool false],w1,M,?_,Ev.refl M,H1,Keep.refl _ _ _,.tuple' (.cons (.bool _) (.nil M))⟩;rw[Sem.run_bind,ay];simp
 rename_i it;have hv:=hE it (by simp[Op.operands]);have iy:execOp ρ ⟨dst,.entry it,ty,pos,after,guard⟩=(do pure (.value (<-Instr.entry (ρ it))):Sem Next):=rfl;rw[iy];generalize ρ it=v' at hv
 split at hq
 case h_2=>cases hq
 rename_i r lT;rw[lT]at hv;cases hv with
 |ptr hp=>
 rename_i p'
 split at hq
 case h_2=>cases hq
 rename_i m since seen last hg
 split at hq
 case h_2=>cases hq
 rename_i es cl stamp hm av
 replace hq:=Qd hq
 obtain⟨hl,hq⟩:=hq
 split at hq
 case h_2=>cases hq
 rename_i e fO;cases hq;have hl:=v1h hl;subst hl;obtain⟨b,δ,S,x,hρ,hx,hδ,m',rfl,him⟩:=H.place hp.1 hg (by simp);subst hδ;have ep:=hp.2 b 0 S hρ;simp only[v0e]at ep;subst ep;obtain⟨Sm,ak,hρm,hxm,he,hgm⟩:=Yk (E:=E) H him hm;have bC:(getObj b).run E.P w=.ok (.mapIter (some m') since seen.toArray cl) w:=by simp[getObj,Sem.run,hx]
 have hf:=Q81 stamp he;rw[fO]at hf;obtain⟨e',hfe,lV⟩:=hf;have dB:seen.toArray.back?=some stamp:=by rw[List.back?_toArray];exact av
 have hfa:ak.find? (fun e=>e.born==stamp)=some e':=by rw[<-Array.find?_toList];exact hfe
 refine⟨_,List.mem_cons_self,.tuple #[e'.key,e'.val],w,M,?_,Ev.refl M,H,Keep.refl _ _ _,.tuple' (.cons lV.1 (.cons lV.2.1 (.nil M)))⟩;unfold Instr.entry;simp[bC,dB,hgm,hfa]
theorem Q9e [hB:FactX (B W.heap.size->E.q=true)] {s:St} {m:Machine} {l:List Nx} (R:Sim W B E aO s m) (hq:Q5R s=some l) (hn:Q2a l=false):
 ∃n,n∈l/\ ∀s',QbV E n s=some s'-> ∃m',Steps E.P m m'/\Sim W B E aO s' m':=by
 obtain⟨M,lo,aw,cs',w,rfl,H,an,T,S⟩:=R;unfold Q5R at hq
 split at hq
 case h_2=>cases hq
 rename_i fn nt tm ops i rest k df kd ro cs h;obtain⟨gA,tmps,todo',df',cC,iM,ro'⟩:=aw;obtain⟨h1,h2,h3,h4,h5,h6⟩:=T;simp only at h1 h2 h3 h4 h5 h6 H an S;subst h1;subst h2;cases cC<;>simp only[MdRel]at h5
 split at hq
 case h_2=>cases hq
 rename_i o ho
 split at hq
 case h_2=>cases hq
 rename_i hw;obtain⟨hk,T,hs⟩:=h6;cases hk with
 |cons hi ht=>
 cases hi with
 |inRegion _ _ hc=>
 have dj: ∀cl,o.op=.defer cl->False:=by
  intro cl e;unfold JV at hq;rw[e]at hq;cases hq
 have hE:=Q5M M H.glob hc ho df' fun t _=>T t;obtain⟨n,dy,aT⟩:=QfG (E:=E) H hE hq hn;refine⟨n,dy,fun s' gX=>?_⟩;unfold QbV at gX;simp only at gX;have gU:=Q9l (E:=E) (M:=M) (h:=h) (ρ:=(Act.mk tmps df').eval) (o:=o) h3 gX (fun cl e=>(dj cl e).elim);obtain⟨m',h1,h2⟩:=Q3T (fr:=⟨gA,nt,tm,.inRegion ops (i::rest)::k,df,.run,iM,ro⟩) (b:=⟨gA,tmps,[],df',.run,iM,ro'⟩) (tmps:=tmps) (df:=df') (rest:=rest) H an ⟨rfl,rfl,h3,h4,trivial,⟨.cons (.inRegion ops (i::rest) hc) ht,T,hs⟩⟩ S gX ho (KJ T hw) (gU▸aT);exact⟨m',h1,h2⟩
end
inductive RunsD (E:Env) (G:St->Prop):St->Prop
 |done {s:St} (g:G s):RunsD E G s
 |step {s s':St} (h:stepX E s=some s') (k:RunsD E G s'):RunsD E G s
 |choose {s:St} {l:List Nx} (h:Q5R s=some l) (hn:Q2a l=false) (f:Nx->St) (hf: ∀n,n∈l->QbV E n s=some (f n)) (k: ∀n,n∈l->RunsD E G (f n)):RunsD E G s
section
variable {E:Env} {G G':St->Prop} {s s':St}
theorem RunsD.pre (r:Runs E s s') (k:RunsD E G s'):RunsD E G s:=by
 obtain⟨n,r⟩:=r
 induction n generalizing s with
 |zero=>rw[Q1Y]at r;exact r▸k
 | succ n ih=>
   rw[KP]at r
   split at r
   · rename_i h;exact .step h (ih r)
   exact r▸k
theorem RunsD.bind (r:RunsD E G s) (h: ∀s,G s->RunsD E G' s):RunsD E G' s:=by
 induction r with
 |done g=>exact h _ g
 |step e _ ih=>exact .step e ih
 |choose e hn f hf _ ih=>exact .choose e hn f hf ih
theorem RunsD.mono (r:RunsD E G s) (h: ∀s,G s->G' s):RunsD E G' s:=r.bind fun s g=>.done (h s g)
theorem RunsD.of (r:Runs E s s') (g:G s'):RunsD E G s:=.pre r (.done g)
end
section
variable {W:World} {B:Nat->Prop} {E:Env} {aO:List Frame} {G:St->Prop}
theorem Qb2 [hB:FactX (B W.heap.size->E.q=true)] (hm:E.P.follows .mixedOrders=true) {s:St} (r:RunsD E G s): ∀ {m:Machine},Sim W B E aO s m-> ∃s' m',Steps E.P m m'/\Sim W B E aO s' m'/\G s':=by
 induction r with
 |done g=>exact fun R=>⟨_,_,.refl _ _,R,g⟩
 | step e _ ih=>
   intro m R;obtain⟨m1,S1,R1⟩:=Q7g hm e R;obtain⟨s2,m2,S2,R2,g⟩:=ih R1;exact⟨s2,m2,S1.trans S2,R2,g⟩
 | choose e hn f hf _ ih=>
   intro m R;obtain⟨n,hl,hs⟩:=Q9e R e hn;obtain⟨m1,S1,R1⟩:=hs _ (hf n hl);obtain⟨s2,m2,S2,R2,g⟩:=ih n hl R1;exact⟨s2,m2,S1.trans S2,R2,g⟩
end
theorem Q5L (E:Env) (hm:E.P.follows .mixedOrders=true) {f:FuncId} {args:List Value} {ad:Array Value} {M0:Mp} {h0:Hp} {w:World} {s0:St}
 {v0:Value} (bM:ZB 20 v0=true) {B:Nat->Prop} [hB:FactX (B w.heap.size->E.q=true)] (hBo: ∀b,b <w.heap.size-> ¬B b) (H0:HRel w B M0 h0 w) (hv:VsRel M0 args ad.toList) (hs:Jp E f args h0=some s0) (he:RunsD E (fun s=>QbG E f s=some v0) s0):
 Calls E.P f ad w fun e w'=>e=.returned v0/\w'.os=w.os/\w'.tape=w.tape/\w'.output=w.output/\w.heap.size<=w'.heap.size/\(∀b,b <w.heap.size->w'.heap[b]?=w.heap[b]?)/\(B w.heap.size->w.drawn<=w'.drawn):=by
 intro aO;unfold Jp at hs
 split at hs
 · rename_i fr bI;cases hs
   have R0:Sim w B E aO ⟨fr,[],h0⟩ (lone (Frame.enter E.P f ad .normal) aO w):=
    ⟨M0,0,_,aO,w,rfl,H0,Nat.zero_le _,J1 (args:=args.toArray) (by simpa using hv) (by simpa using bI) h0 0,rfl⟩
   obtain⟨s,m',St,⟨M,lo,aw,cs',w',rfl,H,an,T,S⟩,he2⟩:=Qb2 hm he R0;clear he
   replace he:=he2
   clear he2;unfold QbG at he
   split at he
   · rename_i fn nt tm todo ro h;cases hfn:v0d fn f with
     |false=>rw[hfn,cond_false]at he;cases he
     | true=>
       rw[hfn,cond_true]at he;have e:=(Qz _ _).1 hfn;subst e
       split at he
       · rename_i fu cG
         split at he
         · rename_i vs mA;obtain⟨gA,tmps,todo',df',cC,iM,ro'⟩:=aw;obtain⟨h1,h2,h3,h4,h5,h6⟩:=T;simp only at h1 h2 h3 h4 h5 h6 H S;subst h1;subst h2;cases cC<;>simp only[MdRel]at h5
           cases df' with
           |cons d l=>exact h4.elim
           | nil=>
             obtain⟨v',hr,hv⟩:=Kt H cG mA h6
             have jh:v'=v0:=by
              have fj:oneOf vs=v0:=v0h.inj he;rw[fj]at hv;exact Q1y 20 bM hv
             subst jh;have bS:cs'=aO:=S;subst bS;exact⟨.returned v',w',_,⟨rfl,H.os,H.tape.1,H.output,H.size,fun b hb=>H.old b hb (hBo b hb),H.tape.2⟩,St,rfl,rfl,rfl,rfl,fu,E.hfn _ fu cG,hr⟩
         cases he
       cases he
   cases he
 cases hs
theorem Q6U (E:Env) (hm:E.P.follows .mixedOrders=true) {f:FuncId} {args:List Value} {ad:Array Value} {M0:Mp} {h0:Hp} {w:World} {s0:St}
 {v0:Value} (bM:ZB 20 v0=true) (H0:HRel w (fun _=>False) M0 h0 w) (hv:VsRel M0 args ad.toList) (hs:Jp E f args h0=some s0) (he:RunsD E (fun s=>QbG E f s=some v0) s0):
 Calls E.P f ad w fun e w'=>e=.returned v0/\w'.os=w.os/\w'.tape=w.tape/\w'.output=w.output/\w.heap.size<=w'.heap.size/\ ∀b,b <w.heap.size->w'.heap[b]?=w.heap[b]?:=
 haveI:FactX ((fun _:Nat=>False) w.heap.size->E.q=true):=⟨fun h=>h.elim⟩
 (Q5L E hm bM (fun _ _ h=>h) H0 hv hs he).mono fun _ _ ⟨h1,h2,h3,h4,h5,h6,_⟩=>⟨h1,h2,h3,h4,h5,h6⟩
abbrev Kn:=List (Nat×Value)
def lk:Kn->Nat->Option Value
 | [],_=>none
 |(k,v)::r,t=>cond (v0d k t) (some v) (lk r t)
def Ag (tm:Tr Value) (l:Kn):Prop:= ∀t v,lk l t=some v->tm.get t=some v
def Sub:Kn->Kn->Prop
 | [],_=>True
 |(t,v)::r,l=>lk l t=some v/\Sub r l
def evl (l:Kn):Operand->Option Value
 | .tmp t=>lk l t
 | .const v=>some v
 | .global g=>some (.pointer (some ⟨g,0,none⟩))
 | .func f=>some (.func (.func f) #[] #[])
theorem Ag.ev {tm:Tr Value} {l:Kn} (a:Ag tm l) {o:Operand} {v:Value} (h:evl l o=some v):ev tm o=v:=by
 cases o with
 |tmp t=>simp only[evl]at h;simp only[Go.X.ev,a t v h]
 |const c=>simp only[evl,v0h.injEq]at h;exact h
 |global g=>simp only[evl,v0h.injEq]at h;exact h
 |func f=>simp only[evl,v0h.injEq]at h;exact h
theorem Zj (k:Nat) (v:Value) (r:Kn) (t:Nat):lk ((k,v)::r) t=if k=t then some v else lk r t:=by
 simp only[lk];by_cases h:k=t
 · subst h;simp[v0I]
 rw[(Qw k t).2 h,if_neg h];rfl
theorem Ag.put {tm:Tr Value} {l:Kn} (a:Ag tm l) (nt d:Nat) (v:Value) (hd:v0a d nt=true):Ag (setT nt tm d v) ((d,v)::l):=by
 intro t u h;rw[Zj]at h;rw[Q1E];by_cases e:d=t
 · rw[if_pos e]at h;rw[if_pos ⟨e,(QT _ _).1 hd⟩];exact h
 rw[if_neg e]at h;rw[if_neg (fun x=>e x.1)];exact a t u h
theorem Sub.ag {tm:Tr Value}: ∀ {l' l:Kn},Sub l' l->Ag tm l->Ag tm l'
 | [],_,_,_=>fun t v h=>by simp[lk]at h
 | (k,w)::r,l,s,a=>fun t v h=>by
   rw[Zj]at h
   split at h
   · rename_i e;subst e;cases h;exact a _ _ s.1
   exact Sub.ag s.2 a t v h
inductive Out where
 |next
 |ret
 |exit (id:Nat)
def At (fn:FuncId) (nt:Nat) (tm:Tr Value) (k:List It) (df:List Deferred) (kd:CallKind) (ro:Option Nat) (cs:List Fr) (h:Hp):Out->St->Prop
 | .next,s=>s=⟨⟨fn,nt,tm,k,df,.run,kd,ro⟩,cs,h⟩
 | .exit id,s=> ∃k',ZM id k'=ZM id k/\s=⟨⟨fn,nt,tm,.code (.exit id)::k',df,.run,kd,ro⟩,cs,h⟩
 | .ret,s=> ∃k',s=⟨⟨fn,nt,tm,.code .ret::k',df,.run,kd,ro⟩,cs,h⟩
def Q3b:Code->Bool
 | .seq a b=>Q3b a&&Q3b b
 | .cond _ a b=>Q3b a&&Q3b b
 | .block _ b=>Q3b b
 | .loop b=>Q3b b
 | .scope b=>Q3b b
 | .rangeFunc _ _ _ _=>false
 |_=>true
def Q2L:It->Bool
 | .code c=>Q3b c
 | .inLoop b=>Q3b b
 |_=>true
def KD (h h':Hp):Prop:=h.n<=h'.n/\ ∀b,b <h.n-> ∀d,h.get b=some (.deferred d)->h'.get b=some (.deferred d)
theorem KD.refl (h:Hp):KD h h:=⟨v0b _,fun _ _ _ e=>e⟩
theorem KD.trans {a b c:Hp} (x:KD a b) (y:KD b c):KD a c:=⟨v0t x.1 y.1,fun i hi d e=>y.2 i (v0p hi x.1) d (x.2 i hi d e)⟩
theorem KD.alloc (h:Hp) (o:AObj):KD h (h.alloc o):=⟨by rw[Hp.n_alloc];omega,fun i hi d e=>by rw[Hp.get_alloc,if_neg (by omega)];exact e⟩
theorem KD.put {h:Hp} {b:Nat} (o:AObj) (hb: ∀d,h.get b≠some (.deferred d)):KD h (h.put b o):=
 ⟨by rw[Hp.n_put];omega,fun i _ d e=>by
  rw[Hp.get_put]
  split
  · rename_i e';subst e';exact absurd e (hb d)
  exact e⟩
def Dd (h h':Hp) (ds:List Nat):Prop:=KD h h'/\ds.Nodup/\ ∀b,b∈ds->h.n<=b/\b <h'.n/\h'.get b=some (.deferred (some []))
theorem Dd.nil {h h':Hp} (k:KD h h'):Dd h h' []:=⟨k,.nil,fun b hb=>by cases hb⟩
theorem Dd.comp {a b c:Hp} {d1 d2:List Nat} (x:Dd a b d1) (y:Dd b c d2):Dd a c (d2++d1):=by
 refine⟨x.1.trans y.1,?_,fun i hi=>?_⟩
 · rw[List.nodup_append];refine⟨y.2.1,x.2.1,fun i hi j hj e=>?_⟩;have h1:=(y.2.2 i hi).1;have h2:=(x.2.2 j hj).2.1;omega
 rcases List.mem_append.1 hi with hi|hi
 · obtain⟨p,q,r⟩:=y.2.2 i hi;exact⟨v0t x.1.1 p,q,r⟩
 obtain⟨p,q,r⟩:=x.2.2 i hi;exact⟨p,v0p q y.1.1,y.1.2 i q _ r⟩
theorem Dd.pre {a b c:Hp} {d:List Nat} (x:KD a b) (y:Dd b c d):Dd a c d:=by simpa using(Dd.nil x).comp y
def marks (ds:List Nat):List Deferred:=ds.map fun b=> {target:=.collected b,args:= #[]}
theorem Qa5 (a b:List Nat) (df:List Deferred):marks (a++b)++df=marks a++(marks b++df):=by simp[marks]
theorem Jz {h h':Hp} {a:Addr} {l:List Value} (e:Zl h a l=some h'):KD h h':=by
 unfold Zl at e
 split at e
 · cases e
 split at e
 · rename_i hg;rw[v0T]at e
   split at e
   · cases e;exact KD.put _ (by intro d hd;rw[hg]at hd;cases hd)
   cases e
 cases e
theorem Q5f {E:Env} {h h':Hp} {t:TypeId} {m k v:Value} (e:Ku E h t m k v=some h'):KD h h':=by
 unfold Ku at e
 split at e
 · split at e
   · rename_i hg;rw[v0T]at e
     split at e
     · split at e
       · cases e;exact KD.put _ (by intro d hd;rw[hg]at hd;cases hd)
       · cases e;exact KD.put _ (by intro d hd;rw[hg]at hd;cases hd)
       cases e
     cases e
   cases e
 cases e
theorem Q6D {E:Env} {h h':Hp} {t:TypeId} {m k v:Value} (e:Kd E h t m k=some (v,h')):KD h h':=by
 unfold Kd at e
 split at e
 · split at e
   · rename_i hg;rw[v0T]at e
     split at e
     · split at e
       · split at e
         · cases e;exact KD.put _ (by intro d hd;rw[hg]at hd;cases hd)
         cases e
       · split at e
         · cases e;exact KD.put _ (by intro d hd;rw[hg]at hd;cases hd)
         cases e
       cases e
     cases e
   cases e
 cases e
theorem Q4l {h h':Hp} {m k v:Value} (e:ZN h m k v=some h'):KD h h':=by
 unfold ZN at e
 split at e
 · split at e
   · rename_i hg
     split at e
     · cases e;exact KD.put _ (by intro d hd;rw[hg]at hd;cases hd)
     cases e
   cases e
 cases e
theorem Qb3 {E:Env} {h h':Hp} {t:TypeId} {m k:Value} (e:Q16 E h t m k=some h'):KD h h':=by
 unfold Q16 at e
 split at e
 · split at e
   · rename_i hg;rw[v0T]at e
     split at e
     · split at e
       · cases e;exact KD.put _ (by intro d hd;rw[hg]at hd;cases hd)
       · cases e;exact KD.refl _
       cases e
     cases e
   cases e
 cases e
theorem Q6K {E:Env} {h h':Hp} {e:TypeId} {z b n:Nat} {old xs:List Value} {v:Value} (q:growX E h e z b n old xs=some (v,h')):KD h h':=by
 unfold growX at q
 split at q
 · rw[v0T]at q
   split at q
   · cases q;exact KD.alloc _ _
   cases q
 cases q
theorem Qbs {E:Env} {h h':Hp} {t t':TypeId} {s x v:Value} (e:Zd E h t t' s x=some (v,h')):KD h h':=by
 unfold Zd at e
 split at e
 · split at e
   · cases e
   · split at e
     · rw[v0T]at e
       split at e
       · cases e;exact KD.refl _
       exact Q6K e
     · rw [v0T]at e
       split at e
       · split at e
         · rw[v0T]at e
           split at e
           · cases e;exact KD.refl _
           cases e
         cases e
       rw[v0T]at e
       split at e
       · split at e
         · rename_i hs;rw[v0T]at e
           split at e
           · cases e;exact Jz hs
           cases e
         cases e
       split at e
       · rename_i hg;rw[v0T]at e
         split at e
         · split at e
           · rw[v0T]at e
             split at e
             · exact(KD.put _ (by intro d hd;rw[hg]at hd;cases hd)).trans (Q6K e)
             cases e
           exact Q6K e
         cases e
       cases e
     cases e
   cases e
 cases e
theorem Qfv {E:Env} {h h':Hp} {t:TypeId} {a b v:Value} (e:Qbb E h t a b=some (v,h')):KD h h':=by
 unfold Qbb at e
 split at e
 · split at e
   · split at e
     · rw[v0T]at e
       split at e
       · split at e
         · rename_i hs;cases e;exact Jz hs
         cases e
       cases e
     cases e
   · cases e;exact KD.refl _
   cases e
 cases e
theorem Qd5 {h h':Hp} {as:List Value} {v:Value} (e:Q3q h as=some (.value v h')\/Q3q h as=some (.skip h')):KD h h':=by
 unfold Q3q at e
 split at e
 · split at e
   · rcases e with e|e
     · cases e;exact KD.alloc _ _
     cases e
   rcases e with e|e<;>cases e
 rcases e with e|e<;>cases e
theorem Q5P {E:Env} {h h':Hp} {f:FuncId} {as:Array Value} {v:Value} (e:YN E h f as=some (.value v h')\/YN E h f as=some (.skip h')):KD h h':=by
 unfold YN at e;rw[v0T]at e
 split at e
 · exact Qd5 e
 split at e
 · rw[v0T]at e
   split at e<;>rcases e with e|e<;>cases e
 rcases e with e|e<;>cases e
theorem Qaq {E:Env} {h h':Hp} {d:Deferred} {v:Value} (e:Zx E h d=some (.value v h')\/Zx E h d=some (.skip h')):KD h h':=by
 unfold Zx at e
 split at e
 · exact Q5P e
 · rcases e with e|e<;>cases e
 · split at e
   · split at e
     · exact Q5P e
     rcases e with e|e<;>cases e
   rcases e with e|e<;>cases e
 · split at e
   · split at e
     · split at e
       · rename_i hs;rcases e with e|e
         · cases e;exact Qbs hs
         cases e
       rcases e with e|e<;>cases e
     rcases e with e|e<;>cases e
   · split at e
     · rename_i hs;rcases e with e|e
       · cases e;exact Qfv hs
       cases e
     rcases e with e|e<;>cases e
   · split at e
     · rename_i hs;rcases e with e|e
       · cases e;exact Qb3 hs
       cases e
     rcases e with e|e<;>cases e
   · rcases e with e|e<;>cases e
   · split at e<;>rcases e with e|e<;>cases e
   rcases e with e|e<;>cases e
 rcases e with e|e<;>cases e
theorem Q78 {E:Env} {tm:Tr Value} {o:Oper} {h h':Hp} {v:Value} (e:QW E tm o h=some (.value v h')\/QW E tm o h=some (.skip h')):KD h h':=by
 unfold QW at e
 split at e
 · split at e
   · split at e
     · rename_i hs;rcases e with e|e
       · cases e
       cases e;unfold Q1R at hs
       split at hs
       · rw[v0T]at hs
         split at hs
         · exact Jz hs
         cases hs
       cases hs
     rcases e with e|e<;>cases e
   rcases e with e|e<;>cases e
 · split at e
   · rename_i hs;rcases e with e|e<;>cases e;exact Q5f hs
   rcases e with e|e<;>cases e
 · split at e
   · rename_i hs;rcases e with e|e<;>cases e;exact Q5f hs
   rcases e with e|e<;>cases e
 · split at e
   · rename_i hs;rcases e with e|e<;>cases e;exact Q6D hs
   rcases e with e|e<;>cases e
 · split at e
   · rename_i hs;rcases e with e|e<;>cases e;exact Q4l hs
   rcases e with e|e<;>cases e
 · split at e
   · rcases e with e|e<;>cases e;exact KD.alloc _ _
   · rcases e with e|e<;>cases e;exact KD.alloc _ _
   · split at e
     · rcases e with e|e<;>cases e;exact KD.alloc _ _
     rcases e with e|e<;>cases e
   rcases e with e|e<;>cases e
 · split at e
   · split at e
     · rename_i hg;rw[v0T]at e
       split at e<;>rcases e with e|e<;>cases e
       · exact KD.put _ (by intro d hd;rw[hg]at hd;cases hd)
       exact KD.refl _
     rcases e with e|e<;>cases e
   rcases e with e|e<;>cases e
 · split at e
   · split at e
     · rcases e with e|e<;>cases e;exact KD.alloc _ _
     rcases e with e|e<;>cases e
   · rw[v0T]at e
     split at e
     · split at e
       · rename_i hg;rcases e with e|e<;>cases e;exact KD.put _ (by intro d hd;rw[hg]at hd;cases hd)
       rcases e with e|e<;>cases e
     rcases e with e|e<;>cases e
   rcases e with e|e<;>cases e
 · split at e
   · exact Qaq e
   rcases e with e|e<;>cases e
 · split at e<;>rcases e with e|e<;>cases e
 · split at e<;>rcases e with e|e<;>cases e
 rcases e with e|e<;>cases e
def Ld (fn:FuncId) (nt:Nat) (b:Bool) (k:List It) (df:List Deferred) (kd:CallKind) (ro:Option Nat) (cs:List Fr) (h:Hp) (Q:Out->Kn->Hp->Prop) (s:St):Prop:=
 ∃o l' h' fT ds,Q o l' h'/\Ag fT l'/\(b=true->ds=[])/\Dd h h' ds/\At fn nt fT k (marks ds++df) kd ro cs h' o s
def T (E:Env) (fn:FuncId) (nt:Nat) (is:List It) (l:Kn) (h:Hp) (Q:Out->Kn->Hp->Prop):Prop:=
 ∀tm,Ag tm l-> ∀k df kd ro cs,(is.all Q2L=true\/ro=none)->RunsD E (Ld fn nt (is.all Q2L) k df kd ro cs h Q) ⟨⟨fn,nt,tm,is++k,df,.run,kd,ro⟩,cs,h⟩
def W (E:Env) (fn:FuncId) (nt:Nat) (c:Code) (l:Kn) (h:Hp) (Q:Out->Kn->Hp->Prop):Prop:=T E fn nt [.code c] l h Q
section
variable {E:Env} {fn:FuncId} {nt:Nat} {l l':Kn} {h h':Hp} {Q:Out->Kn->Hp->Prop} {is is':List It} {k:List It}
theorem T.done (q:Q .next l h):T E fn nt [] l h Q:=fun tm a _ _ _ _ _ _=>.done ⟨.next,l,h,tm,[],q,a,fun _=>rfl,.nil (.refl h),rfl⟩
theorem T.pre (hn:is.all Q2L=true->is'.all Q2L=true) (hk:KD h h') (hs: ∀tm,Ag tm l-> ∃bq,Ag bq l'/\ ∀k df kd ro cs,Runs E ⟨⟨fn,nt,tm,is++k,df,.run,kd,ro⟩,cs,h⟩ ⟨⟨fn,nt,bq,is'++k,df,.run,kd,ro⟩,cs,h'⟩)
 (q:T E fn nt is' l' h' Q):T E fn nt is l h Q:=by
 intro tm a k df kd ro cs ho;obtain⟨bq,a2,r⟩:=hs tm a;refine .pre (r k df kd ro cs) ((q bq a2 k df kd ro cs (ho.imp hn id)).mono ?_);rintro s ⟨o,l3,h3,ck,ds,q3,a3,n3,d3,r3⟩;exact⟨o,l3,h3,ck,ds,q3,a3,fun e=>n3 (hn e),.pre hk d3,r3⟩
theorem T.step (hs: ∀tm k df kd ro cs,Ag tm l->stepX E ⟨⟨fn,nt,tm,is++k,df,.run,kd,ro⟩,cs,h⟩=some ⟨⟨fn,nt,tm,is'++k,df,.run,kd,ro⟩,cs,h'⟩)
 (q:T E fn nt is' l h' Q) (hk:KD h h':=by exact KD.refl _) (hn:is.all Q2L=true->is'.all Q2L=true:=by simp[Q2L,Q3b]):T E fn nt is l h Q:=
 .pre hn hk (fun tm a=>⟨tm,a,fun k df kd ro cs=>.step (hs tm k df kd ro cs a) (.refl _ _)⟩) q
theorem T.mono {Q':Out->Kn->Hp->Prop} (q:T E fn nt is l h Q) (hq: ∀o l h,Q o l h->Q' o l h):T E fn nt is l h Q':=by
 intro tm a k df kd ro cs ho;refine(q tm a k df kd ro cs ho).mono ?_;rintro s ⟨o,l3,h3,ck,ds,q3,r3⟩;exact⟨o,l3,h3,ck,ds,hq _ _ _ q3,r3⟩
theorem T.weak (s:Sub l' l) (q:T E fn nt is l' h Q):T E fn nt is l h Q:=fun tm a=>q tm (s.ag a)
theorem T.seq {i2:It} (hx: ∀id k,ZM id (i2::k)=ZM id k) (q:T E fn nt is l h fun o l h=>match o with| .next=>T E fn nt [i2] l h Q|o=>Q o l h):T E fn nt (is++[i2]) l h Q:=by
 intro tm a k df kd ro cs ho;have hn:(is++[i2]).all Q2L=true->is.all Q2L=true/\[i2].all Q2L=true:=fun e=>by rw[List.all_append,v0g]at e;exact e
 rw[List.append_assoc];refine(q tm a (i2::k) df kd ro cs (ho.imp (fun e=>(hn e).1) id)).bind ?_;rintro s ⟨o,l3,h3,ck,ds,q3,a3,n3,d3,r3⟩;cases o with
 | next=>
   have r3:s=_:=r3;subst r3;refine(q3 ck a3 k (marks ds++df) kd ro cs (ho.imp (fun e=>(hn e).2) id)).mono ?_;rintro s ⟨o,l4,h4,iW,ds4,q4,a4,n4,d4,r4⟩;exact⟨o,l4,h4,iW,ds4++ds,q4,a4,fun e=>by rw[n3 (hn e).1,n4 (hn e).2];rfl,d3.comp d4,by rw[Qa5];exact r4⟩
 |ret=>exact .done ⟨.ret,l3,h3,ck,ds,q3,a3,fun e=>n3 (hn e).1,d3,r3⟩
 | exit id=>
   obtain⟨k',e,r⟩:=r3;exact .done ⟨.exit id,l3,h3,ck,ds,q3,a3,fun e=>n3 (hn e).1,d3,k',by rw[e,hx],r⟩
def Thn (E:Env) (fn:FuncId) (nt:Nat) (b:Code) (Q:Out->Kn->Hp->Prop):Out->Kn->Hp->Prop
 | .next,l,h=>W E fn nt b l h Q
 | .ret,l,h=>Q .ret l h
 | .exit i,l,h=>Q (.exit i) l h
theorem Q5 {a b:Code} (q:W E fn nt a l h (Thn E fn nt b Q)):W E fn nt (.seq a b) l h Q:=by
 have q':T E fn nt [.code a] l h (Thn E fn nt b Q):=q;refine .step (is':=[.code a]++[.code b]) (fun tm k df kd ro cs _=>rfl) (.seq (fun _ _=>rfl) (q'.mono fun o l h q=>?_));cases o<;>exact q
theorem Q4 (q:Q .next l h):W E fn nt .skip l h Q:=.step (is':=[]) (fun _tm _k _df _kd _ro _cs _=>rfl) (.done q)
theorem Q8 (q:Q .ret l h):W E fn nt .ret l h Q:=fun tm a k _df _kd _ro _cs _=>.done ⟨.ret,l,h,tm,[],q,a,fun _=>rfl,.nil (.refl h),k,rfl⟩
theorem QF {id:Nat} (q:Q (.exit id) l h):W E fn nt (.exit id) l h Q:=fun tm a k _df _kd _ro _cs _=>.done ⟨.exit id,l,h,tm,[],q,a,fun _=>rfl,.nil (.refl h),k,rfl,rfl⟩
theorem Q2 {c:Operand} {a b:Code} {t:Bool} (hc:evl l c=some (.bool t)) (qa:t=true->W E fn nt a l h Q) (qb:t=false->W E fn nt b l h Q):W E fn nt (.cond c a b) l h Q:=by
 cases t with
 |true=>exact .step (is':=[.code a]) (fun tm k df kd ro cs ag=>by simp only[stepX,QU,v08,v1c,ag.ev hc,cond_true]) (qa rfl) (hn:=fun e=>by simp[Q2L,Q3b]at e ⊢;exact e.1)
 |false=>exact .step (is':=[.code b]) (fun tm k df kd ro cs ag=>by simp only[stepX,QU,v08,v1c,ag.ev hc,cond_false]) (qb rfl) (hn:=fun e=>by simp[Q2L,Q3b]at e ⊢;exact e.2)
theorem Q1i (id i:Nat) (k:List It):ZM id (.inBlock i::k)=if i=id then some k else ZM id k:=by
 show cond (v0d i id) (some k) (ZM id k)=_;by_cases e:i=id
 · subst e;simp[v0I]
 rw[(Qw i id).2 e,if_neg e];rfl
def Blk (id:Nat) (Q:Out->Kn->Hp->Prop):Out->Kn->Hp->Prop
 | .next,l,h=>Q .next l h
 | .ret,l,h=>Q .ret l h
 | .exit i,l,h=>if i=id then Q .next l h else Q (.exit i) l h
theorem Qb {id:Nat} {b:Code} (q:W E fn nt b l h (Blk id Q)):W E fn nt (.block id b) l h Q:=by
 intro tm a k df kd ro cs ho;refine .step (s':=⟨⟨fn,nt,tm,[.code b]++.inBlock id::k,df,.run,kd,ro⟩,cs,h⟩) rfl ((q tm a (.inBlock id::k) df kd ro cs ho).bind ?_);rintro s ⟨o,l3,h3,ck,ds,q3,a3,n3,d3,r3⟩;cases o with
 | next=>
   have r3:s=_:=r3;subst r3;exact .step (s':=⟨⟨fn,nt,ck,k,marks ds++df,.run,kd,ro⟩,cs,h3⟩) rfl (.done ⟨.next,l3,h3,ck,ds,q3,a3,n3,d3,rfl⟩)
 | ret=>
   exact .done ⟨.ret,l3,h3,ck,ds,q3,a3,n3,d3,r3⟩
 | exit i=>
   obtain⟨k',e2,r⟩:=r3;by_cases e:i=id
   · simp only[Blk,if_pos e]at q3;rw[Q1i,if_pos e.symm]at e2;subst r;refine .step (s':=⟨⟨fn,nt,ck,k,marks ds++df,.run,kd,ro⟩,cs,h3⟩) ?_ (.done ⟨.next,l3,h3,ck,ds,q3,a3,n3,d3,rfl⟩);show(match ZM i k' with|some k'=>_|none=>_)=_;rw[e2]
   simp only[Blk,if_neg e]at q3;rw[Q1i,if_neg (fun x=>e x.symm)]at e2;exact .done ⟨.exit i,l3,h3,ck,ds,q3,a3,n3,d3,k',e2,r⟩
def Rnd (I:Nat->Kn->Hp->Prop) (n:Nat) (Q:Out->Kn->Hp->Prop):Out->Kn->Hp->Prop
 | .next,l,h=> ∃m,m <n/\ ∃l',Sub l' l/\I m l' h
 | .ret,l,h=>Q .ret l h
 | .exit i,l,h=>Q (.exit i) l h
theorem Q8Y {b:Code} (I:Nat->Kn->Hp->Prop) {n:Nat} (start:I n l h)
 (round: ∀n l h,I n l h->W E fn nt b l h (Rnd I n Q)):W E fn nt (.loop b) l h Q:=by
 have key: ∀n l h,I n l h->T E fn nt [.code b,.inLoop b] l h Q:=by
  intro n
  induction n using Nat.strongRecOn with
  | _ n ih=>
    intro l h hI;refine T.seq (is:=[.code b]) (fun _ _=>rfl) (T.mono (round n l h hI) fun o l2 h2 q=>?_);cases o with
    | next=>
      obtain⟨m,hm,l3,s,hI3⟩:=q;exact .step (is':=[.code b,.inLoop b]) (fun tm k df kd ro cs _=>rfl) (.weak s (ih m hm l3 h2 hI3))
    |ret=>exact q
    |exit i=>exact q
 exact .step (is':=[.code b,.inLoop b]) (fun tm k df kd ro cs _=>rfl) (key n l h start)
def Rs (E:Env) (ops:Array Oper) (dr:Bool):List Nat->List (Oper×List Oper)->Prop
 | [],[]=>True
 |i::t,(o,lt)::r=>ops[i]?=some o/\(dr=true->cls E o=2-> ∀j,j∈Qg7 E ops i t-> ∃q,q∈lt/\ops[j]?=some q)/\Rs E ops dr t r
 |_,_=>False
def KH (dr:Bool) (ops:Array Oper) (todo:List Nat):It:=match dr with
 |true=>.draw ops todo
 |false=>.inRegion ops todo
def WL (E:Env) (fn:FuncId) (nt:Nat) (dr:Bool) (ops:Array Oper) (fin its:List (Oper×List Oper)) (l:Kn) (h:Hp) (Q:Kn->Hp->Prop):Prop:=
 ∀ todo,Rs E ops dr todo its-> ∀tm,Ag tm l-> ∀k df kd ro cs,RunsD E (fun s=> ∃l' h' fT todo',Q l' h'/\Ag fT l'/\Rs E ops dr todo' fin/\KD h h'/\s=⟨⟨fn,nt,fT,KH dr ops todo'::k,df,.run,kd,ro⟩,cs,h'⟩)
   ⟨⟨fn,nt,tm,KH dr ops todo::k,df,.run,kd,ro⟩,cs,h⟩
theorem WL.pre {E:Env} {fn:FuncId} {nt:Nat} {dr:Bool} {ops:Array Oper} {fin its mq:List (Oper×List Oper)} {l l':Kn} {h h':Hp} {Q:Kn->Hp->Prop} (hk:KD h h')
 (hs: ∀todo,Rs E ops dr todo its-> ∃todo',Rs E ops dr todo' mq/\ ∀tm,Ag tm l-> ∃bq,Ag bq l'/\ ∀k df kd ro cs,Runs E ⟨⟨fn,nt,tm,KH dr ops todo::k,df,.run,kd,ro⟩,cs,h⟩ ⟨⟨fn,nt,bq,KH dr ops todo'::k,df,.run,kd,ro⟩,cs,h'⟩)
 (q:WL E fn nt dr ops fin mq l' h' Q):WL E fn nt dr ops fin its l h Q:=by
 intro todo hr tm a k df kd ro cs;obtain⟨todo',fJ,r⟩:=hs todo hr;obtain⟨bq,a2,r2⟩:=r tm a;refine .pre (r2 k df kd ro cs) ((q todo' fJ bq a2 k df kd ro cs).mono ?_);rintro s ⟨l3,h3,ck,t3,q3,a3,jn,k3,r3⟩;exact⟨l3,h3,ck,t3,q3,a3,jn,hk.trans k3,r3⟩
theorem WL.done {E:Env} {fn:FuncId} {nt:Nat} {dr:Bool} {ops:Array Oper} {its:List (Oper×List Oper)} {l:Kn} {h:Hp} {Q:Out->Kn->Hp->Prop}
 (q:WL E fn nt dr ops [] its l h (Q .next)) {todo:List Nat} (hr:Rs E ops dr todo its):T E fn nt [KH dr ops todo] l h Q:=by
 intro tm a k df kd ro cs _;refine(q todo hr tm a k df kd ro cs).bind ?_;rintro s ⟨l3,h3,ck,t3,q3,a3,jn,k3,r3⟩;subst r3;refine .step (s':=⟨⟨fn,nt,ck,k,df,.run,kd,ro⟩,cs,h3⟩) ?_ (.done ⟨.next,l3,h3,ck,[],q3,a3,fun _=>rfl,.nil k3,rfl⟩);cases t3 with
 |cons i t=>exact jn.elim
 |nil=>cases dr<;>rfl
theorem Q7s (E:Env) (ops:Array Oper): ∀(n k:Nat),k+n=ops.size->Rs E ops false ((List.range' k n)) ((ops.toList.drop k).map fun o=>(o,[]))
 | 0,k,e=>by
   have:ops.toList.drop k=[]:=by rw[List.drop_eq_nil_iff];simp;omega
   rw[this];trivial
 | n+1,k,e=>by
   have hk:k <ops.toList.length:=by simp;omega
   rw[v1J hk,List.range'_succ];refine⟨?_,fun h=>by(cases h),Q7s E ops n (k+1) (by omega)⟩;simp[v1V (show k <ops.size by omega)]
theorem Q3 {id:Nat} {ops:Array Oper} (hc:QS ops=true) (q:WL E fn nt false ops [] (ops.toList.map fun o=>(o,[])) l h (Q .next)):W E fn nt (.region id ops false) l h Q:=by
 have hr:Rs E ops false (v0w ops.size) (ops.toList.map fun o=>(o,[])):=by
  have:=Q7s E ops ops.size 0 (by omega);rwa[v0U,<-List.range_eq_range']at this
 refine .step (is':=[.inRegion ops (v0w ops.size)]) (fun tm k df kd ro cs _=>?_) (WL.done q hr) (hn:=fun _=>rfl);simp only[stepX,QU,v08,v1c,hc,cond_true,cond_false]
def pk (ops:List Oper):Nat->Oper
 |0=>ops.headD default
 |n+1=>pk ops.tail n
def resolve (ops:Array Oper) (sp:List (Nat×List Nat)):List (Oper×List Oper):=sp.map fun p=>(pk ops.toList p.1,p.2.map (pk ops.toList))
def dOk (E:Env) (ops:Array Oper):List (Nat×List Nat)->Bool
 | []=>true
 |(i,lt)::r=>v0a i ops.size&&(!v0d (cls E (pk ops.toList i)) 2||(Qg7 E ops i (r.map (·.1))).all (fun j=>v0a j ops.size&&JN j lt))&&dOk E ops r
theorem Qdu (ops:List Oper): ∀(i:Nat),i <ops.length->ops[i]?=some (pk ops i):=by
 induction ops with
 |nil=>intro i h;simp at h
 | cons o r ih=>
   intro i h;cases i with
   |zero=>rfl
   |succ n=>simp only[v1Y,pk,List.tail_cons];exact ih n (by simpa using h)
theorem pkA (ops:Array Oper) (i:Nat) (h:i <ops.size):ops[i]?=some (pk ops.toList i):=by
 rw[<-Qdu ops.toList i (by simpa using h)];simp
theorem Q9t (E:Env) (ops:Array Oper): ∀sp,dOk E ops sp=true->Rs E ops true (sp.map (·.1)) (resolve ops sp)
 | [],_=>trivial
 | (i,lt)::r,h=>by
   simp only[dOk,v0g,v0K,v0J,Qw,List.all_eq_true,Yy,QT]at h;refine⟨pkA ops i h.1.1,fun _ hc j hj=>?_,Q9t E ops r h.2⟩;obtain⟨h1,h2⟩:=(h.1.2.resolve_left fun hn=>hn hc) j hj;exact⟨_,v1b h2,pkA ops j h1⟩
theorem Yq {id:Nat} {ops:Array Oper} (sp:List (Nat×List Nat)) (hc:QS ops=true) (hk:J6 E ops=true) (hs:canon E ops=sp.map (·.1)) (hd:dOk E ops sp=true)
 (q:WL E fn nt true ops [] (resolve ops sp) l h (Q .next)):W E fn nt (.region id ops true) l h Q:=by
 refine .step (is':=[.draw ops (canon E ops)]) (fun tm k df kd ro cs _=>?_) (WL.done q (by rw[hs];exact Q9t E ops sp hd)) (hn:=fun _=>rfl);simp only[stepX,QU,v08,v1c,hc,hk,cond_true]
variable {dr:Bool} {ops:Array Oper} {fin rest:List (Oper×List Oper)} {R:Kn->Hp->Prop} {lt:List Oper}
theorem Q0 (q:R l h):WL E fn nt dr ops rest rest l h R:=fun todo hr tm a _ _ _ _ _=>.done ⟨l,h,tm,todo,q,a,hr,.refl h,rfl⟩
theorem QP {dr:Bool} {ops bV:Array Oper} {rest:List (Oper×List Oper)} {id:Nat} {b:Code} (q:WL E fn nt false bV [] (bV.toList.map fun o=>(o,[])) l h (Thn E fn nt b Q .next)) (hc:QS bV=true:=by kernel_rfl):WL E fn nt dr ops rest rest l h (Thn E fn nt (.seq (.region id bV false) b) Q .next):=Q0 (Q5 (Q3 hc q))
theorem Z8 {dr:Bool} {ops bV:Array Oper} {rest:List (Oper×List Oper)} {id:Nat} {a b:Code} (q:WL E fn nt false bV [] (bV.toList.map fun o=>(o,[])) l h (Thn E fn nt a (Thn E fn nt b Q) .next)) (hc:QS bV=true:=by kernel_rfl):WL E fn nt dr ops rest rest l h (Thn E fn nt (.seq (.seq (.region id bV false) a) b) Q .next):=Q0 (Q5 (Q5 (Q3 hc q)))
theorem Q7 {bV:Array Oper} {id:Nat} {b:Code} (q:WL E fn nt false bV [] (bV.toList.map fun o=>(o,[])) l h (Thn E fn nt b Q .next)) (hc:QS bV=true:=by kernel_rfl):W E fn nt (.seq (.region id bV false) b) l h Q:=Q5 (Q3 hc q)
theorem WL.mono {its:List (Oper×List Oper)} {R':Kn->Hp->Prop} (q:WL E fn nt dr ops fin its l h R) (hq: ∀l h,R l h->R' l h):WL E fn nt dr ops fin its l h R':=by
 intro todo hr tm a k df kd ro cs;refine(q todo hr tm a k df kd ro cs).mono ?_;rintro s ⟨l3,h3,ck,t3,q3,r⟩;exact⟨l3,h3,ck,t3,hq _ _ q3,r⟩
theorem Qdi {its mid:List (Oper×List Oper)} (q:WL E fn nt dr ops mid its l h fun l h=>WL E fn nt dr ops fin mid l h R):WL E fn nt dr ops fin its l h R:=by
 intro todo hr tm a k df kd ro cs;refine(q todo hr tm a k df kd ro cs).bind ?_;rintro s ⟨l3,h3,ck,t3,q3,a3,jn,k3,r3⟩;subst r3;refine(q3 t3 jn ck a3 k df kd ro cs).mono ?_;rintro s ⟨l4,h4,iW,t4,q4,a4,jS,k4,r4⟩;exact⟨l4,h4,iW,t4,q4,a4,jS,k3.trans k4,r4⟩
def Gd (ops:Array Oper) (l:Kn) (g:Option (Nat×Bool)):Prop:=
 match g with
 |none=>True
 |some (g,w)=> ∃og d,ops[g]?=some og/\og.dst=some d/\lk l d=some (.bool w)
theorem gn:Gd ops l none:=trivial
theorem gy {g d:Nat} {w b:Bool} (h1:(pk ops.toList g).dst=some d) (h0:v0a g ops.size=true) (h2:lk l d=some (.bool b)) (h3:b=w):Gd ops l (some (g,w)):=
 ⟨_,d,pkA ops g ((QT _ _).1 h0),h1,h3▸h2⟩
theorem Gd.wanted {o:Oper} {tm:Tr Value} (g:Gd ops l o.guard) (a:Ag tm l):QD ops tm o=some true:=by
 unfold QD;generalize o.guard=x at g;cases x with
 |none=>rfl
 | some p=>
   obtain⟨i,w⟩:=p;obtain⟨og,d,h1,h2,h3⟩:=g;simp only[h1,h2,a _ _ h3];cases w<;>rfl
def Ng (ops:Array Oper) (l:Kn) (g:Option (Nat×Bool)):Prop:=
 match g with
 |none=>False
 |some (g,w)=> ∃og d v,ops[g]?=some og/\og.dst=some d/\lk l d=some v/\(v=.bool (!w)\/v=undef)
theorem ng {g d:Nat} {w b:Bool} (h1:(pk ops.toList g).dst=some d) (h0:v0a g ops.size=true) (h2:lk l d=some (.bool b)) (h3:b= !w):Ng ops l (some (g,w)):=
 ⟨_,d,_,pkA ops g ((QT _ _).1 h0),h1,h2,.inl (by rw[h3])⟩
theorem ngu {g d:Nat} {w:Bool} (h1:(pk ops.toList g).dst=some d) (h0:v0a g ops.size=true) (h2:lk l d=some undef):Ng ops l (some (g,w)):=
 ⟨_,d,_,pkA ops g ((QT _ _).1 h0),h1,h2,.inr rfl⟩
theorem Ng.wanted {o:Oper} {tm:Tr Value} (g:Ng ops l o.guard) (a:Ag tm l):QD ops tm o=some false:=by
 unfold QD;generalize o.guard=x at g;cases x with
 |none=>exact g.elim
 | some p=>
   obtain⟨i,w⟩:=p;obtain⟨og,d,v,h1,h2,h3,h4⟩:=g;simp only[h1,h2,a _ _ h3];rcases h4 with rfl|rfl
   · cases w<;>rfl
   rfl
def Wn (nt:Nat) (l:Kn) (d:Option Nat) (v:Value) (l':Kn):Prop:=match d with
 |none=>l'=l
 |some d=>v0a d nt=true/\l'=(d,v)::l
theorem Wn.put {d:Option Nat} {v:Value} (w:Wn nt l d v l') {tm:Tr Value} (a:Ag tm l):Ag (Q1e nt tm d v) l':=by
 cases d with
 |none=>exact w▸a
 |some d=>obtain⟨h1,rfl⟩:=w;exact a.put nt d v h1
theorem wn {d:Nat} {v:Value} (h:v0a d nt=true):Wn nt l (some d) v ((d,v)::l):=⟨h,rfl⟩
theorem wn0 {v:Value}:Wn nt l none v l:=rfl
theorem QdR {o:Oper} (g:Ng ops l o.guard) (w:Wn nt l o.dst undef l') (q:WL E fn nt dr ops fin rest l' h R):WL E fn nt dr ops fin ((o,lt)::rest) l h R:=by
 refine .pre (.refl h) (fun todo hr=>?_) q;cases todo with
 |nil=>exact hr.elim
 | cons i t=>
   obtain⟨h1,_,h3⟩:=hr;refine⟨t,h3,fun tm a=>⟨_,w.put a,fun k df kd ro cs=>.step ?_ (.refl _ _)⟩⟩;cases dr
   · simp only[KH,stepX,QU,h1,g.wanted a]
   simp only[KH,stepX,QU,Q6T,h1,g.wanted a]
theorem QA {o:Oper} {v:Value} (g:Gd ops l o.guard) (hc:cls E o=0) (hv: ∀tm,Ag tm l->QL E tm o h=some v) (w:Wn nt l o.dst v l') (q:WL E fn nt dr ops fin rest l' h R):
 WL E fn nt dr ops fin ((o,lt)::rest) l h R:=by
 refine .pre (.refl h) (fun todo hr=>?_) q;cases todo with
 |nil=>exact hr.elim
 | cons i t=>
   obtain⟨h1,_,h3⟩:=hr;refine⟨t,h3,fun tm a=>⟨_,w.put a,fun k df kd ro cs=>.step ?_ (.refl _ _)⟩⟩;cases dr
   · simp only[KH,stepX,QU,h1,g.wanted a,Q6o,hc,hv tm a,ZT,QX]
   simp only[KH,stepX,QU,Q6T,h1,g.wanted a,hc,hv tm a]
theorem JZ {o:Oper} {b:AObj} {f:Nat->Value} (g:Gd ops l o.guard) (hc:cls E o=1) (hv: ∀tm,Ag tm l->allocX E tm o=some (b,f)) (w:Wn nt l o.dst (f h.n) l')
 (q:WL E fn nt dr ops fin rest l' (h.alloc b) R):WL E fn nt dr ops fin ((o,lt)::rest) l h R:=by
 refine .pre (.alloc h b) (fun todo hr=>?_) q;cases todo with
 |nil=>exact hr.elim
 | cons i t=>
   obtain⟨h1,_,h3⟩:=hr;refine⟨t,h3,fun tm a=>⟨_,w.put a,fun k df kd ro cs=>.step ?_ (.refl _ _)⟩⟩;cases dr
   · simp only[KH,stepX,QU,h1,g.wanted a,Q6o,hc,hv tm a,ZT,QX]
   simp only[KH,stepX,QU,Q6T,h1,g.wanted a,hc,hv tm a]
def Again (E:Env) (ops:Array Oper) (l:Kn) (h:Hp) (q:Oper):Prop:=
 Ng ops l q.guard\/(Gd ops l q.guard/\ ∃v d,q.dst=some d/\lk l d=some v/\sameV 20 v v=true/\ ∀tm,Ag tm l->QL E tm q h=some v)
theorem Q4s {tm:Tr Value} {k:List It} {df:List Deferred} {kd:CallKind} {ro:Option Nat} {cs:List Fr} {rest:List Nat}: ∀(js:List Nat),(∀j,j∈js->Q2H E tm h ops j=true)->
 Runs E ⟨⟨fn,nt,tm,.chk ops js rest::k,df,.run,kd,ro⟩,cs,h⟩ ⟨⟨fn,nt,tm,.draw ops rest::k,df,.run,kd,ro⟩,cs,h⟩
 | [],_=>.step rfl (.refl _ _)
 |j::js,hj=>.step (by simp only[stepX,QU,hj j (by simp),cond_true]) (Q4s js fun i hi=>hj i (by simp[hi]))
theorem Again.ok {tm:Tr Value} (a:Ag tm l) {q:Oper} {j:Nat} (hq:ops[j]?=some q) (g:Again E ops l h q):Q2H E tm h ops j=true:=by
 unfold Q2H;simp only[hq];rcases g with g| ⟨g,v,d,h1,h2,h3,h4⟩
 · simp only[g.wanted a]
 simp only[g.wanted a,h4 tm a,h1,a _ _ h2,h3]
theorem Jc {i:Nat} {t:List Nat} {o:Oper} {v:Value} {tm:Tr Value} {k:List It} {df:List Deferred} {kd:CallKind} {ro:Option Nat} (h1:ops[i]?=some o):
 QX E ⟨fn,nt,tm,.inRegion ops (i::t)::k,df,.run,kd,ro⟩ v=some ⟨fn,nt,Q1e nt tm o.dst v,.inRegion ops t::k,df,.run,kd,ro⟩:=by
 simp only[QX,h1]
theorem Q4h {i:Nat} {t:List Nat} {o:Oper} {v:Value} {tm:Tr Value} {k:List It} {df:List Deferred} {kd:CallKind} {ro:Option Nat} (h1:ops[i]?=some o):
 QX E ⟨fn,nt,tm,.draw ops (i::t)::k,df,.run,kd,ro⟩ v=some ⟨fn,nt,Q1e nt tm o.dst v,.chk ops (Qg7 E ops i t) t::k,df,.run,kd,ro⟩:=by
 simp only[QX,h1]
theorem Q79 {o:Oper} {v:Value} (g:Gd ops l o.guard) (hk:KD h h')
 (hv: ∀tm fr cs aw is k df kd ro,Ag tm l->fr=⟨fn,nt,tm,is::k,df,.run,kd,ro⟩->QX E fr v=some aw->
  ∃s,(match QW E tm o h with|some n=>ZT E fr cs h n|none=>none)=some s/\Runs E s ⟨aw,cs,h'⟩)
 (hc:cls E o=2) (w:Wn nt l o.dst v l') (ha: ∀q,q∈lt->Again E ops l' h' q) (q:WL E fn nt dr ops fin rest l' h' R):WL E fn nt dr ops fin ((o,lt)::rest) l h R:=by
 refine .pre hk (fun todo hr=>?_) q;cases todo with
 |nil=>exact hr.elim
 | cons i t=>
   obtain⟨h1,h2,h3⟩:=hr;cases dr
   · refine⟨t,h3,fun tm a=>⟨_,w.put a,fun k df kd ro cs=>?_⟩⟩;obtain⟨s,e1,e2⟩:=hv tm _ cs _ (.inRegion ops (i::t)) k df kd ro a rfl (Jc h1);refine .step (b:=s) ?_ e2;simp only[KH,stepX,QU,h1,g.wanted a,Q6o,hc];exact e1
   refine⟨t,h3,fun tm a=>⟨_,w.put a,fun k df kd ro cs=>?_⟩⟩;obtain⟨s,e1,e2⟩:=hv tm _ cs _ (.draw ops (i::t)) k df kd ro a rfl (Q4h h1);refine .step (b:=s) ?_ (e2.trans (Q4s _ fun j hj=>?_))
   · simp only[KH,stepX,QU,Q6T,h1,g.wanted a,hc];exact e1
   obtain⟨q,hq,hj⟩:=h2 rfl hc j hj;exact(ha q hq).ok (w.put a) hj
def Fi (E:Env) (fr:Fr) (cs:List Fr) (h:Hp) (P:Value->Hp->Prop) (s:St):Prop:= ∃v h' aw,P v h'/\KD h h'/\QX E fr v=some aw/\s=⟨aw,cs,h'⟩
theorem Q8W {o:Oper} (P:Value->Hp->Prop) (g:Gd ops l o.guard)
 (hv: ∀tm fr cs is k df kd ro,Ag tm l->fr=⟨fn,nt,tm,is::k,df,.run,kd,ro⟩->(∀v,∃aw,QX E fr v=some aw)->
  ∃s,(match QW E tm o h with|some n=>ZT E fr cs h n|none=>none)=some s/\RunsD E (Fi E fr cs h P) s)
 (hc:cls E o=2) (q: ∀v h',P v h'-> ∃l',Wn nt l o.dst v l'/\(∀q,q∈lt->Again E ops l' h' q)/\WL E fn nt dr ops fin rest l' h' R):WL E fn nt dr ops fin ((o,lt)::rest) l h R:=by
 intro todo hr tm a k df kd ro cs;cases todo with
 |nil=>exact hr.elim
 | cons i t=>
   obtain⟨h1,h2,h3⟩:=hr;cases dr
   · obtain⟨s,e1,e2⟩:=hv tm _ cs (.inRegion ops (i::t)) k df kd ro a rfl (fun v=>⟨_,Jc h1⟩);refine .step (s':=s) ?_ (e2.bind ?_)
     · simp only[KH,stepX,QU,h1,g.wanted a,Q6o,hc];exact e1
     rintro s ⟨v,h',aw,p,kk,hf,rfl⟩;rw[Jc h1]at hf;cases hf;obtain⟨l',w,ha,q⟩:=q v h' p;refine(q t h3 _ (w.put a) k df kd ro cs).mono ?_;rintro s ⟨l4,h4,iW,t4,q4,a4,jS,k4,r4⟩;exact⟨l4,h4,iW,t4,q4,a4,jS,kk.trans k4,r4⟩
   obtain⟨s,e1,e2⟩:=hv tm _ cs (.draw ops (i::t)) k df kd ro a rfl (fun v=>⟨_,Q4h h1⟩);refine .step (s':=s) ?_ (e2.bind ?_)
   · simp only[KH,stepX,QU,Q6T,h1,g.wanted a,hc];exact e1
   rintro s ⟨v,h',aw,p,kk,hf,rfl⟩;rw[Q4h h1]at hf;cases hf;obtain⟨l',w,ha,q⟩:=q v h' p;refine .pre (Q4s _ fun j hj=>?_) ((q t h3 _ (w.put a) k df kd ro cs).mono ?_)
   · obtain⟨q,hq,hj⟩:=h2 rfl hc j hj;exact(ha q hq).ok (w.put a) hj
   rintro s ⟨l4,h4,iW,t4,q4,a4,jS,k4,r4⟩;exact⟨l4,h4,iW,t4,q4,a4,jS,kk.trans k4,r4⟩
theorem Q4D {o:Oper} {L:List Nx} (P:Value->Hp->Prop) (g:Gd ops l o.guard) (hv: ∀tm,Ag tm l->JV tm h o=some L) (hn:Q2a L=false)
 (hP: ∀n,n∈L-> ∃v h',n=.value v h'/\P v h'/\KD h h')
 (q: ∀v h',P v h'-> ∃l',Wn nt l o.dst v l'/\WL E fn nt false ops fin rest l' h' R):WL E fn nt false ops fin ((o,lt)::rest) l h R:=by
 intro todo hr tm a k df kd ro cs;cases todo with
 |nil=>exact hr.elim
 | cons i t=>
   obtain⟨h1,h2,h3⟩:=hr
   have aP:Q5R ⟨⟨fn,nt,tm,KH false ops (i::t)::k,df,.run,kd,ro⟩,cs,h⟩=some L:=by
    simp only[KH,Q5R,h1,g.wanted a,hv tm a]
   refine .choose aP hn (fun n=>match n with| .value v h'=>⟨⟨fn,nt,Q1e nt tm o.dst v,.inRegion ops t::k,df,.run,kd,ro⟩,cs,h'⟩|_=>⟨⟨fn,nt,tm,[],df,.run,kd,ro⟩,cs,h⟩) (fun n hm=>?_) (fun n hm=>?_)
   · obtain⟨v,h',rfl,p,kk⟩:=hP n hm;simp only[QbV,KH,ZT,Jc h1]
   obtain⟨v,h',rfl,p,kk⟩:=hP n hm;obtain⟨l',w,q⟩:=q v h' p;refine(q t h3 _ (w.put a) k df kd ro cs).mono ?_;rintro s ⟨l4,h4,iW,t4,q4,a4,jS,k4,r4⟩;exact⟨l4,h4,iW,t4,q4,a4,jS,kk.trans k4,r4⟩
theorem JY {o:Oper} {v:Value} (g:Gd ops l o.guard) (hc:cls E o=2) (hv: ∀tm,Ag tm l->QW E tm o h=some (.value v h')) (w:Wn nt l o.dst v l') (ha: ∀q,q∈lt->Again E ops l' h' q)
 (q:WL E fn nt dr ops fin rest l' h' R):WL E fn nt dr ops fin ((o,lt)::rest) l h R:=fun todo hr tm a=>
 Q79 g (Q78 (.inl (hv tm a))) (fun tm fr cs aw is k df kd ro a e hf=>⟨⟨aw,cs,h'⟩,by simp only[hv tm a,ZT,hf],.refl _ _⟩) hc w ha q todo hr tm a
theorem Q0B {o:Oper} (g:Gd ops l o.guard) (hc:cls E o=2) (hv: ∀tm,Ag tm l->QW E tm o h=some (.skip h')) (w:Wn nt l o.dst undef l') (ha: ∀q,q∈lt->Again E ops l' h' q)
 (q:WL E fn nt dr ops fin rest l' h' R):WL E fn nt dr ops fin ((o,lt)::rest) l h R:=fun todo hr tm a=>
 Q79 g (Q78 (v:=undef) (.inr (hv tm a))) (fun tm fr cs aw is k df kd ro a e hf=>⟨⟨aw,cs,h'⟩,by simp only[hv tm a,ZT,hf],.refl _ _⟩) hc w ha q todo hr tm a
end
def CaR (E:Env) (f:FuncId) (nt:Nat) (kd:CallKind) (cs:List Fr) (h:Hp) (rs:List ResultVar) (Q:Value->Hp->Prop) (s:St):Prop:=
 ∃v h' tm vs todo,Q v h'/\KD h h'/\Za E tm h' rs=some vs/\oneOf vs=v/\s=⟨⟨f,nt,tm,todo,[],.returning,kd,none⟩,cs,h'⟩
def C (E:Env) (f:FuncId) (args:List Value) (h:Hp) (Q:Value->Hp->Prop):Prop:=
 ∃fu dC,E.fn f=some fu/\Ys E f args .normal=some dC/\ ∀kd cs,RunsD E (CaR E f dC.nt kd cs h fu.results.toList Q) ⟨{dC with kind:=kd},cs,h⟩
theorem C.mono {E:Env} {f:FuncId} {args:List Value} {h:Hp} {Q Q':Value->Hp->Prop} (c:C E f args h Q) (hq: ∀v h',Q v h'->Q' v h'):C E f args h Q':=by
 obtain⟨fu,dC,h1,h2,r⟩:=c;refine⟨fu,dC,h1,h2,fun kd cs=>(r kd cs).mono ?_⟩;rintro s ⟨v,h',tm,vs,todo,q,r⟩;exact⟨v,h',tm,vs,todo,hq _ _ q,r⟩
def Q2T:List Value->Nat->Kn
 | [],_=>[]
 |v::r,i=>(i,v)::Q2T r (i+1)
theorem Q0x: ∀(vs:List Value) (i:Nat) (tm:Tr Value) (t:Nat) (v:Value),(if t <i then tm.get t=some v else lk (Q2T vs i) t=some v)->(Q0w vs i tm).get t=some v
 | [],i,tm,t,v,h=>by
   simp only[Q0w]
   split at h
   · exact h
   simp[Q2T,lk]at h
 | u::r,i,tm,t,v,h=>by
   simp only[Q0w];refine Q0x r (i+1) _ t v ?_
   split at h
   · rename_i ai;rw[if_pos (by omega),JR _ _ _ _ _ (by omega),if_neg (by omega)];exact h
   rename_i k5;simp only[Q2T]at h;rw[Zj]at h
   split at h
   · rename_i e;subst e;cases h;rw[if_pos (by omega),JR _ _ _ _ _ (by omega),if_pos rfl]
   rw[if_neg (by omega)];exact h
def resL (l:Kn):List ResultVar->Option (List Value)
 | []=>some []
 | .tmp t::r=>(match lk l t,resL l r with
   |some v,some vs=>some (v::vs)
   |_,_=>none)
 |_=>none
theorem Q9w {E:Env} {l:Kn} {tm:Tr Value} {h:Hp} (a:Ag tm l): ∀(rs:List ResultVar) (vs:List Value),resL l rs=some vs->Za E tm h rs=some vs
 | [],vs,e=>e
 | .tmp t::r,vs,e=>by
   simp only[resL]at e
   split at e
   · rename_i v ws h1 h2;cases e;simp only[Za,Q9w a r _ h2,a.ev (o:=.tmp t) h1]
   cases e
 | .cell a t::r,vs,e=>by simp[resL]at e
theorem Q9r {E:Env} {f:FuncId} {nt:Nat} {tm:Tr Value} {kd:CallKind} {cs:List Fr} {h:Hp} {s:St} {o:Out} {G:St->Prop} (ho:o=.ret\/o=.next) (r:At f nt tm [] [] kd none cs h o s)
 (g: ∀todo,G ⟨⟨f,nt,tm,todo,[],.returning,kd,none⟩,cs,h⟩):RunsD E G s:=by
 rcases ho with rfl|rfl
 · obtain⟨k',rfl⟩:=r;exact .step rfl (.done (g _))
 have r:s=_:=r;subst r;exact .step rfl (.done (g _))
theorem Q9 {E:Env} {f:FuncId} {args:List Value} {h:Hp} {Q:Value->Hp->Prop} {fu:Func} {c:Code} (hf:E.fn f=some fu) (hb:fu.body=some c)
 (q:W E f (args.length+(fu.ntmps -args.length)) c (Q2T args 0) h fun o l h=>(o=.ret\/o=.next)/\ ∃vs,resL l fu.results.toList=some vs/\Q (oneOf vs) h) (hn:Q3b c=true:=by kernel_rfl):C E f args h Q:=by
 have ag:Ag (Q0w args 0 .leaf) (Q2T args 0):=fun t v e=>Q0x args 0 .leaf t v (by rw[if_neg (by omega)];exact e);refine⟨fu,⟨f,args.length+(fu.ntmps -args.length),Q0w args 0 .leaf,[.code c],[],.run,.normal,none⟩,hf,by simp only[Ys,hf,hb],fun kd cs=>(q _ ag [] [] kd none cs (.inr rfl)).bind ?_⟩;rintro s ⟨o,l',h',fT,ds,⟨ho,vs,h1,h2⟩,a',n',d',r⟩;have j8:=n' (by simp[Q2L,hn]);subst j8;exact Q9r ho r fun todo=>⟨_,h',fT,vs,todo,h2,d'.1,Q9w a' _ _ h1,rfl,rfl⟩
theorem C.back {E:Env} {f:FuncId} {args:List Value} {h:Hp} {Q:Value->Hp->Prop} (c:C E f args h Q):
 ∃dC,Ys E f args .normal=some dC/\ ∀fr cs,(∀v,∃aw,QX E fr v=some aw)->RunsD E (Fi E fr cs h Q) ⟨dC,fr::cs,h⟩:=by
 obtain⟨fu,dC,h1,h2,r⟩:=c;refine⟨dC,h2,fun fr cs hf=>?_⟩;have r:=r .normal (fr::cs)
 have e:({dC with kind:=.normal}:Fr)=dC:=by
  unfold Ys at h2
  split at h2
  · split at h2
    · cases h2;rfl
    cases h2
  cases h2
 rw[e]at r;refine r.bind ?_;rintro s ⟨v,h',tm,vs,todo,q,hk,h3,h4,rfl⟩;obtain⟨aw,hf⟩:=hf v;refine .step (s':=⟨aw,cs,h'⟩) ?_ (.done ⟨v,h',aw,q,hk,hf,rfl⟩);subst h4;simp only[stepX,Q0C,h1,h3,YH,hf]
section
variable {E:Env} {fn:FuncId} {nt:Nat} {l l':Kn} {h h':Hp} {dr:Bool} {ops:Array Oper} {fin rest:List (Oper×List Oper)} {R:Kn->Hp->Prop} {lt:List Oper}
theorem QbL {o:Oper} {f:FuncId} {args:List Value} (g:Gd ops l o.guard) (hc:cls E o=2) (ho:E.orc f=none) (hs:E.sm f=none) (hv: ∀tm,Ag tm l-> ∃as,as.toList=args/\QW E tm o h=some (.enter f as))
 (q:C E f args h fun v h'=> ∃l',Wn nt l o.dst v l'/\(∀q,q∈lt->Again E ops l' h' q)/\WL E fn nt dr ops fin rest l' h' R):WL E fn nt dr ops fin ((o,lt)::rest) l h R:=by
 obtain⟨dC,e1,r⟩:=q.back;refine Q8W (fun v h'=> ∃l',Wn nt l o.dst v l'/\(∀q,q∈lt->Again E ops l' h' q)/\WL E fn nt dr ops fin rest l' h' R) g (fun tm fr cs is k df kd ro a e hf=>?_) hc fun v h' q=>q;obtain⟨as,has,hw⟩:=hv tm a;subst has;refine⟨⟨dC,fr::cs,h⟩,?_,r _ _ hf⟩;rw[hw];show ZT E fr cs h (.enter f as)=_
 show ((match E.orc f with
  |some v=>(match as.toList with
   | []=>(match QX E fr v with|some fr=>some (⟨fr,cs,h⟩:St)|none=>none)
   |_=>none)
  | none=>(match E.sm f with
    | some F=>(match F as.toList h with
      |some (v,h')=>(match QX E fr v with|some fr=>some (⟨fr,cs,h'⟩:St)|none=>none)
      |none=>none)
    |none=>(match Ys E f as.toList .normal with|some aw=>some ⟨aw,fr::cs,h⟩|none=>none))):Option St)=_
 rw[ho]
 show ((match E.sm f with
       | some F=>(match F as.toList h with
         |some (v,h')=>(match QX E fr v with|some fr=>some (⟨fr,cs,h'⟩:St)|none=>none)
         |none=>none)
       |none=>(match Ys E f as.toList .normal with|some aw=>some ⟨aw,fr::cs,h⟩|none=>none)):Option St)=_
 rw[hs];show((match Ys E f as.toList .normal with|some aw=>some ⟨aw,fr::cs,h⟩|none=>none):Option St)=_;rw[e1]
theorem wl_orc {o:Oper} {f:FuncId} {v:Value} (g:Gd ops l o.guard) (hc:cls E o=2) (ho:E.orc f=some v) (hv: ∀tm,Ag tm l->QW E tm o h=some (.enter f #[]))
 (w:Wn nt l o.dst v l') (ha: ∀q,q∈lt->Again E ops l' h q) (q:WL E fn nt dr ops fin rest l' h R):WL E fn nt dr ops fin ((o,lt)::rest) l h R:=by
 refine Q79 g (.refl h) (fun tm fr cs aw is k df kd ro a e hf=>⟨⟨aw,cs,h⟩,by simp only[hv tm a,ZT,ho,hf],.refl _ _⟩) hc w ha q
theorem wl_sm {o:Oper} {f:FuncId} {args:List Value} {F:List Value->Hp->Option (Value×Hp)} {v:Value} (g:Gd ops l o.guard) (hc:cls E o=2) (ho:E.orc f=none) (hs:E.sm f=some F) (hv: ∀tm,Ag tm l-> ∃as,as.toList=args/\QW E tm o h=some (.enter f as))
 (hF:F args h=some (v,h')) (hk:KD h h') (w:Wn nt l o.dst v l') (ha: ∀q,q∈lt->Again E ops l' h' q) (q:WL E fn nt dr ops fin rest l' h' R):WL E fn nt dr ops fin ((o,lt)::rest) l h R:=by
 refine Q79 g hk (fun tm fr cs aw is k df kd ro a e hf=>?_) hc w ha q;obtain⟨as,has,hw⟩:=hv tm a;subst has;refine⟨⟨aw,cs,h'⟩,?_,.refl _ _⟩;rw[hw];simp only[ZT,ho,hs,hF,hf]
end
theorem C.run {E:Env} {f:FuncId} {args:List Value} {h:Hp} {v0:Value} (c:C E f args h fun v _=>v=v0):
 ∃s0,Jp E f args h=some s0/\RunsD E (fun s=>QbG E f s=some v0) s0:=by
 obtain⟨fu,dC,h1,h2,r⟩:=c;have r:=r .normal []
 have e:({dC with kind:=.normal}:Fr)=dC:=by
  unfold Ys at h2
  split at h2
  · split at h2
    · cases h2;rfl
    cases h2
  cases h2
 rw[e]at r;refine⟨⟨dC,[],h⟩,by simp only[Jp,h2],r.mono ?_⟩;rintro s ⟨v,h',tm,vs,todo,rfl,_,h3,h4,rfl⟩;simp only[QbG,v0I,cond_true,h1,h3,h4]
section
variable {E:Env} {fn:FuncId} {nt:Nat} {l l':Kn} {h h':Hp} {dr:Bool} {ops:Array Oper} {fin rest:List (Oper×List Oper)} {R:Kn->Hp->Prop} {lt:List Oper}
variable {d:Nat} {ty:TypeId} {pos:String} {af:Array Edge} {gg:Option (Nat×Bool)} {x y z:Operand} {v u:Value} {t:TypeId}
theorem Qdx (g:Gd ops l gg) (hd:v0a d nt=true) (hx:evl l x=some v) (q:WL E fn nt dr ops fin rest ((d,v)::l) h R):WL E fn nt dr ops fin ((⟨some d,.move x,ty,pos,af,gg⟩,lt)::rest) l h R:=
 QA g rfl (fun _ a=>congrArg some (a.ev hx)) (wn hd) q
theorem Q7H (g:Gd ops l gg) (hd:v0a d nt=true) (hx:evl l x=some v) (q:WL E fn nt dr ops fin rest ((d,v)::l) h R):WL E fn nt dr ops fin ((⟨some d,.assign x,ty,pos,af,gg⟩,lt)::rest) l h R:=
 QA g rfl (fun _ a=>congrArg some (a.ev hx)) (wn hd) q
theorem Q3R {b:Bool} (g:Gd ops l gg) (hd:v0a d nt=true) (hx:evl l x=some (.bool b)) (hb:b=true) (hy:evl l y=some v) (q:WL E fn nt dr ops fin rest ((d,v)::l) h R):
 WL E fn nt dr ops fin ((⟨some d,.pick x y z,ty,pos,af,gg⟩,lt)::rest) l h R:=
 QA g rfl (fun _ a=>by subst hb;simp only[QL,a.ev hx,cond_true,a.ev hy]) (wn hd) q
theorem Q3S {b:Bool} (g:Gd ops l gg) (hd:v0a d nt=true) (hx:evl l x=some (.bool b)) (hb:b=false) (hz:evl l z=some v) (q:WL E fn nt dr ops fin rest ((d,v)::l) h R):
 WL E fn nt dr ops fin ((⟨some d,.pick x y z,ty,pos,af,gg⟩,lt)::rest) l h R:=
 QA g rfl (fun _ a=>by subst hb;simp only[QL,a.ev hx,cond_false,a.ev hz]) (wn hd) q
theorem o_not {b:Bool} (g:Gd ops l gg) (hd:v0a d nt=true) (hx:evl l x=some (.bool b)) (q:WL E fn nt dr ops fin rest ((d,.bool (!b))::l) h R):
 WL E fn nt dr ops fin ((⟨some d,.unOp .not t x,ty,pos,af,gg⟩,lt)::rest) l h R:=
 QA g rfl (fun _ a=>by simp only[QL,a.ev hx,unX,QO]) (wn hd) q
section
variable {k:IntKind} {a b:Int} {op:BinOp} {aI:TypeId}
theorem KS (g:Gd ops l gg) (hd:v0a d nt=true) (hx:evl l x=some (.int k a)) (hy:evl l y=some (.int k b)) (hs:KY op=false) (hv:Y4 op k a b=some v)
 (q:WL E fn nt dr ops fin rest ((d,v)::l) h R):WL E fn nt dr ops fin ((⟨some d,.binOp op t x y aI,ty,pos,af,gg⟩,lt)::rest) l h R:=
 QA g rfl (fun _ ag=>by simp only[QL,ag.ev hx,ag.ev hy,Q4C,hs,cond_false,Zc,cond_true,hv]) (wn hd) q
theorem o_lss (g:Gd ops l gg) (hd:v0a d nt=true) (hx:evl l x=some (.int k a)) (hy:evl l y=some (.int k b)) (q:WL E fn nt dr ops fin rest ((d,.bool (decide (a <b)))::l) h R):
 WL E fn nt dr ops fin ((⟨some d,.binOp .lss t x y aI,ty,pos,af,gg⟩,lt)::rest) l h R:=KS g hd hx hy rfl (by simp only[Y4,QO]) q
theorem o_leq (g:Gd ops l gg) (hd:v0a d nt=true) (hx:evl l x=some (.int k a)) (hy:evl l y=some (.int k b)) (q:WL E fn nt dr ops fin rest ((d,.bool (decide (a<=b)))::l) h R):
 WL E fn nt dr ops fin ((⟨some d,.binOp .leq t x y aI,ty,pos,af,gg⟩,lt)::rest) l h R:=KS g hd hx hy rfl (by simp only[Y4,QO]) q
theorem o_gtr (g:Gd ops l gg) (hd:v0a d nt=true) (hx:evl l x=some (.int k a)) (hy:evl l y=some (.int k b)) (q:WL E fn nt dr ops fin rest ((d,.bool (decide (b <a)))::l) h R):
 WL E fn nt dr ops fin ((⟨some d,.binOp .gtr t x y aI,ty,pos,af,gg⟩,lt)::rest) l h R:=KS g hd hx hy rfl (by simp only[Y4,QO,gt_iff_lt]) q
theorem o_geq (g:Gd ops l gg) (hd:v0a d nt=true) (hx:evl l x=some (.int k a)) (hy:evl l y=some (.int k b)) (q:WL E fn nt dr ops fin rest ((d,.bool (decide (b<=a)))::l) h R):
 WL E fn nt dr ops fin ((⟨some d,.binOp .geq t x y aI,ty,pos,af,gg⟩,lt)::rest) l h R:=KS g hd hx hy rfl (by simp only[Y4,QO,ge_iff_le]) q
theorem Qey (g:Gd ops l gg) (hd:v0a d nt=true) (hx:evl l x=some (.int k a)) (hy:evl l y=some (.int k b)) (q:WL E fn nt dr ops fin rest ((d,.bool (decide (a=b)))::l) h R):
 WL E fn nt dr ops fin ((⟨some d,.binOp .eql t x y aI,ty,pos,af,gg⟩,lt)::rest) l h R:=KS g hd hx hy rfl (by simp only[Y4,QO];rfl) q
theorem o_nei (g:Gd ops l gg) (hd:v0a d nt=true) (hx:evl l x=some (.int k a)) (hy:evl l y=some (.int k b)) (q:WL E fn nt dr ops fin rest ((d,.bool (!decide (a=b)))::l) h R):
 WL E fn nt dr ops fin ((⟨some d,.binOp .neq t x y aI,ty,pos,af,gg⟩,lt)::rest) l h R:=KS g hd hx hy rfl (by simp only[Y4,QO];rfl) q
theorem wrap64 {n:Int} (h1: -9223372036854775808<=n) (h2:n <9223372036854775808):IntKind.i64.wrap n=n:=IntWalk.i64_in n ⟨by omega,by omega⟩
theorem o_add (g:Gd ops l gg) (hd:v0a d nt=true) (hx:evl l x=some (.int .i64 a)) (hy:evl l y=some (.int .i64 b)) (h1: -9223372036854775808<=a+b) (h2:a+b <9223372036854775808)
 (q:WL E fn nt dr ops fin rest ((d,.int .i64 (a+b))::l) h R):
 WL E fn nt dr ops fin ((⟨some d,.binOp .add t x y aI,ty,pos,af,gg⟩,lt)::rest) l h R:=KS g hd hx hy rfl (by simp only[Y4,QQ,ZW,wrap64 h1 h2]) q
theorem o_sub (g:Gd ops l gg) (hd:v0a d nt=true) (hx:evl l x=some (.int .i64 a)) (hy:evl l y=some (.int .i64 b)) (h1: -9223372036854775808<=a -b) (h2:a -b <9223372036854775808)
 (q:WL E fn nt dr ops fin rest ((d,.int .i64 (a -b))::l) h R):
 WL E fn nt dr ops fin ((⟨some d,.binOp .sub t x y aI,ty,pos,af,gg⟩,lt)::rest) l h R:=KS g hd hx hy rfl (by simp only[Y4,QQ,ZW,wrap64 h1 h2]) q
theorem o_max {as:Array TypeId} (g:Gd ops l gg) (hd:v0a d nt=true) (hx:evl l x=some (.int k a)) (hy:evl l y=some (.int k b)) (q:WL E fn nt dr ops fin rest ((d,.int k (max a b))::l) h R):
 WL E fn nt dr ops fin ((⟨some d,.call ⟨.builtin .max,#[x,y],as⟩,ty,pos,af,gg⟩,lt)::rest) l h R:=
 QA g rfl (fun _ ag=>by
  simp only[QL,v0B,v1u,ag.ev hx,ag.ev hy,Q5B,Qcv,QQ];have:(if b>a then b else a)=max a b:=by rw[Int.max_def];split<;>split<;>omega
  rw[this]) (wn hd) q
end
def isB (E:Env) (t:TypeId):Bool:=match E.und t with|some .bool=>true|_=>false
def isP (E:Env) (t:TypeId):Bool:=match E.und t with|some (.pointer _)=>true|_=>false
def isS (E:Env) (t:TypeId):Bool:=match E.und t with|some (.slice _)=>true|_=>false
def isC (E:Env) (t:TypeId):Bool:=match E.und t with|some d=> !J2 d|_=>false
def isA (E:Env) (t:TypeId):Bool:=match E.und t with|some d=>J2 d|_=>false
def QaY (E:Env) (t:TypeId):Option Nat:=match E.und t with
 |some (.slice e)=>E.size e
 |_=>none
def arrZ (E:Env) (t:TypeId):Option (Nat×TypeId×Nat):=match E.und t with
 |some (.array n e)=>(match E.size e with|some z=>some (n,e,z)|none=>none)
 |_=>none
def fOff (E:Env) (t:TypeId) (i:Nat):Option Nat:=match E.und t with
 | some (.struct fs)=>(match fs[i]? with
   | some f=>(match E.size f.type with
     |some (_+1)=>some f.offset
     |_=>none)
   |none=>none)
 |_=>none
theorem Qao (hp:isP E t=true): ∃e,E.und t=some (.pointer e):=by
 unfold isP at hp;split at hp
 · exact⟨_,‹_›⟩
 cases hp
theorem Qan (hp:isS E t=true): ∃e,E.und t=some (.slice e):=by
 unfold isS at hp;split at hp
 · exact⟨_,‹_›⟩
 cases hp
theorem Qf4 (hp:isB E t=true):E.und t=some .bool:=by
 unfold isB at hp;split at hp
 · assumption
 cases hp
theorem Qf3 (hp:isC E t=true): ∃e,E.und t=some e/\J2 e=false:=by
 unfold isC at hp;split at hp
 · exact⟨_,‹_›,by simpa using hp⟩
 cases hp
theorem Qf5 (hp:isA E t=true): ∃e,E.und t=some e/\J2 e=true:=by
 unfold isA at hp;split at hp
 · exact⟨_,‹_›,by simpa using hp⟩
 cases hp
theorem QaX {n:Nat} (hp:QaY E t=some n): ∃e,E.und t=some (.slice e)/\E.size e=some n:=by
 unfold QaY at hp;split at hp
 · exact⟨_,‹_›,hp⟩
 cases hp
section
variable {op:BinOp} {aI:TypeId}
theorem o_neb {a b:Bool} (g:Gd ops l gg) (hd:v0a d nt=true) (hx:evl l x=some (.bool a)) (hy:evl l y=some (.bool b)) (hb:isB E t=true)
 (q:WL E fn nt dr ops fin rest ((d,.bool (!(a==b)))::l) h R):WL E fn nt dr ops fin ((⟨some d,.binOp .neq t x y aI,ty,pos,af,gg⟩,lt)::rest) l h R:=
 QA g rfl (fun _ ag=>by simp only[QL,ag.ev hx,ag.ev hy,Q4C,Zf,Qf4 hb,QO]) (wn hd) q
theorem o_eqp {a:Option Addr} (g:Gd ops l gg) (hd:v0a d nt=true) (hx:evl l x=some (.pointer a)) (hy:evl l y=some (.pointer none)) (hb:isP E t=true)
 (q:WL E fn nt dr ops fin rest ((d,.bool a.isNone)::l) h R):WL E fn nt dr ops fin ((⟨some d,.binOp .eql t x y aI,ty,pos,af,gg⟩,lt)::rest) l h R:=
 QA g rfl (fun _ ag=>by
  obtain⟨e,he⟩:=Qao hb
  cases a<;>simp only[QL,ag.ev hx,ag.ev hy,Q4C,Zf,he,QO,Option.isNone]) (wn hd) q
theorem o_nep {a:Option Addr} (g:Gd ops l gg) (hd:v0a d nt=true) (hx:evl l x=some (.pointer a)) (hy:evl l y=some (.pointer none)) (hb:isP E t=true)
 (q:WL E fn nt dr ops fin rest ((d,.bool a.isSome)::l) h R):WL E fn nt dr ops fin ((⟨some d,.binOp .neq t x y aI,ty,pos,af,gg⟩,lt)::rest) l h R:=
 QA g rfl (fun _ ag=>by
  obtain⟨e,he⟩:=Qao hb
  cases a<;>simp only[QL,ag.ev hx,ag.ev hy,Q4C,Zf,he,QO,Option.isNone,Option.isSome,Bool.not_true,v1s]) (wn hd) q
theorem o_eqs {a:Option Addr} {n c:Nat} (g:Gd ops l gg) (hd:v0a d nt=true) (hx:evl l x=some (.slice a n c)) (hy:evl l y=some (.slice none 0 0)) (hb:isS E t=true)
 (q:WL E fn nt dr ops fin rest ((d,.bool a.isNone)::l) h R):WL E fn nt dr ops fin ((⟨some d,.binOp .eql t x y aI,ty,pos,af,gg⟩,lt)::rest) l h R:=
 QA g rfl (fun _ ag=>by
  obtain⟨e,he⟩:=Qan hb
  cases a<;>simp only[QL,ag.ev hx,ag.ev hy,Q4C,Zf,he,QO,Option.isNone]) (wn hd) q
end
theorem o_len {a:Option Addr} {n c:Nat} (g:Gd ops l gg) (hd:v0a d nt=true) (hx:evl l x=some (.slice a n c)) (hb:isS E t=true)
 (q:WL E fn nt dr ops fin rest ((d,.int .i64 (n:Nat))::l) h R):WL E fn nt dr ops fin ((⟨some d,.call ⟨.builtin .len,#[x],#[t]⟩,ty,pos,af,gg⟩,lt)::rest) l h R:=
 QA g rfl (fun _ ag=>by
  obtain⟨e,he⟩:=Qan hb
  simp only[QL,v0B,v1u,ag.ev hx,QeX,he,QQ,List.getElem?_toArray,v0W]) (wn hd) q
theorem Q3a {a:Addr} (g:Gd ops l gg) (hd:v0a d nt=true) (hx:evl l x=some (.pointer (some a))) (q:WL E fn nt dr ops fin rest ((d,.pointer (some a))::l) h R):
 WL E fn nt dr ops fin ((⟨some d,.nilCheck x,ty,pos,af,gg⟩,lt)::rest) l h R:=
 QA g rfl (fun _ ag=>by simp only[QL,ag.ev hx]) (wn hd) q
theorem addr_add (b o k:Nat):(⟨b,o,none⟩:Addr).add k=⟨b,o+k,none⟩:=by
 unfold Addr.add
 split
 · rename_i e;subst e;rfl
 rfl
theorem Q28 {b o i off:Nat} (g:Gd ops l gg) (hd:v0a d nt=true) (hx:evl l x=some (.pointer (some ⟨b,o,none⟩))) (ho:fOff E t i=some off)
 (q:WL E fn nt dr ops fin rest ((d,.pointer (some ⟨b,o+off,none⟩))::l) h R):WL E fn nt dr ops fin ((⟨some d,.fieldAddr t x i,ty,pos,af,gg⟩,lt)::rest) l h R:=
 QA g rfl (fun _ ag=>by
  unfold fOff at ho
  split at ho
  · rename_i fs hu
    split at ho
    · rename_i f hf
      split at ho
      · rename_i n hs;cases ho;simp only[QL,ag.ev hx,Jd,hu,hf,hs,addr_add]
      cases ho
    cases ho
  cases ho) (wn hd) q
theorem Yi {k:IntKind} {j:Int} (hj:0<=j):JJ (.int k j)=some j.toNat:=by
 cases j with
 |ofNat n=>rfl
 |negSucc n=>exact absurd hj (by omega)
theorem JH {b o n c zz:Nat} {k:IntKind} {j:Int} (g:Gd ops l gg) (hd:v0a d nt=true) (hx:evl l x=some (.slice (some ⟨b,o,none⟩) n c)) (hy:evl l y=some (.int k j))
 (hz:QaY E t=some zz) (h1:0<=j) (h2:j <n)
 (q:WL E fn nt dr ops fin rest ((d,.pointer (some ⟨b,o+j.toNat*zz,none⟩))::l) h R):WL E fn nt dr ops fin ((⟨some d,.indexAddr t x y,ty,pos,af,gg⟩,lt)::rest) l h R:=
 QA g rfl (fun _ ag=>by
  obtain⟨e,he,hs⟩:=QaX hz;have ai:v0a j.toNat n=true:=(QT _ _).2 (by omega)
  simp only[QL,ag.ev hx,ag.ev hy,Kf,Yi h1,he,hs,ai,cond_true,addr_add]) (wn hd) q
theorem YR {b o n e zz:Nat} {k:IntKind} {j:Int} (g:Gd ops l gg) (hd:v0a d nt=true) (hx:evl l x=some (.pointer (some ⟨b,o,none⟩))) (hy:evl l y=some (.int k j))
 (hz:arrZ E t=some (n,e,zz)) (h1:0<=j) (h2:j <n)
 (q:WL E fn nt dr ops fin rest ((d,.pointer (some ⟨b,o+j.toNat*zz,none⟩))::l) h R):WL E fn nt dr ops fin ((⟨some d,.indexAddr t x y,ty,pos,af,gg⟩,lt)::rest) l h R:=
 QA g rfl (fun _ ag=>by
  unfold arrZ at hz
  split at hz
  · rename_i n' e' hu
    split at hz
    · rename_i z hs;cases hz;have ai:v0a j.toNat n=true:=(QT _ _).2 (by omega);simp only[QL,ag.ev hx,ag.ev hy,Kf,Yi h1,hu,hs,ai,cond_true,addr_add]
    cases hz
  cases hz) (wn hd) q
theorem Q9O {cs:Array Value} {i:Nat} (g:Gd ops l gg) (hd:v0a d nt=true) (hx:evl l x=some (.agg cs)) (hv:Q82 E t (.agg cs) i=some v)
 (q:WL E fn nt dr ops fin rest ((d,v)::l) h R):WL E fn nt dr ops fin ((⟨some d,.field t x i,ty,pos,af,gg⟩,lt)::rest) l h R:=
 QA g rfl (fun _ ag=>by simp only[QL,ag.ev hx,hv]) (wn hd) q
theorem Q3x {l:List Value} {o:Nat} {v:Value} (h:l[o]?=some v):(l.drop o).take 1=[v]:=by
 obtain⟨ai,rfl⟩:=v0y.1 h;rw[v1J ai];rfl
theorem Q3e {b o:Nat} {cs:List Value} {e:TypeId} {m:Nat} (hc:isC E t=true) (hg:h.get b=some (.cells cs e m)) (hv:cs[o]?=some v):JO E t ⟨b,o,none⟩ h=some v:=by
 obtain⟨e,he,ha⟩:=Qf3 hc;have ai:=(v0y.1 hv).1;have:v0n (o+1) cs.length=true:=(Qr _ _).2 ai;simp only[JO,he,ha,rowOf,hg,this,cond_true,Q3x hv]
theorem Kb {b o:Nat} {cs:List Value} {e:TypeId} {m:Nat} (g:Gd ops l gg) (hd:v0a d nt=true) (hx:evl l x=some (.pointer (some ⟨b,o,none⟩))) (hc:isC E t=true)
 (hg:h.get b=some (.cells cs e m)) (hv:cs[o]?=some v) (q:WL E fn nt dr ops fin rest ((d,v)::l) h R):
 WL E fn nt dr ops fin ((⟨some d,.load t x,ty,pos,af,gg⟩,lt)::rest) l h R:=
 QA g rfl (fun _ ag=>by simp only[QL,ag.ev hx,Q3e hc hg hv]) (wn hd) q
theorem Q2h {b o n:Nat} {cs:List Value} {e:TypeId} {m:Nat} (hc:isA E t=true) (hn:E.size t=some n) (hg:h.get b=some (.cells cs e m)) (hv:o+n<=cs.length):
 JO E t ⟨b,o,none⟩ h=some (.agg ((cs.drop o).take n).toArray):=by
 obtain⟨e,he,ha⟩:=Qf5 hc;have:v0n (o+n) cs.length=true:=(Qr _ _).2 hv;simp only[JO,he,ha,hn,rowOf,hg,this,cond_true]
theorem Zb {b o n:Nat} {cs:List Value} {e:TypeId} {m:Nat} (g:Gd ops l gg) (hd:v0a d nt=true) (hx:evl l x=some (.pointer (some ⟨b,o,none⟩))) (hc:isA E t=true) (hn:E.size t=some n)
 (hg:h.get b=some (.cells cs e m)) (hv:o+n<=cs.length) (q:WL E fn nt dr ops fin rest ((d,.agg ((cs.drop o).take n).toArray)::l) h R):
 WL E fn nt dr ops fin ((⟨some d,.load t x,ty,pos,af,gg⟩,lt)::rest) l h R:=
 QA g rfl (fun _ ag=>by simp only[QL,ag.ev hx,Q2h hc hn hg hv]) (wn hd) q
theorem ZO {b o:Nat} {cs:List Value} {e:TypeId} {m:Nat} (g:Gd ops l gg) (hx:evl l x=some (.pointer (some ⟨b,o,none⟩))) (hc:isC E t=true)
 (hg:h.get b=some (.cells cs e m)) (hv:cs[o]?=some v) (hl:lk l d=some v) (hs:sameV 20 v v=true):Again E ops l h ⟨some d,.load t x,ty,pos,af,gg⟩:=
 .inr ⟨g,v,d,rfl,hl,hs,fun _ ag=>by simp only[QL,ag.ev hx,Q3e hc hg hv]⟩
theorem ag0: ∀q,q∈([]:List Oper)->Again E ops l h q:=fun q hq=>by cases hq
theorem ag1 {q:Oper} {r:List Oper} (a:Again E ops l h q) (as: ∀q,q∈r->Again E ops l h q): ∀p,p∈q::r->Again E ops l h p:=fun p hp=>by
 rcases v0r.1 hp with rfl|hp
 · exact a
 exact as p hp
theorem Kr {k:IntKind} {n:Int}:sameV 20 (.int k n) (.int k n)=true:=by simp[sameV,Zc]
theorem K8 {a:Option Addr} {n c:Nat}:sameV 20 (.slice a n c) (.slice a n c)=true:=by cases a<;>simp[sameV]
theorem QbZ {a:Option Addr}:sameV 20 (.pointer a) (.pointer a)=true:=by cases a<;>simp[sameV]
theorem Q9R {e:TypeId} {zv:Value} (g:Gd ops l gg) (hd:v0a d nt=true) (hz:E.zero e=some zv)
 (q:WL E fn nt dr ops fin rest ((d,.pointer (some ⟨h.n,0,none⟩))::l) (h.alloc (.cells zv.cells.toList e 0)) R):
 WL E fn nt dr ops fin ((⟨some d,.alloc e,ty,pos,af,gg⟩,lt)::rest) l h R:=
 JZ (f:=ptrTo) g rfl (fun _ _=>by simp only[allocX,hz,YA]) (wn hd) q
theorem Q9Q {e:TypeId} (g:Gd ops l gg) (hd:v0a d nt=true) (hx:evl l x=some v)
 (q:WL E fn nt dr ops fin rest ((d,.pointer (some ⟨h.n,0,none⟩))::l) (h.alloc (.cells v.cells.toList e 0)) R):
 WL E fn nt dr ops fin ((⟨some d,.box e x,ty,pos,af,gg⟩,lt)::rest) l h R:=
 JZ (f:=ptrTo) g rfl (fun _ ag=>by simp only[allocX,ag.ev hx,YA]) (wn hd) q
def partsOf (E:Env) (t:TypeId):Option (List (Nat×Nat)):=match E.und t with
 |some (.struct fs)=>fs.toList.mapM fun f=>(E.size f.type).map fun n=>(f.offset,n)
 |_=>none
theorem Q2t {tm:Tr Value} (ag:Ag tm l): ∀ {ps:List (Nat×Operand)} {pv:List (Nat×Value)},ps.map (fun p=>(p.1,evl l p.2))=pv.map (fun p=>(p.1,some p.2))->
 (ps.map fun(p:Nat×Operand)=>(p.1,ev tm p.2))=pv
 | [],[],_=>rfl
 | [],_::_,h=>by simp at h
 |_::_,[],h=>by simp at h
 | p::ps,q::pv,h=>by
   simp only[v0B,List.cons.injEq,Prod.mk.injEq]at h;rw[v0B,Q2t ag h.2,ag.ev h.1.2,h.1.1]
theorem Qq {ps:Array (Nat×Operand)} {pl:List (Nat×Nat)} {zv:Value} {cs:Array Value} (pv:List (Nat×Value)) (g:Gd ops l gg) (hd:v0a d nt=true) (hz:E.zero t=some zv)
 (hp:partsOf E t=some pl) (hv:ps.toList.map (fun p=>(p.1,evl l p.2))=pv.map (fun p=>(p.1,some p.2))) (hf:Instr.fill (fun i=>pl[i]?) zv.cells pv=some cs)
 (q:WL E fn nt dr ops fin rest ((d,.agg cs)::l) h R):WL E fn nt dr ops fin ((⟨some d,.build t ps,ty,pos,af,gg⟩,lt)::rest) l h R:=
 QA g rfl (fun _ ag=>by
  unfold partsOf at hp
  split at hp
  · rename_i fs hu;simp only[QL,hz,hu,hp,Q2t ag hv,hf]
  cases hp) (wn hd) q
theorem Q58 {ps:Array (Nat×Operand)} {n:Nat} {e z:Nat} {zv:Value} {cs:Array Value} (pv:List (Nat×Value)) (g:Gd ops l gg) (hd:v0a d nt=true) (hu:E.und t=some (.slice e)) (hs:E.size e=some (z+1))
 (hz:E.zero e=some zv) (hn:(v0n (n*(z+1)) (2^24)&&v0d zv.cells.size (z+1))=true)
 (hv:ps.toList.map (fun p=>(p.1,evl l p.2))=pv.map (fun p=>(p.1,some p.2))) (hf:Instr.fill (fun i=>some (i*(z+1),z+1)) (Qj zv.cells.toList n).toArray pv=some cs)
 (q:WL E fn nt dr ops fin rest ((d,.slice (some ⟨h.n,0,none⟩) n n)::l) (h.alloc (.cells cs.toList e 0)) R):WL E fn nt dr ops fin ((⟨some d,.buildSlice t n ps,ty,pos,af,gg⟩,lt)::rest) l h R:=
 JZ (f:=fun i=>.slice (some ⟨i,0,none⟩) n n) g rfl (fun _ ag=>by
  simp only[allocX,hu,hs,hz,hn,cond_true,Q2t ag hv,hf,YA]) (wn hd) q
theorem Q6r {k k':IntKind} {n c:Int} {e z by':Nat} {zv:Value} (g:Gd ops l gg) (hd:v0a d nt=true) (hx:evl l x=some (.int k n)) (hy:evl l y=some (.int k' c)) (hu:E.und t=some (.slice e)) (hs:E.size e=some (z+1))
 (hz:E.zero e=some zv) (hb:E.bytes e=some by') (lF:zv.cells.size=z+1) (h0:0<=n) (h1:n<=c) (h2:c<=1099511627776) (h3:by'*c.toNat<=140737488355328)
 (q:WL E fn nt dr ops fin rest ((d,.slice (some ⟨h.n,0,none⟩) n.toNat c.toNat)::l) (h.alloc (.cells (Qj zv.cells.toList c.toNat) e 0)) R):
 WL E fn nt dr ops fin ((⟨some d,.makeSlice t x y,ty,pos,af,gg⟩,lt)::rest) l h R:=
 JZ (f:=fun i=>.slice (some ⟨i,0,none⟩) n.toNat c.toNat) g rfl (fun _ ag=>by
  have e1:v0n n.toNat c.toNat=true:=(Qr _ _).2 (by omega);have e2:v0n c.toNat (2^40)=true:=(Qr _ _).2 (by omega);have e3:v0n (by'*c.toNat) (2^47)=true:=(Qr _ _).2 (by omega)
  simp only[allocX,hu,hs,hz,hb,ag.ev hx,ag.ev hy,Yi h0,Yi (Int.le_trans h0 h1),e1,e2,e3,lF,v0I,v1k,cond_true,YA]) (wn hd) q
theorem set_eq {l:List Value} {o:Nat} {v:Value} (h:o <l.length):l.take o++[v]++l.drop (o+1)=l.set o v:=by
 rw[List.set_eq_take_append_cons_drop];simp[h]
theorem Q6p {b o:Nat} {cs:List Value} {e:TypeId} {m:Nat} (g:Gd ops l gg) (hx:evl l x=some (.pointer (some ⟨b,o,none⟩))) (hy:evl l y=some v) (hc:cellV v=true) (ht:E.size t=some 1)
 (hg:h.get b=some (.cells cs e m)) (hm:m≠1) (hv:o <cs.length) (ha: ∀q,q∈lt->Again E ops l (h.put b (.cells (cs.set o v) e m)) q)
 (q:WL E fn nt dr ops fin rest l (h.put b (.cells (cs.set o v) e m)) R):
 WL E fn nt dr ops fin ((⟨none,.store t x y,ty,pos,af,gg⟩,lt)::rest) l h R:=by
 refine Q0B g rfl (fun _ ag=>?_) wn0 ha q;have aV:v.cells= #[v]:=by cases v<;>first|rfl|simp[cellV]at hc
 have e1:v0n (o+1) cs.length=true:=(Qr _ _).2 hv;have e2:v0d m 1=false:=(Qw _ _).2 hm
 simp only[QW,ag.ev hx,ag.ev hy,Q1R,ht,aV,List.size_toArray,List.length_cons,List.length_nil,v0e,v0I,v1e,List.all_nil,hc,v1k,cond_true,Zl,hg,e1,e2,
  v1s,set_eq hv]
theorem YS {s w:Value} {t':TypeId} (g:Gd ops l gg) (hd:v0a d nt=true) (hx:evl l x=some s) (hy:evl l y=some w) (ha:Zd E h t t' s w=some (v,h'))
 (oq: ∀q,q∈lt->Again E ops ((d,v)::l) h' q)
 (q:WL E fn nt dr ops fin rest ((d,v)::l) h' R):WL E fn nt dr ops fin ((⟨some d,.call ⟨.builtin .append,#[x,y],#[t,t']⟩,ty,pos,af,gg⟩,lt)::rest) l h R:=
 JY g rfl (fun _ ag=>by
  simp only[QW,ZI,Zx,List.getElem?_toArray,v0W,v1Y,List.map_toArray,v0B,v1u,ag.ev hx,ag.ev hy,ha]) (wn hd) oq q
def Q2F (E:Env) (f:FuncId):Bool:= !E.ext f&&(E.orc f).isNone&&(E.sm f).isNone&&match E.fn f with
 |some fn=>fn.body.isSome&& !(fn.name== "runtime.NumGoroutine")
 |none=>false
def Qcd (E:Env) (f:FuncId):Bool:= !E.ext f&&match E.fn f with
 |some fn=>fn.body.isSome&& !(fn.name== "runtime.NumGoroutine")
 |none=>false
theorem Q4k {tm:Tr Value} (ag:Ag tm l): ∀ {ps:List Operand} {pv:List Value},ps.map (evl l)=pv.map some->ps.map (ev tm)=pv
 | [],[],_=>rfl
 | [],_::_,h=>by simp at h
 |_::_,[],h=>by simp at h
 | p::ps,q::pv,h=>by
   simp only[v0B,List.cons.injEq]at h;rw[v0B,Q4k ag h.2,ag.ev h.1]
theorem Jy {tm:Tr Value} {f:FuncId} {args:Array Operand} {as:Array TypeId} {vs:List Value} {first cap:Array Value} (ag:Ag tm l) (hf:evl l x=some (.func (.func f) first cap)) (hv:args.toList.map (evl l)=vs.map some)
 (ho:E.ext f=false) (hfn:(match E.fn f with|some fn=>fn.body.isSome&& !(fn.name== "runtime.NumGoroutine")|none=>false)=true):
 ∃as',as'.toList=first.toList++vs++cap.toList/\QW E tm ⟨some d,.call ⟨.value x,args,as⟩,ty,pos,af,gg⟩ h=some (.enter f as'):=by
 refine⟨(first++args.map (ev tm))++cap,by simp[Q4k ag hv],?_⟩;simp only[QW,ZI,ag.ev hf,Zx,YN,ho,cond_false]
 revert hfn
 cases E.fn f with
 |none=>intro hfn;cases hfn
 |some fn=>intro hfn;simp only at hfn;simp only[hfn,cond_true]
theorem QZ {f:FuncId} {args:Array Operand} {as:Array TypeId} (vs:List Value) {first cap:Array Value} (g:Gd ops l gg) (hd:v0a d nt=true) (hf:evl l x=some (.func (.func f) first cap)) (ho:Q2F E f=true) (hv:args.toList.map (evl l)=vs.map some)
 (q:C E f (first.toList++vs++cap.toList) h fun v h'=>(∀q,q∈lt->Again E ops ((d,v)::l) h' q)/\WL E fn nt dr ops fin rest ((d,v)::l) h' R):
 WL E fn nt dr ops fin ((⟨some d,.call ⟨.value x,args,as⟩,ty,pos,af,gg⟩,lt)::rest) l h R:=by
 simp only[Q2F,v0g,v0J,Option.isNone_iff_eq_none]at ho;exact QbL g rfl ho.1.1.2 ho.1.2 (fun _ ag=>Jy ag hf hv ho.1.1.1 ho.2) (q.mono fun v h' q=>⟨_,wn hd,q.1,q.2⟩)
theorem Qck {f:FuncId} {as:Array TypeId} (g:Gd ops l gg) (hd:v0a d nt=true) (ho:Qcd E f=true) (he:E.orc f=some v) (ha: ∀q,q∈lt->Again E ops ((d,v)::l) h q)
 (q:WL E fn nt dr ops fin rest ((d,v)::l) h R):
 WL E fn nt dr ops fin ((⟨some d,.call ⟨.value (.func f),#[],as⟩,ty,pos,af,gg⟩,lt)::rest) l h R:=by
 simp only[Qcd,v0g,v0J]at ho;refine wl_orc (f:=f) g rfl he (fun _ ag=>?_) (wn hd) ha q;obtain⟨as',h1,h2⟩:=Jy (E:=E) (h:=h) (d:=d) (ty:=ty) (pos:=pos) (af:=af) (gg:=gg) (f:=f) (x:=.func f) (args:= #[]) (as:=as) (vs:=[]) (first:= #[]) (cap:= #[]) ag rfl rfl ho.1 ho.2;have:as'= #[]:=by simpa using h1
 rw[this]at h2;exact h2
theorem o_sm {f:FuncId} {args:Array Operand} {as:Array TypeId} (vs:List Value) {first cap:Array Value} {F:List Value->Hp->Option (Value×Hp)} (g:Gd ops l gg) (hd:v0a d nt=true) (hf:evl l x=some (.func (.func f) first cap)) (ho:Qcd E f=true) (hn:E.orc f=none) (hs:E.sm f=some F) (hv:args.toList.map (evl l)=vs.map some)
 (hF:F (first.toList++vs++cap.toList) h=some (v,h')) (hk:KD h h') (ha: ∀q,q∈lt->Again E ops ((d,v)::l) h' q)
 (q:WL E fn nt dr ops fin rest ((d,v)::l) h' R):
 WL E fn nt dr ops fin ((⟨some d,.call ⟨.value x,args,as⟩,ty,pos,af,gg⟩,lt)::rest) l h R:=by
 simp only[Qcd,v0g,v0J]at ho;exact wl_sm g rfl hn hs (fun _ ag=>Jy ag hf hv ho.1 ho.2) hF hk (wn hd) ha q
def disj:List Nat->List Nat->Bool
 | [],_=>true
 |a::r,l=> !JN a l&&disj r l
def Qg4 (nt:Nat) (ops:Array Oper) (dc:Nat) (w:Bool) (keys:List Nat):List Nat->List (Oper×List Oper)->Bool
 |_,[]=>true
 | done, (o,_)::r=>(match o.dst with
  | some d=>v0a d nt&& !JN d keys&& !JN d done&&
    (match o.guard with
     | some (i,w')=>(match(pk ops.toList i).dst with
       |some e=>v0a i ops.size&&((v0d e dc&&(w==w'))||JN e done)
       |none=>false)
     |none=>false)&&Qg4 nt ops dc w keys (d::done) r
  |none=>false)
theorem Q2i: ∀(l:Kn) (t:Nat) (v:Value),lk l t=some v->t∈l.map (·.1)
 | [],_,_,h=>by simp[lk]at h
 | (k,u)::r,t,v,h=>by
   rw[Zj]at h
   split at h
   · rename_i e;subst e;simp
   exact v0S _ (Q2i r t v h)
theorem YL: ∀(p l:Kn) (t:Nat),t∉p.map (·.1)->lk (p++l) t=lk l t
 | [],_,_,_=>rfl
 | (k,u)::r,l,t,h=>by
   rw[v08,Zj,if_neg (fun e=>h (by simp[e])),YL r l t (fun m=>h (v0S _ m))]
theorem Ag.split {tm:Tr Value} {p:Kn} (a:Ag tm (p++l)) (hd: ∀t,t∈p.map (·.1)->t∉l.map (·.1)):Ag tm l:=fun t v h=>
 a t v (by rw[YL _ _ _ fun m=>hd t m (Q2i _ _ _ h)];exact h)
theorem Q4n: ∀(a l:List Nat),disj a l=true-> ∀t,t∈a->t∉l
 | [],_,_,t,h=>by simp at h
 | k::r,l,hd,t,h=>by
   simp only[disj,v0g,v0J,Kc]at hd;rcases v0r.1 h with rfl|h
   · exact hd.1
   exact Q4n r l hd.2 t h
theorem Q7l {dc:Nat} {w b:Bool} (hb:lk l dc=some (.bool b)) (hw:b= !w) {its:List (Oper×List Oper)}: ∀(seg:List (Oper×List Oper)) (done:List Nat) (p:Kn),p.map (·.1)=done->(∀t v,(t,v)∈p->v=undef)->
 dc∉done->(∀t,t∈done->t∉l.map (·.1))->Qg4 nt ops dc w (l.map (·.1)) done seg=true->(∀p',(∀t,t∈p'.map (·.1)->t∉l.map (·.1))->WL E fn nt dr ops fin its (p'++l) h R)->WL E fn nt dr ops fin (seg++its) (p++l) h R
 | [],done,p,hp,hu,hn,hd,hs,q=>q p (hp▸hd)
 | (o, lt) ::r,done,p,hp,hu,hn,hd,hs,q=>by
   unfold Qg4 at hs;cases ho:o.dst with
   |none=>rw[ho]at hs;cases hs
   | some d=>
     rw[ho]at hs;simp only[v0g,v0J,Kc]at hs;obtain⟨⟨⟨⟨h1,h2⟩,h3⟩,h4⟩,h5⟩:=hs;have hdcl:dc∈l.map (·.1):=Q2i _ _ _ hb
     have fq: ∀e,e∈done-> ∃v,(e,v)∈p:=fun e he=>by
      rw[<-hp]at he;obtain⟨⟨a,b⟩,h6,h7⟩:=List.mem_map.1 he;exact⟨b,by rw[<-h7];exact h6⟩
     have hund: ∀(p:Kn) (e:Nat),(∀t v,(t,v)∈p->v=undef)->e∈p.map (·.1)->lk (p++l) e=some undef:=by
      intro p
      induction p with
      |nil=>intro e _ he;simp at he
      | cons x p ih=>
        intro e hu he;obtain⟨k,u⟩:=x;rw[v08,Zj];by_cases ek:k=e
        · rw[if_pos ek,hu k u (by simp)]
        rw[if_neg ek];refine ih e (fun t v h=>hu t v (by simp[h])) ?_;simp at he;rcases he with he|he
        · exact absurd he.symm ek
        simpa using he
     have hng:Ng ops (p++l) o.guard:=by
      cases hg:o.guard with
      |none=>rw[hg]at h4;cases h4
      | some gw=>
        obtain⟨i,w'⟩:=gw;rw[hg]at h4;simp only at h4;cases di:(pk ops.toList i).dst with
        |none=>rw[di]at h4;cases h4
        | some e=>
          rw[di]at h4;simp only[v0g,v0K,Qz,Yy,beq_iff_eq]at h4;obtain⟨h6,h7⟩:=h4;rcases h7 with⟨rfl,rfl⟩|h7
          · exact ng (b:=b) di h6 (by rw[YL _ _ _ (hp▸hn)];exact hb) hw
          exact ngu di h6 (hund p e hu (hp▸h7))
     refine QdR hng (l':=(d,undef)::(p++l)) (by rw[ho];exact wn h1) ?_;refine Q7l hb hw r (d::done) ((d,undef)::p) (by simp[hp]) (fun t v h=>?_) (fun h=>?_) (fun t ht=>?_) h5 q
     · rcases v0r.1 h with h|h
       · cases h;rfl
       exact hu t v h
     · rcases v0r.1 h with h|h
       · subst h;exact h2 hdcl
       exact hn h
     rcases v0r.1 ht with h|h
     · subst h;exact h2
     exact hd t h
theorem Z4 {dc tb n:Nat} {b B:Bool} {its:List (Oper×List Oper)} (hb:lk l dc=some (.bool b)) (mH:Qg4 nt ops dc false (l.map (·.1)) [] (its.take n)=true)
 (hp:its.drop n=(⟨some d,.pick (.tmp dc) (.const (.bool true)) (.tmp tb),ty,pos,af,gg⟩,lt)::rest) (g:Gd ops l gg) (hd:v0a d nt=true)
 (q1:b=false->WL E fn nt dr ops (its.drop n) its l h fun l1 h1=>h1=h/\lk l1 tb=some (.bool B)/\ ∃k,l1.drop k=l/\disj ((l1.take k).map (·.1)) (l.map (·.1))=true)
 (q:WL E fn nt dr ops fin rest ((d,.bool (b||B))::l) h R):WL E fn nt dr ops fin its l h R:=by
 cases b with
 | false=>
   refine Qdi ((q1 rfl).mono fun l1 h1 ⟨e1,e2,k,e3,e4⟩=>?_);subst e1
   have dz: ∀t v,lk l t=some v->lk l1 t=some v:=fun t v e=>by
    rw[<-v01 k l1,e3,YL _ _ _ (fun m=>Q4n _ _ e4 t m (Q2i _ _ _ e))];exact e
   rw[hp]
   have g':Gd ops l1 gg:=by
    unfold Gd at g ⊢;cases gg with
    |none=>trivial
    |some x=>obtain⟨og,d,a1,a2,a3⟩:=g;exact⟨og,d,a1,a2,dz _ _ a3⟩
   refine Q3S (v:=.bool B) g' hd (dz dc _ hb) rfl e2 ?_;intro todo hr tm ag;refine q todo hr tm fun t v e=>?_;rw[Zj]at e;by_cases dI:d=t
   · rw[if_pos dI]at e;exact ag t v (by rw[Zj,if_pos dI];exact e)
   rw[if_neg dI]at e;exact ag t v (by rw[Zj,if_neg dI];exact dz _ _ e)
 | true=>
   rw[<-v01 n its];refine Q7l (p:=[]) hb rfl (its.take n) [] rfl (fun _ _ h=>by simp at h) (by simp) (fun _ h=>by simp at h) mH fun p' eG=>?_;rw[hp]
   have dz: ∀t v,lk l t=some v->lk (p'++l) t=some v:=fun t v e=>by
    rw[YL _ _ _ (fun m=>eG t m (Q2i _ _ _ e))];exact e
   have g':Gd ops (p'++l) gg:=by
    unfold Gd at g ⊢;cases gg with
    |none=>trivial
    |some x=>obtain⟨og,d,a1,a2,a3⟩:=g;exact⟨og,d,a1,a2,dz _ _ a3⟩
   refine Q3R (v:=.bool true) g' hd (dz dc _ hb) rfl rfl ?_;intro todo hr tm ag;refine q todo hr tm fun t v e=>?_;rw[Zj]at e;by_cases dI:d=t
   · rw[if_pos dI]at e;exact ag t v (by rw[Zj,if_pos dI];exact e)
   rw[if_neg dI]at e;exact ag t v (by rw[Zj,if_neg dI];exact dz _ _ e)
theorem QY {dc tb n:Nat} {b B:Bool} {its:List (Oper×List Oper)} (hb:lk l dc=some (.bool b)) (mH:Qg4 nt ops dc true (l.map (·.1)) [] (its.take n)=true)
 (hp:its.drop n=(⟨some d,.pick (.tmp dc) (.tmp tb) (.const (.bool false)),ty,pos,af,gg⟩,lt)::rest) (g:Gd ops l gg) (hd:v0a d nt=true)
 (q1:b=true->WL E fn nt dr ops (its.drop n) its l h fun l1 h1=>h1=h/\lk l1 tb=some (.bool B)/\ ∃k,l1.drop k=l/\disj ((l1.take k).map (·.1)) (l.map (·.1))=true)
 (q:WL E fn nt dr ops fin rest ((d,.bool (b&&B))::l) h R):WL E fn nt dr ops fin its l h R:=by
 cases b with
 | true=>
   refine Qdi ((q1 rfl).mono fun l1 h1 ⟨e1,e2,k,e3,e4⟩=>?_);subst e1
   have dz: ∀t v,lk l t=some v->lk l1 t=some v:=fun t v e=>by
    rw[<-v01 k l1,e3,YL _ _ _ (fun m=>Q4n _ _ e4 t m (Q2i _ _ _ e))];exact e
   rw[hp]
   have g':Gd ops l1 gg:=by
    unfold Gd at g ⊢;cases gg with
    |none=>trivial
    |some x=>obtain⟨og,d,a1,a2,a3⟩:=g;exact⟨og,d,a1,a2,dz _ _ a3⟩
   refine Q3R (v:=.bool B) g' hd (dz dc _ hb) rfl e2 ?_;intro todo hr tm ag;refine q todo hr tm fun t v e=>?_;rw[Zj]at e;by_cases dI:d=t
   · rw[if_pos dI]at e;exact ag t v (by rw[Zj,if_pos dI];exact e)
   rw[if_neg dI]at e;exact ag t v (by rw[Zj,if_neg dI];exact dz _ _ e)
 | false=>
   rw[<-v01 n its];refine Q7l (p:=[]) hb rfl (its.take n) [] rfl (fun _ _ h=>by simp at h) (by simp) (fun _ h=>by simp at h) mH fun p' eG=>?_;rw[hp]
   have dz: ∀t v,lk l t=some v->lk (p'++l) t=some v:=fun t v e=>by
    rw[YL _ _ _ (fun m=>eG t m (Q2i _ _ _ e))];exact e
   have g':Gd ops (p'++l) gg:=by
    unfold Gd at g ⊢;cases gg with
    |none=>trivial
    |some x=>obtain⟨og,d,a1,a2,a3⟩:=g;exact⟨og,d,a1,a2,dz _ _ a3⟩
   refine Q3S (v:=.bool false) g' hd (dz dc _ hb) rfl rfl ?_;intro todo hr tm ag;refine q todo hr tm fun t v e=>?_;rw[Zj]at e;by_cases dI:d=t
   · rw[if_pos dI]at e;exact ag t v (by rw[Zj,if_pos dI];exact e)
   rw[if_neg dI]at e;exact ag t v (by rw[Zj,if_neg dI];exact dz _ _ e)
theorem ZX {dc:Nat} {b:Bool} {its:List (Oper×List Oper)} (_hb:lk l dc=some (.bool b)) (q1:b=true->WL E fn nt dr ops fin its l h R) (q2:b=false->WL E fn nt dr ops fin its l h R):WL E fn nt dr ops fin its l h R:=by
 cases b with
 |true=>exact q1 rfl
 |false=>exact q2 rfl
theorem ZY {dc n:Nat} {w b:Bool} {its:List (Oper×List Oper)} (hb:lk l dc=some (.bool b)) (hw:b= !w) (mH:Qg4 nt ops dc w (l.map (·.1)) [] (its.take n)=true)
 (q:WL E fn nt dr ops fin (its.drop n) l h R):WL E fn nt dr ops fin its l h R:=by
 rw[<-v01 n its];refine Q7l (p:=[]) hb hw (its.take n) [] rfl (fun _ _ h=>by simp at h) (by simp) (fun _ h=>by simp at h) mH fun p' eG=>?_;intro todo hr tm ag;exact q todo hr tm (ag.split eG)
end
section
variable {E:Env} {fn:FuncId} {nt:Nat} {l l':Kn} {h h':Hp} {Q:Out->Kn->Hp->Prop}
theorem QE {id:Nat} (q:Q .next l h):Blk id Q (.exit id) l h:=by
 show if id=id then Q .next l h else Q (.exit id) l h
 rw[if_pos rfl];exact q
theorem Q5Q {id i:Nat} (hi:i≠id) (q:Q (.exit i) l h):Blk id Q (.exit i) l h:=by
 show if i=id then Q .next l h else Q (.exit i) l h
 rw[if_neg hi];exact q
theorem Qh {b:Code} {i:Nat} (q:Q (.exit i) l h):Thn E fn nt b Q (.exit i) l h:=q
theorem Qn {I:Nat->Kn->Hp->Prop} {n i:Nat} (q:Q (.exit i) l h):Rnd I n Q (.exit i) l h:=q
theorem Q1J {c:Code} (l':Kn) (s:Sub l' l) (q:W E fn nt c l' h Q):W E fn nt c l h Q:=T.weak s q
def CP (E:Env) (f:FuncId) (args:List Value) (h:Hp) (v:Value):Prop:=C E f args h fun v' h'=>v'=v/\h'=h
theorem Ql {f:FuncId} {args:List Value} {v:Value} {P:Value->Hp->Prop} (c:CP E f args h v) (p:P v h):C E f args h P:=C.mono c fun _ _ ⟨e1,e2⟩=>by subst e1;subst e2;exact p
end
structure Ext (h h':Hp):Prop where
 n:h.n<=h'.n
 get: ∀i,i <h.n->h'.get i=h.get i
structure ExtB (bs:List Nat) (h h':Hp):Prop where
 n:h.n<=h'.n
 get: ∀i,i <h.n->i∉bs->h'.get i=h.get i
theorem Ext.refl (h:Hp):Ext h h:=⟨v0b _,fun _ _=>rfl⟩
theorem Ext.trans {a b c:Hp} (x:Ext a b) (y:Ext b c):Ext a c:=⟨v0t x.n y.n,fun i hi=>(y.get i (v0p hi x.n)).trans (x.get i hi)⟩
theorem Ext.alloc (h:Hp) (o:AObj):Ext h (h.alloc o):=⟨by rw[Hp.n_alloc];omega,fun i hi=>by rw[Hp.get_alloc,if_neg (by omega)]⟩
theorem Ext.b {h h':Hp} (x:Ext h h') (bs:List Nat):ExtB bs h h':=⟨x.n,fun i hi _=>x.get i hi⟩
theorem ExtB.refl (bs:List Nat) (h:Hp):ExtB bs h h:=⟨v0b _,fun _ _ _=>rfl⟩
theorem ExtB.trans {bs:List Nat} {a b c:Hp} (x:ExtB bs a b) (y:ExtB bs b c):ExtB bs a c:=
 ⟨v0t x.n y.n,fun i hi hb=>(y.get i (v0p hi x.n) hb).trans (x.get i hi hb)⟩
theorem ExtB.mono {as bs:List Nat} {h h':Hp} (x:ExtB as h h') (s: ∀i,i∈as->i <h.n->i∈bs):ExtB bs h h':=⟨x.n,fun i hi hb=>x.get i hi fun ha=>hb (s i ha hi)⟩
theorem ExtB.put (h:Hp) (b:Nat) (o:AObj):ExtB [b] h (h.put b o):=⟨by rw[Hp.n_put];omega,fun i hi hb=>by rw[Hp.get_put,if_neg (fun e=>hb (by simp[e]))]⟩
theorem ExtB.nil {h h':Hp} (x:ExtB [] h h'):Ext h h':=⟨x.n,fun i hi=>x.get i hi (by simp)⟩
theorem Hp.get_alloc_self (h:Hp) (o:AObj):(h.alloc o).get h.n=some o:=by rw[Hp.get_alloc,if_pos rfl]
theorem Hp.get_put_self (h:Hp) (b:Nat) (o:AObj):(h.put b o).get b=some o:=by rw[Hp.get_put,if_pos rfl]
def Sl (e:TypeId) (h:Hp) (s:Value) (vs:List Value) (bs:List Nat):Prop:=
 (s=.slice none 0 0/\vs=[]/\bs=[])\/ ∃b m,s=.slice (some ⟨b,0,none⟩) vs.length vs.length/\h.get b=some (.cells vs e m)/\(m=0\/m=3)/\b <h.n/\bs=[b]
theorem Sl.keep {e:TypeId} {h h':Hp} {s:Value} {vs:List Value} {bs cs:List Nat} (x:Sl e h s vs bs) (g:ExtB cs h h') (hd: ∀i,i∈bs->i∉cs):Sl e h' s vs bs:=by
 rcases x with x| ⟨b,m,h1,h2,h3,h4,rfl⟩
 · exact .inl x
 exact .inr ⟨b,m,h1,by rw[g.get b h4 (hd b (by simp))];exact h2,h3,v0p h4 g.n,rfl⟩
theorem Sl.at {e:TypeId} {h:Hp} {s:Value} {vs:List Value} {bs:List Nat} (x:Sl e h s vs bs) (hn:0 <vs.length):
 ∃b m,s=.slice (some ⟨b,0,none⟩) vs.length vs.length/\h.get b=some (.cells vs e m)/\(m=0\/m=3)/\b <h.n/\bs=[b]:=by
 rcases x with⟨_,rfl,_⟩|x
 · simp at hn
 exact x
theorem Sl.val {e:TypeId} {h:Hp} {s:Value} {vs:List Value} {bs:List Nat} (x:Sl e h s vs bs): ∃a,s=.slice a vs.length vs.length:=by
 rcases x with⟨rfl,rfl,_⟩| ⟨b,m,rfl,_⟩
 · exact⟨none,rfl⟩
 exact⟨_,rfl⟩
section
variable {E:Env} {h:Hp} {t e:TypeId} {by':Nat}
end
theorem bv {p q:Bool} (h:p=true↔q=true):Value.bool p=Value.bool q:=congrArg _ (Bool.eq_iff_iff.2 h)
open Go.RowKit Go.Sort
def Q6l:Value->Nat
 | .slice (some a) _ _=>a.block+1
 | .pointer (some a)=>a.block+1
 |_=>0
def maxB (l:List Value):Nat:=l.foldr (fun v n=>max (Q6l v) n) 0
theorem Q7L: ∀ {l:List Value} {v:Value},v∈l->Q6l v<=maxB l
 | u::r,v,h=>by
   show Q6l v<=max (Q6l u) (maxB r);rcases v0r.1 h with rfl|h
   · omega
   have:=Q7L h;omega
def objB:Obj->Nat
 | .cells cs _ _=>maxB cs.toList
 |_=>0
def Qfc (l:List Obj):Nat:=l.foldr (fun o n=>max (objB o) n) 0
theorem Q5v: ∀ {l:List Obj} {o:Obj},o∈l->objB o<=Qfc l
 | u::r,v,h=>by
   show objB v<=max (objB u) (Qfc r);rcases v0r.1 h with rfl|h
   · omega
   have:=Q5v h;omega
def Q3t (w:World):Nat:=max (max w.heap.size 256) (Qfc w.heap.toList)
theorem Q02 (w:World):w.heap.size<=Q3t w:=by unfold Q3t;omega
theorem QbO (w:World):256<=Q3t w:=by unfold Q3t;omega
theorem Q4G {w:World} {a:Addr} {v:Value} (h:w.cell? a=some v):Q6l v<=Q3t w:=by
 unfold World.cell? at h
 split at h
 · rename_i c e fr hx
   split at h
   · cases h
   have h1:Obj.cells c e fr∈w.heap.toList:=by
    rw[<-Array.mem_def];exact v13 hx
   have h2:=Q5v h1;have h3:v∈c.toList:=by rw[<-Array.mem_def];exact v13 h
   have h4:=Q7L h3;simp only[objB]at h2;unfold Q3t;omega
 cases h
def Mp.all (w:World):Mp where
 ρ i:=match w.heap[i]? with
   |some (.cells cs _ _)=>some (i,0,cs.size)
   |_=>Option.none
 K i:=i <Q3t w
 md _:=0
theorem Q4w (M:Mp): ∀v:Value,∃x,VRel M x v
 | .agg cs=>by
   have h: ∀i:Fin cs.size,∃x,VRel M x cs[i]:=fun i=>Q4w M cs[i];have hc:=fun i=>Classical.choose_spec (h i);refine⟨.agg (Array.ofFn fun i=>Classical.choose (h i)),.agg (by simp) fun i v w hv hw=>?_⟩;simp only[v1z,Array.getElem?_ofFn]at hv hw
   split at hv
   · rename_i hi;cases hv;rw[v1V hi]at hw;cases hw;exact hc ⟨i,hi⟩
   cases hv
 | .tuple cs=>by
   have h: ∀i:Fin cs.size,∃x,VRel M x cs[i]:=fun i=>Q4w M cs[i];have hc:=fun i=>Classical.choose_spec (h i);refine⟨.tuple (Array.ofFn fun i=>Classical.choose (h i)),.tuple (by simp) fun i v w hv hw=>?_⟩;simp only[v1z,Array.getElem?_ofFn]at hv hw
   split at hv
   · rename_i hi;cases hv;rw[v1V hi]at hw;cases hw;exact hc ⟨i,hi⟩
   cases hv
 | .bool b=>⟨_,.bool b⟩
 | .int k n=>⟨_,.int k n⟩
 | .float k n=>⟨_,.float k n⟩
 | .complex k a b=>⟨_,.complex k a b⟩
 | .string s=>⟨_,.string s⟩
 | .pointer a=>⟨_,.junk trivial⟩
 | .slice a n c=>⟨_,.junk trivial⟩
 | .map r=>⟨_,.junk trivial⟩
 | .chan r=>⟨_,.junk trivial⟩
 | .func f a b=>⟨_,.junk trivial⟩
 | .nilFunc=>⟨_,.nilFunc⟩
 | .iface t v=>⟨_,.junk trivial⟩
 | .nilIface=>⟨_,.nilIface⟩
termination_by v=>SizeOf.sizeOf v
decreasing_by all_goals (simp_wf;have:=Array.sizeOf_getElem cs i.1 i.2;omega)
open Classical in
noncomputable def JB (M:Mp) (v:Value):Value:=if VRel M v v then v else Classical.choose (Q4w M v)
theorem Q9m (M:Mp) (v:Value):VRel M (JB M v) v:=by
 unfold JB
 split
 · assumption
 exact Classical.choose_spec (Q4w M v)
theorem Yf {M:Mp} {v:Value} (h:VRel M v v):JB M v=v:=by rw[JB,if_pos h]
noncomputable def Jx (M:Mp) (w:World) (i:Nat):Option AObj:=match w.heap[i]? with
 |some (.cells cs e _)=>some (.cells (cs.toList.map (JB M)) e 1)
 |_=>Option.none
noncomputable def Qga (M:Mp) (w:World):Nat->Tr AObj
 |0=>.leaf
 | n+1=>match Jx M w n with
   |some o=>(Qga M w n).set (n+1) n o
   |Option.none=>Qga M w n
theorem Q4x (M:Mp) (w:World): ∀n i,(Qga M w n).get i=if i <n then Jx M w i else Option.none
 |0,i=>Q4c i
 | n +1,i=>by
   unfold Qga
   split
   · rename_i o ho;rw[JR _ _ _ _ _ (by omega),Q4x M w n i];by_cases h1:n=i
     · subst h1;rw[if_pos rfl,if_pos (by omega),ho]
     rw[if_neg h1];by_cases h2:i <n
     · rw[if_pos h2,if_pos (by omega)]
     rw[if_neg h2,if_neg (by omega)]
   rename_i ho;rw[Q4x M w n i];by_cases h1:n=i
   · subst h1;rw[if_neg (by omega),if_pos (by omega),ho]
   by_cases h2:i <n
   · rw[if_pos h2,if_pos (by omega)]
   rw[if_neg h2,if_neg (by omega)]
noncomputable def Hp.all (w:World):Hp:=⟨Qga (Mp.all w) w w.heap.size,Q3t w⟩
theorem Hp.all_get (w:World) (i:Nat):(Hp.all w).get i=Jx (Mp.all w) w i:=by
 show(Qga (Mp.all w) w w.heap.size).get i=_;rw[Q4x]
 split
 · rfl
 rename_i h;unfold Jx;rw[v16 (by omega)]
theorem HRel.all (w:World):HRel w (fun _=>False) (Mp.all w) (Hp.all w) w:=by
 have bM: ∀i b δ S,(Mp.all w).ρ i=some (b,δ,S)-> ∃cs e fr,w.heap[i]?=some (.cells cs e fr)/\b=i/\δ=0/\S=cs.size:=fun i b δ S h=>by
  simp only[Mp.all]at h
  split at h
  · rename_i cs e fr hx;cases h;exact⟨cs,e,fr,hx,rfl,rfl,rfl⟩
  cases h
 have aB: ∀i b δ S,(Mp.all w).ρ i=some (b,δ,S)->RO (Hp.all w) i:=fun i b δ S h=>by
  obtain⟨cs,e,fr,hx,_⟩:=bM i b δ S h;exact⟨cs.toList.map (JB (Mp.all w)),e,by rw[Hp.all_get,Jx,hx]⟩
 refine⟨fun i b δ S h=>?_,fun i j b δ S δ' S' h _=>.inr (aB i b δ S h),fun i hi=>hi,fun i hi=>?_,fun i _ h=>?_,rfl,⟨rfl,fun _=>v0b _⟩,rfl,v0b _,fun b _ _=>rfl,fun i b δ S h _=>.inr (aB i b δ S h),fun i hi=>⟨?_,fun b δ S h=>?_⟩⟩
 · obtain⟨cs,e,fr,hx,rfl,rfl,rfl⟩:=bM i b δ S h;have ai:=(v0V.1 hx).1;refine⟨show b <Q3t w by have:=Q02 w;omega,.cells (cs.toList.map (JB (Mp.all w))) e 1,_,by rw[Hp.all_get,Jx,hx],hx,cs,fr,rfl,rfl,by simp,fun j v hj=>?_,.inr (.inl ⟨rfl,rfl,rfl,by simp⟩)⟩;rw[v0D]at hj;cases hc:cs.toList[j]? with
   |none=>rw[hc]at hj;cases hj
   | some u=>
     rw[hc]at hj;cases hj;exact⟨u,by rw[v0e];simpa using hc,Q9m _ _⟩
 · have:Q3t w<=i:=hi;have:=Q02 w;rw[Hp.all_get,Jx,v16 (by omega)]
 · rw[Hp.all_get,Jx];simp only[Mp.all]at h
   split at h
   · cases h
   rename_i hx;exact .inl rfl
 · show i <Q3t w;have:=QbO w;omega
 obtain⟨cs,e,fr,hx,rfl,rfl,rfl⟩:=bM i b δ S h;exact⟨rfl,rfl⟩
section
variable {w:World}
theorem Q1a (a:Addr) (n c:Nat) (h:a.block <Q3t w):VRel (Mp.all w) (.slice (some a) n c) (.slice (some a) n c):=by
 refine .sl ⟨h,fun b δ S hb=>.inl ⟨rfl,?_,rfl⟩⟩;simp only[Mp.all]at hb
 split at hb
 · cases hb;simp
 cases hb
theorem Qbt (a:Addr) (n c:Nat) (h:a.block <w.heap.size):VRel (Mp.all w) (.slice (some a) n c) (.slice (some a) n c):=Q1a a n c (v0p h (Q02 w))
end
theorem Q8x (E:Env) (hm:E.P.follows .mixedOrders=true) {f:FuncId} {args:List Value} {ad:Array Value} {w:World} (hv:VsRel (Mp.all w) args ad.toList)
 (c:C E f args (Hp.all w) fun v _=>v=.bool true):Calls E.P f ad w fun e w'=>e=.returned (.bool true)/\Below w.heap.size w w':=by
 obtain⟨s0,hs,he⟩:=c.run;exact(Q6U E hm rfl (HRel.all w) hv hs he).mono fun _ _ ⟨h1,h2,h3,h4,h5,h6⟩=>⟨h1,⟨h2,h3,h4,h5,h6⟩⟩
open Go.ChangeShapes Go.WideShapes Go.ChangeAt Go.Deep
section
variable {H:Type} {enc:TypeId×Value->H} {P:Program} {W W':World}
theorem Q01 (hl:laidOutB P=true) (hb:Below W.heap.size W W'): ∀ {ts:List TypeId} {vs:List Value} {ds:List (DataW H)} {ps:List MemPlace},ts.all (fun t=>P.readableRec t&&decide (t <P.types.size))=true->
 (∀x∈ps,x.block <W.heap.size)->DataW.TrodAll enc P W 0 (fun _=>true) true ts vs ds ps->DataW.TrodAll enc P W' 0 (fun b=>decide (b <W.heap.size)) true ts vs ds ps
 | [],[],[],_,_,_,h=>h
 | [],_::_,_,_,_,_,h=>h.elim
 | [],[],_::_,_,_,_,h=>h.elim
 |_::_,[],_,_,_,_,h=>h.elim
 |_::_,_::_,[],_,_,_,h=>h.elim
 | t::ts,v::vs,d::ds,ps,hr,ai,⟨p,q,h1,h2,e⟩=>by
   subst e;simp only[v1e,v0g,decide_eq_true_eq]at hr;exact⟨p,q,Below.trod hl hr.1.1 hr.1.2 h1 hb (fun x hx=>ai x (by simp[hx])),Q01 hl hb hr.2 (fun x hx=>ai x (by simp[hx])) h2,rfl⟩
theorem Q1K: ∀ {w:World} {base:Nat} {spare:Nat->Bool} {held:Bool} {ts:List TypeId} {vs:List Value} {ds:List (DataW H)} {ps:List MemPlace},DataW.TrodAll enc P w base spare held ts vs ds ps->ds.length=ts.length
 |_,_,_,_,[],[],[],_,_=>rfl
 |_,_,_,_,[],_::_,_,_,h=>h.elim
 |_,_,_,_,[],[],_::_,_,h=>h.elim
 |_,_,_,_,_::_,[],_,_,h=>h.elim
 |_,_,_,_,_::_,_::_,[],_,h=>h.elim
 |_,_,_,_,t::ts,v::vs,d::ds,ps,⟨p,q,h1,h2,e⟩=>by simp[Q1K h2]
theorem Q9J {f:Func} {s:ChangeSpec} {fresh handsOn apart:Bool} {t:TypeId} {ds gs:List (DataW H)} {before:List MemPlace} {args:Array Value}
 (hl:laidOutB P=true) (hrd:f.params.toList.all (fun t=>P.readableRec t&&decide (t <P.types.size))=true) (hv:s.vars=[]) (hr:f.resultTypes= #[t]) (ht:P.underlying t=some .bool)
 (hs: ∀ds:List (DataW H),ds.length=f.params.toList.length->(s.fn H ds).results=[.lit (.bool true)]/\(s.fn H ds).args=ds/\(s.fn H ds).vars=[])
 (hW:DataW.Whole enc P f.params.toList s.vars apart W args.toList ds gs before) (hb:Below W.heap.size W W'):
 s.post enc P f apart fresh handsOn false W args (.bool true) W':=by
 have hW':=hW;obtain⟨p,q,hA,hV,rfl,nG,fp⟩:=hW;rw[hv]at hV;obtain⟨rfl,rfl⟩:=trodVars_none hV;obtain⟨h1,h2,h3⟩:=hs ds (Q1K hA);have ai: ∀x∈p,x.block <W.heap.size:=fun x hx=>hW'.lt x (by simp[hx]);refine⟨ds,[],_,[],p,[],hW',?_,?_,?_,hb.frame _,fun h=>by cases h⟩
 · simp only[v0k,h1,hr];exact trodAll_mk1 (shut_bool ht true)
 · simp only[v0k,h2];exact Q01 hl hb hrd ai hA
 simp only[v0k,h3,hv];rfl
theorem Q9L {t e:TypeId} {r:Reach} {base:Nat} {v:Value} (ht:P.underlying t=some (.slice e)) (h:Value.okWide P W r base t v):
 v=.slice none 0 0\/ ∃a len cap,v=.slice (some a) len cap/\a.block <W.heap.size:=by
 simp only[Value.okWide,ht,Cell.okWide]at h;cases v<;>simp only[Cell.ok,ht]at h<;>try exact h.elim
 rename_i a len cap;cases a with
 | none=>
   left;cases len with
   | zero=>
     cases cap with
     |zero=>rfl
     |succ n=>exact h.elim
   |succ n=>exact h.elim
 | some a=>
   right;refine⟨a,len,cap,rfl,?_⟩;obtain⟨_,_,_,_,row,cells,jk,_⟩:=h;unfold World.shape? at jk
   split at jk
   · rename_i hx;exact(v0V.1 hx).1
   cases jk
theorem QfQ {t:TypeId} {r:Reach} {base:Nat} {v:Value} {d:DataW H} {ps:List MemPlace} (ht:P.underlying t=some (.int .i64)) (aT:Value.okWide P W r base t v)
 (h:DataW.Trod enc P W 0 (fun _=>true) true t v d ps): ∃n:Int,v=.int .i64 n/\ -9223372036854775808<=n/\n <9223372036854775808:=by
 obtain⟨n,rfl,_,_,hw⟩:=open_int ht aT h;have gE:IntKind.i64.min<=n/\n<=IntKind.i64.max:=by simpa[Lit.wf]using hw
 refine⟨n,rfl,?_,?_⟩
 · have:=gE.1;simp[IntKind.min,IntKind.signed,IntKind.bits]at this;omega
 have:=gE.2;simp[IntKind.max,IntKind.signed,IntKind.bits]at this;omega
end
abbrev Ms:=List (Int×Value×Nat)
def ent (x:Int×Value×Nat):MapEntry:= {key:=.int .i64 x.1,val:=x.2.1,born:=x.2.2}
def fi (k:Int):Ms->Nat->Option (Nat×Value)
 | [],_=>none
 |(a,v,_)::r,i=>if a=k then some (i,v)else fi k r (i+1)
def Q6L (M:Ms) (k:Int):Option Value:=(fi k M 0).map (·.2)
theorem Q5n {E:Env} {h:Hp} {kt:TypeId} (hk:E.und kt=some (.int .i64)) (a b:Int):KV E h kt (.int .i64 a) (.int .i64 b)=some (decide (a=b)):=by
 simp[KV,hk,Zw,KF,sameV]
theorem Q0m {E:Env} {h:Hp} {kt:TypeId} (hk:E.und kt=some (.int .i64)) (k:Int): ∀(M:Ms) (i:Nat),JU E h kt (.int .i64 k) (M.map ent) i=some (fi k M i)
 | [],_=>rfl
 | (a,v,n)::r,i=>by
   simp only[v0B,JU,ent,Q5n hk,fi];by_cases e:a=k
   · subst e;simp
   have:decide (k=a)=false:=by simp;exact fun x=>e x.symm
   simp only[this,if_neg e];exact Q0m hk k r (i+1)
theorem Q12 {k:Int}: ∀ {M:Ms} {i j:Nat} {v:Value},fi k M i=some (j,v)-> ∃p,j=i+p/\p <M.length/\ ∃n,M[p]?=some (k,v,n)
 | [],_,_,_,h=>by simp[fi]at h
 | (a,u,n)::r,i,j,v,h=>by
   simp only[fi]at h;by_cases e:a=k
   · rw[if_pos e]at h;cases h;exact⟨0,rfl,by simp,n,by simp[e]⟩
   rw[if_neg e]at h;obtain⟨p,h1,h2,m,h3⟩:=Q12 h;exact⟨p+1,by omega,by simp;omega,m,by simpa using h3⟩
def Q7A (M:Ms) (k:Int) (v:Value) (cl:Nat):Ms×Nat:=match fi k M 0 with
 |some (i,_)=>(M.modify i fun x=>(k,v,x.2.2),cl)
 |none=>(M++[(k,v,cl)],cl+1)
theorem Q5E {k k':Int} {v:Value}: ∀(M:Ms) (s p:Nat) (u:Value),fi k M s=some (s+p,u)->
 (fi k' (M.modify p fun x=>(k,v,x.2.2)) s).map (·.2)=if k'=k then some v else(fi k' M s).map (·.2)
 | [],_,_,_,h=>by simp[fi]at h
 | (a,w,n)::r,s,p,u,h=>by
   simp only[fi]at h;by_cases e:a=k
   · rw[if_pos e]at h;have hp:p=0:=by simp at h;omega
     subst hp;simp only[List.modify_zero_cons,fi];by_cases e':k=k'
     · subst e';simp
     rw[if_neg e',if_neg (fun x=>e' x.symm),if_neg (fun x=>e' (e▸x))]
   rw[if_neg e]at h;cases p with
   | zero=>
     obtain⟨q,h1,_⟩:=Q12 h;omega
   | succ p=>
     simp only[List.modify_succ_cons,fi];by_cases e':a=k'
     · rw[if_pos e',if_pos e',if_neg (fun x=>e (e'.trans x))]
     rw[if_neg e',if_neg e'];exact Q5E r (s+1) p u (by rw[h];congr 2;omega)
theorem Q5F {k k':Int} {v:Value} {c:Nat}: ∀(M:Ms) (s:Nat),fi k M s=none->(fi k' (M++[(k,v,c)]) s).map (·.2)=if k'=k then some v else(fi k' M s).map (·.2)
 | [],s,_=>by
   simp only[v1c,fi];by_cases e:k=k'
   · subst e;simp
   rw[if_neg e,if_neg (fun x=>e x.symm)]
 | (a,w,n)::r,s,h=>by
   simp only[fi]at h;by_cases e:a=k
   · rw[if_pos e]at h;cases h
   rw[if_neg e]at h;simp only[v08,fi];by_cases e':a=k'
   · rw[if_pos e',if_pos e',if_neg (fun x=>e (e'.trans x))]
   rw[if_neg e',if_neg e'];exact Q5F r (s+1) h
theorem get_put (M:Ms) (k k':Int) (v:Value) (cl:Nat):Q6L (Q7A M k v cl).1 k'=if k'=k then some v else Q6L M k':=by
 unfold Q7A Q6L;cases h:fi k M 0 with
 |none=>exact Q5F M 0 h
 | some x=>
   obtain⟨i,u⟩:=x;exact Q5E M 0 i u (by rw[h,v0e])
section
variable {E:Env} {fn:FuncId} {nt:Nat} {l l':Kn} {h h':Hp} {dr:Bool} {ops:Array Oper} {fin rest:List (Oper×List Oper)} {R:Kn->Hp->Prop} {lt:List Oper}
variable {d:Nat} {ty:TypeId} {pos:String} {af:Array Edge} {gg:Option (Nat×Bool)} {x y z:Operand} {v u:Value} {t:TypeId}
structure MapT (E:Env) (t kt et:TypeId):Prop where
 und:E.und t=some (.map kt et)
 key:E.und kt=some (.int .i64)
theorem Q0f {kt:TypeId} (hk:E.und kt=some (.int .i64)) (k:Int):Y8 E kt (.int .i64 k)=true:=by simp[Y8,hk,Zw,KF]
theorem Q6G {kt et:TypeId} {M:Ms} {cl r:Nat} {k:Int} {zv:Value} (m:MapT E t kt et) (hg:h.get r=some (.map (M.map ent) cl)) (hz:E.zero et=some zv) (ok:Bool):
 K4 E h t (.map (some r)) (.int .i64 k) ok=some (match Q6L M k with|some v=>cond ok (.tuple #[v,.bool true]) v|none=>cond ok (.tuple #[zv,.bool false]) zv):=by
 simp only[K4,m.und,mapOf,hg,Q0f m.key,cond_true,Q0m m.key,Q6L];cases fi k M 0 with
 |none=>simp[hz]
 |some x=>rfl
theorem Q7G {kt et:TypeId} {M:Ms} {cl r:Nat} {k:Int} {zv:Value} (m:MapT E t kt et) (g:Gd ops l gg) (hd:v0a d nt=true) (hx:evl l x=some (.map (some r))) (hy:evl l y=some (.int .i64 k))
 (hg:h.get r=some (.map (M.map ent) cl)) (hz:E.zero et=some zv) (q:WL E fn nt dr ops fin rest ((d,(Q6L M k).getD zv)::l) h R):
 WL E fn nt dr ops fin ((⟨some d,.lookup t x y false,ty,pos,af,gg⟩,lt)::rest) l h R:=
 QA g rfl (fun _ ag=>by
  simp only[QL,ag.ev hx,ag.ev hy,Q6G m hg hz]
  cases Q6L M k<;>rfl) (wn hd) q
theorem Q6q {kt et:TypeId} {M:Ms} {cl r:Nat} {k:Int} (m:MapT E t kt et) (g:Gd ops l gg) (hx:evl l x=some (.map (some r))) (hy:evl l y=some (.int .i64 k)) (hz:evl l z=some v)
 (hg:h.get r=some (.map (M.map ent) cl)) (ha: ∀q,q∈lt->Again E ops l (h.put r (.map ((Q7A M k v cl).1.map ent) (Q7A M k v cl).2)) q)
 (q:WL E fn nt dr ops fin rest l (h.put r (.map ((Q7A M k v cl).1.map ent) (Q7A M k v cl).2)) R):
 WL E fn nt dr ops fin ((⟨none,.mapUpdate t x y z,ty,pos,af,gg⟩,lt)::rest) l h R:=by
 refine Q0B g rfl (fun _ ag=>?_) wn0 ha q;simp only[QW,ag.ev hx,ag.ev hy,ag.ev hz,Ku,m.und,hg,Q0f m.key,cond_true,Q0m m.key,Q7A];cases hf:fi k M 0 with
 |none=>simp[ent]
 | some x=>
   obtain⟨i,w⟩:=x;simp only[v0h.injEq,Nx.skip.injEq]
   congr 2
   apply v1f;intro j;simp only[List.getElem?_modify,v0D];cases M[j]? with
   |none=>rfl
   |some y=>by_cases e:i=j<;>simp[e,ent]
theorem Q57 (g:Gd ops l gg) (hd:v0a d nt=true) (q:WL E fn nt dr ops fin rest ((d,.map (some h.n))::l) (h.alloc (.map (([]:Ms).map ent) 0)) R):
 WL E fn nt dr ops fin ((⟨some d,.makeMap t none,ty,pos,af,gg⟩,lt)::rest) l h R:=
 JZ (f:=fun i=>.map (some i)) g rfl (fun _ _=>rfl) (wn hd) q
theorem o_eqm {a:Option Nat} {aI:TypeId} {kt et:TypeId} (g:Gd ops l gg) (hd:v0a d nt=true) (hx:evl l x=some (.map a)) (hy:evl l y=some (.map none)) (hb:E.und t=some (.map kt et))
 (q:WL E fn nt dr ops fin rest ((d,.bool a.isNone)::l) h R):WL E fn nt dr ops fin ((⟨some d,.binOp .eql t x y aI,ty,pos,af,gg⟩,lt)::rest) l h R:=
 QA g rfl (fun _ ag=>by
  cases a<;>simp only[QL,ag.ev hx,ag.ev hy,Q4C,Zf,hb,QO,Option.isNone]) (wn hd) q
theorem Q9P {vs:Array Value} {i:Nat} (g:Gd ops l gg) (hd:v0a d nt=true) (hx:evl l x=some (.tuple vs)) (hv:vs[i]?=some v) (q:WL E fn nt dr ops fin rest ((d,v)::l) h R):
 WL E fn nt dr ops fin ((⟨some d,.extract x i,ty,pos,af,gg⟩,lt)::rest) l h R:=
 QA g rfl (fun _ ag=>by simp only[QL,ag.ev hx,hv]) (wn hd) q
theorem Qci {b n:Nat} {cs:List Value} {vs:Array Value} {e:TypeId} {m:Nat} (g:Gd ops l gg) (hx:evl l x=some (.pointer (some ⟨b,0,none⟩))) (hy:evl l y=some (.agg vs)) (hc:vs.toList.all cellV=true) (ht:E.size t=some n) (hn:vs.size=n)
 (hg:h.get b=some (.cells cs e m)) (hm:m≠1) (hv:cs.length=n) (ha: ∀q,q∈lt->Again E ops l (h.put b (.cells vs.toList e m)) q)
 (q:WL E fn nt dr ops fin rest l (h.put b (.cells vs.toList e m)) R):
 WL E fn nt dr ops fin ((⟨none,.store t x y,ty,pos,af,gg⟩,lt)::rest) l h R:=by
 refine Q0B g rfl (fun _ ag=>?_) wn0 ha q;have e1:v0n vs.toList.length cs.length=true:=(Qr _ _).2 (by simp;omega);have e2:v0d m 1=false:=(Qw _ _).2 hm;have e3:v0d vs.size n=true:=(Qz _ _).2 hn;have hd:cs.drop vs.toList.length=[]:=by rw[List.drop_eq_nil_iff];simp;omega
 simp only[QW,ag.ev hx,ag.ev hy,Q1R,ht,Value.cells,e3,hc,v1k,cond_true,Zl,hg,v0e,e1,e2,v1s,List.take_zero,v1c,v0e,hd,v0k]
end
noncomputable def Q4V (E:Env) (l:Kn) (h:Hp):List ResultVar->Option (List Value)
 | []=>some []
 | .tmp t::r=>(match lk l t,Q4V E l h r with
   |some v,some vs=>some (v::vs)
   |_,_=>none)
 | .cell a t::r=>(match lk l a with
   | some (.pointer (some p))=>(match JO E t p h,Q4V E l h r with
     |some v,some vs=>some (v::vs)
     |_,_=>none)
   |_=>none)
theorem Q3I {E:Env} {l:Kn} {tm:Tr Value} {h:Hp} (a:Ag tm l): ∀(rs:List ResultVar) (vs:List Value),Q4V E l h rs=some vs->Za E tm h rs=some vs
 | [],_,e=>e
 | .tmp t::r,vs,e=>by
   simp only[Q4V]at e
   split at e
   · rename_i v ws h1 h2;cases e;simp only[Za,Q3I a r _ h2,a.ev (o:=.tmp t) h1]
   cases e
 | .cell c t::r,vs,e=>by
   simp only[Q4V]at e
   split at e
   · rename_i p h1
     split at e
     · rename_i v ws h2 h3;cases e;simp only[Za,a.ev (o:=.tmp c) h1,h2,Q3I a r _ h3]
     cases e
   cases e
theorem YW {E:Env} {f:FuncId} {args:List Value} {h:Hp} {Q:Value->Hp->Prop} {fu:Func} {c:Code} (hf:E.fn f=some fu) (hb:fu.body=some c)
 (q:W E f (args.length+(fu.ntmps -args.length)) c (Q2T args 0) h fun o l h=>(o=.ret\/o=.next)/\ ∃vs,Q4V E l h fu.results.toList=some vs/\Q (oneOf vs) h) (hn:Q3b c=true:=by kernel_rfl):C E f args h Q:=by
 have ag:Ag (Q0w args 0 .leaf) (Q2T args 0):=fun t v e=>Q0x args 0 .leaf t v (by rw[if_neg (by omega)];exact e);refine⟨fu,⟨f,args.length+(fu.ntmps -args.length),Q0w args 0 .leaf,[.code c],[],.run,.normal,none⟩,hf,by simp only[Ys,hf,hb],fun kd cs=>(q _ ag [] [] kd none cs (.inr rfl)).bind ?_⟩;rintro s ⟨o,l',h',fT,ds,⟨ho,vs,h1,h2⟩,a',n',d',r⟩;have j8:=n' (by simp[Q2L,hn]);subst j8;exact Q9r ho r fun todo=>⟨_,h',fT,vs,todo,h2,d'.1,Q3I a' _ _ h1,rfl,rfl⟩
section
variable {E:Env} {l:Kn} {h:Hp} {r:List ResultVar} {vs:List Value} {v:Value} {a:Nat} {t:TypeId}
theorem Yv (h1:lk l a=some v) (h2:Q4V E l h r=some vs):Q4V E l h (.tmp a::r)=some (v::vs):=by simp only[Q4V,h1,h2]
theorem Zn {b n:Nat} {cs:List Value} {e:TypeId} {m:Nat} (h1:lk l a=some (.pointer (some ⟨b,0,none⟩))) (hc:isA E t=true) (hn:E.size t=some n) (hg:h.get b=some (.cells cs e m)) (hl:cs.length=n)
 (h2:Q4V E l h r=some vs):Q4V E l h (.cell a t::r)=some (.agg cs.toArray::vs):=by
 have:=Q2h (o:=0) hc hn hg (by omega);simp only[v0U,v1B (Nat.le_of_eq hl)]at this;simp only[Q4V,h1,this,h2]
end
theorem QdS {E:Env} {fn:FuncId} {nt:Nat} {l:Kn} {h:Hp} {dr:Bool} {ops:Array Oper} {fin its:List (Oper×List Oper)} {R:Kn->Hp->Prop} (P:Hp->Prop) (p:P h) (q: ∀h,P h->WL E fn nt dr ops fin its l h R):WL E fn nt dr ops fin its l h R:=q h p
theorem w_at {E:Env} {fn:FuncId} {nt:Nat} {l:Kn} {h:Hp} {c:Code} {Q:Out->Kn->Hp->Prop} (P:Hp->Prop) (p:P h) (q: ∀h,P h->W E fn nt c l h Q):W E fn nt c l h Q:=q h p
theorem Ext.of {h h1 h2:Hp} {cs:List Nat} (g:Ext h h1) (k:ExtB cs h1 h2) (d: ∀i,i∈cs->h.n<=i):Ext h h2:=
 ⟨v0t g.n k.n,fun i hi=>(k.get i (v0p hi g.n) fun hc=>absurd (d i hc) (by omega)).trans (g.get i hi)⟩
def Cut (P:Kn->Hp->Prop) (Q:Out->Kn->Hp->Prop):Out->Kn->Hp->Prop
 | .next,l,h=> ∃l',Sub l' l/\P l' h
 | .ret,l,h=>Q .ret l h
 | .exit i,l,h=>Q (.exit i) l h
theorem w_cut {E:Env} {fn:FuncId} {nt:Nat} {l:Kn} {h:Hp} {a b:Code} {Q:Out->Kn->Hp->Prop} (P:Kn->Hp->Prop) (q:W E fn nt a l h (Cut P Q)) (q2: ∀l h,P l h->W E fn nt b l h Q):W E fn nt (.seq a b) l h Q:=
 Q5 (T.mono q fun o l h hh=>by
  cases o with
  | next=>
    obtain⟨l',s,p⟩:=hh;exact Q1J l' s (q2 l' h p)
  |ret=>exact hh
  |exit i=>exact hh)
section
variable {E:Env} {fn:FuncId} {nt:Nat} {l:Kn} {h:Hp} {dr:Bool} {ops:Array Oper} {fin rest:List (Oper×List Oper)} {R:Kn->Hp->Prop} {lt:List Oper} {d:Nat} {ty t:TypeId} {pos:String} {af:Array Edge} {gg:Option (Nat×Bool)} {x:Operand} {v:Value}
theorem Qex {kt et:TypeId} (g:Gd ops l gg) (hd:v0a d nt=true) (hx:evl l x=some v) (hr:E.und t=some (.map kt et))
 (q:WL E fn nt dr ops fin rest ((d,.iface t v)::l) h R):WL E fn nt dr ops fin ((⟨some d,.makeInterface t x,ty,pos,af,gg⟩,lt)::rest) l h R:=
 QA g rfl (fun _ ag=>by simp only[QL,ag.ev hx,hr]) (wn hd) q
theorem Qcm {a:TypeId} {kt et:TypeId} (g:Gd ops l gg) (hd:v0a d nt=true) (hx:evl l x=some (.iface a v)) (ha:E.und a=some (.map kt et)) (q:WL E fn nt dr ops fin rest ((d,v)::l) h R):
 WL E fn nt dr ops fin ((⟨some d,.typeAssert x t a false,ty,pos,af,gg⟩,lt)::rest) l h R:=
 QA g rfl (fun _ ag=>by simp only[QL,ag.ev hx,Km,ha,v0I,cond_true,cond_false]) (wn hd) q
theorem Qez {f:FuncId} {r:Nat} {es:List MapEntry} {cl:Nat} {u:TypeId} {as:Array TypeId} (g:Gd ops l gg) (hd:v0a d nt=true) (he:E.ext f=true) (hx:evl l x=some (.iface u (.map (some r)))) (hg:h.get r=some (.map es cl))
 (oq: ∀q,q∈lt->Again E ops ((d,.iface u (.map (some h.n)))::l) (h.alloc (.map es cl)) q) (q:WL E fn nt dr ops fin rest ((d,.iface u (.map (some h.n)))::l) (h.alloc (.map es cl)) R):
 WL E fn nt dr ops fin ((⟨some d,.call ⟨.value (.func f),#[x],as⟩,ty,pos,af,gg⟩,lt)::rest) l h R:=
 JY g rfl (fun tm ag=>by
  have:ev tm (.func f)=.func (.func f) #[] #[]:=rfl
  simp[QW,ZI,Zx,YN,he,ag.ev hx,Q3q,hg,this]) (wn hd) oq q
end
theorem JG {E:Env} {fn:FuncId} {nt:Nat} {l:Kn} {h:Hp} {dr:Bool} {ops:Array Oper} {fin rest:List (Oper×List Oper)} {R:Kn->Hp->Prop} {lt:List Oper} {d:Nat} {ty:TypeId} {pos:String} {af:Array Edge} {gg:Option (Nat×Bool)} {x:Operand} {v:Value} {f:FuncId}
 (g:Gd ops l gg) (hd:v0a d nt=true) (hx:evl l x=some v) (q:WL E fn nt dr ops fin rest ((d,.func (.func f) #[] #[v])::l) h R):
 WL E fn nt dr ops fin ((⟨some d,.makeFunc (.func f) #[] #[x],ty,pos,af,gg⟩,lt)::rest) l h R:=
 QA g rfl (fun _ ag=>by simp[QL,ag.ev hx]) (wn hd) q
structure ElN (E:Env) (t e z by':Nat):Prop where
 und:E.und t=some (.slice e)
 size:E.size e=some (z+1)
 bytes:E.bytes e=some (by'+1)
 zero: ∃zv,E.zero e=some zv/\zv.cells.size=z+1
def SlN (e:TypeId) (z:Nat) (h:Hp) (s:Value) (cs:List Value) (n:Nat) (bs:List Nat):Prop:=
 (s=.slice none 0 0/\cs=[]/\n=0/\bs=[])\/ ∃b m,s=.slice (some ⟨b,0,none⟩) n n/\h.get b=some (.cells cs e m)/\(m=0\/m=z+3)/\b <h.n/\bs=[b]/\cs.length=n*(z+1)
theorem SlN.lt {e:TypeId} {z:Nat} {h:Hp} {s:Value} {cs:List Value} {n:Nat} {bs:List Nat} (x:SlN e z h s cs n bs): ∀i,i∈bs->i <h.n:=by
 rcases x with⟨_,_,_,rfl⟩| ⟨b,m,h1,h2,h3,h4,rfl,_⟩<;>simp
 exact h4
theorem SlN.nodup {e:TypeId} {z:Nat} {h:Hp} {s:Value} {cs:List Value} {n:Nat} {bs:List Nat} (x:SlN e z h s cs n bs):bs.Nodup:=by
 rcases x with⟨_,_,_,rfl⟩| ⟨_,_,_,_,_,_,rfl,_⟩<;>simp
theorem ElN.growX {E:Env} {t e z by':Nat} (x:ElN E t e z by') (h:Hp) (n:Nat) (old xs:List Value) (hn:n*(by'+1)<=1099511627776):
 growX E h e (z+1) (by'+1) n old xs=some (.slice (some ⟨h.n,0,none⟩) n n,h.alloc (.cells (old++xs) e (z+3))):=by
 obtain⟨zv,hz,hs⟩:=x.zero;have:v0n (n*(by'+1)) (2^40)=true:=(Qr _ _).2 (by omega);simp only[Go.X.growX,hz,hs,this,v0I,Bool.true_or,v1k,cond_true]
theorem ElN.growX2 {E:Env} {t e z by':Nat} (x:ElN E t e z by') (h:Hp) (n:Nat) (old xs:List Value) (hn:2*(n*(by'+1))+192*(by'+1)<=281474976710656):
 Go.X.growX E h e (z+1) (by'+1) n old xs=some (.slice (some ⟨h.n,0,none⟩) n n,h.alloc (.cells (old++xs) e (z+3))):=by
 obtain⟨zv,hz,hs⟩:=x.zero;have:v0n (2*(n*(by'+1))+192*(by'+1)) (2^48)=true:=(Qr _ _).2 (by omega);simp only[Go.X.growX,hz,hs,this,v0I,Bool.or_true,v1k,cond_true]
theorem QfR {E:Env} {h:Hp} {t e z by':Nat} {s:Value} {cs xs:List Value} {n q m':Nat} {bs:List Nat} (x:ElN E t e z by') (hs:SlN e z h s cs n bs) (hq:h.get q=some (.cells xs e m')) (hx:xs.length=z+1) (hc:xs.all cellV=true)
 (hn:(n+1)*(by'+1)<=1099511627776):
 ∃v' h',Zd E h t t s (.slice (some ⟨q,0,none⟩) 1 1)=some (v',h')/\SlN e z h' v' (cs++xs) (n+1) [h.n]/\ExtB bs h h':=by
 have cx:Ju h (z+1) 1 (.slice (some ⟨q,0,none⟩) 1 1)=some xs:=by
  have e1:v0n (0+1*(z+1)) xs.length=true:=(Qr _ _).2 (by omega);have e2:v0n 1 1=true:=rfl;have e3:v0d 1 0=false:=rfl;simp only[Ju,e2,e3,cond_true,cond_false,rowOf,hq,e1,v0U];rw[v1B (by omega)]
 have e3:v0d 1 0=false:=rfl;rcases hs with⟨rfl,rfl,rfl,rfl⟩| ⟨b,m,rfl,hb,hm,ai,rfl,hl⟩
 · refine⟨_,_,?_,.inr ⟨h.n,z+3,rfl,Hp.get_alloc_self _ _,.inr rfl,by rw[Hp.n_alloc];omega,rfl,by simp[hx]⟩,(Ext.alloc h _).b _⟩;simp only[Zd,x.und,KT,x.size,x.bytes,cx,e3,cond_false];exact x.growX h 1 [] xs (by omega)
 have e1:v0n (n+1) n=false:=by
  cases hc:v0n (n+1) n with
  |false=>rfl
  |true=>have:=(Qr _ _).1 hc;omega
 have e2:v0n (0+n*(z+1)) cs.length=true:=(Qr _ _).2 (by omega)
 have aq:rowOf h ⟨b,0,none⟩ (n*(z+1))=some cs:=by
  simp only[rowOf,hb,e2,cond_true,v0U];rw[v1B (by omega)]
 have aR:(cs++xs).length=(n+1)*(z+1):=by rw[v0j,hl,hx,Nat.add_mul];omega
 rcases hm with rfl|rfl
 · refine⟨_,_,?_,.inr ⟨h.n,z+3,rfl,Hp.get_alloc_self _ _,.inr rfl,by rw[Hp.n_alloc];omega,rfl,aR⟩,(Ext.alloc h _).b _⟩;simp only[Zd,x.und,KT,x.size,x.bytes,cx,e3,cond_false,e1,aq,hb,hc,cond_true];exact x.growX h (n+1) cs xs hn
 refine⟨.slice (some ⟨h.n,0,none⟩) (n+1) (n+1),(h.put b .dead).alloc (.cells (cs++xs) e (z+3)),?_,.inr ⟨h.n,z+3,rfl,?_,.inr rfl,by rw[Hp.n_alloc,Hp.n_put];omega,rfl,aR⟩,(ExtB.put h b .dead).trans ((Ext.alloc _ _).b _)⟩
 · simp only[Zd,x.und,KT,x.size,x.bytes,cx,e3,cond_false,e1,aq,hb,hc,cond_true];have:=x.growX (h.put b .dead) (n+1) cs xs hn;rw[Hp.n_put]at this;simpa[v0I]using this
 rw[Hp.get_alloc,Hp.n_put,if_pos rfl]
noncomputable def QbH:List Nat->Hp->Hp
 | [],h=>h
 |b::r,h=>QbH r (h.put b (.deferred none))
theorem Qbd: ∀(ds:List Nat) (h:Hp),(QbH ds h).n=h.n
 | [],_=>rfl
 |b::r,h=>by rw[QbH,Qbd r,Hp.n_put]
theorem Q4q: ∀(ds:List Nat) (h:Hp) (i:Nat),i∉ds->(QbH ds h).get i=h.get i
 | [],_,_,_=>rfl
 | b::r,h,i,hi=>by
   rw[QbH,Q4q r _ i (fun m=>hi (v0S _ m)),Hp.get_put,if_neg (fun e=>hi (by simp[e]))]
def Co (h0 h h':Hp):Prop:=h'.n=h.n/\ ∀b,(b <h0.n\/ ∀d,h.get b≠some (.deferred d))->h'.get b=h.get b
theorem Co.cells {h0 h h':Hp} (x:Co h0 h h') {b:Nat} {c:List Value} {e:TypeId} {m:Nat} (g:h.get b=some (.cells c e m)):h'.get b=some (.cells c e m):=by
 rw[x.2 b (.inr fun d hd=>by rw[g]at hd;cases hd)];exact g
theorem Co.extB {h0 h h':Hp} {bs:List Nat} (x:Co h0 h h') (g:ExtB bs h0 h):ExtB bs h0 h':=
 ⟨by rw[x.1];exact g.n,fun i hi hb=>(x.2 i (.inl hi)).trans (g.get i hi hb)⟩
theorem Q85 {E:Env} {f:FuncId} {nt:Nat} {tm:Tr Value} {todo:List It} {kd:CallKind} {cs:List Fr}: ∀(ds:List Nat) (h:Hp),ds.Nodup->(∀b,b∈ds->h.get b=some (.deferred (some [])))->
 Runs E ⟨⟨f,nt,tm,todo,marks ds,.returning,kd,none⟩,cs,h⟩ ⟨⟨f,nt,tm,todo,[],.returning,kd,none⟩,cs,QbH ds h⟩
 | [],h,_,_=>.refl _ _
 | b::r,h,hn,hd=>by
   refine .step (b:=⟨⟨f,nt,tm,todo,marks r,.returning,kd,none⟩,cs,h.put b (.deferred none)⟩) ?_ (Q85 r _ (v0R.1 hn).2 fun i hi=>?_)
   · simp only[stepX,marks,v0B,Q0C,hd b (by simp),v1c]
   rw[Hp.get_put,if_neg (fun(e:b=i)=>(v0R.1 hn).1 (e▸hi))];exact hd i (v0S _ hi)
theorem Q7t {h h':Hp} (g: ∀b c e m,h.get b=some (.cells c e m)->h'.get b=some (.cells c e m)) {a:Addr} {n:Nat} {l:List Value} (e:rowOf h a n=some l):rowOf h' a n=some l:=by
 unfold rowOf at e ⊢
 split at e
 · cases e
 split at e
 · rename_i hg;simp only[g _ _ _ _ hg];exact e
 cases e
theorem QcA {E:Env} {h h':Hp} (g: ∀b c e m,h.get b=some (.cells c e m)->h'.get b=some (.cells c e m)) {a:Addr} {t:TypeId} {v:Value} (e:JO E t a h=some v):JO E t a h'=some v:=by
 unfold JO at e ⊢
 split at e
 · cases e
 split at e
 · split at e
   · cases e
   split at e
   · cases e
   rename_i hr;rw[Q7t g hr];exact e
 split at e
 · rename_i hr;rw[Q7t g hr];exact e
 cases e
theorem Q6j {E:Env} {h h':Hp} {l:Kn} (g: ∀b c e m,h.get b=some (.cells c e m)->h'.get b=some (.cells c e m)): ∀(rs:List ResultVar) (vs:List Value),Q4V E l h rs=some vs->Q4V E l h' rs=some vs
 | [],_,e=>e
 | .tmp t::r,vs,e=>by
   simp only[Q4V]at e ⊢
   split at e
   · rename_i h1 h2;rw[h1,Q6j g r _ h2];exact e
   cases e
 | .cell c t::r,vs,e=>by
   simp only[Q4V]at e ⊢
   split at e
   · rename_i p h1
     split at e
     · rename_i h2 h3;simp only[QcA g h2,Q6j g r _ h3];exact e
     cases e
   cases e
theorem Qdb {E:Env} {f:FuncId} {args:List Value} {h:Hp} {Q:Value->Hp->Prop} {fu:Func} {c:Code} (hf:E.fn f=some fu) (hb:fu.body=some c)
 (q:W E f (args.length+(fu.ntmps -args.length)) c (Q2T args 0) h fun o l h1=>(o=.ret\/o=.next)/\ ∃vs,Q4V E l h1 fu.results.toList=some vs/\ ∀h2,Co h h1 h2->Q (oneOf vs) h2):C E f args h Q:=by
 have ag:Ag (Q0w args 0 .leaf) (Q2T args 0):=fun t v e=>Q0x args 0 .leaf t v (by rw[if_neg (by omega)];exact e);refine⟨fu,⟨f,args.length+(fu.ntmps -args.length),Q0w args 0 .leaf,[.code c],[],.run,.normal,none⟩,hf,by simp only[Ys,hf,hb],fun kd cs=>(q _ ag [] [] kd none cs (.inr rfl)).bind ?_⟩;rintro s ⟨o,l',h',fT,ds,⟨ho,vs,h1,h2⟩,a',n',d',r⟩
 have ew:Co h h' (QbH ds h'):=⟨Qbd _ _,fun b hb=>Q4q _ _ _ fun hm=>by
  obtain⟨p,_,q⟩:=d'.2.2 b hm;rcases hb with hb|hb
  · omega
  exact hb _ q⟩
 have im:KD h (QbH ds h'):=⟨by rw[Qbd];exact d'.1.1,fun b hb d e=>by
  rw[Q4q _ _ _ fun hm=>by have:=(d'.2.2 b hm).1;omega]
  exact d'.1.2 b hb d e⟩
 have hr:=fun todo=>Q85 (E:=E) (f:=f) (nt:=args.length+(fu.ntmps -args.length)) (tm:=fT) (todo:=todo) (kd:=kd) (cs:=cs) ds h' d'.2.1 fun b hm=>(d'.2.2 b hm).2.2;have he:=Q3I (E:=E) a' _ _ (Q6j (fun _ _ _ _=>ew.cells) _ _ h1);simp only[v0k]at r;rcases ho with rfl|rfl
 · obtain⟨k',rfl⟩:=r;exact .step rfl (.of (hr _) ⟨_,QbH ds h',fT,vs,_,h2 _ ew,im,he,rfl,rfl⟩)
 have r:s=_:=r;subst r;exact .step rfl (.of (hr _) ⟨_,QbH ds h',fT,vs,_,h2 _ ew,im,he,rfl,rfl⟩)
def Rc (h:Hp) (x:Nat) (fn:FuncId) (nt:Nat) (tm:Tr Value) (ps:Array Tmp) (a b:Code) (d:Nat) (st:LoopState) (p:Option Code):Prop:=h.get x=some (.loop ⟨st,p,fn,nt,tm,ps,a,b,d⟩)
def Aft (Q:Out->Kn->Hp->Prop) (l:Kn) (h:Hp):Option Code->Prop
 |none=>Q .next l h
 |some .ret=>Q .ret l h
 |some (.exit i)=>Q (.exit i) l h
 |_=>False
def pend:Option Code->List It->List It
 |none,k=>k
 |some c,k=>.code c::k
section
variable {E:Env} {fn:FuncId} {nt:Nat} {l:Kn} {h:Hp} {Q:Out->Kn->Hp->Prop}
theorem QdU {f:Operand} {ps:Array Tmp} {a b:Code} {g:FuncId} {first cap:Array Value} (hf:evl l f=some (.func (.func g) first cap)) (hc:Q2A f=true) (ho:Q2F E g=true)
 (q: ∀tm,Ag tm l->C E g (first.toList++[.func (.yield (h.n+1)) #[] #[]]++cap.toList) ((h.alloc (.deferred (some []))).alloc (.loop ⟨.ready,none,fn,nt,tm,ps,a,b,h.n⟩)) fun _ h'=>
  ∃st p,Rc h' (h.n+1) fn nt tm ps a b h.n st p/\st≠ .busy/\Aft Q l (h'.put (h.n+1) (.loop ⟨.exhausted,p,fn,nt,tm,ps,a,b,h.n⟩)) p):W E fn nt (.rangeFunc f ps a b) l h Q:=by
 intro tm ag k df kd ro cs jX;have aB:ro=none:=jX.resolve_left (by simp[Q2L,Q3b]);subst aB;obtain⟨dC,e1,r⟩:=(q tm ag).back;simp only[Q2F,v0g,v0J,Option.isNone_iff_eq_none]at ho
 have nY: ∀hh,YN E hh g (first++ #[.func (.yield (h.n+1)) #[] #[]]++cap)=some (.enter g (first++ #[.func (.yield (h.n+1)) #[] #[]]++cap)):=fun hh=>by
  have hfn:=ho.2;simp only[YN,ho.1.1,cond_false]
  revert hfn
  cases E.fn g with
  |none=>intro hfn;cases hfn
  |some fn=>intro hfn;simp only at hfn;simp only[hfn,cond_true]
 refine .step (s':=⟨dC,⟨fn,nt,tm,.inRangeFunc (h.n+1)::k,marks [h.n]++df,.run,kd,none⟩::cs,(h.alloc (.deferred (some []))).alloc (.loop ⟨.ready,none,fn,nt,tm,ps,a,b,h.n⟩)⟩) ?_ ?_
 · have h1:((h.alloc (.deferred (some []))).n)=h.n+1:=Hp.n_alloc _ _;simp only[stepX,QU,Q4Y,hc,cond_true,Q0L,ZI,ag.ev hf,Zx,h1,v08,v1c];have:(first++(#[Operand.const (.func (.yield (h.n+1)) #[] #[])]:Array Operand).map (ev tm)++cap)=first++ #[.func (.yield (h.n+1)) #[] #[]]++cap:=by simp[Go.X.ev]
   rw[this,nY];have e2:(first++ #[Value.func (.yield (h.n+1)) #[] #[]]++cap).toList=first.toList++[.func (.yield (h.n+1)) #[] #[]]++cap.toList:=by simp
   simp only[e2,e1];rfl
 refine(r ⟨fn,nt,tm,.inRangeFunc (h.n+1)::k,marks [h.n]++df,.run,kd,none⟩ cs fun v=>⟨_,rfl⟩).bind ?_;rintro s ⟨v,h',aw,⟨st,p,mP,av,jG⟩,hk,bI,rfl⟩
 have bI:aw=⟨fn,nt,tm,.endRangeFunc (h.n+1)::k,marks [h.n]++df,.run,kd,none⟩:=by
  have hq:some (⟨fn,nt,tm,.endRangeFunc (h.n+1)::k,marks [h.n]++df,.run,kd,none⟩:Fr)=some aw:=bI;cases hq;rfl
 subst bI
 have im:KD h (h'.put (h.n+1) (.loop ⟨.exhausted,p,fn,nt,tm,ps,a,b,h.n⟩)):=
  ((KD.alloc h _).trans (KD.alloc _ _)).trans (hk.trans (KD.put _ fun d hd=>by rw[mP]at hd;cases hd))
 have hn:h.n+2<=h'.n:=by have:=hk.1;rw[Hp.n_alloc,Hp.n_alloc]at this;omega
 have hd:Dd h (h'.put (h.n+1) (.loop ⟨.exhausted,p,fn,nt,tm,ps,a,b,h.n⟩)) [h.n]:=by
  refine⟨im,by simp,fun i hi=>?_⟩;obtain rfl:=List.mem_singleton.1 hi;refine⟨v0b _,by rw[Hp.n_put];omega,?_⟩;rw[Hp.get_put,if_neg (by omega)];refine hk.2 h.n (by rw[Hp.n_alloc,Hp.n_alloc];omega) _ ?_;rw[Hp.get_alloc,if_neg (by rw[Hp.n_alloc];omega),Hp.get_alloc,if_pos rfl]
 refine .step (s':=⟨⟨fn,nt,tm,pend p k,marks [h.n]++df,.run,kd,none⟩,cs,h'.put (h.n+1) (.loop ⟨.exhausted,p,fn,nt,tm,ps,a,b,h.n⟩)⟩) ?_ (.done ?_)
 · have hl:Yl h' (h.n+1)=some ⟨st,p,fn,nt,tm,ps,a,b,h.n⟩:=by simp only[Yl,show h'.get (h.n+1)=_ from mP]
   simp only[stepX,QU,hl];cases st<;>first|exact absurd rfl av|(cases p<;>rfl)
 have dY:([It.code (.rangeFunc f ps a b)].all Q2L=true)->False:=fun e=>by simp[Q2L,Q3b]at e
 cases p with
 |none=>exact⟨.next,l,_,tm,[h.n],jG,ag,fun e=>(dY e).elim,hd,rfl⟩
 | some c=>
   cases c with
   |ret=>exact⟨.ret,l,_,tm,[h.n],jG,ag,fun e=>(dY e).elim,hd,k,rfl⟩
   |exit i=>exact⟨.exit i,l,_,tm,[h.n],jG,ag,fun e=>(dY e).elim,hd,k,rfl,rfl⟩
   |_=>exact jG.elim
end
theorem QfU {Q:Out->Kn->Hp->Prop} {l:Kn} {h:Hp} {p:Option Code} {id:Nat} (hp:p=none\/p=some (.exit id)) (q:Q .next l h):Aft (Blk id Q) l h p:=by
 rcases hp with rfl|rfl
 · exact q
 exact QE q
def Y (E:Env) (x:Nat) (args:List Value) (h:Hp) (Q:Value->Hp->Prop):Prop:=
 ∀fr cs,(∀v,∃aw,QX E fr v=some aw)-> ∀as:Array Value,as.toList=args-> ∃s,ZT E fr cs h (.round x as)=some s/\RunsD E (Fi E fr cs h Q) s
theorem Fi.mono {E:Env} {fr:Fr} {cs:List Fr} {h:Hp} {Q Q':Value->Hp->Prop} {s:St} (hq: ∀v h',Q v h'->Q' v h'):Fi E fr cs h Q s->Fi E fr cs h Q' s
 | ⟨v,h',aw,q,r⟩=>⟨v,h',aw,hq _ _ q,r⟩
theorem Y.mono {E:Env} {x:Nat} {args:List Value} {h:Hp} {Q Q':Value->Hp->Prop} (c:Y E x args h Q) (hq: ∀v h',Q v h'->Q' v h'):Y E x args h Q':=by
 intro fr cs hf as has;obtain⟨s,e,r⟩:=c fr cs hf as has;exact⟨s,e,r.mono fun _=>Fi.mono hq⟩
theorem Qew {E:Env} {fn:FuncId} {nt:Nat} {l:Kn} {h:Hp} {dr:Bool} {ops:Array Oper} {fin rest:List (Oper×List Oper)} {R:Kn->Hp->Prop} {lt:List Oper} {d:Nat} {ty:TypeId} {pos:String} {af:Array Edge} {gg:Option (Nat×Bool)} {x:Operand}
 {n:Nat} {args:Array Operand} {as:Array TypeId} (vs:List Value) (g:Gd ops l gg) (hd:v0a d nt=true) (hf:evl l x=some (.func (.yield n) #[] #[])) (hv:args.toList.map (evl l)=vs.map some)
 (q:Y E n vs h fun v h'=>(∀q,q∈lt->Again E ops ((d,v)::l) h' q)/\WL E fn nt dr ops fin rest ((d,v)::l) h' R):
 WL E fn nt dr ops fin ((⟨some d,.call ⟨.value x,args,as⟩,ty,pos,af,gg⟩,lt)::rest) l h R:=by
 refine Q8W _ g (fun tm fr cs is k df kd ro a e jz=>?_) rfl fun v h' (qq:(∀q,q∈lt->Again E ops ((d,v)::l) h' q)/\WL E fn nt dr ops fin rest ((d,v)::l) h' R)=>⟨_,wn hd,qq.1,qq.2⟩;have:QW E tm ⟨some d,.call ⟨.value x,args,as⟩,ty,pos,af,gg⟩ h=some (.round n (#[]++args.map (ev tm))):=by simp only[QW,ZI,a.ev hf,Zx]
 rw[this];exact q fr cs jz _ (by simp[Q4k a hv])
noncomputable def parK:List Nat->List Value->Kn->Kn
 |t::ts,v::vs,l=>parK ts vs ((t,v)::l)
 |_,_,l=>l
theorem Q9I (nt:Nat): ∀(ts:List Nat) (vs:List Value) (tm:Tr Value) (l:Kn),ts.all (fun t=>v0a t nt)=true->Ag tm l->Ag (Q0O nt ts vs tm) (parK ts vs l)
 | [],_,_,_,_,a=>a
 |_::_,[],_,_,_,a=>a
 | t::ts,v::vs,tm,l,h,a=>by
   simp only[v1e,v0g]at h;exact Q9I nt ts vs _ _ h.2 (a.put nt t v h.1)
def RdR (x:Nat) (fn:FuncId) (nt:Nat) (tm:Tr Value) (ps:Array Tmp) (a b:Code) (d:Nat) (Q:Value->Hp->Prop) (o:Out) (h:Hp):Prop:=
 ∃ st p,Rc h x fn nt tm ps a b d st p/\match o with
   | .next=>Q (.bool true) (h.put x (.loop ⟨.ready,none,fn,nt,tm,ps,a,b,d⟩))
   | .ret=>Q (.bool false) (h.put x (.loop ⟨.done,some .ret,fn,nt,tm,ps,a,b,d⟩))
   | .exit i=>Q (.bool false) (h.put x (.loop ⟨.done,some (.exit i),fn,nt,tm,ps,a,b,d⟩))
def Rb (E:Env) (x:Nat) (fn:FuncId) (nt:Nat) (tm:Tr Value) (ps:Array Tmp) (a b:Code) (d:Nat) (Q:Value->Hp->Prop) (o:Out) (l:Kn) (h:Hp):Prop:=
 match o with
 | .next=> ∃p,Rc h x fn nt tm ps a b d .ready p/\W E fn nt b l (h.put x (.loop ⟨.busy,p,fn,nt,tm,ps,a,b,d⟩)) fun o _ h=>RdR x fn nt tm ps a b d Q o h
 |_=>False
theorem QdP {E:Env} {x:Nat} {fn:FuncId} {nt:Nat} {tm:Tr Value} {ps:Array Tmp} {a b:Code} {d:Nat} {p:Option Code} {args:List Value} {h:Hp} {l:Kn} {Q:Value->Hp->Prop}
 (hr:Rc h x fn nt tm ps a b d .ready p) (hl:v0d args.length ps.toList.length=true) (ag:Ag tm l) (hp:ps.toList.all (fun t=>v0a t nt)=true) (iQ:Q3b a=true) (dP:Q3b b=true)
 (q:W E fn nt a (parK ps.toList args l) h fun o l h=>Rb E x fn nt tm ps a b d Q o l h):Y E x args h Q:=by
 intro fr cs hf as has
 have start:ZT E fr cs h (.round x as)=some ⟨⟨fn,nt,Q0O nt ps.toList args tm,[.code a,.beginRound,.code b],[],.run,.normal,some x⟩,fr::cs,h⟩:=by
  have an:Yl h x=some ⟨.ready,p,fn,nt,tm,ps,a,b,d⟩:=by simp only[Yl,show h.get x=_ from hr]
  simp only[ZT,an,has,hl,cond_true]
 refine⟨_,start,(q _ (Q9I nt ps.toList args tm l hp ag) [.beginRound,.code b] [] .normal (some x) (fr::cs) (.inl (by simp[Q2L,iQ]))).bind ?_⟩;rintro s ⟨o,l1,h1,tm1,oB,q1,a1,n1,d1,r1⟩;have e1:=n1 (by simp[Q2L,iQ]);subst e1;cases o with
 |ret=>exact q1.elim
 |exit i=>exact q1.elim
 | next=>
   obtain⟨p1,kQ,q1⟩:=q1;have r1:s=_:=r1;subst r1;refine .step (s':=⟨⟨fn,nt,tm1,[.code b],[],.run,.normal,some x⟩,fr::cs,h1.put x (.loop ⟨.busy,p1,fn,nt,tm,ps,a,b,d⟩)⟩) ?_ ?_
   · have an:Yl h1 x=some ⟨.ready,p1,fn,nt,tm,ps,a,b,d⟩:=by simp only[Yl,show h1.get x=_ from kQ]
     simp only[stepX,QU,an];rfl
   refine(q1 tm1 a1 [] [] .normal (some x) (fr::cs) (.inl (by simp[Q2L,dP]))).bind ?_;rintro s ⟨o,l2,h2,bq,ds2,q2,a2,n2,d2,r2⟩;have e2:=n2 (by simp[Q2L,dP]);subst e2;obtain⟨st,p2,bn,q2⟩:=q2;have hk:KD h h2:=d1.1.trans ((KD.put _ fun d hd=>by rw[show h1.get x=_ from kQ]at hd;cases hd).trans d2.1);have an:Yl h2 x=some ⟨st,p2,fn,nt,tm,ps,a,b,d⟩:=by simp only[Yl,show h2.get x=_ from bn]
   have hkp: ∀o,KD h (h2.put x (.loop o)):=fun o=>hk.trans (KD.put _ fun d hd=>by rw[show h2.get x=_ from bn]at hd;cases hd);cases o with
   | next=>
     have r2:s=_:=r2;subst r2;obtain⟨aw,cJ⟩:=hf (YO true);refine .step (s':=⟨aw,cs,h2.put x (.loop ⟨.ready,none,fn,nt,tm,ps,a,b,d⟩)⟩) ?_ (.done ⟨_,_,aw,q2,hkp _,cJ,rfl⟩);simp only[stepX,QU,Js,Ki,an,Q6u,cond_true,YH,cJ]
   | ret=>
     obtain⟨k',rfl⟩:=r2;obtain⟨aw,cJ⟩:=hf (YO false);refine .step (s':=⟨aw,cs,h2.put x (.loop ⟨.done,some .ret,fn,nt,tm,ps,a,b,d⟩)⟩) ?_ (.done ⟨_,_,aw,q2,hkp _,cJ,rfl⟩);simp only[stepX,QU,Js,Ki,an,Q6u,cond_false,YH,cJ]
   | exit i=>
     obtain⟨k',e2,rfl⟩:=r2;obtain⟨aw,cJ⟩:=hf (YO false);refine .step (s':=⟨aw,cs,h2.put x (.loop ⟨.done,some (.exit i),fn,nt,tm,ps,a,b,d⟩)⟩) ?_ (.done ⟨_,_,aw,q2,hkp _,cJ,rfl⟩);have e3:ZM i k'=none:=by rw[e2];rfl
     simp only[stepX,QU,e3,Js,Ki,an,Q6u,cond_false,YH,cJ]
def RdA (x:Nat) (rc:LoopState->Option Code->AObj) (Q:Value->Hp->Prop) (o:Out) (h:Hp):Prop:=
 ∃ st p,h.get x=some (rc st p)/\match o with
   | .next=>Q (.bool true) (h.put x (rc .ready none))
   | .ret=>Q (.bool false) (h.put x (rc .done (some .ret)))
   | .exit i=>Q (.bool false) (h.put x (rc .done (some (.exit i))))
def RbA (E:Env) (fn:FuncId) (nt:Nat) (b:Code) (x:Nat) (rc:LoopState->Option Code->AObj) (Q:Value->Hp->Prop) (o:Out) (l:Kn) (h:Hp):Prop:=
 match o with
 | .next=> ∃p,h.get x=some (rc .ready p)/\W E fn nt b l (h.put x (rc .busy p)) fun o _ h=>RdA x rc Q o h
 |_=>False
structure RangeAt (E:Env) (fn:FuncId) (nt:Nat) (l:Kn) (ps:Array Tmp) (a b:Code) (x:Nat) (rc:LoopState->Option Code->AObj):Prop where
 round: ∀ {args:List Value} {h:Hp} {Q:Value->Hp->Prop} {p:Option Code},h.get x=some (rc .ready p)->v0d args.length ps.toList.length=true->
  W E fn nt a (parK ps.toList args l) h (fun o l h=>RbA E fn nt b x rc Q o l h)->Y E x args h Q
theorem QbM {E:Env} {fn:FuncId} {nt:Nat} {l:Kn} {h:Hp} {Q:Out->Kn->Hp->Prop} {f:Operand} {ps:Array Tmp} {a b:Code} {g:FuncId} {first cap:Array Value} (hf:evl l f=some (.func (.func g) first cap)) (hc:Q2A f=true) (ho:Q2F E g=true)
 (hp:ps.toList.all (fun t=>v0a t nt)=true) (iQ:Q3b a=true) (dP:Q3b b=true)
 (q: ∀rc,RangeAt E fn nt l ps a b (h.n+1) rc-> ∀h0,Ext h h0->h0.n=h.n+2->h0.get (h.n+1)=some (rc .ready none)->C E g (first.toList++[.func (.yield (h.n+1)) #[] #[]]++cap.toList) h0 fun _ h'=>
  ∃st p,h'.get (h.n+1)=some (rc st p)/\st≠ .busy/\ ∀h2,ExtB [h.n+1] h' h2->h2.n=h'.n->Aft Q l h2 p):W E fn nt (.rangeFunc f ps a b) l h Q:=by
 refine QdU hf hc ho fun tm ag=>?_
 refine C.mono (q (fun st p=>.loop ⟨st,p,fn,nt,tm,ps,a,b,h.n⟩) ⟨fun {args h1 Q1 p} hr hl hw=>?_⟩ _ ((Ext.alloc _ _).trans (Ext.alloc _ _)) (by rw[Hp.n_alloc,Hp.n_alloc]) (by
  rw[Hp.get_alloc,if_pos (Hp.n_alloc _ _)])) ?_
 · refine QdP (p:=p) (d:=h.n) hr hl ag hp iQ dP (T.mono hw fun o l1 h1 q=>?_);cases o with
   | next=>
     obtain⟨p,e,w⟩:=q;refine⟨p,e,T.mono w fun o l2 h2 q=>?_⟩;obtain⟨st,p2,e2,q2⟩:=q;exact⟨st,p2,e2,by cases o<;>exact q2⟩
   |ret=>exact q.elim
   |exit i=>exact q.elim
 rintro v h' ⟨st,p,e,hs,hq⟩;exact⟨st,p,e,hs,hq _ (ExtB.put _ _ _) (Hp.n_put _ _ _)⟩
inductive Rd (P:Program) (h:Hp):TypeId->List Value->Prop
 |bool {t} (ht:P.underlying t=some .bool) (b:Bool):Rd P h t [.bool b]
 |int {t k} (ht:P.underlying t=some (.int k)) (n:Int) (hn:k.min<=n/\n<=k.max):Rd P h t [.int k n]
 |string {t} (ht:P.underlying t=some .string) (s:ByteArray) (hs:s.size<=maxLen):Rd P h t [.string s]
 |struct {t fs cs} (ht:P.underlying t=some (.struct fs)) (hl:cs.length=P.cellsOf t) (hf: ∀(i:Nat) (f:Field),fs[i]?=some f->Rd P h f.type ((cs.drop f.offset).take (P.cellsOf f.type))):Rd P h t cs
 |array {t n e cs} (ht:P.underlying t=some (.array n e)) (hl:cs.length=P.cellsOf t) (hf: ∀i,i <n->Rd P h e ((cs.drop (i*P.cellsOf e)).take (P.cellsOf e))):Rd P h t cs
 |nils {t e} (ht:P.underlying t=some (.slice e)):Rd P h t [.slice none 0 0]
 |slice0 {t e} (ht:P.underlying t=some (.slice e)) (a:Addr) (n c:Nat) (hn:n=0\/P.cellsOf e=0) (hm:n<=c/\c<=maxLen) (hb:a.block <h.n):Rd P h t [.slice (some a) n c]
 |slice {t e} (ht:P.underlying t=some (.slice e)) (b o n c:Nat) (cs:List Value) (u:TypeId) (hm:n<=c/\c<=maxLen) (hb:b <h.n) (hn:0 <n) (hg:h.get b=some (.cells cs u 1)) (hl:o+n*P.cellsOf e<=cs.length)
  (hr: ∀i,i <n->Rd P h e ((cs.drop (o+i*P.cellsOf e)).take (P.cellsOf e))):Rd P h t [.slice (some ⟨b,o,none⟩) n c]
 |other {t cs d} (ht:P.underlying t=some d) (hd:(match d with| .bool=>false| .int _=>false| .string=>false| .struct _=>false| .array _ _=>false| .slice _=>false|_=>true)=true):Rd P h t cs
section
variable {P:Program} {h:Hp} {t:TypeId} {cs:List Value}
theorem Rd.inv_bool (ht:P.underlying t=some .bool) (x:Rd P h t cs): ∃b,cs=[.bool b]:=by
 cases x with
 |bool _ b=>exact⟨b,rfl⟩
 |other aQ hd=>rw[ht]at aQ;cases aQ;cases hd
 |_=>rename_i aQ;first|(rw[ht]at aQ;cases aQ)|(simp_all)
theorem Rd.inv_int {k:IntKind} (ht:P.underlying t=some (.int k)) (x:Rd P h t cs): ∃n,cs=[.int k n]/\k.min<=n/\n<=k.max:=by
 cases x with
 |int aQ n hn=>rw[ht]at aQ;cases aQ;exact⟨n,rfl,hn⟩
 |other aQ hd=>rw[ht]at aQ;cases aQ;cases hd
 |_=>simp_all
theorem Rd.inv_string (ht:P.underlying t=some .string) (x:Rd P h t cs): ∃s,cs=[.string s]/\s.size<=maxLen:=by
 cases x with
 |string aQ s hs=>exact⟨s,rfl,hs⟩
 |other aQ hd=>rw[ht]at aQ;cases aQ;cases hd
 |_=>simp_all
theorem Rd.inv_struct {fs:Array Field} (ht:P.underlying t=some (.struct fs)) (x:Rd P h t cs):cs.length=P.cellsOf t/\ ∀(i:Nat) (f:Field),fs[i]?=some f->Rd P h f.type ((cs.drop f.offset).take (P.cellsOf f.type)):=by
 cases x with
 |struct aQ hl hf=>rw[ht]at aQ;cases aQ;exact⟨hl,hf⟩
 |other aQ hd=>rw[ht]at aQ;cases aQ;cases hd
 |_=>simp_all
theorem Rd.inv_array {n:Nat} {e:TypeId} (ht:P.underlying t=some (.array n e)) (x:Rd P h t cs):cs.length=P.cellsOf t/\ ∀i,i <n->Rd P h e ((cs.drop (i*P.cellsOf e)).take (P.cellsOf e)):=by
 cases x with
 |array aQ hl hf=>rw[ht]at aQ;cases aQ;exact⟨hl,hf⟩
 |other aQ hd=>rw[ht]at aQ;cases aQ;cases hd
 |_=>simp_all
theorem Rd.inv_slice {e:TypeId} (ht:P.underlying t=some (.slice e)) (hz:0 <P.cellsOf e) (x:Rd P h t cs):
 ∃ a n c,cs=[.slice a n c]/\n<=c/\c<=maxLen/\(a=none->n=0/\c=0)/\(∀a',a=some a'->a'.block <h.n)/\
   (n=0\/ ∃b o xs u,a=some ⟨b,o,none⟩/\b <h.n/\h.get b=some (.cells xs u 1)/\o+n*P.cellsOf e<=xs.length/\ ∀i,i <n->Rd P h e ((xs.drop (o+i*P.cellsOf e)).take (P.cellsOf e))):=by
 cases x with
 |nils aQ=>exact⟨none,0,0,rfl,v0b _,Nat.zero_le _,fun _=>⟨rfl,rfl⟩,fun _ e=>(by cases e),.inl rfl⟩
 | slice0 aQ a n c hn hm hb=>
   rw[ht]at aQ;cases aQ;exact⟨some a,n,c,rfl,hm.1,hm.2,fun e=>(by cases e),fun _ e=>(by cases e;exact hb),.inl (by omega)⟩
 | slice aQ b o n c xs u hm hb hn hg hl hr=>
   rw[ht]at aQ;cases aQ;exact⟨_,n,c,rfl,hm.1,hm.2,fun e=>(by cases e),fun _ e=>(by cases e;exact hb),.inr ⟨b,o,xs,u,rfl,hb,hg,hl,hr⟩⟩
 |other aQ hd=>rw[ht]at aQ;cases aQ;cases hd
 |_=>simp_all
end
section
variable {P:Program} {H:Type} {enc:TypeId×Value->H} {W:World}
theorem Kq {M:Mp} {v:Value} (h:VRel M v v):[v].map (JB M)=[v]:=by rw[v0B,v1u,Yf h]
theorem Ka: ∀(fuel:Nat) (t:TypeId) (cs:List Value) (x:DataW H×List MemPlace),(∀v,v∈cs->Q6l v<=Q3t W)->DataW.trod enc P W 0 (fun _=>true) true fuel t cs=some x->Rd P (Hp.all W) t (cs.map (JB (Mp.all W)))
 |0,_,_,_,_,h=>by simp[DataW.trod]at h
 | fuel+1,t,cs,x,hb,h=>by
   have hu: ∃d,P.underlying t=some d:=by
    cases hd:P.underlying t with
    |some d=>exact⟨d,rfl⟩
    |none=>unfold DataW.trod at h;rw[hd]at h;simp at h
   obtain⟨d,hd⟩:=hu;cases d with
   | bool=>
     obtain⟨b,rfl,_⟩:=DataW.trod_bool hd h;rw[Kq (.bool b)];exact .bool hd b
   | int k=>
     obtain⟨n,rfl,_,hw⟩:=DataW.trod_int hd h;rw[Kq (.int k n)];exact .int hd n (by simpa[Lit.wf]using hw)
   | string=>
     obtain⟨s,rfl,_,hs⟩:=DataW.trod_string hd h;rw[Kq (.string s)];exact .string hd s hs
   | struct fs=>
     obtain⟨xs,n,e,_,hl,eZ,hf⟩:=DataW.trod_struct hd h;cases e;refine .struct hd (by rw[v0v];exact hl) fun i f hi=>?_;have ai:i <xs.length:=by rw[eZ];exact(v0V.1 hi).1
     have h1:=hf i f hi;rw[v0c ai]at h1;rw[<-List.map_drop,<-List.map_take];exact Ka fuel _ _ _ (fun v hv=>hb v (v2k (v18 hv))) h1
   | array n e=>
     obtain⟨xs,m,e',_,hl,eZ,hf⟩:=DataW.trod_array hd h;cases e';refine .array hd (by rw[v0v];exact hl) fun i hi=>?_;have h1:=hf i hi;rw[v0c (by omega)]at h1;rw[<-List.map_drop,<-List.map_take];exact Ka fuel _ _ _ (fun v hv=>hb v (v2k (v18 hv))) h1
   | slice e=>
     rcases DataW.trod_slice hd h with⟨rfl,_⟩| ⟨a,len,cap,elems,rest,n,en,rfl,_,_,hle,hm,hlen,hel,_,_⟩
     · rw[Kq (.nils 0 0)];exact .nils hd
     cases en;have eU:a.block <Q3t W:=by have:=hb _ (List.mem_singleton_self _);simp only[Q6l]at this;omega
     rw[Kq (Q1a a len cap eU)];by_cases h0:len=0\/P.cellsOf e=0
     · exact .slice0 hd a len cap h0 ⟨hle,hm⟩ eU
     have iR:0 <len:=by omega
     have hzp:0 <P.cellsOf e:=by omega
     have key: ∀i,i <len-> ∃cs',W.cells? 0 (a.add (i*P.cellsOf e)) (P.cellsOf e)=some cs'/\Rd P (Hp.all W) e (cs'.map (JB (Mp.all W))):=fun i hi=>by
      have h1:=hel i hi;rw[v0c (by omega)]at h1;cases hc:W.cells? 0 (a.add (i*P.cellsOf e)) (P.cellsOf e)with
      |none=>rw[hc]at h1;cases h1
      | some cs'=>
        rw[hc]at h1;obtain⟨_,aR,ke⟩:=World.cells?_some hc;refine⟨cs',rfl,Ka fuel e cs' _ (fun v hv=>?_) h1⟩;obtain⟨j,hj,rfl⟩:=List.mem_iff_getElem.1 hv;exact Q4G (a:=(a.add (i*P.cellsOf e)).add j) (by rw[ke j (by omega),v0c hj])
     have cell: ∀i j,i <len->j <P.cellsOf e-> ∃v,W.cell? ((a.add (i*P.cellsOf e)).add j)=some v:=fun i j hi hj=>by
      obtain⟨cs',hc,_⟩:=key i hi;obtain⟨_,aR,ke⟩:=World.cells?_some hc;exact⟨_,by rw[ke j hj,v0c (by omega)]⟩
     -- the block
     obtain⟨v0,jN⟩:=cell 0 0 iR hzp;have ea:(a.add (0*P.cellsOf e)).add 0=a:=by simp[Addr.add]
     rw[ea]at jN;obtain⟨b,o,sp⟩:=a;unfold World.cell? at jN
     split at jN
     · rename_i c u fr hx
       split at jN
       · cases jN
       rename_i hs;have hsp:sp=none:=by simpa using hs
       subst hsp;have hg:(Hp.all W).get b=some (.cells (c.toList.map (JB (Mp.all W))) u 1):=by rw[Hp.all_get,Jx,hx]
       have at': ∀i j,i <len->j <P.cellsOf e->W.cell? (((⟨b,o,none⟩:Addr).add (i*P.cellsOf e)).add j)=c.toList[o+i*P.cellsOf e+j]?:=fun i j _ _=>by
        rw[addr_add,addr_add];simp[World.cell?,hx]
       have cT:o+len*P.cellsOf e<=c.toList.length:=by
        obtain⟨v,hv⟩:=cell (len -1) (P.cellsOf e -1) (by omega) (by omega);rw[at' _ _ (by omega) (by omega)]at hv;have:=(v0y.1 hv).1
        have e1:len*P.cellsOf e=(len -1)*P.cellsOf e+P.cellsOf e:=by
         conv=>lhs;rw[show len=(len -1)+1 from by omega,Nat.add_mul,Nat.one_mul]
        omega
       refine .slice hd b o len cap _ u ⟨hle,hm⟩ eU iR hg (by rw[v0v];exact cT) fun i hi=>?_;obtain⟨cs',hc,hr⟩:=key i hi;obtain⟨_,aR,ke⟩:=World.cells?_some hc;rw[<-List.map_drop,<-List.map_take]
       have:(c.toList.drop (o+i*P.cellsOf e)).take (P.cellsOf e)=cs':=by
        apply v1f;intro j;by_cases hj:j <P.cellsOf e
        · rw[List.getElem?_take_of_lt hj,v1m,<-at' i j hi hj,ke j hj]
        rw[v02 (by rw[List.length_take];omega),v02 (by omega)]
       rw[this];exact hr
     cases jN
   |_=>exact .other hd rfl
end
theorem Qeg {α:Type} {n:Nat} {Q:Nat->α->Prop} (h: ∀i,i <n-> ∃x,Q i x): ∃xs:List α,xs.length=n/\ ∀i (hi:i <xs.length),Q i xs[i]:=by
 induction n with
 |zero=>exact⟨[],rfl,fun i hi=>by simp at hi⟩
 | succ n ih=>
   obtain⟨xs,hl,hq⟩:=ih fun i hi=>h i (by omega);obtain⟨x,hx⟩:=h n (by omega);refine⟨xs++[x],by simp[hl],fun i hi=>?_⟩;by_cases ai:i <xs.length
   · rw[List.getElem_append_left ai];exact hq i ai
   have:i=n:=by simp at hi;omega
   subst this;subst hl;simp;exact hx
theorem one_at {cs:List Value} {o:Nat} {u:Value} (h:(cs.drop o).take 1=[u]):cs[o]?=some u:=by
 have:=congrArg (fun l=>l[0]?) h;simpa[List.getElem?_take,v1m]using this
section
variable {P:Program} {h:Hp} {s:TypeId} {fs:Array Field} {cs:List Value}
theorem Rd.fld (x:Rd P h s cs) (hs:P.underlying s=some (.struct fs)) (i o t:Nat) {f:Field} (hi:fs[i]?=some f) (hf:f.type=t/\f.offset=o):Rd P h t ((cs.drop o).take (P.cellsOf t)):=by
 have h1:=(x.inv_struct hs).2 i f hi;rwa[hf.1,hf.2]at h1
end
section
variable {E:Env} {fn:FuncId} {nt:Nat} {l l':Kn} {h h':Hp} {dr:Bool} {ops:Array Oper} {fin rest:List (Oper×List Oper)} {R:Kn->Hp->Prop} {lt:List Oper}
variable {d:Nat} {ty:TypeId} {pos:String} {af:Array Edge} {x y z:Operand} {v u:Value} {t aI:TypeId} {k:IntKind} {a b:Int}
theorem I1 (hx:evl l x=some v) (q:WL E fn nt dr ops fin rest ((d,v)::l) h R) (hd:v0a d nt=true:=by exact rfl):WL E fn nt dr ops fin ((⟨some d,.move x,ty,pos,af,none⟩,lt)::rest) l h R:=Qdx trivial hd hx q
theorem D1 {gG gD:Nat} {gW gB:Bool} (bt:gB=gW) (hx:evl l x=some v) (q:WL E fn nt dr ops fin rest ((d,v)::l) h R) (h3g:(pk ops.toList gG).dst=some gD:=by exact rfl) (h0g:v0a gG ops.size=true:=by exact rfl) (h2g:lk l gD=some (.bool gB):=by exact rfl) (hd:v0a d nt=true:=by exact rfl):WL E fn nt dr ops fin ((⟨some d,.move x,ty,pos,af,some (gG,gW)⟩,lt)::rest) l h R:=Qdx (gy h3g h0g h2g bt) hd hx q
theorem I2 (hx:evl l x=some v) (q:WL E fn nt dr ops fin rest ((d,v)::l) h R) (hd:v0a d nt=true:=by exact rfl):WL E fn nt dr ops fin ((⟨some d,.assign x,ty,pos,af,none⟩,lt)::rest) l h R:=Q7H trivial hd hx q
theorem I4 {b o:Nat} {cs:List Value} {e:TypeId} {m:Nat} (hx:evl l x=some (.pointer (some ⟨b,o,none⟩))) (hg:h.get b=some (.cells cs e m)) (hv:cs[o]?=some v) (q:WL E fn nt dr ops fin rest ((d,v)::l) h R) (hd:v0a d nt=true:=by exact rfl) (hc:isC E t=true:=by kernel_rfl):WL E fn nt dr ops fin ((⟨some d,.load t x,ty,pos,af,none⟩,lt)::rest) l h R:=Kb trivial hd hx hc hg hv q
theorem D4 {gG gD:Nat} {gW gB:Bool} {b o:Nat} {cs:List Value} {e:TypeId} {m:Nat} (bt:gB=gW) (hx:evl l x=some (.pointer (some ⟨b,o,none⟩))) (hg:h.get b=some (.cells cs e m)) (hv:cs[o]?=some v) (q:WL E fn nt dr ops fin rest ((d,v)::l) h R) (h3g:(pk ops.toList gG).dst=some gD:=by exact rfl) (h0g:v0a gG ops.size=true:=by exact rfl) (h2g:lk l gD=some (.bool gB):=by exact rfl) (hd:v0a d nt=true:=by exact rfl) (hc:isC E t=true:=by kernel_rfl):WL E fn nt dr ops fin ((⟨some d,.load t x,ty,pos,af,some (gG,gW)⟩,lt)::rest) l h R:=Kb (gy h3g h0g h2g bt) hd hx hc hg hv q
theorem I0 {b o i:Nat} (off:Nat) (hx:evl l x=some (.pointer (some ⟨b,o,none⟩))) (q:WL E fn nt dr ops fin rest ((d,.pointer (some ⟨b,o+off,none⟩))::l) h R) (hd:v0a d nt=true:=by exact rfl) (ho:fOff E t i=some off:=by kernel_rfl):WL E fn nt dr ops fin ((⟨some d,.fieldAddr t x i,ty,pos,af,none⟩,lt)::rest) l h R:=Q28 (off:=off) trivial hd hx ho q
theorem D0 {gG gD:Nat} {gW gB:Bool} {b o i:Nat} (off:Nat) (bt:gB=gW) (hx:evl l x=some (.pointer (some ⟨b,o,none⟩))) (q:WL E fn nt dr ops fin rest ((d,.pointer (some ⟨b,o+off,none⟩))::l) h R) (h3g:(pk ops.toList gG).dst=some gD:=by exact rfl) (h0g:v0a gG ops.size=true:=by exact rfl) (h2g:lk l gD=some (.bool gB):=by exact rfl) (hd:v0a d nt=true:=by exact rfl) (ho:fOff E t i=some off:=by kernel_rfl):WL E fn nt dr ops fin ((⟨some d,.fieldAddr t x i,ty,pos,af,some (gG,gW)⟩,lt)::rest) l h R:=Q28 (off:=off) (gy h3g h0g h2g bt) hd hx ho q
theorem I6 {a:Addr} (hx:evl l x=some (.pointer (some a))) (q:WL E fn nt dr ops fin rest ((d,.pointer (some a))::l) h R) (hd:v0a d nt=true:=by exact rfl):WL E fn nt dr ops fin ((⟨some d,.nilCheck x,ty,pos,af,none⟩,lt)::rest) l h R:=Q3a trivial hd hx q
theorem D6 {gG gD:Nat} {gW gB:Bool} {a:Addr} (bt:gB=gW) (hx:evl l x=some (.pointer (some a))) (q:WL E fn nt dr ops fin rest ((d,.pointer (some a))::l) h R) (h3g:(pk ops.toList gG).dst=some gD:=by exact rfl) (h0g:v0a gG ops.size=true:=by exact rfl) (h2g:lk l gD=some (.bool gB):=by exact rfl) (hd:v0a d nt=true:=by exact rfl):WL E fn nt dr ops fin ((⟨some d,.nilCheck x,ty,pos,af,some (gG,gW)⟩,lt)::rest) l h R:=Q3a (gy h3g h0g h2g bt) hd hx q
theorem I7 {a:Option Addr} {n c:Nat} (hx:evl l x=some (.slice a n c)) (q:WL E fn nt dr ops fin rest ((d,.int .i64 (n:Nat))::l) h R) (hd:v0a d nt=true:=by exact rfl) (hb:isS E t=true:=by kernel_rfl):WL E fn nt dr ops fin ((⟨some d,.call ⟨.builtin .len,#[x],#[t]⟩,ty,pos,af,none⟩,lt)::rest) l h R:=o_len trivial hd hx hb q
theorem D7 {gG gD:Nat} {gW gB:Bool} {a:Option Addr} {n c:Nat} (bt:gB=gW) (hx:evl l x=some (.slice a n c)) (q:WL E fn nt dr ops fin rest ((d,.int .i64 (n:Nat))::l) h R) (h3g:(pk ops.toList gG).dst=some gD:=by exact rfl) (h0g:v0a gG ops.size=true:=by exact rfl) (h2g:lk l gD=some (.bool gB):=by exact rfl) (hd:v0a d nt=true:=by exact rfl) (hb:isS E t=true:=by kernel_rfl):WL E fn nt dr ops fin ((⟨some d,.call ⟨.builtin .len,#[x],#[t]⟩,ty,pos,af,some (gG,gW)⟩,lt)::rest) l h R:=o_len (gy h3g h0g h2g bt) hd hx hb q
theorem I5o {b o n c:Nat} {k:IntKind} {j:Int} (zz:Nat) (hx:evl l x=some (.slice (some ⟨b,o,none⟩) n c)) (hy:evl l y=some (.int k j)) (q:WL E fn nt dr ops fin rest ((d,.pointer (some ⟨b,o+j.toNat*zz,none⟩))::l) h R) (hd:v0a d nt=true:=by exact rfl) (hz:QaY E t=some zz:=by kernel_rfl) (h1:0<=j:=by omega) (h2:j <n:=by omega):WL E fn nt dr ops fin ((⟨some d,.indexAddr t x y,ty,pos,af,none⟩,lt)::rest) l h R:=JH (zz:=zz) trivial hd hx hy hz h1 h2 q
theorem D5o {gG gD:Nat} {gW gB:Bool} {b o n c:Nat} {k:IntKind} {j:Int} (zz:Nat) (bt:gB=gW) (hx:evl l x=some (.slice (some ⟨b,o,none⟩) n c)) (hy:evl l y=some (.int k j)) (q:WL E fn nt dr ops fin rest ((d,.pointer (some ⟨b,o+j.toNat*zz,none⟩))::l) h R) (h3g:(pk ops.toList gG).dst=some gD:=by exact rfl) (h0g:v0a gG ops.size=true:=by exact rfl) (h2g:lk l gD=some (.bool gB):=by exact rfl) (hd:v0a d nt=true:=by exact rfl) (hz:QaY E t=some zz:=by kernel_rfl) (h1:0<=j:=by omega) (h2:j <n:=by omega):WL E fn nt dr ops fin ((⟨some d,.indexAddr t x y,ty,pos,af,some (gG,gW)⟩,lt)::rest) l h R:=JH (zz:=zz) (gy h3g h0g h2g bt) hd hx hy hz h1 h2 q
theorem Iao (hx:evl l x=some (.int .i64 a)) (hy:evl l y=some (.int .i64 b)) (q:WL E fn nt dr ops fin rest ((d,.int .i64 (a+b))::l) h R) (hd:v0a d nt=true:=by exact rfl) (h1: -9223372036854775808<=a+b:=by omega) (h2:a+b <9223372036854775808:=by omega):WL E fn nt dr ops fin ((⟨some d,.binOp .add t x y aI,ty,pos,af,none⟩,lt)::rest) l h R:=o_add trivial hd hx hy h1 h2 q
theorem Dao {gG gD:Nat} {gW gB:Bool} (bt:gB=gW) (hx:evl l x=some (.int .i64 a)) (hy:evl l y=some (.int .i64 b)) (q:WL E fn nt dr ops fin rest ((d,.int .i64 (a+b))::l) h R) (h3g:(pk ops.toList gG).dst=some gD:=by exact rfl) (h0g:v0a gG ops.size=true:=by exact rfl) (h2g:lk l gD=some (.bool gB):=by exact rfl) (hd:v0a d nt=true:=by exact rfl) (h1: -9223372036854775808<=a+b:=by omega) (h2:a+b <9223372036854775808:=by omega):WL E fn nt dr ops fin ((⟨some d,.binOp .add t x y aI,ty,pos,af,some (gG,gW)⟩,lt)::rest) l h R:=o_add (gy h3g h0g h2g bt) hd hx hy h1 h2 q
theorem Iso (hx:evl l x=some (.int .i64 a)) (hy:evl l y=some (.int .i64 b)) (q:WL E fn nt dr ops fin rest ((d,.int .i64 (a -b))::l) h R) (hd:v0a d nt=true:=by exact rfl) (h1: -9223372036854775808<=a -b:=by omega) (h2:a -b <9223372036854775808:=by omega):WL E fn nt dr ops fin ((⟨some d,.binOp .sub t x y aI,ty,pos,af,none⟩,lt)::rest) l h R:=o_sub trivial hd hx hy h1 h2 q
theorem Dso {gG gD:Nat} {gW gB:Bool} (bt:gB=gW) (hx:evl l x=some (.int .i64 a)) (hy:evl l y=some (.int .i64 b)) (q:WL E fn nt dr ops fin rest ((d,.int .i64 (a -b))::l) h R) (h3g:(pk ops.toList gG).dst=some gD:=by exact rfl) (h0g:v0a gG ops.size=true:=by exact rfl) (h2g:lk l gD=some (.bool gB):=by exact rfl) (hd:v0a d nt=true:=by exact rfl) (h1: -9223372036854775808<=a -b:=by omega) (h2:a -b <9223372036854775808:=by omega):WL E fn nt dr ops fin ((⟨some d,.binOp .sub t x y aI,ty,pos,af,some (gG,gW)⟩,lt)::rest) l h R:=o_sub (gy h3g h0g h2g bt) hd hx hy h1 h2 q
theorem Il (hx:evl l x=some (.int k a)) (hy:evl l y=some (.int k b)) (q:WL E fn nt dr ops fin rest ((d,.bool (decide (a <b)))::l) h R) (hd:v0a d nt=true:=by exact rfl):WL E fn nt dr ops fin ((⟨some d,.binOp .lss t x y aI,ty,pos,af,none⟩,lt)::rest) l h R:=o_lss trivial hd hx hy q
theorem Dl {gG gD:Nat} {gW gB:Bool} (bt:gB=gW) (hx:evl l x=some (.int k a)) (hy:evl l y=some (.int k b)) (q:WL E fn nt dr ops fin rest ((d,.bool (decide (a <b)))::l) h R) (h3g:(pk ops.toList gG).dst=some gD:=by exact rfl) (h0g:v0a gG ops.size=true:=by exact rfl) (h2g:lk l gD=some (.bool gB):=by exact rfl) (hd:v0a d nt=true:=by exact rfl):WL E fn nt dr ops fin ((⟨some d,.binOp .lss t x y aI,ty,pos,af,some (gG,gW)⟩,lt)::rest) l h R:=o_lss (gy h3g h0g h2g bt) hd hx hy q
theorem Dm {gG gD:Nat} {gW gB:Bool} (bt:gB=gW) (hx:evl l x=some (.int k a)) (hy:evl l y=some (.int k b)) (q:WL E fn nt dr ops fin rest ((d,.bool (decide (a<=b)))::l) h R) (h3g:(pk ops.toList gG).dst=some gD:=by exact rfl) (h0g:v0a gG ops.size=true:=by exact rfl) (h2g:lk l gD=some (.bool gB):=by exact rfl) (hd:v0a d nt=true:=by exact rfl):WL E fn nt dr ops fin ((⟨some d,.binOp .leq t x y aI,ty,pos,af,some (gG,gW)⟩,lt)::rest) l h R:=o_leq (gy h3g h0g h2g bt) hd hx hy q
theorem Ig (hx:evl l x=some (.int k a)) (hy:evl l y=some (.int k b)) (q:WL E fn nt dr ops fin rest ((d,.bool (decide (b <a)))::l) h R) (hd:v0a d nt=true:=by exact rfl):WL E fn nt dr ops fin ((⟨some d,.binOp .gtr t x y aI,ty,pos,af,none⟩,lt)::rest) l h R:=o_gtr trivial hd hx hy q
theorem Dg {gG gD:Nat} {gW gB:Bool} (bt:gB=gW) (hx:evl l x=some (.int k a)) (hy:evl l y=some (.int k b)) (q:WL E fn nt dr ops fin rest ((d,.bool (decide (b <a)))::l) h R) (h3g:(pk ops.toList gG).dst=some gD:=by exact rfl) (h0g:v0a gG ops.size=true:=by exact rfl) (h2g:lk l gD=some (.bool gB):=by exact rfl) (hd:v0a d nt=true:=by exact rfl):WL E fn nt dr ops fin ((⟨some d,.binOp .gtr t x y aI,ty,pos,af,some (gG,gW)⟩,lt)::rest) l h R:=o_gtr (gy h3g h0g h2g bt) hd hx hy q
theorem Ih (hx:evl l x=some (.int k a)) (hy:evl l y=some (.int k b)) (q:WL E fn nt dr ops fin rest ((d,.bool (decide (b<=a)))::l) h R) (hd:v0a d nt=true:=by exact rfl):WL E fn nt dr ops fin ((⟨some d,.binOp .geq t x y aI,ty,pos,af,none⟩,lt)::rest) l h R:=o_geq trivial hd hx hy q
theorem Dh {gG gD:Nat} {gW gB:Bool} (bt:gB=gW) (hx:evl l x=some (.int k a)) (hy:evl l y=some (.int k b)) (q:WL E fn nt dr ops fin rest ((d,.bool (decide (b<=a)))::l) h R) (h3g:(pk ops.toList gG).dst=some gD:=by exact rfl) (h0g:v0a gG ops.size=true:=by exact rfl) (h2g:lk l gD=some (.bool gB):=by exact rfl) (hd:v0a d nt=true:=by exact rfl):WL E fn nt dr ops fin ((⟨some d,.binOp .geq t x y aI,ty,pos,af,some (gG,gW)⟩,lt)::rest) l h R:=o_geq (gy h3g h0g h2g bt) hd hx hy q
theorem Ie (hx:evl l x=some (.int k a)) (hy:evl l y=some (.int k b)) (q:WL E fn nt dr ops fin rest ((d,.bool (decide (a=b)))::l) h R) (hd:v0a d nt=true:=by exact rfl):WL E fn nt dr ops fin ((⟨some d,.binOp .eql t x y aI,ty,pos,af,none⟩,lt)::rest) l h R:=Qey trivial hd hx hy q
theorem De {gG gD:Nat} {gW gB:Bool} (bt:gB=gW) (hx:evl l x=some (.int k a)) (hy:evl l y=some (.int k b)) (q:WL E fn nt dr ops fin rest ((d,.bool (decide (a=b)))::l) h R) (h3g:(pk ops.toList gG).dst=some gD:=by exact rfl) (h0g:v0a gG ops.size=true:=by exact rfl) (h2g:lk l gD=some (.bool gB):=by exact rfl) (hd:v0a d nt=true:=by exact rfl):WL E fn nt dr ops fin ((⟨some d,.binOp .eql t x y aI,ty,pos,af,some (gG,gW)⟩,lt)::rest) l h R:=Qey (gy h3g h0g h2g bt) hd hx hy q
theorem In (hx:evl l x=some (.int k a)) (hy:evl l y=some (.int k b)) (q:WL E fn nt dr ops fin rest ((d,.bool (!decide (a=b)))::l) h R) (hd:v0a d nt=true:=by exact rfl):WL E fn nt dr ops fin ((⟨some d,.binOp .neq t x y aI,ty,pos,af,none⟩,lt)::rest) l h R:=o_nei trivial hd hx hy q
theorem Dn {gG gD:Nat} {gW gB:Bool} (bt:gB=gW) (hx:evl l x=some (.int k a)) (hy:evl l y=some (.int k b)) (q:WL E fn nt dr ops fin rest ((d,.bool (!decide (a=b)))::l) h R) (h3g:(pk ops.toList gG).dst=some gD:=by exact rfl) (h0g:v0a gG ops.size=true:=by exact rfl) (h2g:lk l gD=some (.bool gB):=by exact rfl) (hd:v0a d nt=true:=by exact rfl):WL E fn nt dr ops fin ((⟨some d,.binOp .neq t x y aI,ty,pos,af,some (gG,gW)⟩,lt)::rest) l h R:=o_nei (gy h3g h0g h2g bt) hd hx hy q
theorem I3 {b o:Nat} {cs:List Value} {e:TypeId} {m:Nat} (n:Nat) (hx:evl l x=some (.pointer (some ⟨b,o,none⟩))) (hg:h.get b=some (.cells cs e m)) (hv:o+n<=cs.length) (q:WL E fn nt dr ops fin rest ((d,.agg ((cs.drop o).take n).toArray)::l) h R) (hd:v0a d nt=true:=by exact rfl) (hc:isA E t=true:=by kernel_rfl) (hn:E.size t=some n:=by kernel_rfl):WL E fn nt dr ops fin ((⟨some d,.load t x,ty,pos,af,none⟩,lt)::rest) l h R:=Zb (n:=n) trivial hd hx hc hn hg hv q
theorem D3 {gG gD:Nat} {gW gB:Bool} {b o:Nat} {cs:List Value} {e:TypeId} {m:Nat} (n:Nat) (bt:gB=gW) (hx:evl l x=some (.pointer (some ⟨b,o,none⟩))) (hg:h.get b=some (.cells cs e m)) (hv:o+n<=cs.length) (q:WL E fn nt dr ops fin rest ((d,.agg ((cs.drop o).take n).toArray)::l) h R) (h3g:(pk ops.toList gG).dst=some gD:=by exact rfl) (h0g:v0a gG ops.size=true:=by exact rfl) (h2g:lk l gD=some (.bool gB):=by exact rfl) (hd:v0a d nt=true:=by exact rfl) (hc:isA E t=true:=by kernel_rfl) (hn:E.size t=some n:=by kernel_rfl):WL E fn nt dr ops fin ((⟨some d,.load t x,ty,pos,af,some (gG,gW)⟩,lt)::rest) l h R:=Zb (n:=n) (gy h3g h0g h2g bt) hd hx hc hn hg hv q
theorem Ib {b:Bool} (hx:evl l x=some (.bool b)) (q:WL E fn nt dr ops fin rest ((d,.bool (!b))::l) h R) (hd:v0a d nt=true:=by exact rfl):WL E fn nt dr ops fin ((⟨some d,.unOp .not t x,ty,pos,af,none⟩,lt)::rest) l h R:=o_not trivial hd hx q
theorem Db {gG gD:Nat} {gW gB:Bool} {b:Bool} (bt:gB=gW) (hx:evl l x=some (.bool b)) (q:WL E fn nt dr ops fin rest ((d,.bool (!b))::l) h R) (h3g:(pk ops.toList gG).dst=some gD:=by exact rfl) (h0g:v0a gG ops.size=true:=by exact rfl) (h2g:lk l gD=some (.bool gB):=by exact rfl) (hd:v0a d nt=true:=by exact rfl):WL E fn nt dr ops fin ((⟨some d,.unOp .not t x,ty,pos,af,some (gG,gW)⟩,lt)::rest) l h R:=o_not (gy h3g h0g h2g bt) hd hx q
theorem Ic {f:FuncId} {args:Array Operand} {as:Array TypeId} {first cap:Array Value} (vs:List Value) (hf:evl l x=some (.func (.func f) first cap)) (hv:args.toList.map (evl l)=vs.map some) (q:C E f (first.toList++vs++cap.toList) h fun v h'=>(∀q,q∈lt->Again E ops ((d,v)::l) h' q)/\WL E fn nt dr ops fin rest ((d,v)::l) h' R) (hd:v0a d nt=true:=by exact rfl) (ho:Q2F E f=true:=by kernel_rfl):WL E fn nt dr ops fin ((⟨some d,.call ⟨.value x,args,as⟩,ty,pos,af,none⟩,lt)::rest) l h R:=QZ vs trivial hd hf ho hv q
theorem Dc {gG gD:Nat} {gW gB:Bool} {f:FuncId} {args:Array Operand} {as:Array TypeId} {first cap:Array Value} (bt:gB=gW) (vs:List Value) (hf:evl l x=some (.func (.func f) first cap)) (hv:args.toList.map (evl l)=vs.map some) (q:C E f (first.toList++vs++cap.toList) h fun v h'=>(∀q,q∈lt->Again E ops ((d,v)::l) h' q)/\WL E fn nt dr ops fin rest ((d,v)::l) h' R) (h3g:(pk ops.toList gG).dst=some gD:=by exact rfl) (h0g:v0a gG ops.size=true:=by exact rfl) (h2g:lk l gD=some (.bool gB):=by exact rfl) (hd:v0a d nt=true:=by exact rfl) (ho:Q2F E f=true:=by kernel_rfl):WL E fn nt dr ops fin ((⟨some d,.call ⟨.value x,args,as⟩,ty,pos,af,some (gG,gW)⟩,lt)::rest) l h R:=QZ vs (gy h3g h0g h2g bt) hd hf ho hv q
theorem IT {b:Bool} (hx:evl l x=some (.bool b)) (hb:b=true) (hy:evl l y=some v) (q:WL E fn nt dr ops fin rest ((d,v)::l) h R) (hd:v0a d nt=true:=by exact rfl):WL E fn nt dr ops fin ((⟨some d,.pick x y z,ty,pos,af,none⟩,lt)::rest) l h R:=Q3R trivial hd hx hb hy q
theorem DT {gG gD:Nat} {gW gB:Bool} {b:Bool} (bt:gB=gW) (hx:evl l x=some (.bool b)) (hb:b=true) (hy:evl l y=some v) (q:WL E fn nt dr ops fin rest ((d,v)::l) h R) (h3g:(pk ops.toList gG).dst=some gD:=by exact rfl) (h0g:v0a gG ops.size=true:=by exact rfl) (h2g:lk l gD=some (.bool gB):=by exact rfl) (hd:v0a d nt=true:=by exact rfl):WL E fn nt dr ops fin ((⟨some d,.pick x y z,ty,pos,af,some (gG,gW)⟩,lt)::rest) l h R:=Q3R (gy h3g h0g h2g bt) hd hx hb hy q
theorem Iu {b:Bool} (hx:evl l x=some (.bool b)) (hb:b=false) (hz:evl l z=some v) (q:WL E fn nt dr ops fin rest ((d,v)::l) h R) (hd:v0a d nt=true:=by exact rfl):WL E fn nt dr ops fin ((⟨some d,.pick x y z,ty,pos,af,none⟩,lt)::rest) l h R:=Q3S trivial hd hx hb hz q
theorem Du {gG gD:Nat} {gW gB:Bool} {b:Bool} (bt:gB=gW) (hx:evl l x=some (.bool b)) (hb:b=false) (hz:evl l z=some v) (q:WL E fn nt dr ops fin rest ((d,v)::l) h R) (h3g:(pk ops.toList gG).dst=some gD:=by exact rfl) (h0g:v0a gG ops.size=true:=by exact rfl) (h2g:lk l gD=some (.bool gB):=by exact rfl) (hd:v0a d nt=true:=by exact rfl):WL E fn nt dr ops fin ((⟨some d,.pick x y z,ty,pos,af,some (gG,gW)⟩,lt)::rest) l h R:=Q3S (gy h3g h0g h2g bt) hd hx hb hz q
theorem Ix {vs:Array Value} {i:Nat} (hx:evl l x=some (.tuple vs)) (hv:vs[i]?=some v) (q:WL E fn nt dr ops fin rest ((d,v)::l) h R) (hd:v0a d nt=true:=by exact rfl):WL E fn nt dr ops fin ((⟨some d,.extract x i,ty,pos,af,none⟩,lt)::rest) l h R:=Q9P trivial hd hx hv q
theorem Ip {a:Option Addr} (hx:evl l x=some (.pointer a)) (hy:evl l y=some (.pointer none)) (q:WL E fn nt dr ops fin rest ((d,.bool a.isNone)::l) h R) (hd:v0a d nt=true:=by exact rfl) (hb:isP E t=true:=by kernel_rfl):WL E fn nt dr ops fin ((⟨some d,.binOp .eql t x y aI,ty,pos,af,none⟩,lt)::rest) l h R:=o_eqp trivial hd hx hy hb q
theorem Dp {gG gD:Nat} {gW gB:Bool} {a:Option Addr} (bt:gB=gW) (hx:evl l x=some (.pointer a)) (hy:evl l y=some (.pointer none)) (q:WL E fn nt dr ops fin rest ((d,.bool a.isNone)::l) h R) (h3g:(pk ops.toList gG).dst=some gD:=by exact rfl) (h0g:v0a gG ops.size=true:=by exact rfl) (h2g:lk l gD=some (.bool gB):=by exact rfl) (hd:v0a d nt=true:=by exact rfl) (hb:isP E t=true:=by kernel_rfl):WL E fn nt dr ops fin ((⟨some d,.binOp .eql t x y aI,ty,pos,af,some (gG,gW)⟩,lt)::rest) l h R:=o_eqp (gy h3g h0g h2g bt) hd hx hy hb q
theorem Iq {a:Option Addr} (hx:evl l x=some (.pointer a)) (hy:evl l y=some (.pointer none)) (q:WL E fn nt dr ops fin rest ((d,.bool a.isSome)::l) h R) (hd:v0a d nt=true:=by exact rfl) (hb:isP E t=true:=by kernel_rfl):WL E fn nt dr ops fin ((⟨some d,.binOp .neq t x y aI,ty,pos,af,none⟩,lt)::rest) l h R:=o_nep trivial hd hx hy hb q
theorem Dq {gG gD:Nat} {gW gB:Bool} {a:Option Addr} (bt:gB=gW) (hx:evl l x=some (.pointer a)) (hy:evl l y=some (.pointer none)) (q:WL E fn nt dr ops fin rest ((d,.bool a.isSome)::l) h R) (h3g:(pk ops.toList gG).dst=some gD:=by exact rfl) (h0g:v0a gG ops.size=true:=by exact rfl) (h2g:lk l gD=some (.bool gB):=by exact rfl) (hd:v0a d nt=true:=by exact rfl) (hb:isP E t=true:=by kernel_rfl):WL E fn nt dr ops fin ((⟨some d,.binOp .neq t x y aI,ty,pos,af,some (gG,gW)⟩,lt)::rest) l h R:=o_nep (gy h3g h0g h2g bt) hd hx hy hb q
theorem Ir {a:Option Addr} {n c:Nat} (hx:evl l x=some (.slice a n c)) (hy:evl l y=some (.slice none 0 0)) (q:WL E fn nt dr ops fin rest ((d,.bool a.isNone)::l) h R) (hd:v0a d nt=true:=by exact rfl) (hb:isS E t=true:=by kernel_rfl):WL E fn nt dr ops fin ((⟨some d,.binOp .eql t x y aI,ty,pos,af,none⟩,lt)::rest) l h R:=o_eqs trivial hd hx hy hb q
theorem I9r (l:List Oper):((v0w l.length).map fun i=>(i,([]:List Nat))).map (fun p=>(pk l p.1,p.2.map (pk l)))=l.map fun o=>(o,[]):=by
 apply List.ext_getElem
 · simp
 intro i h1 h2;have h3:i <l.length:=by simpa using h2
 have e:=Qdu l i h3;rw[v0c h3]at e;simp[<-v0h.inj e]
theorem I9 {Q:Out->Kn->Hp->Prop} {id:Nat} {ops:Array Oper} (q:WL E fn nt true ops [] (ops.toList.map fun o=>(o,[])) l h (Q .next)) (hc:QS ops=true:=by kernel_rfl) (hk:J6 E ops=true:=by kernel_rfl) (hs:canon E ops=((v0w ops.toList.length).map fun i=>(i,([]:List Nat))).map (·.1):=by kernel_rfl) (hd:dOk E ops ((v0w ops.toList.length).map fun i=>(i,([]:List Nat)))=true:=by kernel_rfl):W E fn nt (.region id ops true) l h Q:=
 Yq _ hc hk hs hd (by unfold resolve;rw[I9r];exact q)
end
end Go.X
