/- Lemmas 3. -/
import Derived.Laws.BytesString
import Derived.Laws.Cells
import Derived.Test.YtiipaliigpkfhaaGreatVP2
set_option maxRecDepth 100000
namespace Go.Proofs.YtiipaliigpkfhaaGreat.Ab
open Go Go.RowKit
def sC (o:Oper) (T:List AV):Option Nat:=
 match o.op with
 | .load _ p=>match bk T p with
  | .ptr l _=>some l
  |_=>none
 |_=>none
theorem yx {H H2:aa}{x:AV}(h:∀l o,x= .ptr l o->H2[l]? =H[l]?):iL H2 x=iL H x:=by
 cases x with
 |ptr l o=>simp only[iL,h l o rfl]
 |_=>rfl
theorem EV {P:Program}{o:Oper}{T:List AV}{H H2:aa}(h:∀l,sC o T=some l->H2[l]? =H[l]?):kZ P o T H2=kZ P o T H:=by
 unfold kZ
 cases ho:o.op with
 |load t p=>
  simp only;rw[yx (λl o' hx=>h l (by unfold sC;rw[ho];simp only[hx]))]
 |_=>rfl
def cQ (H H':aa) (Wr:List Nat):Prop:=H.length<=H'.length/\∀l,l<H.length->l∉Wr->H'[l]? =H[l]?
theorem cQ.refl (H:aa) (Wr:List Nat):cQ H H Wr:=⟨ag3 _,λ_ _ _=>rfl⟩
theorem cQ.push (H:aa) (o:bu):cQ H (H++[o]) []:=⟨by simp,λl hl _=>ahb hl⟩
theorem cQ.set (H:aa) (l:Nat) (o:bu):cQ H (H.set l o) [l]:=⟨by simp,λk _ hm=>ag7 (λe=>hm (by simp[e]))⟩
theorem mZ {P:Program}{o:Oper}{T:List AV}{H H':aa}{x:AV}{Wr:List Nat}(h:pO P o T H=some (x,H',Wr)):cQ H H' Wr:=by
 unfold pO at h;split at h
 ·split at h
  ·cases h;exact .push _ _
  ·cases h
 ·split at h
  ·split at h
   ·cases h;exact .push _ _
   ·cases h
  ·cases h
 ·split at h
  ·split at h
   ·split at h
    ·cases h;exact .set _ _ _
    ·cases h
   ·cases h
  ·cases h
 ·split at h
  ·split at h
   ·split at h
    ·split at h
     ·cases h;exact .refl _ _
     ·cases h
    ·cases h
   ·cases h
  ·cases h
 ·split at h
  ·split at h
   ·cases h;exact .refl _ _
   ·cases h
  ·cases h
 ·split at h
  ·unfold MI at h;split at h
   ·split at h
    ·split at h
     ·cases h;exact .refl _ _
     ·split at h
      ·split at h
       ·split at h
        ·split at h
         ·cases h;exact .set _ _ _
         ·cases h
        ·cases h
       ·split at h
        ·cases h;exact .push _ _
        ·cases h
       ·split at h
        ·cases h;exact .push _ _
        ·cases h
       ·cases h
      ·cases h
    ·cases h
   ·cases h
  ·cases h
 ·split at h
  ·split at h
   ·split at h
    ·cases h;exact .push _ _
    ·cases h
   ·cases h
  ·cases h
 ·cases h
abbrev Pf:=Option (Nat×TypeId×Value)
structure Rd where
 tb:List Nat
 al:Option Nat
 soft:Pf
abbrev Log:=List (Bool×Rd×List Nat)
def I0:Rd:=⟨[],none,none⟩
def rdS (s:Pf):Rd:=⟨[],none,s⟩
def tc (o:Oper) (T:List AV):Rd:=⟨(sC o T).toList,none,none⟩
def e0:Bool×Rd×List Nat:=(true,I0,[])
abbrev Tr:=TypeId->Value->bu->Option bu
inductive jQ (P:Program) (ops:Array Oper) (dr:Bool) (tr:Tr):List Nat->List AV->aa->List AV->aa->Log->Prop where
 |nil (T:List AV) (H:aa):jQ P ops dr tr [] T H T H []
 |skip {i:Nat} {rest:List Nat} {o:Oper} {T T':List AV} {H H':aa} {L:Log} (ho:ops[i]? =some o) (hw:dx ops T o=some false)
   (hr:jQ P ops dr tr rest (gK T o.dst mV) H T' H' L):jQ P ops dr tr (i::rest) T H T' H' (e0::L)
 |float {i:Nat} {rest:List Nat} {o:Oper} {x:AV} {T T':List AV} {H H':aa} {L:Log} {rd:Rd} (ho:ops[i]? =some o) (hw:dx ops T o=some true)
   (hs:∀H2:aa,(∀l∈rd.tb,H2[l]? =H[l]?∨∃t k ob,rd.soft=some (l,t,k)/\(H[l]?).bind (tr t k)=some ob/\H2[l]? =some ob)->MJ P o T H2 x rd.al) (ha:dr=false->rd.al=none) (hr:jQ P ops dr tr rest (gK T o.dst x) H T' H' L):jQ P ops dr tr (i::rest) T H T' H' ((true,rd,[])::L)
 |act {i:Nat} {rest:List Nat} {o:Oper} {x:AV} {T T':List AV} {H H1 H':aa} {L:Log} {Wr:List Nat} {sf:Pf} (ho:ops[i]? =some o) (hw:dx ops T o=some true)
   (hs:kX P o T H x H1 Wr) (hk:cQ H H1 Wr) (Zl:∀l t k,sf=some (l,t,k)->∃ob,(H[l]?).bind (tr t k)=some ob/\H1[l]? =some ob) (hr:jQ P ops dr tr rest (gK T o.dst x) H1 T' H' L):jQ P ops dr tr (i::rest) T H T' H' ((false,rdS sf,Wr)::L)
def r6:Log->List Nat
 |[]=>[]
 |(_,_,W)::L=>W++r6 L
theorem jQ.run {P:Program}{ops:Array Oper}{tr:Tr}{is:List Nat}{T T':List AV}{H H':aa}{L:Log}(h:jQ P ops false tr is T H T' H' L):qg P ops is T H T' H' (r6 L):=by
 induction h with
 |nil T H=>exact .nil T H
 |skip ho hw hr ih=>exact .skip ho hw ih
 |float ho hw hs ha hr ih=>
  refine .step ho hw (MJ.a ?_) ih;have:=hs _ (λ_ _=> .inl rfl);rwa [ha rfl]at this
 |act ho hw hs hk Zl hr ih=>exact .step ho hw hs ih
theorem na {P:Program}{tr:Tr}{o:Oper}{T:List AV}{H:aa}{x:AV}(hs:kZ P o T H=some x):∀H2:aa,(∀l∈(tc o T).tb,H2[l]? =H[l]?∨∃t k ob,(tc o T).soft=some (l,t,k)/\(H[l]?).bind (tr t k)=some ob/\H2[l]? =some ob)->MJ P o T H2 x (tc o T).al:=
 λH2 h=>(wj ((EV (λl hl=>(h l (by simp[tc,hl])).elim id (λ⟨_,_,_,e,_⟩=>by simp[tc]at e))).trans hs)).a.f
theorem jQ.seq {P:Program}{ops:Array Oper}{dr:Bool}{tr:Tr}{T':List AV}{H':aa}:∀(n k:Nat) (T:List AV) (H:aa) (L:Log),jQ P ops dr tr ((List.range n).map (k+·)) T H T' H' L->k+n=ops.size->
  ∃(Ts:Nat->List AV) (Hs:Nat->aa) (x:Nat->AV),Ts k=T/\Hs k=H/\Ts ops.size=T'/\Hs ops.size=H'/\L.length=n/\
   ∀i o,k<=i->ops[i]? =some o->Ts (i+1)=gK (Ts i) o.dst (x i)/\
    ((dx ops (Ts i) o=some false/\x i=mV/\(L.getD (i-k) e0).1=true/\Hs (i+1)=Hs i)∨
    (dx ops (Ts i) o=some true/\(L.getD (i-k) e0).1=true/\Hs (i+1)=Hs i/\∀H2:aa,(∀l∈(L.getD (i-k) e0).2.1.tb,H2[l]? =(Hs i)[l]?∨∃t k' ob,(L.getD (i-k) e0).2.1.soft=some (l,t,k')/\((Hs i)[l]?).bind (tr t k')=some ob/\H2[l]? =some ob)->MJ P o (Ts i) H2 (x i) (L.getD (i-k) e0).2.1.al)∨
    (dx ops (Ts i) o=some true/\(L.getD (i-k) e0).1=false/\kX P o (Ts i) (Hs i) (x i) (Hs (i+1)) (L.getD (i-k) e0).2.2/\cQ (Hs i) (Hs (i+1)) (L.getD (i-k) e0).2.2/\∀l t k',(L.getD (i-k) e0).2.1.soft=some (l,t,k')->∃ob,((Hs i)[l]?).bind (tr t k')=some ob/\(Hs (i+1))[l]? =some ob)):=by
 intro n
 induction n with
 |zero=>
  intro k T H L h hk;simp only[List.range_zero,aia]at h;cases h;have ix:k=ops.size:=by omega
  subst ix;exact⟨λ_=>T',λ_=>H',λ_=> .any,rfl,rfl,rfl,rfl,rfl,λi o hi ho=>by have:=(aha.1 ho).1;omega⟩
 |succ n ih=>
  intro k T H L h hk;have hr:(List.range (n+1)).map (k+·)=k::(List.range n).map (k+1+·):=by
   rw[aib];simp only[ahJ,ain,aik];congr 1;refine ahV (λa _=> ?_);simp only[Function.comp];omega
  rw[hr]at h;have build:∀(o:Oper) (y:AV) (H1:aa) (e:Bool×Rd×List Nat) (L1:Log),ops[k]? =some o->jQ P ops dr tr ((List.range n).map (k+1+·)) (gK T o.dst y) H1 T' H' L1->
    ((dx ops T o=some false/\y=mV/\e.1=true/\H1=H)∨
    (dx ops T o=some true/\e.1=true/\H1=H/\∀H2:aa,(∀l∈e.2.1.tb,H2[l]? =H[l]?∨∃t k' ob,e.2.1.soft=some (l,t,k')/\(H[l]?).bind (tr t k')=some ob/\H2[l]? =some ob)->MJ P o T H2 y e.2.1.al)∨
    (dx ops T o=some true/\e.1=false/\kX P o T H y H1 e.2.2/\cQ H H1 e.2.2/\∀l t k',e.2.1.soft=some (l,t,k')->∃ob,(H[l]?).bind (tr t k')=some ob/\H1[l]? =some ob))->L=e::L1->
    ∃(Ts:Nat->List AV) (Hs:Nat->aa) (x:Nat->AV),Ts k=T/\Hs k=H/\Ts ops.size=T'/\Hs ops.size=H'/\L.length=n+1/\
     ∀i o,k<=i->ops[i]? =some o->Ts (i+1)=gK (Ts i) o.dst (x i)/\
     ((dx ops (Ts i) o=some false/\x i=mV/\(L.getD (i-k) e0).1=true/\Hs (i+1)=Hs i)∨
     (dx ops (Ts i) o=some true/\(L.getD (i-k) e0).1=true/\Hs (i+1)=Hs i/\∀H2:aa,(∀l∈(L.getD (i-k) e0).2.1.tb,H2[l]? =(Hs i)[l]?∨∃t k' ob,(L.getD (i-k) e0).2.1.soft=some (l,t,k')/\((Hs i)[l]?).bind (tr t k')=some ob/\H2[l]? =some ob)->MJ P o (Ts i) H2 (x i) (L.getD (i-k) e0).2.1.al)∨
     (dx ops (Ts i) o=some true/\(L.getD (i-k) e0).1=false/\kX P o (Ts i) (Hs i) (x i) (Hs (i+1)) (L.getD (i-k) e0).2.2/\cQ (Hs i) (Hs (i+1)) (L.getD (i-k) e0).2.2/\∀l t k',(L.getD (i-k) e0).2.1.soft=some (l,t,k')->∃ob,((Hs i)[l]?).bind (tr t k')=some ob/\(Hs (i+1))[l]? =some ob)):=by
   intro o y H1 e L1 ho hc gY hL;subst hL;obtain⟨Ts,Hs,x,h1,h2,h3,h4,h5,h6⟩:=ih (k+1) _ _ _ hc (by omega);refine⟨λi=>if i=k then T else Ts i,λi=>if i=k then H else Hs i,λi=>if i=k then y else x i,by simp,by simp,?_,?_,by simp[h5],λi q hi hq=> ?_⟩
   ·exact(if_neg (by omega)).trans h3
   ·exact(if_neg (by omega)).trans h4
   ·dsimp only;by_cases hik:i=k
    ·subst hik;rw[ho]at hq;cases hq;rw[if_pos rfl,if_neg (by omega:¬i+1=i),if_neg (by omega:¬i+1=i),if_pos rfl,if_pos rfl,h1,h2,ahX,List.getD_cons_zero];exact⟨rfl,gY⟩
    ·have:=h6 i q (by omega) hq;rw[if_neg hik,if_neg (by omega:¬i+1=k),if_neg (by omega:¬i+1=k),if_neg hik,if_neg hik];rw[show i-k=(i-(k+1))+1 by omega,List.getD_cons_succ];exact this
  cases h with
  |skip ho hw xb=>exact build _ mV H _ _ ho xb (.inl ⟨hw,rfl,rfl,rfl⟩) rfl
  | @float _ _ o x _ _ _ _ _ _ ho hw hs ha xb=>
   exact build _ x H _ _ ho xb (.inr (.inl ⟨hw,rfl,rfl,hs⟩)) rfl
  | @act _ _ o x _ _ _ H1 _ _ Wr sf ho hw hs hk Zl xb=>exact build _ x H1 _ _ ho xb (.inr (.inr ⟨hw,rfl,hs,hk,Zl⟩)) rfl
def mc:Value->Value->Bool
 | .bool x,.bool y=>x==y
 | .int k x,.int l y=>decide (k=l)&&decide (x=y)
 | .string s,.string t=>decide (s=t)
 | .nilFunc,.nilFunc=>true
 | .nilIface,.nilIface=>true
 | .pointer none,.pointer none=>true
 | .map none,.map none=>true
 | .chan none,.chan none=>true
 |_,_=>false
theorem lV {a b:Value}(h:mc a b=true):a=b/\plain b=true:=by
 unfold mc at h;split at h<;>simp_all [plain]
def Bg:List Value->List Value->Bool
 |[],[]=>true
 |x::r,y::s=>mc x y&&Bg r s
 |_,_=>false
theorem EW:∀{a b:List Value},Bg a b=true->a=b
 |[],[],_=>rfl
 |[],_::_,h=>by simp[Bg]at h
 |_::_,[],h=>by simp[Bg]at h
 |x::r,y::s,h=>by
  simp only[Bg,ahp]at h;rw[(lV h.1).1,EW h.2]
def sameKey:Value->Value->Bool
 | .agg x,.agg y=>Bg x.toList y.toList
 |x,y=>mc x y
theorem sameKey_eq {a b:Value}(h:sameKey a b=true):a=b:=by
 unfold sameKey at h;split at h
 ·rw[aiq (EW h)]
 ·exact(lV h).1
def ML (L:Log):List Nat:=L.filterMap λe=>e.2.1.al
def vp:List Nat->Bool
 |[]=>true
 |x::r=> !(r.contains x)&&vp r
theorem KJ {L:Log}{i l:Nat}(h:(L.getD i e0).2.1.al=some l):l∈ML L:=by
 unfold ML;rw[List.mem_filterMap];by_cases hi:i<L.length
 ·exact⟨L.getD i e0,by simp[ag4,hi],h⟩
 ·rw[ag4,ahu (ah9 hi)]at h;simp[e0,I0]at h
theorem KK:∀(L:Log) (i j l:Nat),vp (ML L)=true->(L.getD i e0).2.1.al=some l->(L.getD j e0).2.1.al=some l->i=j
 |[],i,j,l,_,h,_=>by simp[e0,I0]at h
 |e::r,i,j,l,hn,h1,h2=>by
  have hr:vp (ML r)=true:=by
   cases he:e.2.1.al with
   |none=>simpa [ML,he]using hn
   |some m=>
    have:ML (e::r)=m::ML r:=by simp[ML,he]
    rw[this]at hn;simp only[vp,ahp]at hn;exact hn.2
  have no:e.2.1.al=some l->∀k,(r.getD k e0).2.1.al=some l->False:=by
   intro he k hk;have:ML (e::r)=l::ML r:=by simp[ML,he]
   rw[this]at hn;simp only[vp,ahp]at hn;have hm:=KJ hk;simp[hm]at hn
  cases i with
  |zero=>
   cases j with
   |zero=>rfl
   |succ j=>exact(no h1 j h2).elim
  |succ i=>
   cases j with
   |zero=>exact(no h2 i h1).elim
   |succ j=>rw[KK r i j l hr h1 h2]
def KL (ops:Array Oper) (M:List Nat):Bool:=
 (List.range ops.size).all λi=>match ops[i]? with
  |some o=>(List.range ops.size).all λj=>match ops[j]? with
   |some q=>match q.dst with
    |some t=>i==j|| !(looks ops o).contains t||lt M (min i j) (max i j)
    |none=>true
   |none=>true
  |none=>true
def I1 (L:Log) (i j l:Nat):Bool:=
 match (L.getD i e0).2.1.soft,(L.getD j e0).2.1.soft with
 |some (l1,t1,k1),some (l2,t2,k2)=>decide (l1=l)&&decide (l2=l)&&decide (t1=t2)&&sameKey k1 k2&&(List.range j).all λm=>decide (m<i)||(L.getD m e0).1|| !((L.getD m e0).2.2.contains l)
 |_,_=>false
def KM (n:Nat) (M:List Nat) (L:Log):Bool:=
 (List.range n).all λi=>(List.range n).all λj=>
  let a:=L.getD i e0
  let b:=L.getD j e0
  (!(decide (i<j)&& !a.1&& !b.1)||lt M i j)&&(!(a.1&& !b.1)||a.2.1.tb.all λl=> !(b.2.2.contains l)||(if j<i then lt M j i else lt M i j||I1 L i j l))
def KN (ops:Array Oper):Bool:=
 (List.range ops.size).all λi=>match ops[i]? with
  |some o=>o.after.toList.all λe=> !(Region.binds .any e)||decide (e.on<i)
  |none=>true
def oN (ops:Array Oper) (n m:Nat) (L:Log):Bool:=
 let M:=nU ops
 KL ops M&&KM ops.size M L&&KN ops&&vp (ML L)&&(ML L).all (λl=>decide (n<=l)&&decide (l<m))&&L.all λe=>e.2.1.tb.all λl=>decide (l<m)
def KO (tr:Tr) (L:Log) (Hs:Nat->aa) (i l:Nat):Option bu:=
 match (L.getD i e0).2.1.soft with
 |some (l1,t,k)=>if l1=l then((Hs i)[l]?).bind (tr t k)else none
 |none=>none
theorem CK {ops:Array Oper}{L:Log}{H0:aa}{n:Nat}{tr:Tr}{Hs:Nat->aa}(hl:L.length=ops.size) (h:oN ops n H0.length L=true)
  (Pg:∀j,j<ops.size->(L.getD j e0).1=false->∀l t k,(L.getD j e0).2.1.soft=some (l,t,k)->∃ob,((Hs j)[l]?).bind (tr t k)=some ob/\(Hs (j+1))[l]? =some ob)
  (iC:∀i j l,i<=j->j<=ops.size->l<H0.length->(∀m,i<=m->m<j->(L.getD m e0).1=false->l∉(L.getD m e0).2.2)->(Hs j)[l]? =(Hs i)[l]?):
  uc ops (λi=>(L.getD i e0).1) (λi=>(L.getD i e0).2.1.tb) (KO tr L Hs) Hs (λi=>(L.getD i e0).2.2) H0:=by
 unfold oN at h;simp only[ahp]at h;obtain⟨⟨⟨⟨⟨h1,h2⟩,h3⟩,_⟩,_⟩,hr⟩:=h;have Ph:∀i l,i<ops.size->l∈(L.getD i e0).2.1.tb->l<H0.length:=by
  intro i l hi pQ;rw[ahq]at hr;have ud:i<L.length:=by omega
  have:=hr (L.getD i e0) (by simp[ag4,ud]);rw[ahq]at this;simpa using this l pQ
 unfold KM at h2;rw[ahq]at h2;have EX:∀i j,i<ops.size->j<ops.size->(L.getD i e0).1=true->(L.getD j e0).1=false->∀l,l∈(L.getD i e0).2.1.tb->l∈(L.getD j e0).2.2->(if j<i then lt (nU ops) j i else lt (nU ops) i j||I1 L i j l)=true:=by
  intro i j hi hj XN sB l pQ hm;have:=h2 i (by simp[hi]);rw[ahq]at this;have:=this j (by simp[hj]);simp only[ahp]at this;have:=this.2;rw[XN,sB]at this;simp only[ais,Bool.and_self,Bool.not_true,Bool.false_or,ahq]at this;have:=this l pQ;have hc:(L.getD j e0).2.2.contains l=true:=by simpa using hm
  rw[hc]at this;simpa using this
 refine⟨λi o ho t ht j q hq hd qi=> ?_,λi j mo hj XN sB=> ?_,λi j l qi hi XN sB pQ hm=> ?_,λi j l mo hj XN sB pQ hm=> ?_,λi l hi pQ=>Ph i l hi pQ,λi o ho e he Uc=> ?_⟩
 ·unfold KL at h1;rw[ahq]at h1;have hi:=(aha.1 ho).1;have hj:=(aha.1 hq).1;have:=h1 i (by simp[hi]);rw[ho]at this;simp only[ahq]at this;have:=this j (by simp[hj]);rw[hq]at this;simp only[hd]at this;have EA:(looks ops o).contains t=true:=by simpa using ht
  rw[EA]at this;simp only[Bool.not_true,Bool.or_false,Bool.or_eq_true,beq_iff_eq]at this;exact this.resolve_left (λe=>qi e.symm)
 ·have:=h2 i (by simp;omega);rw[ahq]at this;have:=this j (by simp[hj]);simp only[ahp]at this;have:=this.1;rw[XN,sB]at this;simpa [mo]using this
 ·have:=EX i j hi (by omega) XN sB l pQ hm;rwa [if_pos qi]at this
 ·have:=EX i j (by omega) hj XN sB l pQ hm;rw[if_neg (by omega),Bool.or_eq_true]at this;rcases this with h|h
  ·exact .inl h
  ·refine .inr ?_;unfold I1 at h;split at h
   ·rename_i l1 t1 k1 l2 t2 k2 XO hs2;simp only[ahp,decide_eq_true_eq,ahq]at h;obtain⟨⟨⟨⟨e1,e2⟩,e3⟩,hk⟩,w8⟩:=h;have e1':=e1.symm;have e2':=e2.symm;subst e1';subst e2';subst e3;have ix:=sameKey_eq hk;subst ix;obtain⟨ob,XP,ZZ⟩:=Pg j hj sB _ _ _ hs2;have Bh:=iC i j l (by omega) (by omega) (Ph i l (by omega) pQ) (λm h1 h2 h3 hm=>by
     have:=w8 m (by simp[h2]);rw[h3]at this;have hc:(L.getD m e0).2.2.contains l=true:=by simpa using hm
     rw[hc]at this;simp at this;omega)
    refine⟨ob,?_,ZZ⟩;unfold KO;rw[XO];simp only[if_true];rw[←Bh];exact XP
   ·cases h
 ·unfold KN at h3;rw[ahq]at h3;have hi:=(aha.1 ho).1;have:=h3 i (by simp[hi]);rw[ho]at this;simp only[ahq]at this;have:=this e (by simpa using he);rw[Uc]at this;simpa using this
theorem Ug {L:Log}{i l:Nat}(h:l∈(L.getD i e0).2.2):l∈r6 L:=by
 induction L generalizing i with
 |nil=>simp[e0]at h
 |cons e r ih=>
  obtain⟨a,b,W⟩:=e
  cases i with
  |zero=>simp at h;simp[r6,h]
  |succ i=>rw[List.getD_cons_succ]at h;simp[r6,ih h]
section
variable {P:Program}{n0:Nat}{W:Nat->Prop}{Q:bj->List AV->aa->Prop}{T:List AV}{H:aa}
theorem vq {id:Nat}{ops:Array Oper}{tr:Tr}{T':List AV}{H':aa}{L:Log}(hc:jQ P ops false tr (List.range ops.size) T H T' H' L) (hW:∀l∈r6 L,l<n0->W l) (h:Q .normal T' H'):xE P n0 W (.region id ops false) Q T H:=
 IA hc.run hW h
theorem Bi {ops:Array Oper}{tr:Tr}{T':List AV}{H':aa}{L:Log}{res:aa}(lT:∀o∈res,idle o=true) (hc:jQ P ops true tr (List.range ops.size) T (H++res) T' H' L) (hW:∀l∈r6 L,l<n0->W l) (hd:oN ops H.length (H++res).length L=true)
  (h:Q .normal T' H'):∀(E:Env) (w0 w:World) (a:Act) (D:List Deferred),n0<=H.length->Good E H w0 w->eJ E T a.tmps->a.defers=D->wpAny P .any ops (nQ n0 W Q E H w0 w D) ops.size (Array.replicate ops.size false) a { w with drawn:=w.drawn+1}:=by
 have tV:jQ P ops true tr ((List.range ops.size).map (0+·)) T (H++res) T' H' L:=by
  have:(List.range ops.size).map (0+·)=List.range ops.size:=by simp
  rw[this];exact hc
 obtain⟨Ts,Hs,x,h1,h2,h3,h4,h5,h6⟩:=tV.seq ops.size 0 T (H++res) L (by omega)
 let S:Seq P ops T (H++res) T' H':=
  {Ts,Hs,x,fl:=λi=>(L.getD i e0).1,rd:=λi=>(L.getD i e0).2.1.tb,alt:=KO tr L Hs,al:=λi=>(L.getD i e0).2.1.al,Wr:=λi=>(L.getD i e0).2.2,t0:=h1,h0:=h2,tn:=h3,hn:=h4
   next:=λi o ho=>(h6 i o (ag9 _) ho).1
   step:=λi o ho=>by
    have:=(h6 i o (ag9 _) ho).2;rw[Nat.sub_zero]at this;rcases this with h|h|⟨ha,hb,hc,hd⟩
    ·exact .inl h
    ·refine .inr (.inl ⟨h.1,h.2.1,h.2.2.1,λH2 hh=>h.2.2.2 H2 (λl hl=> ?_)⟩);rcases hh l hl with e|⟨ob,e1,e2⟩
     ·exact .inl e
     ·refine .inr ?_;unfold KO at e1;split at e1
      ·rename_i l1 t k hs;split at e1
       ·rename_i vr;subst vr;exact⟨t,k,ob,hs,e1,e2⟩
       ·cases e1
      ·cases e1
    ·exact .inr (.inr ⟨ha,hb,hc,hd.1.1,hd.1.2⟩)}
 have Pg:∀j,j<ops.size->(L.getD j e0).1=false->∀l t k,(L.getD j e0).2.1.soft=some (l,t,k)->∃ob,((Hs j)[l]?).bind (tr t k)=some ob/\(Hs (j+1))[l]? =some ob:=by
  intro j hj hf l t k hs;have ho:ops[j]? =some ops[j]:=by simp[hj]
  have:=(h6 j _ (ag9 _) ho).2;rw[Nat.sub_zero]at this;rcases this with h|h|⟨_,_,_,hd⟩
  ·rw[h.2.2.1]at hf;cases hf
  ·rw[h.2.1]at hf;cases hf
  ·exact hd.2 l t k hs
 have iC:∀i j l,i<=j->j<=ops.size->l<(H++res).length->(∀m,i<=m->m<j->(L.getD m e0).1=false->l∉(L.getD m e0).2.2)->(Hs j)[l]? =(Hs i)[l]? :=
  λi j l mo hj vr w8=>S.ET vr j mo hj w8
 have yl:=hd;unfold oN at yl;simp only[ahp]at yl;obtain⟨⟨⟨_,lU⟩,hal⟩,_⟩:=yl;rw[ahq]at hal;have KH:Kept S H:=⟨by simp,λi l hi hl=>by
  have:=hal l (KJ hl);simp only[ahp,decide_eq_true_eq]at this;exact this,λi j l hi hj h1 h2=>KK L i j l lU h1 h2⟩
 exact Pe S KH rfl lT (CK h5 hd Pg iC) (λi l _ hl hn=>hW l (Ug hl) hn) h
theorem mz {id:Nat}{ops:Array Oper}{tr:Tr}{T':List AV}{H':aa}{L:Log}{res:aa}(hm:P.follows .mixedOrders=true) (lT:∀o∈res,idle o=true) (hc:jQ P ops true tr (List.range ops.size) T (H++res) T' H' L) (hW:∀l∈r6 L,l<n0->W l) (OM:oN ops H.length (H++res).length L=true)
  (h:Q .normal T' H'):xE P n0 W (.region id ops true) Q T H:=λE w0 w a D hn hg ht hd=>wp_region_any hm (Bi lT hc hW OM h E w0 w a D hn hg ht hd)
end
def bZ (P:Program) (g:FuncId) (args:List AV) (x:AV) (H H1:aa) (Wr:List Nat):Prop:=
 kP P g/\s4 P g args (.ret x) H H1 (·∈Wr)/\cQ H H1 Wr
def KP (P:Program) (o:Oper) (T:List AV) (H:aa):Option (AV×aa×Bool×Rd×List Nat):=
 match kZ P o T H with
 |some x=>some (x,H,true,tc o T,[])
 |none=>match pO P o T H with
  |some (x,H1,Wr)=>some (x,H1,false,I0,Wr)
  |none=>none
def lW (o:Oper) (T:List AV):Option (FuncId×List AV):=
 match o.op with
 | .call c=>match c.callee with
  | .value f=>match bk T f with
   | .fn (.func g) first fJ=>some (g,first++c.args.toList.map (bk T)++fJ)
   |_=>none
  |_=>none
 |_=>none
def ju (d:TypeDesc) (k:Value):List (Value×AV)->Nat->Option (Option Nat)
 |[],_=>some none
 |e::es,i=>match Instr.sameNow d k e.1 with
  |some true=>some (some i)
  |some false=>ju d k es (i+1)
  |none=>none
def qE (P:Program) (kt:TypeId) (k:Value):List (Value×AV)->Nat->Option (Option Nat)
 |[],_=>some none
 |e::es,i=>match aB P (Op.equal kt k e.1)with
  |some true=>some (some i)
  |some false=>qE P kt k es (i+1)
  |none=>none
def gb (P:Program) (kt:TypeId) (d:TypeDesc) (k:Value) (es:List (Value×AV)):Option (Option Nat):=
 match ju d k es 0 with
 |some r=>some r
 |none=>qE P kt k es 0
def KeysOf (es:List (Value×AV)) (ms:List MapEntry):Prop:=ms.length=es.length/\∀(j:Nat) (e:Value×AV),es[j]? =some e->∃m:MapEntry,ms[j]? =some m/\m.key=e.1
theorem KeysOf.tail {e:Value×AV}{es:List (Value×AV)}{m:MapEntry}{ms:List MapEntry}(h:KeysOf (e::es) (m::ms)):m.key=e.1/\KeysOf es ms:=by
 obtain⟨m',h1,h2⟩:=h.2 0 e rfl;cases h1;exact⟨h2,by simpa using h.1,λj e' hj=>by
  obtain⟨m',h1,h2⟩:=h.2 (j+1) e' (by simpa using hj);exact⟨m',by simpa using h1,h2⟩⟩
def CL (ms:List MapEntry) (i0:Nat):Option Nat->Option (Nat×Value)
 |none=>none
 |some i=>(ms[i-i0]?).map λm=>(i,m.val)
theorem yy (d:TypeDesc) (k:Value):∀(es:List (Value×AV)) (ms:List MapEntry) (i:Nat),KeysOf es ms->Instr.findNow d k ms i=(ju d k es i).map (CL ms i)/\∀r,ju d k es i=some (some r)->i<=r/\r-i<ms.length
 |[],ms,i,h=>by
  have:ms=[]:=ahK.1 h.1;subst this;exact⟨rfl,λr hr=>by simp[ju]at hr⟩
 |e::es,ms,i,h=>by
  match ms,h with
  |m::ms,h=>
   obtain⟨hk,ht⟩:=h.tail;obtain⟨h1,h2⟩:=yy d k es ms (i+1) ht;unfold Instr.findNow ju;rw[hk]
   cases hs:Instr.sameNow d k e.1 with
   |none=>exact⟨rfl,λr hr=>by cases hr⟩
   |some b=>
    cases b with
    |true=>exact⟨by simp[CL],λr hr=>by cases hr;simp⟩
    |false=>
     dsimp only;refine⟨?_,λr hr=> ?_⟩
     ·rw[h1];cases hf:ju d k es (i+1)with
      |none=>rfl
      |some r=>
       cases r with
       |none=>rfl
       |some r=>
        obtain⟨h3,h4⟩:=h2 r hf;simp only[ahs,CL];rw[show r-i=(r-(i+1))+1 by omega,ahL]
     ·obtain⟨h3,h4⟩:=h2 r hr;simp only[ahv];omega
theorem wq {P:Program}(kt:TypeId) (k:Value) (w:World):∀(es:List (Value×AV)) (ms:List MapEntry) (i:Nat) (r:Option Nat),KeysOf es ms->qE P kt k es i=some r->(Instr.findAsking kt k ms i).run P w= .ok (CL ms i r) w/\∀q,r=some q->i<=q/\q-i<ms.length
 |[],ms,i,r,h,hf=>by
  have:ms=[]:=ahK.1 h.1;subst this;simp only[qE,ag6]at hf;subst hf;exact⟨rfl,λq hq=>by cases hq⟩
 |e::es,ms,i,r,h,hf=>by
  match ms,h with
  |m::ms,h=>
   obtain⟨hk,ht⟩:=h.tail;unfold qE at hf;unfold Instr.findAsking;rw[hk,Sem.run_bind];split at hf
   ·rename_i hs;cases hf;rw[aj hs];exact⟨by simp[CL],λq hq=>by cases hq;simp⟩
   ·rename_i hs;obtain⟨h1,h2⟩:=wq kt k w es ms (i+1) r ht hf;rw[aj hs];simp only[Result.andThen_ok,ahA,if_false];rw[h1];refine⟨?_,λq hq=> ?_⟩
    ·cases r with
     |none=>rfl
     |some q=>
      obtain⟨h3,h4⟩:=h2 q rfl;simp only[CL];rw[show q-i=(q-(i+1))+1 by omega,ahL]
    ·obtain⟨h3,h4⟩:=h2 q hq;simp only[ahv];omega
   ·cases hf
theorem jR {P:Program}{kt:TypeId}{d:TypeDesc}{k:Value}{es:List (Value×AV)}{ms:List MapEntry}{r:Option Nat}(hd:aB P (underlying kt)=some d) (hk:KeysOf es ms) (hf:gb P kt d k es=some r) (w:World):
  (Instr.findKey kt k ms).run P w= .ok (CL ms 0 r) w/\∀q,r=some q->q<ms.length:=by
 unfold Instr.findKey;rw[Sem.run_bind,aj hd];simp only[Result.andThen_ok];obtain⟨h1,h2⟩:=yy d k es ms 0 hk;unfold gb at hf;split at hf
 ·rename_i q hq;cases hf;rw[hq]at h1;rw[h1];exact⟨rfl,λq' e=>by subst e;have:=h2 q' hq;omega⟩
 ·rename_i hq;rw[hq]at h1;rw[h1];obtain⟨h3,h4⟩:=wq (P:=P) kt k w es ms 0 r hk hf;exact⟨h3,λq e=>by have:=h4 q e;omega⟩
section
variable {P:Program}{o:Oper}{T:List AV}{H:aa}{E:Env}{w0 w:World}
theorem nu.keys {l:Nat}{es:List (Value×AV)}{ms:Array MapEntry}{ck:Nat}(h:nu E l es ms ck):KeysOf es ms.toList:=
 ⟨by simpa using h.1,λj e hj=>let ⟨m,h1,h2,_⟩:=h.2.1 j e hj;⟨m,by simpa using h1,h2⟩⟩
theorem wv {E':Env}{l:Nat}{es es':List (Value×AV)}(hl:H[l]? =some (.map es)) (hφ:∀k,E'.φ k=E.φ k) (I2:∀k m,k≠l->E'.G k m=E.G k m) (z c:Nat):owns E' (H.set l (.map es')) z c↔owns E H z c:=by
 have cO:l<H.length:=(ag5.1 hl).1;by_cases hz:l=z
 ·subst hz;unfold owns;rw[ahd cO,hl];simp only[hφ]
 ·unfold owns;rw[ag7 hz]
  cases hq:H[z]? with
  |none=>exact Iff.rfl
  |some q=>
   cases q with
   |dead=>exact Iff.rfl
   |cells cs=>simp only[hφ]
   |tail n sz=>simp only[I2 z n (λe=>hz e.symm)]
   |cu n=>simp only[I2 z n (λe=>hz e.symm)]
   |map es=>simp only[hφ]
   |iter m=>simp only[hφ]
   |mark k=>simp only[hφ]
   |ez f v=>simp only[hφ]
   |cN=>exact Iff.rfl
   |rows es pd=>simp only[hφ,I2 z _ (λe=>hz e.symm)]
theorem Good.CM (g:Good E H w0 w){E':Env}{l b:Nat}{es es':List (Value×AV)}{ms':Array MapEntry}{ck':Nat}(hl:H[l]? =some (.map es)) (hb:E.φ l=some b) (he:E.le E') (hφ:∀k,E'.φ k=E.φ k) (hS:∀c o,E'.S c o=E.S c o) (I2:∀k m,k≠l->E'.G k m=E.G k m) (hr:nu E' l es' ms' ck'):
  Good E' (H.set l (.map es')) w0 { w with heap:=w.heap.setIfInBounds b (.map ms' ck')}/\∃ms ck,w.heap[b]? =some (.map ms ck):=by
 have dI:owns E H l b:=by unfold owns;rw[hl];exact hb
 obtain⟨h1,ms,ck,h3,h4⟩:=g.obj hl b hb;have cO:l<H.length:=(ag5.1 hl).1;have xf:b<w.heap.size:=(aha.1 h3).1;have iz:∀c,c≠b->({ w with heap:=w.heap.setIfInBounds b (.map ms' ck')}:World).heap[c]? =w.heap[c]? :=λc hc=>ahm (Ne.symm hc)
 have kY:=wv (E:=E) (E':=E') (H:=H) (es':=es') hl hφ I2;refine⟨⟨g.below.trans ⟨rfl,rfl,rfl,by simp,λk hk=>iz k (by omega)⟩,?_,?_,?_,?_,?_⟩,ms,ck,h3⟩
 ·intro c o u h;rw[hS]at h;have gX:c≠b:=λe=>by
   subst e;have:=g.snap h;simp[World.cell?,h3]at this
  rw[fF (iz c gX)];exact g.snap h
 ·intro z o h;by_cases hz:l=z
  ·subst hz;rw[ahd cO]at h;simp only[ag6]at h;subst h;intro c hc;rw[hφ,hb]at hc;simp only[ag6]at hc;subst hc;exact⟨h1,ms',ck',by simp[xf],hr⟩
  ·rw[ag7 hz]at h;exact(g.obj h).step h he (λc h=>(hφ z).symm.trans h) (λm=>I2 z m (λe=>hz e.symm)) (λc o _ _ h=>(hS c o).trans h) (λc hc=>iz c (λe=>hz (by subst e;exact g.sep dI hc)))
 ·intro z z' c h h';exact g.sep ((kY _ _).1 h) ((kY _ _).1 h')
 ·intro z hz;have hz':H.length<=z:=by simpa using hz
  have:=g.fresh hz';exact⟨(hφ z).trans this.1,λm=>(I2 z m (by omega)).trans (this.2 m)⟩
 ·intro z c h;have:=g.mb ((hφ z).symm.trans h);simpa using this
theorem Good.I3 (g:Good E H w0 w){l b:Nat}{es es':List (Value×AV)}{ms':Array MapEntry}{ck':Nat}(hl:H[l]? =some (.map es)) (hb:E.φ l=some b) (hr:nu E l es' ms' ck'):
  Good E (H.set l (.map es')) w0 { w with heap:=w.heap.setIfInBounds b (.map ms' ck')}/\∃ms ck,w.heap[b]? =some (.map ms ck):=
 g.CM hl hb (.refl E) (λ_=>rfl) (λ_ _=>rfl) (λ_ _ _=>rfl) hr
theorem qF {E':Env}{n0:Nat}{W:Nat->Prop}(g:Good E H w0 w){l b:Nat}{es es':List (Value×AV)}{ob:Obj}(hW:l<n0->W l) (hl:H[l]? =some (.map es)) (hb:E.φ l=some b) (he:E.le E') (hφ:∀k,E'.φ k=E.φ k) (hS:∀c o,E'.S c o=E.S c o) (I2:∀k m,k≠l->E'.G k m=E.G k m):
  Ext n0 W E H w E' (H.set l (.map es')) { w with heap:=w.heap.setIfInBounds b ob}:=by
 have dI:owns E H l b:=by unfold owns;rw[hl];exact hb
 refine⟨he,⟨by simp,ag3 _⟩,by simp,λ{z} hz hw=> ?_,λ{z c} hz hw ho=> ?_,λ{k} _=>hφ k,λ{c} hc h=>⟨ahm (λe=>h _ (e▸dI)),λz ho=>h z ((wv hl hφ I2 z c).1 ho),λo=>hS c o⟩⟩
 ·have:l≠z:=λe=>hw (e▸hW (e▸hz))
  exact ag7 this
 ·refine ahm (λe=> ?_);subst e;have:=g.sep ho dI;subst this;exact hw (hW hz)
theorem td {n0:Nat}{W:Nat->Prop}(g:Good E H w0 w){l b:Nat}{es es':List (Value×AV)}{ob:Obj}(hW:l<n0->W l) (hl:H[l]? =some (.map es)) (hb:E.φ l=some b):
  Ext n0 W E H w E (H.set l (.map es')) { w with heap:=w.heap.setIfInBounds b ob}:=
 qF g hW hl hb (.refl E) (λ_=>rfl) (λ_ _=>rfl) (λ_ _ _=>rfl)
theorem Good.XQ (g:Good E H w0 w):Good (E.ej H.length w.heap.size) (H++[.map []]) w0 (w.alloc (.map #[] 0)):=by
 refine(g.push (.map #[] 0)).Ba (by rw[eK];omega) (λl ho=>absurd (g.fG ho) (ahZ _)) (λ_ _=>by simp) ?_;intro b hb;rw[cV]at hb;simp only[ag6]at hb;subst hb;exact⟨g.below.size,#[],0,heap_alloc_new w _,rfl,λj e hj=>by simp at hj,λi m hm=>by simp at hm,λi j m m' hm=>by simp at hm,λi x hx=>by
  have Au:E.G H.length i=some x:=hx;rw[(g.fresh (ag3 _)).2 i]at Au;cases Au⟩
theorem EY {t:TypeId}(ho:o.op= .makeMap t none):kX P o T H (.cU H.length) (H++[.map []]) []:=by
 refine fV λE w0 w ρ hg ht=>⟨E.ej H.length w.heap.size,.map (some w.heap.size),w.alloc (.map #[] 0),?_,j3 _ _ (ag3 _) hg _ _,hg.XQ,.cU _ _ (cV _ _ _)⟩
 simp only[execOp,ho,ahU,Instr.makeMap,newObj,Sem.run_bind,Sem.run,Sem.run_pure,Result.andThen_ok,pure_bind];rfl
def vt:AV->Option Value
 | .sc v=>some v
 | .agg cs=>(cs.foldr (λx r=>match Mx x,r with|some v,some vs=>some (v::vs)|_,_=>none) (some [])).map λvs=> .agg vs.toArray
 |_=>none
theorem oO {x:AV}{v k:Value}(hr:Rel E x v) (h:vt x=some k):v=k:=by
 cases hr with
 |sc v hp=>simpa [vt]using h
 |agg cs us hl hk=>
  simp only[vt,ahE]at h;obtain⟨vs,Mz,rfl⟩:=h;have key:∀(cs:List AV) (ws vs:List Value),ws.length=cs.length->(∀(j:Nat) (x:AV),cs[j]? =some x->Rel E x (ws.getD j undef))->cs.foldr (λx r=>match Mx x,r with|some v,some vs=>some (v::vs)|_,_=>none) (some [])=some vs->ws=vs:=by
   intro cs
   induction cs with
   |nil=>
    intro ws vs hl _ h;simp at h;rw[h];exact ahK.1 hl
   |cons c r ih=>
    intro ws vs hl hk h
    match ws,hl with
    |a::ws,hl=>
     rw[List.foldr_cons]at h;split at h
     ·rename_i v TA hv acD;cases h;have h0:=hk 0 c rfl;simp only[List.getD_cons_zero]at h0;rw[EK hv h0,ih ws TA (by simpa using hl) (λj x hj=>by simpa using hk (j+1) x (by simpa using hj)) acD]
     ·cases h
  have:=key cs us.toList vs (by simpa using hl) (λj x hj=>by simpa using hk j x hj) Mz;congr 1;apply aiq;simpa using this
 |_=>simp[vt]at h
structure EZ (P:Program) (t kt et:TypeId) (d:TypeDesc) (z:Value) (k:Value):Prop where
 ty:aB P (underlying t)=some (.map kt et)
 kd:aB P (underlying kt)=some d
 zero:aB P (zeroValue et)=some z
 MM:∀b,aB P (Instr.checkKey b 10000 kt k)=some ()
def MN (es:List (Value×AV)) (z:Value):Option Nat->Option AV
 |some i=>(es[i]?).map (·.2)
 |none=>some (dB z)
theorem mA {t kt et:TypeId}{d:TypeDesc}{z:Value}{p q:Operand}{ok:Bool}{l:Nat}{es:List (Value×AV)}{k:Value}{r:Option Nat}{x:AV}(ho:o.op= .lookup t p q ok) (hT:EZ P t kt et d z k) (hp:bk T p= .cU l) (hl:H[l]? =some (.map es)) (hk:vt (bk T q)=some k)
  (hf:gb P kt d k es=some r) (hx:MN es z r=some x):oH P o T H (if ok then .bq [x,.sc (.bool r.isSome)]else x):=by
 refine cL λE w0 w ρ hg ht=> ?_
 have hr:=ht p (by simp[ho,Op.operands]);rw[hp]at hr;have hq:=oO (ht q (by simp[ho,Op.operands])) hk;generalize hv:ρ p=v at hr
 cases hr with
 |cU l b hb=>
  obtain⟨h1,ms,ck,h3,h4⟩:=hg.obj hl b hb;obtain⟨dz,cO⟩:=jR hT.kd h4.keys hf w;have vu:∃u,((match CL ms.toList 0 r with|some (_,v)=>(.ok (v,true) w:Result (Value×Bool))|none=> .ok (z,false) w)= .ok (u,r.isSome) w)/\Rel E x u:=by
   cases r with
   |none=>
    simp only[MN,ag6]at hx;subst hx;exact⟨z,rfl,fZ E _ z (ahP _)⟩
   |some i=>
    simp only[MN,ahE]at hx;obtain⟨e,he,rfl⟩:=hx;obtain⟨m,hm,_,hrel⟩:=h4.2.1 i e he;have jZ:ms.toList[i]? =some m:=by simpa using hm
    exact⟨m.val,by simp[CL,jZ],hrel⟩
  obtain⟨u,hu,hrel⟩:=vu;refine⟨if ok then .tuple #[u,.bool r.isSome]else u,?_,?_⟩
  ·simp only[execOp,ho,Instr.lookup,hv,hq,Sem.run_bind,aj hT.ty,Result.andThen_ok];have fx:(getObj b).run P w= .ok (.map ms ck) w:=by simp[getObj,Sem.run,h3]
   cases hh:CL ms.toList 0 r with
   |none=>
    rw[hh]at hu dz;simp only[Result.ok.injEq,ahe,and_true]at hu;obtain⟨rfl,h⟩:=hu;simp only[fx,Result.andThen_ok,Sem.run_bind,Sem.run_pure,aj (hT.MM ms.isEmpty),dz,aj hT.zero,←h]
   |some iv=>
    obtain⟨i,v⟩:=iv;rw[hh]at hu dz;simp only[Result.ok.injEq,ahe,and_true]at hu;obtain⟨rfl,h⟩:=hu;simp only[fx,Result.andThen_ok,Sem.run_bind,Sem.run_pure,aj (hT.MM ms.isEmpty),dz,←h]
  ·cases ok with
   |false=>exact hrel
   |true=>
    refine .bq _ _ rfl (λj y hj=> ?_)
    match j,hj with
    |0,hj=>simp at hj;subst hj;exact hrel
    |1,hj=>simp at hj;subst hj;exact .sc _ rfl
theorem Bj {l:Nat}{ms:Array MapEntry}(h:yf E l ms) (m:MapEntry):yf E l (ms.push m):=λi x hx=>by
 obtain⟨h1,m',h2,h3⟩:=h i x hx;have hi:=(aha.1 h2).1;exact⟨h1,m',by rw[ahS,if_neg (by omega)];exact h2,h3⟩
theorem qG {l:Nat}{ms:Array MapEntry}(h:yf E l ms) (k:Nat) (f:MapEntry->MapEntry) (hf:∀m,(f m).born=m.born):yf E l (ms.modify k f):=λi x hx=>by
 obtain⟨h1,m',h2,h3⟩:=h i x hx;rw[aho];by_cases hk:k=i
 ·rw[if_pos hk,h2];exact⟨h1,f m',rfl,(hf m').trans h3⟩
 ·rw[if_neg hk];exact⟨h1,m',h2,h3⟩
def upd (es:List (Value×AV)) (k:Value) (x:AV):Option Nat->List (Value×AV)
 |some i=>es.set i (k,x)
 |none=>es++[(k,x)]
theorem sD {t kt et:TypeId}{d:TypeDesc}{z:Value}{p q s:Operand}{l:Nat}{es:List (Value×AV)}{k:Value}{r:Option Nat}(ho:o.op= .mapUpdate t p q s) (hT:EZ P t kt et d z k) (hp:bk T p= .cU l) (hl:H[l]? =some (.map es))
  (hk:vt (bk T q)=some k) (hf:gb P kt d k es=some r) (hb:∀i,r=some i->∃e,es[i]? =some e/\Instr.sameBits 10000 e.1 k=true):kX P o T H .any (H.set l (.map (upd es k (bk T s) r))) [l]:=by
 refine qx λE w0 w ρ hg ht=> ?_
 have hr:=ht p (by simp[ho,Op.operands]);rw[hp]at hr;have hq:=oO (ht q (by simp[ho,Op.operands])) hk;have hs:=ht s (by simp[ho,Op.operands]);generalize hv:ρ p=v at hr
 cases hr with
 |cU l b AJ=>
  obtain⟨h1,ms,ck,h3,h4⟩:=hg.obj hl b AJ;obtain⟨dz,cO⟩:=jR hT.kd h4.keys hf w;have fx:(getObj b).run P w= .ok (.map ms ck) w:=by simp[getObj,Sem.run,h3]
  have jt:∀o',(setObj b o').run P w= .ok () { w with heap:=w.heap.setIfInBounds b o'}:=λo'=>by simp[setObj,Sem.run,h3]
  cases r with
  |none=>
   have te:nu E l (es++[(k,bk T s)]) (ms.push { key:=k,val:=ρ s,born:=ck}) (ck+1):=by
    refine⟨by simp[h4.1],λj e hj=> ?_,λi m hm=> ?_,λi j m m' hm jZ oP=> ?_,Bj h4.2.2.2.2 _⟩
    ·by_cases rE:j<es.length
     ·rw[ahb rE]at hj;obtain⟨m,hm,nz,w9⟩:=h4.2.1 j e hj;have OL:j<ms.size:=by rw[h4.1];exact rE
      exact⟨m,by rw[ahS,if_neg (by omega)];exact hm,nz,w9⟩
     ·have Pj:j=es.length:=by
       have:=(ag5.1 hj).1;simp at this;omega
      subst Pj;simp at hj;subst hj;exact⟨({ key:=k,val:=ρ s,born:=ck}:MapEntry),by rw[←h4.1];simp,rfl,hs⟩
    ·rw[ahS]at hm;split at hm
     ·cases hm;simp
     ·have:=h4.2.2.1 i m hm;omega
    ·rw[ahS]at hm jZ;split at hm<;>split at jZ
     ·omega
     ·cases hm;have:=h4.2.2.1 j m' jZ;simp only at oP;omega
     ·cases jZ;have:=h4.2.2.1 i m hm;simp only at oP;omega
     ·exact h4.2.2.2.1 i j m m' hm jZ oP
   obtain⟨g',_⟩:=hg.I3 hl AJ te;refine⟨E,_,?_,td hg (λ_=>by simp) hl AJ,g'⟩;simp only[execOp,ho,Instr.mapUpdate,hv,hq,Sem.run_bind,aj hT.ty,Result.andThen_ok,fx,aj (hT.MM false),dz,CL,jt,Sem.run_pure]
  |some i=>
   obtain⟨e,he,E4⟩:=hb i rfl;obtain⟨m,hm,MO,_⟩:=h4.2.1 i e he;have ud:i<ms.size:=(aha.1 hm).1;have te:nu E l (es.set i (k,bk T s)) (ms.modify i λe=>{ e with key:=k,val:=ρ s}) ck:=by
    refine⟨by simp[h4.1],λj e' hj=> ?_,λj m' jZ=> ?_,λj j' m1 m2 ON ue oP=> ?_,qG h4.2.2.2.2 i _ (λ_=>rfl)⟩
    ·by_cases mo:i=j
     ·subst mo;rw[ahd (by rw[←h4.1];exact ud)]at hj;cases hj;exact⟨{ m with key:=k,val:=ρ s},by rw[aho,if_pos rfl,hm];rfl,rfl,hs⟩
     ·rw[ag7 mo]at hj;obtain⟨m',jZ,nz,w9⟩:=h4.2.1 j e' hj;exact⟨m',by rw[aho,if_neg mo];exact jZ,nz,w9⟩
    ·rw[aho]at jZ;split at jZ
     ·rename_i mo;subst mo;rw[hm]at jZ;cases jZ;exact h4.2.2.1 i m hm
     ·exact h4.2.2.1 j m' jZ
    ·have born:∀(j:Nat) (m1:MapEntry),(ms.modify i λe=>{ e with key:=k,val:=ρ s})[j]? =some m1->∃m0,ms[j]? =some m0/\m0.born=m1.born:=by
      intro j m1 h;rw[aho]at h;split at h
      ·rename_i mo;subst mo;rw[hm]at h;cases h;exact⟨m,hm,rfl⟩
      ·exact⟨m1,h,rfl⟩
     obtain⟨n1,tf,mr⟩:=born j m1 ON;obtain⟨n2,vw,vg⟩:=born j' m2 ue;exact h4.2.2.2.1 j j' n1 n2 tf vw (by rw[mr,vg,oP])
   obtain⟨g',_⟩:=hg.I3 hl AJ te;refine⟨E,_,?_,td hg (λ_=>by simp) hl AJ,g'⟩;have Pk:ms.toList[i]? =some m:=by simpa using hm
   have E5:(Instr.keyThatStays m.key k).run P w= .ok k w:=by
    unfold Instr.keyThatStays;rw[MO,E4];rfl
   simp only[execOp,ho,Instr.mapUpdate,hv,hq,Sem.run_bind,aj hT.ty,Result.andThen_ok,fx,aj (hT.MM false),dz,CL,Nat.sub_zero,Pk,ahs,hm,ahN,E5,jt,Sem.run_pure]
def Env.mB (E:Env) (l i n:Nat):Env:={ E with G:=λx m=>if x=l/\m=i then some (n,0)else E.G x m}
theorem E6 {l i n:Nat}(h:∀x,E.G l i=some x->x=(n,0)):E.le (E.mB l i n):=
 ⟨λh=>h,λh=>h,λ{t m x} hx=>by
  by_cases hc:t=l/\m=i
  ·obtain⟨rfl,rfl⟩:=hc;simp[Env.mB,h x hx]
  ·simp[Env.mB,hc,hx]⟩
theorem tg (E:Env) (l i n:Nat):(E.mB l i n).G l i=some (n,0):=by simp[Env.mB]
theorem yz {l i n:Nat}{ms:Array MapEntry}(h:yf E l ms){m:MapEntry}(hm:ms[i]? =some m) (hn:m.born=n):yf (E.mB l i n) l ms:=λj x hx=>by
 by_cases hj:j=i
 ·subst hj;rw[tg]at hx;cases hx;exact⟨rfl,m,hm,hn⟩
 ·exact h j x (by simpa [Env.mB,hj]using hx)
theorem uf {t kt et:TypeId}{d:TypeDesc}{z:Value}{p q:Operand}{l:Nat}{es:List (Value×AV)}{k:Value}{r:Option Nat}{i:Nat}{x:AV}{es':List (Value×AV)}(ho:o.op= .mapEntry t p q) (hT:EZ P t kt et d z k) (hp:bk T p= .cU l) (hl:H[l]? =some (.map es))
  (hk:vt (bk T q)=some k) (hf:gb P kt d k es=some r)
  (hb:(r=none/\i=es.length/\x=dB z/\es'=es++[(k,dB z)])∨(∃e,r=some i/\es[i]? =some e/\Instr.sameBits 10000 e.1 k=true/\x=e.2/\es'=es.set i (k,e.2))):
  kX P o T H (.bq [x,.fp l i]) (H.set l (.map es')) [l]:=by
 refine fV λE w0 w ρ hg ht=> ?_
 have hr:=ht p (by simp[ho,Op.operands]);rw[hp]at hr;have hq:=oO (ht q (by simp[ho,Op.operands])) hk;generalize hv:ρ p=v at hr
 cases hr with
 |cU l b AJ=>
  obtain⟨h1,ms,ck,h3,h4⟩:=hg.obj hl b AJ;obtain⟨dz,cO⟩:=jR hT.kd h4.keys hf w;have fx:(getObj b).run P w= .ok (.map ms ck) w:=by simp[getObj,Sem.run,h3]
  have jt:∀o',(setObj b o').run P w= .ok () { w with heap:=w.heap.setIfInBounds b o'}:=λo'=>by simp[setObj,Sem.run,h3]
  have pair:∀{E2:Env} {u:Value} {n:Nat},Rel E2 x u->E2.G l i=some (n,0)->Rel E2 (.bq [x,.fp l i]) (.tuple #[u,goInt n]):=by
   intro E2 u n hu hG;refine .bq _ _ rfl (λj y hj=> ?_)
   match j,hj with
   |0,hj=>simp at hj;subst hj;exact hu
   |1,hj=>simp at hj;subst hj;exact .fp l i n hG
  rcases hb with ⟨rfl,rfl,rfl,rfl⟩|⟨e,rfl,he,E4,rfl,rfl⟩
  ·have Z0:∀y,E.G l es.length=some y->y=(ck,0):=λy hy=>by
    obtain⟨_,m,hm,_⟩:=h4.2.2.2.2 _ y hy;have:=(aha.1 hm).1;rw[h4.1]at this;omega
   have hle:=E6 (E:=E) (l:=l) (i:=es.length) (n:=ck) Z0;have te:nu (E.mB l es.length ck) l (es++[(k,dB z)]) (ms.push { key:=k,val:=z,born:=ck}) (ck+1):=by
    refine⟨by simp[h4.1],λj e hj=> ?_,λi m hm=> ?_,λi j m m' hm jZ oP=> ?_,yz (m:={ key:=k,val:=z,born:=ck}) (Bj h4.2.2.2.2 _) (by rw[←h4.1];simp) rfl⟩
    ·by_cases rE:j<es.length
     ·rw[ahb rE]at hj;obtain⟨m,hm,nz,w9⟩:=h4.2.1 j e hj;have OL:j<ms.size:=by rw[h4.1];exact rE
      exact⟨m,by rw[ahS,if_neg (by omega)];exact hm,nz,w9.mono hle⟩
     ·have Pj:j=es.length:=by
       have:=(ag5.1 hj).1;simp at this;omega
      subst Pj;simp at hj;subst hj;exact⟨({ key:=k,val:=z,born:=ck}:MapEntry),by rw[←h4.1];simp,rfl,fZ _ _ z (ahP _)⟩
    ·rw[ahS]at hm;split at hm
     ·cases hm;simp
     ·have:=h4.2.2.1 i m hm;omega
    ·rw[ahS]at hm jZ;split at hm<;>split at jZ
     ·omega
     ·cases hm;have:=h4.2.2.1 j m' jZ;simp only at oP;omega
     ·cases jZ;have:=h4.2.2.1 i m hm;simp only at oP;omega
     ·exact h4.2.2.2.1 i j m m' hm jZ oP
   have I2:∀k m,k≠l->(E.mB l es.length ck).G k m=E.G k m:=λk m gX=>by simp[Env.mB,gX]
   obtain⟨g',_⟩:=hg.CM hl AJ hle (λ_=>rfl) (λ_ _=>rfl) I2 te;refine⟨E.mB l es.length ck,.tuple #[z,goInt ck],_,?_,qF hg (λ_=>by simp) hl AJ hle (λ_=>rfl) (λ_ _=>rfl) I2,g',pair (fZ _ _ z (ahP _)) (tg _ _ _ _)⟩;simp only[execOp,ho,Instr.mapEntry,hv,hq,Sem.run_bind,aj hT.ty,Result.andThen_ok,fx,aj (hT.MM false),dz,CL,aj hT.zero,jt,Sem.run_pure]
  ·obtain⟨m,hm,MO,hrel⟩:=h4.2.1 i e he;have ud:i<ms.size:=(aha.1 hm).1;have MP:∀y,E.G l i=some y->y=(m.born,0):=λy hy=>by
    obtain⟨h0,m',jZ,iw⟩:=h4.2.2.2.2 i y hy;rw[hm]at jZ;cases jZ;obtain⟨y1,y2⟩:=y;simp only at h0 iw;rw[h0,iw]
   have hle:=E6 (E:=E) (l:=l) (i:=i) (n:=m.born) MP;have born:∀(j:Nat) (m1:MapEntry),(ms.modify i λe=>{ e with key:=k})[j]? =some m1->∃m0,ms[j]? =some m0/\m0.born=m1.born:=by
    intro j m1 h;rw[aho]at h;split at h
    ·rename_i mo;subst mo;rw[hm]at h;cases h;exact⟨m,hm,rfl⟩
    ·exact⟨m1,h,rfl⟩
   have te:nu (E.mB l i m.born) l (es.set i (k,e.2)) (ms.modify i λe=>{ e with key:=k}) ck:=by
    refine⟨by simp[h4.1],λj e' hj=> ?_,λj m' jZ=> ?_,λj j' m1 m2 ON ue oP=> ?_,yz (m:={ m with key:=k}) (qG h4.2.2.2.2 i _ (λ_=>rfl)) (by rw[aho,if_pos rfl,hm];rfl) rfl⟩
    ·by_cases mo:i=j
     ·subst mo;rw[ahd (by rw[←h4.1];exact ud)]at hj;cases hj;exact⟨{ m with key:=k},by rw[aho,if_pos rfl,hm];rfl,rfl,hrel.mono hle⟩
     ·rw[ag7 mo]at hj;obtain⟨m',jZ,nz,w9⟩:=h4.2.1 j e' hj;exact⟨m',by rw[aho,if_neg mo];exact jZ,nz,w9.mono hle⟩
    ·obtain⟨n1,tf,mr⟩:=born j m' jZ;rw[←mr];exact h4.2.2.1 j n1 tf
    ·obtain⟨n1,tf,mr⟩:=born j m1 ON;obtain⟨n2,vw,vg⟩:=born j' m2 ue;exact h4.2.2.2.1 j j' n1 n2 tf vw (by rw[mr,vg,oP])
   have I2:∀k m',k≠l->(E.mB l i m.born).G k m'=E.G k m':=λk m' gX=>by simp[Env.mB,gX]
   obtain⟨g',_⟩:=hg.CM hl AJ hle (λ_=>rfl) (λ_ _=>rfl) I2 te;refine⟨E.mB l i m.born,.tuple #[m.val,goInt m.born],_,?_,qF hg (λ_=>by simp) hl AJ hle (λ_=>rfl) (λ_ _=>rfl) I2,g',pair (hrel.mono hle) (tg _ _ _ _)⟩;have Pk:ms.toList[i]? =some m:=by simpa using hm
   have E5:(Instr.keyThatStays m.key k).run P w= .ok k w:=by
    unfold Instr.keyThatStays;rw[MO,E4];rfl
   simp only[execOp,ho,Instr.mapEntry,hv,hq,Sem.run_bind,aj hT.ty,Result.andThen_ok,fx,aj (hT.MM false),dz,CL,Nat.sub_zero,Pk,ahs,hm,ahN,E5,jt,Sem.run_pure]
theorem yA {t:TypeId}{p s q:Operand}{l i:Nat}{es:List (Value×AV)}{e:Value×AV}(ho:o.op= .entryStore t p s q) (hp:bk T p= .cU l) (hs:bk T s= .fp l i) (hl:H[l]? =some (.map es)) (he:es[i]? =some e):
  kX P o T H .any (H.set l (.map (es.set i (e.1,bk T q)))) [l]:=by
 refine qx λE w0 w ρ hg ht=> ?_
 have hr:=ht p (by simp[ho,Op.operands]);rw[hp]at hr;have XR:=ht s (by simp[ho,Op.operands]);rw[hs]at XR;have hq:=ht q (by simp[ho,Op.operands]);generalize hv:ρ p=v at hr;generalize hu:ρ s=u at XR
 cases hr with
 |cU l b AJ=>
  cases XR with
  |fp l i n hG=>
   obtain⟨h1,ms,ck,h3,h4⟩:=hg.obj hl b AJ;obtain⟨_,m,hm,hmn⟩:=h4.2.2.2.2 i _ hG;simp only at hmn;have ud:i<ms.size:=(aha.1 hm).1;have fx:(getObj b).run P w= .ok (.map ms ck) w:=by simp[getObj,Sem.run,h3]
   have jt:∀o',(setObj b o').run P w= .ok () { w with heap:=w.heap.setIfInBounds b o'}:=λo'=>by simp[setObj,Sem.run,h3]
   have hmi:ms[i]=m:=(aha.1 hm).2;have wx:ms.findIdx? (λe=>(e.born:Int)==(n:Int))=some i:=by
    rw[Array.findIdx?_eq_some_iff_getElem];refine⟨ud,by rw[hmi,hmn];simp,λj hj=> ?_⟩;have rE:j<ms.size:=by omega
    intro hc;simp only[beq_iff_eq]at hc;have:=h4.2.2.2.1 j i ms[j] m (by simp[rE]) hm (by omega);omega
   have born:∀(j:Nat) (m1:MapEntry),(ms.modify i λe=>{ e with val:=ρ q})[j]? =some m1->∃m0,ms[j]? =some m0/\m0.born=m1.born:=by
    intro j m1 h;rw[aho]at h;split at h
    ·rename_i mo;subst mo;rw[hm]at h;cases h;exact⟨m,hm,rfl⟩
    ·exact⟨m1,h,rfl⟩
   obtain⟨m0,hm0,Av,_⟩:=h4.2.1 i e he;have te:nu E l (es.set i (e.1,bk T q)) (ms.modify i λe=>{ e with val:=ρ q}) ck:=by
    refine⟨by simp[h4.1],λj e' hj=> ?_,λj m' jZ=> ?_,λj j' m1 m2 ON ue oP=> ?_,qG h4.2.2.2.2 i _ (λ_=>rfl)⟩
    ·by_cases mo:i=j
     ·subst mo;rw[ahd (by rw[←h4.1];exact ud)]at hj;cases hj;exact⟨{ m0 with val:=ρ q},by rw[aho,if_pos rfl,hm0];rfl,Av,hq⟩
     ·rw[ag7 mo]at hj;obtain⟨m',jZ,nz,w9⟩:=h4.2.1 j e' hj;exact⟨m',by rw[aho,if_neg mo];exact jZ,nz,w9⟩
    ·obtain⟨n1,tf,mr⟩:=born j m' jZ;rw[←mr];exact h4.2.2.1 j n1 tf
    ·obtain⟨n1,tf,mr⟩:=born j m1 ON;obtain⟨n2,vw,vg⟩:=born j' m2 ue;exact h4.2.2.2.1 j j' n1 n2 tf vw (by rw[mr,vg,oP])
   obtain⟨g',_⟩:=hg.I3 hl AJ te;refine⟨E,_,?_,td hg (λ_=>by simp) hl AJ,g'⟩;simp only[execOp,ho,Instr.entryStore,hv,hu,Sem.run_bind,Result.andThen_ok,fx,asInt,asIntOf,Sem.run_pure,wx,jt]
theorem I4 {t kt et:TypeId}{c:Call}{p:Operand}{l:Nat}{es:List (Value×AV)}(ho:o.op= .call c) (hc:c.callee= .builtin .len) (ha:c.args= #[p]) (TT:c.argTypes[0]? =some t) (hu:aB P (underlying t)=some (.map kt et))
  (hp:bk T p= .cU l) (hl:H[l]? =some (.map es)):oH P o T H (.sc (.int .i64 es.length)):=by
 refine cL λE w0 w ρ hg ht=> ?_
 have hr:=ht p (by simp[ho,Op.operands,Call.operands,ha]);rw[hp]at hr;generalize hv:ρ p=v at hr
 cases hr with
 |cU l b hb=>
  obtain⟨h1,ms,ck,h3,h4⟩:=hg.obj hl b hb;refine⟨.int .i64 es.length,?_,.sc _ rfl⟩;simp[execOp,ho,resolve,hc,invoke,builtin,Builtin.len_,TT,ha,hv,aj hu,goInt,getObj,Sem.run,h3,h4.1]
theorem MQ {t kt et:TypeId}{p:Operand}{l:Nat}{es:List (Value×AV)}(ho:o.op= .range t p) (hu:aB P (underlying t)=some (.map kt et)) (hp:bk T p= .cU l) (hl:H[l]? =some (.map [])):kX P o T H (.ptr H.length 0) (H++[.iter l]) []:=by
 refine fV λE w0 w ρ hg ht=> ?_
 have hr:=ht p (by simp[ho,Op.operands]);rw[hp]at hr;generalize hv:ρ p=v at hr
 cases hr with
 |cU l b hb=>
  obtain⟨h1,ms,ck,h3,h4⟩:=hg.obj hl b hb;have cO:l<H.length:=(ag5.1 hl).1;refine⟨E.ej H.length w.heap.size,.pointer (some ⟨w.heap.size,0,none⟩),w.alloc (.mapIter (some b) ck #[] ck),?_,j3 _ _ (ag3 _) hg _ _,?_,.ptr _ _ _ (cV _ _ _)⟩
  ·have fx:(getObj b).run P w= .ok (.map ms ck) w:=by simp[getObj,Sem.run,h3]
   simp only[execOp,ho,Instr.range,hv,Sem.run_bind,aj hu,Result.andThen_ok,fx,newObj,Sem.run,Sem.run_pure,pure_bind];rfl
  ·refine(hg.push (.mapIter (some b) ck #[] ck)).Ba (by rw[eK];omega) (λl ho=>absurd (hg.fG ho) (ahZ _)) (λ_ _=>by simp) ?_;intro c hc;rw[cV]at hc;simp only[ag6]at hc;subst hc;exact⟨hg.below.size,b,ck,(Env.j2 (hg.fresh (ag3 _)).1).φ hb,heap_alloc_new w _⟩
theorem AK {p:Operand}{l m:Nat}(ho:o.op= .next p false) (hp:bk T p= .ptr l 0) (hl:H[l]? =some (.iter m)) (hm:H[m]? =some (.map [])):kX P o T H (.bq [.sc (.bool false)]) H []:=by
 refine fV λE w0 w ρ hg ht=> ?_
 have hr:=ht p (by simp[ho,Op.operands]);rw[hp]at hr;generalize hv:ρ p=v at hr
 cases hr with
 |ptr l o b hb=>
  obtain⟨h1,r,ck,h2,h3⟩:=hg.obj hl b hb;obtain⟨h5,ms,ck',h6,h7⟩:=hg.obj hm r h2;have rH:ms= #[]:=Array.eq_empty_of_size_eq_zero h7.1;subst rH;refine⟨E,.tuple #[.bool false],w,?_,.refl _ _ _ _ _,hg,.bq _ _ rfl (λj x hj=> ?_)⟩
  ·simp only[execOp,ho,Instr.next,hv,Sem.run_bind,getObj,Sem.run,h3,h6,Result.andThen_ok];have hf:∀q:MapEntry->Bool,Array.filter q #[] 0 0= #[]:=λ_=>rfl
   simp[choose,Sem.run,Question.forced,Question.cut,Result.andThen,hf]
  ·match j,hj with
   |0,hj=>simp at hj;subst hj;exact .sc _ rfl
def lG:Nat->(Nat->List AV)->Option (List Int)
 |0,_=>some []
 |n+1,el=>match el 0 with
  |[.sc (.int .u8 k)]=>(lG n (λi=>el (i+1))).map (k::·)
  |_=>none
def yB (ns:List Int):ByteArray:=ns.foldl (λr n=>r.push (UInt8.ofNat n.toNat)) ByteArray.empty
theorem yC:∀(n:Nat) (el:Nat->List AV) (ns:List Int),lG n el=some ns->ns.length=n/\∀j k,ns[j]? =some k->el j=[.sc (.int .u8 k)]
 |0,el,ns,h=>by
  simp only[lG,ag6]at h;subst h;exact⟨rfl,λj k hj=>by simp at hj⟩
 |n+1,el,ns,h=>by
  unfold lG at h;split at h
  ·rename_i k h0;rw[ahE]at h;obtain⟨ms,rH,rfl⟩:=h;obtain⟨h1,h2⟩:=yC n _ ms rH;refine⟨by simp[h1],λj q hj=> ?_⟩
   cases j with
   |zero=>simp at hj;subst hj;exact h0
   |succ j=>exact h2 j q (by simpa using hj)
  ·cases h
theorem CN {src dst elem:TypeId}{p:Operand}{nl:Bool}{sz n:Nat}{el:Nat->List AV}{own:Own}{ns:List Int}(ho:o.op= .convert src dst p) (vl:aB P (underlying src)=some (.slice elem)) (yq:aB P (underlying dst)=some .string)
  (hu3:aB P (underlying elem)=some (.int .u8)) (hp:bk T p= .aY nl sz n el own) (ga:sz=1∨n=0) (hns:lG n el=some ns):oH P o T H (.sc (.string (yB ns))):=by
 refine cL λE w0 w ρ hg ht=>⟨.string (yB ns),?_,.sc _ rfl⟩
 obtain⟨hlen,KQ⟩:=yC n el ns hns;have hr:=ht p (by simp[ho,Op.operands]);rw[hp]at hr;generalize hv:ρ p=v at hr;have Pl:∀a l c,(convert src dst (.slice a l c)).run P w=(Conv.bytesToString (.slice a l c)).run P w:=λa l c=>by
  simp[convert,aj vl,aj yq,aj hu3]
 have dz:(convert src dst v).run P w= .ok (.string (yB ns)) w:=by
  cases hr with
  |fw sz el own h=>
   have:ns=[]:=ahK.1 hlen;subst this;rw[Pl];simp[Conv.bytesToString,yB]
  |gG sz el own a h=>
   have:ns=[]:=ahK.1 hlen;subst this;rw[Pl];exact run_bytesToString w _ _ _ [] (by simp[loadCells,loadCellsFrom,Sem.run])
  |aY sz n el own b off c u hn r5 hc hl h1 hS hk=>
   rw[Pl];refine run_bytesToString w _ _ _ ns ?_;have:=run_loadCells_list (P:=P) (w:=w) ⟨b,off,none⟩ (ns.map (Value.int .u8)) (λj v hj=> ?_)
   ·rw[air,hlen]at this;exact this
   ·rw[ahy,ahE]at hj;obtain⟨k,hj,rfl⟩:=hj;have sv:j<n:=by rw[←hlen];exact(ag5.1 hj).1
    have XO:sz=1:=by omega
    subst XO;have e:=KQ j k hj;have h2:=hS j sv 0 (.sc (.int .u8 k)) (by rw[e];rfl);have h3:=hk j sv 0 (.sc (.int .u8 k)) (by rw[e];rfl);generalize u j 0=q at h2 h3;cases h3;rw[dV];have:=hg.snap h2;simpa using this
 simp only[execOp,ho,hv,Sem.run_bind,dz,Result.andThen_ok,Sem.run_pure]
theorem xg {t elem:TypeId}{n sz:Nat}{ps:Array (Nat×Operand)}{z:Value}{zs cs:List AV}(ho:o.op= .buildSlice t n ps) (hu:aB P (underlying t)=some (.slice elem)) (hs:aB P (Go.sizeOf elem)=some sz)
  (hz:aB P (zeroValue elem)=some z) (Xy:(dB z).cells=zs) (ZL:jG (dB z)=true) (ZM:0<zs.length) (j9:0<n*sz/\n*sz<=2 ^ 24)
  (hf:sw (λi=>some (i*sz,sz)) ((List.range (n*sz)).map λi=>zs.getD (i % zs.length) .any) (ps.toList.map λ(i,x)=>(i,bk T x))=some cs) (hn:n<=maxLen):kX P o T H (.nK H.length sz n) (H++[.cells cs]) []:=by
 refine fV λE w0 w ρ hg ht=> ?_
 have Zi:=fZ E _ z (ahP _);have IF:RA E zs z.cells:=Xy▸jN Zi ZL;obtain⟨hl,hr⟩:=vj ps (λy hy=>ht y.2 (by simp only[ho,Op.operands];simp only[List.mem_toArray,ahQ];exact⟨y,by simpa using hy,rfl⟩));obtain⟨out,CD,Ub⟩:=xF _ _ _ _ _ (yo IF (n*sz) (.inr ZM)) hl hr hf;refine⟨E.ej H.length w.heap.size,.slice (some ⟨w.heap.size,0,none⟩) n n,w.alloc (.cells out elem),?_,j3 _ _ (ag3 _) hg _ _,hg.new elem Ub.cells,.nK _ _ _ _ (cV _ _ _) hn⟩;have h0:¬(n*sz=0):=by omega
 simp only[execOp,ho,Instr.buildSlice,Sem.run_bind,aj hu,aj hs,Result.andThen_ok];rw[if_neg (by omega)];simp only[h0,if_false,Sem.run_bind,aj hz,Sem.run_pure,Result.andThen_ok];rw[CD];simp only[newRow,newObj,Sem.run_bind,Sem.run,Sem.run_pure,Result.andThen_ok];rfl
theorem oQ (g:Good E H w0 w) (l:Nat):Good E (H.set l .dead) w0 w/\∀k b,owns E (H.set l .dead) k b->owns E H k b/\k≠l:=by
 have kill:∀k b,owns E (H.set l .dead) k b->owns E H k b/\k≠l:=by
  intro k b h;by_cases hk:l=k
  ·subst hk;have cO:=my h;unfold owns at h;rw[ahd (by simpa using cO)]at h;exact h.elim
  ·refine⟨?_,λe=>hk e.symm⟩;unfold owns at h ⊢;rwa [ag7 hk]at h
 refine⟨⟨g.below,λh=>g.snap h,λ{k o} h=> ?_,λ{k k' b} h1 h2=>g.sep (kill _ _ h1).1 (kill _ _ h2).1,λ{k} h=>g.fresh (by simpa using h),λh=>g.mb h⟩,kill⟩;by_cases hk:l=k
 ·subst hk;have cO:l<H.length:=by have:=(ag5.1 h).1;simpa using this
  rw[ahd cO]at h;cases h;exact trivial
 ·rw[ag7 hk]at h;exact g.obj h
theorem yD {t elem:TypeId}{p:Operand}{l n:Nat}{cs:List AV}(ho:o.op= .convert t t p) (hu:aB P (underlying t)=some (.slice elem)) (hu8:aB P (underlying elem)=some (.int .u8)) (hp:bk T p= .nK l 1 n) (hl:H[l]? =some (.cells cs)) (XG:cs.length=n) (Is:∀x∈cs,O7 x=true):
  kX P o T H (.aY false 1 n (rowOf 1 cs) .tight) (H.set l .dead) [l]:=by
 refine fV λE w0 w ρ hg ht=> ?_
 have hr:=ht p (by simp[ho,Op.operands]);rw[hp]at hr;generalize hv:ρ p=v at hr
 cases hr with
 |nK l sz n b hb hn=>
  obtain⟨jO,WN,arr,ty,hh,MC⟩:=hg.obj hl b hb;have dI:owns E H l b:=by unfold owns;rw[hl];exact hb
  obtain⟨gk,kill⟩:=oQ hg l;have eU:∀k,¬owns E (H.set l .dead) k b:=λk hk=>(kill k b hk).2 (hg.sep (kill k b hk).1 dI)
  have xf:b<w.heap.size:=(aha.1 hh).1;have mr:(w.freeze ⟨b,arr.size,none⟩ 1).heap[b]? =some (.cells arr ty (arr.size,arr.size+1)):=by
   unfold World.freeze;rw[if_neg (by omega)];simp only[aho,if_true,hh,ahs];simp
  have iz:∀c,c≠b->(w.freeze ⟨b,arr.size,none⟩ 1).heap[c]? =w.heap[c]? :=by
   intro c hc;simp[World.freeze,aho,Ne.symm hc]
  have Bf:(w.freeze ⟨b,arr.size,none⟩ 1).heap.size=w.heap.size:=by simp[World.freeze]
  have g1:Good E (H.set l .dead) w0 (w.freeze ⟨b,arr.size,none⟩ 1):=by
   refine⟨gk.below.trans ⟨rfl,rfl,rfl,by rw[Bf];exact ag3 _,λk hk=>iz k (by omega)⟩,λ{c o u} h=> ?_,λ{k q} h=> ?_,gk.sep,gk.fresh,λh=>by rw[Bf];exact gk.mb h⟩
   ·have gX:c≠b:=λe=>by subst e;rw[WN]at h;cases h
    rw[fF (iz c gX)];exact gk.snap h
   ·exact(gk.obj h).step h (.refl E) (λ_ h=>h) (λ_=>rfl) (λ_ _ _ _ h=>h) (λc hc=>iz c (λe=>eU k (e▸hc)))
  have g2:=g1.stay (b:=b) (f:=(arr[·]?)) eU (λo u h=>by unfold World.cell?;rw[mr];simpa using h);have Z1:∀o,(E.fW b (arr[·]?)).S b o=arr[o]? :=λo=>by simp[Env.fW,WN o]
  refine⟨E.fW b (arr[·]?),.slice (some ⟨b,0,none⟩) n n,w.freeze ⟨b,arr.size,none⟩ 1,?_,⟨j4 _ _ _,⟨by rw[Bf];exact ag3 _,ag3 _⟩,by simp,λ{k} hk hw=>ag7 (λe=>hw (by simp[e])),λ{k c} hk hw hc=>iz c (λe=> ?_),λ_=>rfl,λ{x} hx h=>⟨iz x (λe=>h l (e▸dI)),λk ho=> ?_,λo=> ?_⟩⟩,g2,?_⟩
  ·have hsh:World.shape? w b=some (ty,arr.size):=by
    unfold World.shape?;rw[hh]
   simp only[execOp,ho,hv,convert,Sem.run_bind,aj hu,aj hu8,Result.andThen_ok,beq_self_eq_true,markStringish,shape,freeze,Sem.run,hsh,Sem.run_pure]
  ·subst e;have:=hg.sep hc dI;subst this;exact hw (by simp)
  ·have r5:owns E (H.set l .dead) k x:=ho;exact h k (kill k x r5).1
  ·have gX:x≠b:=λe=>h l (e▸dI)
   simp[Env.fW,gX]
  ·refine .aY 1 n _ .tight b 0 n (λi j=>arr.getD (i*1+j) undef) hn rfl (ag3 _) (λi hi=>tY (by simpa using XG) hi) (λi hi x hx=>KC (Is x (List.mem_of_mem_drop (List.mem_of_mem_take hx)))) (λi hi j x hj=> ?_) (λi hi j x hj=> ?_)
   ·have su:=rD hj;obtain⟨u,hu,_⟩:=MC _ x su;rw[Z1,ahF,hu];simp only[ahh,hu,ahN]
   ·have su:=rD hj;obtain⟨u,hu,hrel⟩:=MC _ x su;have e:arr.getD (i*1+j) undef=u:=by simp only[ahh,hu];rfl
    rw[e];exact hrel.lf (IU (Is x (ahf su))) (λh=>(j4 E b (arr[·]?)).S h)
theorem E7 {c:Call}{p q:Operand}{sz bytes:Nat}{nl:Bool}{el el2:Nat->List AV}{own:Own}{mO:Nat}(hc:xa P c p q sz bytes) (ho:o.op= .call c) (hp:bk T p= .aY nl mO 0 el own) (hq:jj sz (bk T q)=some (1,el2))
  (dI:own= .tight∨nl=true) (j9:(0+1)*bytes<=2 ^ 46):kX P o T H (.qv H.length sz 1) (H++[.cells (el2 0)]) []:=by
 refine fV λE w0 w ρ hg ht=> ?_
 have hr:=ht p (by simp[ho,Op.operands,Call.operands,hc.args]);rw[hp]at hr;generalize hv:ρ p=v at hr;have key:∃A k nT,v= .slice A 0 k/\k<0+1/\Rel E (.aY nl sz 0 el nT) v:=by
  cases hr with
  |fw _ _ _ h=>exact⟨_,_,own,rfl,by omega,.fw _ _ _ h⟩
  |gG _ _ _ a h=>exact⟨_,_,own,rfl,by omega,.gG _ _ _ a h⟩
  |aY _ _ _ _ b off k u hn r5 O4 hl h1 hS ix=>
   rcases dI with rfl|h
   ·have:k=0:=r5;subst this;exact⟨_,_,.tight,rfl,by omega,.aY sz 0 el _ b off 0 u hn rfl (ag3 _) (λi hi=>by omega) (λi hi=>by omega) (λi hi=>by omega) (λi hi=>by omega)⟩
   ·cases h
 obtain⟨A,k,nT,rfl,hk,xb⟩:=key;obtain⟨c',us,vs,Z,elem,h1,h2,h3,h4,h5,dz⟩:=IP hc (ht q (by simp[ho,Op.operands,Call.operands,hc.args])) hg ho (hv▸xb) hv hq hk j9 (by omega);have XD:us=[]:=by
  cases us with
  |nil=>rfl
  |cons a r=>simp at h2
 subst XD;have g1:Good E H w0 w.drew:=hg.drew;have wb:mn E (el2 0) (([]:List Value).toArray++vs.toArray++Z):=by
  intro j x hj;have hrel:=h5 0 (by omega) j x hj;have rE:j<vs.length:=by
   have:=(ag5.1 hj).1;rw[(h4 0 (by omega)).1]at this;omega
  refine⟨vs.getD j undef,?_,?_⟩
  ·rw[ah1 (by simpa using rE)];simp[ag4,ahc rE]
  ·rw[Nat.zero_mul,ahF]at hrel;exact hrel.mono (Env.xD E)
 refine⟨E.ej H.length w.drew.heap.size,_,_,dz,(qA _ _).trans (j3 _ _ (ag3 _) g1 _ _),g1.new elem wb,.qv _ _ _ _ _ (cV _ _ _) h1⟩
end
inductive Ev (α:Type) where
 |ok (a:α)
 |bad (tr:List Nat)
def vx (P:Program) (t:TypeId) (k:Value):Option (TypeId×TypeDesc×Value):=
 match aB P (underlying t)with
 |some (.map kt et)=>match aB P (underlying kt),aB P (zeroValue et),aB P (Instr.checkKey true 10000 kt k),aB P (Instr.checkKey false 10000 kt k)with
  |some d,some z,some _,some _=>some (kt,d,z)
  |_,_,_,_=>none
 |_=>none
theorem kR {P:Program}{t kt:TypeId}{d:TypeDesc}{z k:Value}(h:vx P t k=some (kt,d,z)):∃et,EZ P t kt et d z k:=by
 unfold vx at h;split at h
 ·rename_i kt' et hu;split at h
  ·rename_i d' z' a b h1 h2 h3 h4;cases h;exact⟨et,hu,h1,h2,λb=>match b with|true=>h3|false=>h4⟩
  ·cases h
 ·cases h
def yE:TypeDesc->Bool
 | .interface _=>false
 |_=>true
theorem I5 {P:Program}{o:Oper}{T:List AV}{H:aa}{x:Operand}{xt t:TypeId}{d:TypeDesc}{v:AV}(ho:o.op= .typeAssert x xt t true) (hu:aB P (underlying t)=some d) (hd:yE d=true) (hx:bk T x= .lD t v):oH P o T H (.bq [v,.sc (.bool true)]):=by
 refine cL λE w0 w ρ hg ht=> ?_
 have hr:=ht x (by simp[ho,Op.operands]);rw[hx]at hr;generalize hv:ρ x=u at hr
 cases hr with
 |lD t v u k=>
  refine⟨.tuple #[u,.bool true],?_,.bq _ _ rfl (λj y hj=> ?_)⟩
  ·simp only[execOp,ho,Instr.typeAssert,hv,Sem.run_bind,aj hu,Result.andThen_ok];cases d<;>simp_all [yE]
  ·match j,hj with
   |0,hj=>simp at hj;subst hj;exact k
   |1,hj=>simp at hj;subst hj;exact .sc _ rfl
def wy (P:Program) (o:Oper) (T:List AV) (H:aa):Option (AV×aa×List Nat):=
 match o.op with
 | .typeAssert p _ t true=>match bk T p,aB P (underlying t)with
  | .lD t' v,some d=>if t'=t/\yE d=true then some (.bq [v,.sc (.bool true)],H,[])else none
  |_,_=>none
 | .makeMap _ none=>some (.cU H.length,H++[.map []],[])
 | .lookup t p q ok=>match bk T p,vt (bk T q)with
  | .cU l,some k=>match H[l]?,vx P t k with
   |some (.map es),some (kt,d,z)=>match gb P kt d k es with
    |some r=>match MN es z r with
     |some x=>some (if ok then .bq [x,.sc (.bool r.isSome)]else x,H,[])
     |none=>none
    |none=>none
   |_,_=>none
  |_,_=>none
 | .mapUpdate t p q s=>match bk T p,vt (bk T q)with
  | .cU l,some k=>match H[l]?,vx P t k with
   |some (.map es),some (kt,d,z)=>match gb P kt d k es with
    |some none=>some (.any,H.set l (.map (upd es k (bk T s) none)),[l])
    |some (some i)=>match es[i]? with
     |some e=>if Instr.sameBits 10000 e.1 k=true then some (.any,H.set l (.map (upd es k (bk T s) (some i))),[l])else none
     |none=>none
    |none=>none
   |_,_=>none
  |_,_=>none
 | .mapEntry t p q=>match bk T p,vt (bk T q)with
  | .cU l,some k=>match H[l]?,vx P t k with
   |some (.map es),some (kt,d,z)=>match gb P kt d k es with
    |some none=>some (.bq [dB z,.fp l es.length],H.set l (.map (es++[(k,dB z)])),[l])
    |some (some i)=>match es[i]? with
     |some e=>if Instr.sameBits 10000 e.1 k=true then some (.bq [e.2,.fp l i],H.set l (.map (es.set i (k,e.2))),[l])else none
     |none=>none
    |none=>none
   |_,_=>none
  |_,_=>none
 | .entryStore t p s q=>match bk T p,bk T s with
  | .cU l,.fp l' i=>if l'=l then match H[l]? with
    |some (.map es)=>match es[i]? with
     |some e=>some (.any,H.set l (.map (es.set i (e.1,bk T q))),[l])
     |none=>none
    |_=>none
   else none
  |_,_=>none
 | .range t p=>match aB P (underlying t),bk T p with
  |some (.map _ _),.cU l=>match H[l]? with
   |some (.map [])=>some (.ptr H.length 0,H++[.iter l],[])
   |_=>none
  |_,_=>none
 | .convert src dst p=>match aB P (underlying src),aB P (underlying dst),bk T p with
  |some (.slice e),some .string,.aY nl sz n el own=>if IV P e=true/\(sz=1∨n=0)then match lG n el with
    |some ns=>some (.sc (.string (yB ns)),H,[])
    |none=>none
   else none
  |some (.slice e),_,.nK l 1 n=>if src=dst/\IV P e=true then match H[l]? with
    |some (.cells cs)=>if cs.length=n/\cs.all (λx=>O7 x)=true then some (.aY false 1 n (rowOf 1 cs) .tight,H.set l .dead,[l])else none
    |_=>none
   else none
  |_,_,_=>none
 | .slice t p lo hi none=>match aB P (underlying t),bk T p,dW T lo,dW T hi with
  |some (.slice e),.aY nl sz 0 el own,some l,some h=>match aB P (Go.sizeOf e)with
   |some _=>if l.getD 0=0/\h.getD (0:Nat)=0 then some (.aY nl sz 0 el .dA,H,[])else none
   |none=>none
  |_,_,_,_=>none
 | .next p false=>match bk T p with
  | .ptr l 0=>match H[l]? with
   |some (.iter m)=>match H[m]? with
    |some (.map [])=>some (.bq [.sc (.bool false)],H,[])
    |_=>none
   |_=>none
  |_=>none
 | .call c=>match c.callee,c.args.toList,c.argTypes[0]? with
  | .builtin .len,[p],some t=>match aB P (underlying t),bk T p with
   |some (.map _ _),.cU l=>match H[l]? with
    |some (.map es)=>some (.sc (.int .i64 es.length),H,[])
    |_=>none
   |_,_=>none
  |_,_,_=>none
 |_=>none
theorem jS {P:Program}{o:Oper}{T:List AV}{H H1:aa}{x:AV}{Wr:List Nat}(h:wy P o T H=some (x,H1,Wr)):kX P o T H x H1 Wr/\cQ H H1 Wr:=by
 unfold wy at h;split at h
 ·rename_i p xt t ho;split at h
  ·rename_i t' v d hp hu;split at h
   ·rename_i hc;obtain⟨rfl,hd⟩:=hc;cases h;exact⟨(I5 ho hu hd hp).a,.refl _ _⟩
   ·cases h
  ·cases h
 ·rename_i t ho;cases h;exact⟨EY ho,.push _ _⟩
 ·rename_i t p q ok ho;split at h
  ·rename_i l k hp hk;split at h
   ·rename_i es kt d z hl hT;obtain⟨et,hT⟩:=kR hT;split at h
    ·rename_i r hf;split at h
     ·rename_i y hy;cases h;exact⟨(mA ho hT hp hl hk hf hy).a,.refl _ _⟩
     ·cases h
    ·cases h
   ·cases h
  ·cases h
 ·rename_i t p q s ho;split at h
  ·rename_i l k hp hk;split at h
   ·rename_i es kt d z hl hT;obtain⟨et,hT⟩:=kR hT;split at h
    ·rename_i hf;cases h;exact⟨sD ho hT hp hl hk hf (λi e=>by cases e),.set _ _ _⟩
    ·rename_i i hf;split at h
     ·rename_i e he;split at h
      ·rename_i hs;cases h;exact⟨sD ho hT hp hl hk hf (λj e'=>by cases e';exact⟨e,he,hs⟩),.set _ _ _⟩
      ·cases h
     ·cases h
    ·cases h
   ·cases h
  ·cases h
 ·rename_i t p q ho;split at h
  ·rename_i l k hp hk;split at h
   ·rename_i es kt d z hl hT;obtain⟨et,hT⟩:=kR hT;split at h
    ·rename_i hf;cases h;exact⟨uf ho hT hp hl hk hf (.inl ⟨rfl,rfl,rfl,rfl⟩),.set _ _ _⟩
    ·rename_i i hf;split at h
     ·rename_i e he;split at h
      ·rename_i hs;cases h;exact⟨uf ho hT hp hl hk hf (.inr ⟨e,rfl,he,hs,rfl,rfl⟩),.set _ _ _⟩
      ·cases h
     ·cases h
    ·cases h
   ·cases h
  ·cases h
 ·rename_i t p s q ho;split at h
  ·rename_i l l' i hp hs;split at h
   ·rename_i vr;subst vr;split at h
    ·rename_i es hl;split at h
     ·rename_i e he;cases h;exact⟨yA ho hp hs hl he,.set _ _ _⟩
     ·cases h
    ·cases h
   ·cases h
  ·cases h
 ·rename_i t p ho;split at h
  ·rename_i kt et l hu hp;split at h
   ·rename_i hl;cases h;exact⟨MQ (es:=[]) ho hu hp hl,.push _ _⟩
   ·cases h
  ·cases h
 ·rename_i src dst p ho;split at h
  ·rename_i e nl sz n el own vl yq hp;split at h
   ·rename_i h8;split at h
    ·rename_i ns hns;cases h;exact⟨(CN ho vl yq (CI h8.1) hp h8.2 hns).a,.refl _ _⟩
    ·cases h
   ·cases h
  ·rename_i e l n gX vl hp;split at h
   ·rename_i h8;obtain⟨rfl,h8⟩:=h8;split at h
    ·rename_i cs hl;split at h
     ·rename_i hc;cases h;exact⟨yD ho vl (CI h8) hp hl hc.1 (by simpa using hc.2),.set _ _ _⟩
     ·cases h
    ·cases h
   ·cases h
  ·cases h
 ·rename_i t p lo hi ho;split at h
  ·rename_i e nl sz el own l h' hu hp hl hh;split at h
   ·rename_i sz0 hs;split at h
    ·rename_i hc;cases h;exact⟨(AE ho hu hs hp hl hh hc.1 hc.2).a,.refl _ _⟩
    ·cases h
   ·cases h
  ·cases h
 ·rename_i p ho;split at h
  ·rename_i l hp;split at h
   ·rename_i m hl;split at h
    ·rename_i hm;cases h;exact⟨AK ho hp hl hm,.refl _ _⟩
    ·cases h
   ·cases h
  ·cases h
 ·rename_i c ho;split at h
  ·rename_i p t hc ha ht;split at h
   ·rename_i kt et l hu hp;split at h
    ·rename_i es hl;cases h;exact⟨(I4 ho hc (by apply aiq;simpa using ha) ht hu hp hl).a,.refl _ _⟩
    ·cases h
   ·cases h
  ·cases h
 ·cases h
def kc (P:Program):Tr:=λt k ob=>
 match ob with
 | .map es=>match vx P t k with
  |some (kt,d,z)=>match gb P kt d k es with
   |some none=>some (.map (es++[(k,dB z)]))
   |some (some i)=>match es[i]? with
    |some e=>if Instr.sameBits 10000 e.1 k=true then some (.map (es.set i (k,e.2)))else none
    |none=>none
   |none=>none
  |none=>none
 |_=>none
def CO (o:Oper) (T:List AV):Pf:=
 match o.op with
 | .mapEntry t p q=>match bk T p,vt (bk T q)with
  | .cU l,some k=>some (l,t,k)
  |_,_=>none
 |_=>none
theorem yF {P:Program}{o:Oper}{T:List AV}{H H1:aa}{x:AV}{Wr:List Nat}(h:wy P o T H=some (x,H1,Wr)):∀l t k,CO o T=some (l,t,k)->∃ob,(H[l]?).bind (kc P t k)=some ob/\H1[l]? =some ob:=by
 intro l t k hs;unfold CO at hs;split at hs
 ·rename_i t' p q ho;split at hs
  ·rename_i l' k' hp hk;cases hs;unfold wy at h;rw[ho]at h;simp only[hp,hk]at h;split at h
   ·rename_i es kt d z hl hT;have cO:=(ag5.1 hl).1;split at h
    ·rename_i hf;cases h;refine⟨.map (es++[(k,dB z)]),?_,by rw[ahd cO]⟩;rw[hl];simp only[ahH,kc,hT,hf]
    ·rename_i i hf;split at h
     ·rename_i e he;split at h
      ·rename_i hb;cases h;refine⟨.map (es.set i (k,e.2)),?_,by rw[ahd cO]⟩;rw[hl];simp only[ahH,kc,hT,hf,he,hb,if_true]
      ·cases h
     ·cases h
    ·cases h
   ·cases h
  ·cases hs
 ·cases hs
def WO (P:Program) (l:Nat) (t:TypeId) (k:Value) (es:List (Value×AV)) (x:AV) (ok:Bool):Pf:=
 match ok,kc P t k (.map es),vx P t k,x with
 |false,some (.map es'),some (kt,d,z),.sc v=>match gb P kt d k es' with
  |some r'=>match MN es' z r' with
   |some (.sc v')=>if mc v v'=true then some (l,t,k)else none
   |_=>none
  |none=>none
 |_,_,_,_=>none
def I6:AV->Value->Bool
 | .any,_=>true
 | .sc a,b=>mc a b
 | .aY true _ 0 _ .dA,.slice none 0 0=>true
 | .aY true _ 0 _ .tight,.slice none 0 0=>true
 |_,_=>false
theorem I7 {E:Env}{x:AV}{v:Value}(h:I6 x v=true):Rel E x v:=by
 unfold I6 at h;split at h
 ·exact .any _
 ·obtain⟨rfl,hp⟩:=lV h;exact .sc _ hp
 ·exact .fw _ _ _ (.inl rfl)
 ·exact .fw _ _ _ (.inr rfl)
 ·cases h
def ug:List AV->List Value->Bool
 |[],_=>true
 |x::r,v::s=>I6 x v&&ug r s
 |_::_,[]=>false
theorem wz {E:Env}:∀{cs:List AV}{vs:List Value},ug cs vs=true->mn E cs vs.toArray
 |[],_,_=>λj x h=>by simp at h
 |x::r,v::s,h=>by
  simp only[ug,ahp]at h;intro j y hy
  cases j with
  |zero=>simp at hy;subst hy;exact⟨v,by simp,I7 h.1⟩
  |succ j=>
   simp at hy;obtain⟨u,hu,hr⟩:=wz h.2 j y hy;exact⟨u,by simpa using hu,hr⟩
 |_::_,[],h=>by simp[ug]at h
def CP (P:Program) (o:Oper) (T:List AV) (H:aa) (nx:Option Nat):Option (AV×Rd):=
 match nx with
 |none=>none
 |some l=>match o.op with
  | .alloc t=>match aB P (zeroValue t),H[l]? with
   |some z,some (.cells cs)=>if ug cs z.cells.toList=true then some (.ptr l 0,⟨[l],some l,none⟩)else none
   |_,_=>none
  | .buildSlice _ _ _=>match pO P o T []with
   |some (x,_,_)=>some (x,I0)
   |none=>none
  | .lookup t p q ok=>match bk T p,vt (bk T q)with
   | .cU l,some k=>match H[l]?,vx P t k with
    |some (.map es),some (kt,d,z)=>match gb P kt d k es with
     |some r=>match MN es z r with
      |some x=>some (if ok then .bq [x,.sc (.bool r.isSome)]else x,⟨[l],none,WO P l t k es x ok⟩)
      |none=>none
     |none=>none
    |_,_=>none
   |_,_=>none
  |_=>none
theorem Bk {P:Program}{o:Oper}{T:List AV}{H:aa}{nx:Option Nat}{x:AV}{rd:Rd}(h:CP P o T H nx=some (x,rd)):(∀H2:aa,(∀l∈rd.tb,H2[l]? =H[l]?∨∃t k ob,rd.soft=some (l,t,k)/\(H[l]?).bind (kc P t k)=some ob/\H2[l]? =some ob)->MJ P o T H2 x rd.al)/\nx.isSome=true:=by
 unfold CP at h;split at h
 ·cases h
 ·rename_i l;refine⟨?_,rfl⟩;split at h
  ·rename_i t ho;split at h
   ·rename_i z cs hz hl;split at h
    ·rename_i hc;cases h;intro H2 h2;have TB:H2[l]? =some (.cells cs):=((h2 l (by simp)).elim id (λ⟨_,_,_,e,_⟩=>by simp at e)).trans hl;intro E w0 w ρ hg WH ht;have hφ:=WH l rfl;have hrc:mn E cs z.cells:=by have:=wz (E:=E) hc;simpa using this
     have hx:(execOp ρ o).run P w= .ok (.value (.pointer (some ⟨w.heap.size,0,none⟩))) (w.alloc (.cells z.cells t)):=by
      simp only[execOp,ho,Instr.alloc,Sem.run_bind,aj hz,Result.andThen_ok];simp only[newVar,newRow,newObj,Sem.run_bind,Sem.run,Sem.run_pure,Result.andThen_ok];rfl
     unfold Eu;rw[hx];refine⟨E.ej l w.heap.size,⟨Env.j2 hφ,⟨by rw[eK];omega,ag3 _⟩,λhb=>Below.heap_alloc w _ _ (hg.fG hb),λ{k} hk gX=>gN E (λe=>gX (by rw[e])),λ{b} hb h=>⟨Below.heap_alloc w _ _ hb,λk ho=>(ES (λes pd e=>by rw[TB]at e;cases e) ho).elim (h k) (λe=>by omega),λ_=>rfl⟩⟩,hg.settle t TB hφ hrc,.ptr _ _ _ (cV _ _ _)⟩
    ·cases h
   ·cases h
  ·rename_i t n ps ho;split at h
   ·rename_i y H' W' hx;cases h;intro H2 _;refine kX.f ?_;have Bd:pO P o T H2=some (x,H2,[]):=by
     unfold pO at hx ⊢;rw[ho]at hx ⊢;simp only at hx ⊢;split at hx
     ·split at hx
      ·split at hx
       ·split at hx
        ·rename_i hc;cases hx;rw[if_pos hc]
        ·cases hx
       ·cases hx
      ·cases hx
     ·cases hx
    exact mY Bd
   ·cases h
  ·rename_i t p q ok ho;split at h
   ·rename_i l' k hp hk;split at h
    ·rename_i es kt d z hl hT;obtain⟨et,hT⟩:=kR hT;split at h
     ·rename_i r hf;split at h
      ·rename_i y hy;cases h;intro H2 h2;rcases h2 l' (by simp)with e|⟨t',k',ob,hs,e1,e2⟩
       ·exact(mA ho hT hp (e.trans hl) hk hf hy).a.f
       ·
        unfold WO at hs;split at hs
        ·rename_i es' kt' d' z' v he' hT';split at hs
         ·rename_i r' XS;split at hs
          ·rename_i v' qw;split at hs
           ·rename_i hv;cases hs;rw[hl]at e1;simp only[ahH]at e1;rw[he']at e1;cases e1;obtain⟨et',hT2⟩:=kR hT';rw[(lV hv).1];exact(mA (ok:=false) ho hT2 hp e2 hk XS qw).a.f
           ·cases hs
          ·cases hs
         ·cases hs
        ·cases hs
      ·cases h
     ·cases h
    ·cases h
   ·cases h
  ·cases h
def cN (P:Program):List Oper->aa
 |[]=>[]
 |o::r=>match o.op with
  | .alloc t=>(match aB P (zeroValue t)with
   |some z=> .cells (dB z).cells
   |none=> .dead)::cN P r
  |_=>cN P r
theorem me (P:Program):∀l,∀o∈cN P l,idle o=true
 |[],o,h=>by cases h
 |q::r,o,h=>by
  unfold cN at h;split at h
  ·rcases ahl.1 h with rfl|h
   ·split<;>rfl
   ·exact me P r o h
  ·exact me P r o h
def Bl (o:Oper) (nx:Option Nat):Option Nat:=
 match nx with
 |none=>none
 |some l=>match o.op with
  | .alloc _=>some (l+1)
  |_=>some l
theorem oR {o:Oper}{nx:Option Nat}:(Bl o nx).isSome=nx.isSome:=by
 unfold Bl;split
 ·rfl
 ·split<;>rfl
def Z2 (o:Oper) (r:List Oper):Bool:=
 match o.op,o.dst,r with
 | .buildSlice t _ _,some d,q::_=>match q.op with
  | .convert t1 t2 (.tmp d2)=>decide (t1=t)&&decide (t2=t)&&decide (d2=d)
  |_=>false
 |_,_,_=>false
def Pm (P:Program) (o:Oper) (T:List AV) (H:aa):Option (AV×aa×List Nat):=
 match o.op with
 | .buildSlice t n ps=>match aB P (underlying t)with
  |some (.slice elem)=>match aB P (Go.sizeOf elem),aB P (zeroValue elem)with
   |some sz,some z=>
    match sw (λi=>some (i*sz,sz)) ((List.range (n*sz)).map λi=>(dB z).cells.getD (i % (dB z).cells.length) .any) (ps.toList.map λ(i,x)=>(i,bk T x))with
    |some cs=>if jG (dB z)=true/\0<(dB z).cells.length/\(0<n*sz/\n*sz<=2 ^ 24)/\n<=maxLen then some (.nK H.length sz n,H++[.cells cs],[])else none
    |none=>none
   |_,_=>none
  |_=>none
 | .call c=>match c.callee,c.args.toList,IW P c,c.argTypes.toList with
  | .builtin .append,[p,q],some (sz,bytes),[24,24]=>match bk T p,jj sz (bk T q)with
   | .aY nl mO 0 el own,some (1,el2)=>if (own= .tight∨nl=true)/\(0+1)*bytes<=2 ^ 46 then some (.qv H.length sz 1,H++[.cells (el2 0)],[])else none
   |_,_=>none
  |_,_,_,_=>none
 |_=>none
def Z3 (o:Oper):Bool:=
 match o.op with
 | .call _=>true
 |_=>false
theorem E8 {P:Program}{o:Oper}{T:List AV}{H H1:aa}{x:AV}{Wr:List Nat}(h:Pm P o T H=some (x,H1,Wr)):kX P o T H x H1 Wr/\cQ H H1 Wr:=by
 unfold Pm at h;split at h
 ·rename_i t n ps ho;split at h
  ·rename_i elem hu;split at h
   ·rename_i sz z hs hz;split at h
    ·rename_i cs hf;split at h
     ·rename_i hc;cases h;exact⟨xg ho hu hs hz rfl hc.1 hc.2.1 hc.2.2.1 hf hc.2.2.2,.push _ _⟩
     ·cases h
    ·cases h
   ·cases h
  ·cases h
 ·rename_i c ho;split at h
  ·rename_i p q sz bytes jH dn hT _;split at h
   ·rename_i nl mO el own el2 hp hq;split at h
    ·rename_i hc;cases h;exact⟨E7 (xH jH dn hT) ho hp hq hc.1 hc.2,.push _ _⟩
    ·cases h
   ·cases h
  ·cases h
 ·cases h
def E9 (P:Program) (H:aa) (rs:List ResultVar) (T:List AV):Option (List AV):=
 match rs with
 |[]=>some []
 | .tmp t::r=>(E9 P H r T).map (T.getD t .any::·)
 | .cell a t::r=>match (iL H (T.getD a .any)).bind (EE P t),E9 P H r T with
  |some x,some xs=>some (x::xs)
  |_,_=>none
def ig (P:Program) (H:aa) (fn:Func) (T:List AV):Option AV:=
 match E9 P H fn.results.toList T with
 |some [x]=>some x
 |some xs=>some (.bq xs)
 |none=>none
abbrev iD:=FuncId->List AV->aa->Ev (AV×aa×List Nat)
def below (n:Nat) (W:List Nat):List Nat:=W.filter (decide<|·<n)
def WQ (P:Program) (call:iD) (nx:Option Nat) (o:Oper) (T:List AV) (H:aa):Ev (AV×aa×Bool×Rd×List Nat):=
 match CP P o T H nx with
 |some (x,rd)=> .ok (x,H,true,rd,[])
 |none=>match KP P o T H with
 |some r=> .ok r
 |none=>match wy P o T H with
  |some (x,H1,Wr)=> .ok (x,H1,false,rdS (CO o T),Wr)
  |none=>match lW o T with
   |some (g,args)=>match call g args H with
    | .ok (x,H1,Wr)=> .ok (x,H1,false,I0,Wr)
    | .bad tr=> .bad tr
   |none=> .bad []
def Pn (P:Program) (call:iD) (nx:Option Nat) (o:Oper) (r:List Oper) (T:List AV) (H:aa):Ev (AV×aa×Bool×Rd×List Nat):=
 match (if nx=none/\(Z2 o r||Z3 o)=true then Pm P o T H else none)with
 |some q=> .ok (q.1,q.2.1,false,I0,q.2.2)
 |none=>WQ P call nx o T H
def Uh (P:Program) (call:iD) (ops:Array Oper):List Oper->Option Nat->List AV->aa->Ev (List AV×aa×Log)
 |[],_,T,H=> .ok (T,H,[])
 |o::r,nx,T,H=>
  match dx ops T o with
  |some false=>match Uh P call ops r (Bl o nx) (gK T o.dst mV) H with
   | .ok (T',H',L)=> .ok (T',H',e0::L)
   | .bad tr=> .bad tr
  |some true=>
   match Pn P call nx o r T H with
   | .ok (x,H1,e)=>match Uh P call ops r (Bl o nx) (gK T o.dst x) H1 with
    | .ok (T',H',L)=> .ok (T',H',e::L)
    | .bad tr=> .bad tr
   | .bad tr=> .bad (r.length::tr)
  |none=> .bad [r.length,1000]
abbrev gm:=bj×List AV×aa×List Nat
def yG (f:List AV->aa->Ev gm):Nat->List AV->aa->Ev gm
 |0,_,_=> .bad [2000]
 |k+1,T,H=>match f T H with
  | .ok (.normal,T',H',W)=>match yG f k T' H' with
   | .ok (x,T2,H2,W2)=> .ok (x,T2,H2,W++W2)
   | .bad tr=> .bad tr
  |r=>r
def r7 (P:Program) (call:iD) (nL:Code->List AV->aa->Ev gm) (n:Nat):Code->List AV->aa->Ev gm
 | .skip,T,H=> .ok (.normal,T,H,[])
 | .label _,T,H=> .ok (.normal,T,H,[])
 | .exit i,T,H=> .ok (.exit i,T,H,[])
 | .goto i,T,H=> .ok (.goto i,T,H,[])
 | .ret,T,H=> .ok (.ret,T,H,[])
 | .seq a b,T,H=>match r7 P call nL n a T H with
  | .ok (.normal,T',H',W)=>match r7 P call nL n b T' H' with
   | .ok (x,T2,H2,W2)=> .ok (x,T2,H2,W++W2)
   | .bad tr=> .bad tr
  |r=>r
 | .block i c,T,H=>match r7 P call nL n c T H with
  | .ok (.exit j,T',H',W)=>if j=i then .ok (.normal,T',H',W)else .ok (.exit j,T',H',W)
  |r=>r
 | .cond c a b,T,H=>match bk T c with
  | .sc (.bool true)=>r7 P call nL n a T H
  | .sc (.bool false)=>r7 P call nL n b T H
  |_=> .bad [3000]
 | .region id ops false,T,H=>match Uh P call ops ops.toList none T H with
  | .ok (T',H',L)=> .ok (.normal,T',H',r6 L)
  | .bad tr=> .bad (id::tr)
 | .region id ops true,T,H=>match Uh P call ops ops.toList (some H.length) T (H++cN P ops.toList)with
  | .ok (T',H',L)=>if oN ops H.length (H++cN P ops.toList).length L=true then .ok (.normal,T',H',r6 L)else .bad [id,4000]
  | .bad tr=> .bad (id::tr)
 | .loop c,T,H=>yG (r7 P call nL n c) n T H
 | .rangeFunc _ _ _ _,_,_=> .bad [5000]
 | .scope c,T,H=>nL c T H
 | .refuse _,_,_=> .bad [7000]
def KR (f:Code->List AV->aa->Ev gm) (c:Code):Nat->Code->List AV->aa->Ev gm
 |0,_,_,_=> .bad [6001]
 |k+1,d,T,H=>match f d T H with
  | .ok (.goto l,T',H',W)=>match findLabel c l with
   |some rest=>match KR f c k rest T' H' with
    | .ok (x,T2,H2,W2)=> .ok (x,T2,H2,W++W2)
    | .bad tr=> .bad tr
   |none=> .bad [6002]
  |r=>r
def XT (P:Program) (call:iD):Nat->Code->List AV->aa->Ev gm
 |0=>r7 P call (λ_ _ _=> .bad [6000]) 0
 |n+1=>r7 P call (λc T H=>KR (XT P call n) c n c T H) (n+1)
def ke (P:Program) (call:iD):Prop:=∀(g:FuncId) (args:List AV) (H:aa) (x:AV) (H1:aa) (Wr:List Nat),call g args H= .ok (x,H1,Wr)->bZ P g args x H H1 Wr
theorem th {P:Program}{o:Oper}{T:List AV}{H H1:aa}{x:AV}{g:FuncId}{args:List AV}{Wr:List Nat}(hg:lW o T=some (g,args)) (hc:bZ P g args x H H1 Wr):kX P o T H x H1 Wr:=by
 unfold lW at hg;split at hg
 ·rename_i c ho;split at hg
  ·rename_i f hf;split at hg
   ·rename_i g' first fJ s7
    simp only[ag6,ahe]at hg;obtain⟨rfl,rfl⟩:=hg;exact O5 ho hf s7 hc.1 hc.2.1 (λl _ hl=>hl)
   ·cases hg
  ·cases hg
 ·cases hg
theorem cQ.trans {H H1 H2:aa}{W W1:List Nat}(h:cQ H H1 W) (k:cQ H1 H2 W1):cQ H H2 (W++W1):=
 ⟨ahx h.1 k.1,λl hl hm=>by
  rw[ahC,not_or]at hm;rw[k.2 l (ahz hl h.1) hm.2,h.2 l hl hm.1]⟩
section
variable {P:Program}{call:iD}
theorem mf (hc:ke P call){ops:Array Oper}:∀(r:List Oper) (k:Nat) (nx:Option Nat) (T:List AV) (H:aa) (T':List AV) (H':aa) (L:Log),(∀(j:Nat) (o:Oper),r[j]? =some o->ops[k+j]? =some o)->Uh P call ops r nx T H= .ok (T',H',L)->
  jQ P ops nx.isSome (kc P) ((List.range r.length).map (k+·)) T H T' H' L/\cQ H H' (r6 L)
 |[],k,nx,T,H,T',H',L,_,h=>by
  simp only[Uh,Ev.ok.injEq,ahe]at h;obtain⟨rfl,rfl,rfl⟩:=h;exact⟨.nil T H,.refl _ _⟩
 |o::r,k,nx,T,H,T',H',L,ho,h=>by
  have CQ:ops[k]? =some o:=ho 0 o rfl;have WR:∀(j:Nat) (q:Oper),r[j]? =some q->ops[k+1+j]? =some q:=λj q hq=>by
   have:=ho (j+1) q (by simpa using hq);rw[show k+1+j=k+(j+1) by omega];exact this
  have hr:(List.range (o::r).length).map (k+·)=k::(List.range r.length).map (k+1+·):=by
   rw[ahv,aib];simp only[ahJ,ain,aik];congr 1;refine ahV (λa _=> ?_);simp only[Function.comp];omega
  rw[hr];unfold Uh at h;split at h
  ·rename_i hw;split at h
   ·rename_i T2 H2 L2 hq;cases h;obtain⟨h1,h2⟩:=mf hc r (k+1) _ _ _ _ _ _ WR hq;rw[oR]at h1;exact⟨.skip CQ hw h1,by simpa [r6,e0]using h2⟩
   ·cases h
  ·rename_i hw;split at h
   ·rename_i x H1 e hs;split at h
    ·rename_i T2 H2 L2 hq;cases h;obtain⟨h1,h2⟩:=mf hc r (k+1) _ _ _ _ _ _ WR hq;rw[oR]at h1;have hq':=hq;unfold Pn at hs;split at hs
     ·rename_i q Zk;split at Zk
      ·cases hs;obtain⟨ha,hk⟩:=E8 (x:=q.1) (H1:=q.2.1) (Wr:=q.2.2) Zk;exact⟨.act (sf:=none) CQ hw ha hk (λl t k e=>by cases e) h1,hk.trans h2⟩
      ·cases Zk
     unfold WQ at hs;split at hs
     ·rename_i y rd hy;cases hs;obtain⟨hf,hn⟩:=Bk hy;exact⟨.float CQ hw hf (λe=>by rw[hn]at e;cases e) h1,by simpa [r6]using h2⟩
     ·split at hs
      ·rename_i q gY;cases hs;unfold KP at gY;split at gY
       ·rename_i y hy;cases gY;exact⟨.float CQ hw (na hy) (λ_=>rfl) h1,by simpa [r6]using h2⟩
       ·split at gY
        ·rename_i y H3 Wr hx;cases gY;exact⟨.act (sf:=none) CQ hw (mY hx) (mZ hx) (λl t k e=>by cases e) h1,(mZ hx).trans h2⟩
        ·cases gY
      ·split at hs
       ·rename_i y H3 Wr hm;cases hs;exact⟨.act CQ hw (jS hm).1 (jS hm).2 (yF hm) h1,(jS hm).2.trans h2⟩
       ·split at hs
        ·rename_i g args hg;split at hs
         ·rename_i y H3 Wr yH;cases hs;have jk:=hc _ _ _ _ _ _ yH;exact⟨.act (sf:=none) CQ hw (th hg jk) jk.2.2 (λl t k e=>by cases e) h1,jk.2.2.trans h2⟩
         ·cases hs
        ·cases hs
    ·cases h
   ·cases h
  ·cases h
theorem cQ.KS {H H' res:aa}{W:List Nat}(h:cQ (H++res) H' W):cQ H H' W:=
 ⟨by have:=h.1;simp at this;omega,λl hl hm=>(h.2 l (by simp;omega) hm).trans (ahb hl)⟩
def an (P:Program) (c:Code) (T:List AV) (H:aa) (x:bj) (T':List AV) (H':aa) (Wr:List Nat):Prop:=
 (∀(n0:Nat) (W:Nat->Prop),n0<=H.length->(∀l∈Wr,l<n0->W l)->xE P n0 W c (λy T2 H2=>y=x/\T2=T'/\H2=H') T H)/\cQ H H' Wr
theorem an.then {c:Code}{T T':List AV}{H H':aa}{n0:Nat}{W:Nat->Prop}{Q:bj->List AV->aa->Prop}{x:bj}{W1:List Nat}(h:an P c T H x T' H' W1) (hn:n0<=H.length) (hw:∀l∈W1,l<n0->W l) (k:Q x T' H'):xE P n0 W c Q T H:=
 EB (h.1 n0 W hn hw) (λy T2 H2 ⟨h1,h2,h3⟩=>by subst h1 h2 h3;exact k)
inductive Passes (P:Program) (c:Code) (x:bj) (T':List AV) (H':aa):Nat->Code->List AV->aa->List Nat->Prop where
 |out {d:Code} {T:List AV} {H:aa} {W:List Nat} (k:Nat) (h:an P d T H x T' H' W) (hx:∀l,x≠.goto l):Passes P c x T' H' (k+1) d T H W
 |next {d rest:Code} {l:Nat} {T T1:List AV} {H H1:aa} {W W':List Nat} {k:Nat} (h:an P d T H (.goto l) T1 H1 W) (hr:findLabel c l=some rest) (r:Passes P c x T' H' k rest T1 H1 W'):Passes P c x T' H' (k+1) d T H (W++W')
theorem Passes.keeps {c:Code}{x:bj}{T':List AV}{H':aa}{k:Nat}{d:Code}{T:List AV}{H:aa}{W:List Nat}(h:Passes P c x T' H' k d T H W):cQ H H' W:=by
 induction h with
 |out k h hx=>exact h.2
 |next h hr r ih=>exact h.2.trans ih
theorem Passes.ok {c:Code}{x:bj}{T':List AV}{H':aa}{k:Nat}{T:List AV}{H:aa}{Wr:List Nat}(h:Passes P c x T' H' k c T H Wr):an P (.scope c) T H x T' H' Wr:=by
 refine⟨λn0 W hn hW=> ?_,h.keeps⟩;refine Mu (λm d T2 H2=>∃W2,Passes P c x T' H' m d T2 H2 W2/\(∀l∈W2,l<n0->W l)/\n0<=H2.length) k ⟨Wr,h,hW,hn⟩ ?_;rintro m d T2 H2 ⟨W2,hr,XU,vw⟩
 cases hr with
 |out k h hx=>
  refine h.then vw XU ?_
  cases x with
  |goto l=>exact absurd rfl (hx l)
  |normal=>exact⟨rfl,rfl,rfl⟩
  |exit i=>exact⟨rfl,rfl,rfl⟩
  |ret=>exact⟨rfl,rfl,rfl⟩
  |panic y=>exact⟨rfl,rfl,rfl⟩
 |next h hr r=>
  refine h.then vw (λl hl=>XU l (ahk _ hl)) ?_
  exact⟨_,hr,_,ahP _,_,r,λl hl=>XU l (ahj _ hl),ahx vw h.2.1⟩
theorem Fa {c:Code}{f:List AV->aa->Ev gm}(hf:∀T H x T' H' Wr,f T H= .ok (x,T',H',Wr)->an P c T H x T' H' Wr):∀(k:Nat) (T:List AV) (H:aa) (x:bj) (T':List AV) (H':aa) (Wr:List Nat),yG f k T H= .ok (x,T',H',Wr)->an P (.loop c) T H x T' H' Wr:=by
 have key:∀(k:Nat) (T:List AV) (H:aa) (x:bj) (T':List AV) (H':aa) (Wr:List Nat),yG f k T H= .ok (x,T',H',Wr)->
   cQ H H' Wr/\∀(n0:Nat) (W:Nat->Prop),n0<=H.length->(∀l∈Wr,l<n0->W l)->∃I:Nat->List AV->aa->Prop,I k T H/\∀m T H,I m T H->m<=k/\xE P n0 W c (bj.then (λT2 H2=>∃m',m'<m/\I m' T2 H2) (λy T2 H2=>y=x/\T2=T'/\H2=H')) T H:=by
  intro k
  induction k with
  |zero=>intro T H x T' H' Wr h;cases h
  |succ k ih=>
   intro T H x T' H' Wr h;unfold yG at h;split at h
   ·rename_i T1 H1 W1 h1;split at h
    ·rename_i y T2 H2 W2 h2;cases h;obtain⟨k1,i1⟩:=ih _ _ _ _ _ _ h2;have fq:=hf _ _ _ _ _ _ h1;refine⟨fq.2.trans k1,λn0 W hn hw=> ?_⟩;obtain⟨I,hI,Po⟩:=i1 n0 W (ahx hn fq.2.1) (λl hl=>hw l (ahj _ hl));refine⟨λm T3 H3=>(m=k+1/\T3=T/\H3=H)∨I m T3 H3,.inl ⟨rfl,rfl,rfl⟩,?_⟩;rintro m T3 H3 (⟨rfl,rfl,rfl⟩|hm)
     ·refine⟨ag3 _,fq.then hn (λl hl=>hw l (ahk _ hl)) ?_⟩;exact⟨k,ahP _,.inr hI⟩
     ·obtain⟨hle,hwp⟩:=Po m T3 H3 hm;refine⟨Nat.le_succ_of_le hle,EB hwp ?_⟩;intro z T4 H4 hz
      cases z with
      |normal=>obtain⟨m',jZ,hi⟩:=hz;exact⟨m',jZ,.inr hi⟩
      |_=>exact hz
    ·cases h
   ·rename_i gX;have I8:∀(T2:List AV) (H2:aa) (W2:List Nat),f T H≠.ok (.normal,T2,H2,W2):=gX;have fq:=hf _ _ _ _ _ _ h;refine⟨fq.2,λn0 W hn hw=>⟨λm T3 H3=>m=k+1/\T3=T/\H3=H,⟨rfl,rfl,rfl⟩,?_⟩⟩;rintro m T3 H3 ⟨rfl,rfl,rfl⟩;refine⟨ag3 _,fq.then hn hw ?_⟩
    cases x with
    |normal=>exact absurd h (I8 _ _ _)
    |exit i=>exact⟨rfl,rfl,rfl⟩
    |goto i=>exact⟨rfl,rfl,rfl⟩
    |ret=>exact⟨rfl,rfl,rfl⟩
    |panic y=>exact⟨rfl,rfl,rfl⟩
 intro k T H x T' H' Wr h;obtain⟨h1,h2⟩:=key k T H x T' H' Wr h;refine⟨λn0 W hn hw=> ?_,h1⟩;obtain⟨I,hI,Po⟩:=h2 n0 W hn hw;exact EC I k hI (λm T H hi=>(Po m T H hi).2)
theorem kS (hm:P.follows .mixedOrders=true) (hc:ke P call){nL:Code->List AV->aa->Ev gm}(hs:∀c T H x T' H' Wr,nL c T H= .ok (x,T',H',Wr)->an P (.scope c) T H x T' H' Wr) (n:Nat):∀(c:Code) (T:List AV) (H:aa) (x:bj) (T':List AV) (H':aa) (Wr:List Nat),r7 P call nL n c T H= .ok (x,T',H',Wr)->an P c T H x T' H' Wr
 | .skip,T,H,x,T',H',Wr,h=>by cases h;exact⟨λ_ _ _ _=>yi ⟨rfl,rfl,rfl⟩,.refl _ _⟩
 | .label _,T,H,x,T',H',Wr,h=>by cases h;exact⟨λ_ _ _ _=>vh ⟨rfl,rfl,rfl⟩,.refl _ _⟩
 | .exit _,T,H,x,T',H',Wr,h=>by cases h;exact⟨λ_ _ _ _=>yj ⟨rfl,rfl,rfl⟩,.refl _ _⟩
 | .goto _,T,H,x,T',H',Wr,h=>by cases h;exact⟨λ_ _ _ _=>yk ⟨rfl,rfl,rfl⟩,.refl _ _⟩
 | .ret,T,H,x,T',H',Wr,h=>by cases h;exact⟨λ_ _ _ _=>Cy ⟨rfl,rfl,rfl⟩,.refl _ _⟩
 | .seq a b,T,H,x,T',H',Wr,h=>by
  unfold r7 at h;split at h
  ·rename_i T1 H1 W1 h1;split at h
   ·rename_i y T2 H2 W2 h2;cases h;have fq:=kS hm hc hs n a _ _ _ _ _ _ h1;have oS:=kS hm hc hs n b _ _ _ _ _ _ h2;exact⟨λn0 W hn hw=>rC (fq.then hn (λl hl=>hw l (ahk _ hl)) (oS.1 n0 W (ahx hn fq.2.1) (λl hl=>hw l (ahj _ hl)))),fq.2.trans oS.2⟩
   ·cases h
  ·rename_i gX;have I8:∀(T2:List AV) (H2:aa) (W2:List Nat),r7 P call nL n a T H≠.ok (.normal,T2,H2,W2):=gX;have fq:=kS hm hc hs n a _ _ _ _ _ _ h;refine⟨λn0 W hn hw=>rC (fq.then hn hw ?_),fq.2⟩
   cases x with
   |normal=>exact absurd h (I8 _ _ _)
   |exit i=>exact⟨rfl,rfl,rfl⟩
   |goto i=>exact⟨rfl,rfl,rfl⟩
   |ret=>exact⟨rfl,rfl,rfl⟩
   |panic y=>exact⟨rfl,rfl,rfl⟩
 | .block i c,T,H,x,T',H',Wr,h=>by
  unfold r7 at h;split at h
  ·rename_i j T1 H1 W1 h1;have fq:=kS hm hc hs n c _ _ _ _ _ _ h1;split at h
   ·rename_i hj;cases h;exact⟨λn0 W hn hw=>iY (fq.then hn hw (by simp[bj.inBlock,hj])),fq.2⟩
   ·rename_i hj;cases h;exact⟨λn0 W hn hw=>iY (fq.then hn hw (by simp[bj.inBlock,hj])),fq.2⟩
  ·rename_i gX;have I8:∀(j:Nat) (T2:List AV) (H2:aa) (W2:List Nat),r7 P call nL n c T H≠.ok (.exit j,T2,H2,W2):=gX;have fq:=kS hm hc hs n c _ _ _ _ _ _ h;refine⟨λn0 W hn hw=>iY (fq.then hn hw ?_),fq.2⟩
   cases x with
   |normal=>exact⟨rfl,rfl,rfl⟩
   |exit i=>exact absurd h (I8 _ _ _ _)
   |goto i=>exact⟨rfl,rfl,rfl⟩
   |ret=>exact⟨rfl,rfl,rfl⟩
   |panic y=>exact⟨rfl,rfl,rfl⟩
 | .cond c a b,T,H,x,T',H',Wr,h=>by
  unfold r7 at h;split at h
  ·rename_i ht;have fq:=kS hm hc hs n a _ _ _ _ _ _ h;exact⟨λn0 W hn hw=>nR ht (fq.1 n0 W hn hw),fq.2⟩
  ·rename_i ht;have fq:=kS hm hc hs n b _ _ _ _ _ _ h;exact⟨λn0 W hn hw=>nR ht (fq.1 n0 W hn hw),fq.2⟩
  ·cases h
 | .region id ops false,T,H,x,T',H',Wr,h=>by
  unfold r7 at h;split at h
  ·rename_i T1 H1 L h1;cases h;obtain⟨h2,h3⟩:=mf hc ops.toList 0 _ T _ _ _ _ (λj o hj=>by simpa using hj) h1;have e:(List.range ops.toList.length).map (0+·)=List.range ops.size:=by simp
   rw[e]at h2;exact⟨λn0 W hn hw=>vq h2 hw ⟨rfl,rfl,rfl⟩,h3⟩
  ·cases h
 | .region id ops true,T,H,x,T',H',Wr,h=>by
  unfold r7 at h;split at h
  ·rename_i T1 H1 L h1;split at h
   ·rename_i hd;cases h;obtain⟨h2,h3⟩:=mf hc ops.toList 0 _ T _ _ _ _ (λj o hj=>by simpa using hj) h1;have e:(List.range ops.toList.length).map (0+·)=List.range ops.size:=by simp
    rw[e]at h2;exact⟨λn0 W hn hw=>mz hm (me P _) h2 hw hd ⟨rfl,rfl,rfl⟩,h3.KS⟩
   ·cases h
  ·cases h
 | .loop c,T,H,x,T',H',Wr,h=>Fa (λT H x T' H' Wr h=>kS hm hc hs n c T H x T' H' Wr h) n T H x T' H' Wr h
 | .rangeFunc _ _ _ _,T,H,x,T',H',Wr,h=>by cases h
 | .scope c,T,H,x,T',H',Wr,h=>hs _ _ _ _ _ _ _ h
 | .refuse _,T,H,x,T',H',Wr,h=>by cases h
theorem Fb {f:Code->List AV->aa->Ev gm}(hf:∀d T H x T' H' Wr,f d T H= .ok (x,T',H',Wr)->an P d T H x T' H' Wr) (c:Code):∀(k:Nat) (d:Code) (T:List AV) (H:aa) (x:bj) (T':List AV) (H':aa) (Wr:List Nat),KR f c k d T H= .ok (x,T',H',Wr)->Passes P c x T' H' k d T H Wr
 |0,d,T,H,x,T',H',Wr,h=>by cases h
 |k+1,d,T,H,x,T',H',Wr,h=>by
  unfold KR at h;split at h
  ·rename_i l T1 H1 W1 h1;split at h
   ·rename_i rest hr;split at h
    ·rename_i y T2 H2 W2 h2;cases h;exact .next (hf _ _ _ _ _ _ _ h1) hr (Fb hf c k _ _ _ _ _ _ _ h2)
    ·cases h
   ·cases h
  ·rename_i gX;exact .out k (hf _ _ _ _ _ _ _ h) (λl e=>by subst e;exact gX _ _ _ _ h)
theorem CR (hm:P.follows .mixedOrders=true) (hc:ke P call):∀(n:Nat) (c:Code) (T:List AV) (H:aa) (x:bj) (T':List AV) (H':aa) (Wr:List Nat),XT P call n c T H= .ok (x,T',H',Wr)->an P c T H x T' H' Wr
 |0=>λc T H x T' H' Wr h=>kS hm hc (λ_ _ _ _ _ _ _ h=>by cases h) 0 c T H x T' H' Wr h
 |n+1=>λc T H x T' H' Wr h=>kS hm hc (λc T H x T' H' Wr h=>(Fb (λd T H x T' H' Wr h=>CR hm hc n d T H x T' H' Wr h) c n c T H x T' H' Wr h).ok) (n+1) c T H x T' H' Wr h
end
end Go.Proofs.YtiipaliigpkfhaaGreat.Ab
