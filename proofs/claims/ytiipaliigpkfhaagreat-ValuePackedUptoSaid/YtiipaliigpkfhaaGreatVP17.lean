/- ValuePacked: for all files, every name and every field of bulk at most 1048576 together, the program and the reference tell alike whether the field is written in one; no other condition. -/
import Derived.Test.YtiipaliigpkfhaaGreatRows
import Derived.JoinedCond
import Derived.JoinedOf
import Derived.KernelRfl
import Derived.Test.YtiipaliigpkfhaaGreatVP7
import Derived.Test.YtiipaliigpkfhaaGreatVP8
import Derived.Test.YtiipaliigpkfhaaGreatVP16
set_option maxRecDepth 100000
namespace Go.Proofs.YtiipaliigpkfhaaGreat.Ab
open Go Go.RowKit Go.Proofs Go.Proofs.Tryz
noncomputable def abN:Code:=((f28.body.bind lZ).map (·.2.1)).getD .skip
noncomputable def abO:Code:=((f28.body.bind lZ).map (·.2.2)).getD .skip
def Kp (d:aP):aP:={ d with label:=3}
def T28 (d:aP) (q:List ep) (t:ByteArray) (z e:Int):List AV:=bz 46 [(0,.ptr 0 0),(1,aS t),(2,.agg (Kp d).cells),(5,.ptr 3 0),(6,.ptr 4 0),(7,dd sJ q),(8,i64 z),(9,i64 e),(12,.ptr 3 2),(13,i64 3),(14,cY false),(15,cY false),(16,.ptr 3 3),(17,i64 d.mg),(18,cY true),(19,cY false),(20,cY false),(21,.bq [dd sJ q,i64 z,i64 e]),(22,.ptr 3 11),(23,d.opts.av),(24,.bq [dd sJ q,i64 z,i64 e]),(25,dd sJ q),(26,i64 z),(27,i64 e),(28,dd sJ q),(29,.fn (.func 139) [] [.ptr 5 0])]
noncomputable def vZ (P:bg) (l:List ag) (d:aP) (q:List ep) (t:ByteArray) (z e:Int):aa:=P.H (gZ l)++[.cells (Kp d).cells,.cells [cY false],.cells [dd sJ q],.mark .defs,.mark (.loop (T28 d q t z e) #[30,31] abN abO none)]
noncomputable def OD (P:bg) (l:List ag) (d:aP) (q:List ep) (t:ByteArray) (z e:Int) (v:Bool):aa:=P.H (gZ l)++[.cells (Kp d).cells,.cells [cY v],.cells [dd sJ q],.mark .defs,.mark (.loop (T28 d q t z e) #[30,31] abN abO (some .ret))]
def mT (i:Int):List AV:=bz 19 [(0,.kq 7),(1,.ptr 5 0),(3,i64 i)]
theorem To (P:bg) (l:List ag) (d:aP) (q:List ep) (t:ByteArray) (z e:Int) (i:Nat):(iH prog (cK []) (Bx prog (cK []) 10 [(3,6)] [] []) 10 (ae f139 1) (mT i) (vZ P l d q t z e)).via (cz [0,1,3] [8] 8)=
  bif (decide ((0:Int)<=(i:Int)/\(i:Int)<(q.length:Int)))then bif ((q.getD i qn).num==(2:Int))then bif ((q.getD i qn).kd==(0:Int))then some ⟨.ret,mT i,OD P l d q t z e ((q.getD i qn).nn !=(0:Int)),[7,4],true⟩
   else some ⟨.normal,mT (IntKind.i64.wrap ((i:Int)-(1:Int))),vZ P l d q t z e,[7],true⟩else some ⟨.normal,mT (IntKind.i64.wrap ((i:Int)-(1:Int))),vZ P l d q t z e,[7],true⟩else none:=by kernel_rfl
theorem Zd (P:bg) (l:List ag) (d:aP) (q:List ep) (t:ByteArray) (z e:Int):(iH prog (cK []) (Bx prog (cK []) 10 [(3,6)] [] []) 10 (ae f139 1) (mT (-1)) (vZ P l d q t z e)).via (cz [0,1,3] [8] 8)=
  some ⟨.exit 0,mT (-1),vZ P l d q t z e,[],true⟩:=by kernel_rfl
def OE:List Nat:=[3,4,5,6,7]
def Wx (r:AV×aa×List Nat):AV×aa×Bool:=(r.1,r.2.1,r.2.2.all (λl=>decide (3<=l)))
theorem Tp (P:bg) (l:List ag) (d:aP) (q:List ep) (t:ByteArray) (z e:Int) (H:aa):(mQ prog eZ (λ_=>cJ prog [⟨1,[0,1,3],.exit 0,mT (-1),H,OE⟩] aN) 10 139 [.kq 7,.ptr 5 0] (vZ P l d q t z e)).via Wx=
  bif cj prog (ae f139 1) (mT (IntKind.i64.wrap ((q.length:Int)-1))) (vZ P l d q t z e) (.exit 0) (mT (-1)) H OE then some (.bq [],H,true)else none:=by kernel_rfl
theorem OF (P:bg) (l:List ag) (d:aP) (q:List ep) (t:ByteArray) (z e i:Int) (H:aa):(mQ prog eZ (λ_=>cJ prog [⟨1,[0,1,3],.ret,mT i,H,OE⟩] aN) 10 139 [.kq 7,.ptr 5 0] (vZ P l d q t z e)).via Wx=
  bif cj prog (ae f139 1) (mT (IntKind.i64.wrap ((q.length:Int)-1))) (vZ P l d q t z e) .ret (mT i) H OE then some (.bq [],H,true)else none:=by kernel_rfl
theorem Ig (P:bg) (l:List ag) (d:aP) (t:ByteArray) (nb:Bool):(C6 prog (cK []) (told prog [] [⟨18,0,cY nb⟩,⟨24,0,.any⟩,⟨29,0,.any⟩]) ⟨.bq [],[],[]⟩ qM 10 28 [.ptr 0 0,aS t,.agg d.cells] (P.H (gZ l))).via (xB)=bif (d.label !=3)then some (((.sc (.bool false)),((P.H (gZ l)),true)))else bif (aD prog 68 [(i64 (d.mg))] [] (cY (nb)))then bif (!nb)then some (((.sc (.bool false)),((P.H (gZ l)),true)))else pI (aD prog 69 [(.aY (d.opts.nl) 1 (d.opts.l.length) (λi=>(List.map dy d.opts.l).getD i []) .dA)] [] .any) (none)else none:=by kernel_rfl
theorem Wy (P:bg) (l:List ag) (d:aP) (q:List ep) (t:ByteArray) (z e:Int) (c:Bool):(C6 prog (cK []) (told prog [] [⟨18,0,cY true⟩,⟨24,0,.bq [dd sJ q,i64 z,i64 e]⟩,⟨45,3,cY c⟩]) ⟨.bq [],vZ P l d q t z e,OE⟩ qM 10 28 [.ptr 0 0,aS t,.agg (Kp d).cells] (P.H (gZ l))).via xB=
  bif aD prog 68 [i64 d.mg] [] (cY true)then bif aD prog 69 [d.opts.av] [] (.bq [dd sJ q,i64 z,i64 e])then bif cW prog 139 [.kq 7,.ptr 5 0] (vZ P l d q t z e) (.bq []) (vZ P l d q t z e) OE then
   bif aD prog 26 [.ptr 0 0,aS t] (P.H (gZ l)) (cY c)then some (cY c,P.H (gZ l),true)else none else none else none else none:=by kernel_rfl
theorem Tt (P:bg) (l:List ag) (d:aP) (q:List ep) (t:ByteArray) (z e:Int) (v c:Bool):(C6 prog (cK []) (told prog [] [⟨18,0,cY true⟩,⟨24,0,.bq [dd sJ q,i64 z,i64 e]⟩,⟨45,3,cY c⟩]) ⟨.bq [],OD P l d q t z e v,OE⟩ qM 10 28 [.ptr 0 0,aS t,.agg (Kp d).cells] (P.H (gZ l))).via xB=
  bif aD prog 68 [i64 d.mg] [] (cY true)then bif aD prog 69 [d.opts.av] [] (.bq [dd sJ q,i64 z,i64 e])then bif cW prog 139 [.kq 7,.ptr 5 0] (vZ P l d q t z e) (.bq []) (OD P l d q t z e v) OE then
   some (cY v,P.H (gZ l),true)else none else none else none:=by kernel_rfl
theorem Tu (r:ep):Kn 0 r=(bif (r.num==(2:Int))then(r.kd==(0:Int))else false):=rfl
section
variable (P:bg) (l:List ag) (d:aP) (q:List ep) (t:ByteArray) (z e:Int)
theorem Wz (hq:q.length<=16777216):∃W,(∀l∈W,3<=l)/\((q.foldl Ia none=none/\an prog (.loop (ae f139 1)) (mT (IntKind.i64.wrap ((q.length:Int)-1))) (vZ P l d q t z e) (.exit 0) (mT (-1)) (vZ P l d q t z e) W)∨
  ∃v i,q.foldl Ia none=some v/\an prog (.loop (ae f139 1)) (mT (IntKind.i64.wrap ((q.length:Int)-1))) (vZ P l d q t z e) .ret (mT i) (OD P l d q t z e v) W):=by
 have okY:bA prog (Bx prog (cK []) 10 [(3,6)] [] []):=mD mixed (au _);have Iu:=iE (P:=prog) (c:=ae f139 1)
  (λk T H=>H=vZ P l d q t z e/\k<=q.length/\T=mT ((k:Int)-1)/\q.foldl Ia none=(q.take k).foldl Ia none)
  (λx T H=>(x= .exit 0/\T=mT (-1)/\H=vZ P l d q t z e/\q.foldl Ia none=none)∨∃v i,x= .ret/\T=mT i/\H=OD P l d q t z e v/\q.foldl Ia none=some v) 3 (by
  rintro k T H ⟨rfl,hk,rfl,hf⟩
  match k,hk,hf with
  |0,_,hf=>exact⟨_,_,_,_,cE mixed (au _) okY (Zd P l d q t z e) rfl (ag3 _) (by simp[vZ,bg.H]),by simp,.inr ⟨by simp,.inl ⟨rfl,rfl,rfl,hf⟩⟩⟩
  |i+1,hk,hf=>
   have ei:((i+1:Nat):Int)-1=(i:Int):=by omega
   rw[ei];have hi:i<q.length:=by omega
   have hb:=ah (To P l d q t z e i) (bl (by omega));rw[tK Ia none q i hi]at hf;have next:Kn 0 (q.getD i qn)=false->q.foldl Ia none=(q.take i).foldl Ia none:=λh=>by
    rw[hf];unfold Ia;rw[h];rfl
   rw[wi (x:=(i:Int)-1) (by omega) (by omega)]at hb;cases h2:((q.getD i qn).num==(2:Int))with
   |false=>
    have hb:=bO hb h2;exact⟨_,_,_,_,cE mixed (au _) okY hb rfl (ag3 _) (by simp[vZ,bg.H]),by simp,.inl ⟨rfl,i,by omega,rfl,by omega,rfl,next (by rw[Tu,h2];rfl)⟩⟩
   |true=>
    have hb:=ah hb h2;cases h0:((q.getD i qn).kd==(0:Int))with
    |false=>
     have hb:=bO hb h0;exact⟨_,_,_,_,cE mixed (au _) okY hb rfl (ag3 _) (by simp[vZ,bg.H]),by simp,.inl ⟨rfl,i,by omega,rfl,by omega,rfl,next (by rw[Tu,h2,h0];rfl)⟩⟩
    |true=>
     have hb:=ah hb h0;have hh:Kn 0 (q.getD i qn)=true:=by rw[Tu,h2,h0];rfl
     exact⟨_,_,_,_,cE mixed (au _) okY hb rfl (ag3 _) (by simp[vZ,bg.H]),by simp,.inr ⟨by simp,.inr ⟨_,_,rfl,rfl,rfl,by rw[hf];unfold Ia;rw[hh];rfl⟩⟩⟩)
 have e0:mT (IntKind.i64.wrap ((q.length:Int)-1))=mT ((q.length:Int)-1):=by rw[wi (by omega) (by omega)]
 rw[e0];obtain⟨x,T',H',W,dC,hW,⟨rfl,rfl,rfl,hn⟩|⟨v,i,rfl,rfl,rfl,hn⟩⟩:=Iu q.length (mT ((q.length:Int)-1)) _ ⟨rfl,ag3 _,rfl,by rw[ahR]⟩
 ·exact⟨W,hW,.inl ⟨hn,dC⟩⟩
 ·exact⟨W,hW,.inr ⟨v,i,hn,dC⟩⟩
theorem Kq {W:List Nat}{k:Nat}(hW:∀l∈W,3<=l) (hk:k=8):∀l∈W,l<k->l∈OE:=λl hl cO=>by
 have h3:=hW l hl;have h:l=3∨l=4∨l=5∨l=6∨l=7:=by omega
 unfold OE;rcases h with rfl|rfl|rfl|rfl|rfl<;>simp
theorem Ze (hq:q.length<=16777216):(q.foldl Ia none=none/\bZ prog 139 [.kq 7,.ptr 5 0] (.bq []) (vZ P l d q t z e) (vZ P l d q t z e) OE)∨
  ∃v,q.foldl Ia none=some v/\bZ prog 139 [.kq 7,.ptr 5 0] (.bq []) (vZ P l d q t z e) (OD P l d q t z e v) OE:=by
 have key:∀(lo:FuncId->bX) (F:Option (AV×aa×Bool)) (H2:aa),(∀g,bA prog (lo g))->(mQ prog eZ lo 10 139 [.kq 7,.ptr 5 0] (vZ P l d q t z e)).via Wx=F->F=some (.bq [],H2,true)->bZ prog 139 [.kq 7,.ptr 5 0] (.bq []) (vZ P l d q t z e) H2 OE:=by
  intro lo F H2 hl ht hF;obtain⟨r,hr,he⟩:=cv ht hF;unfold Wx at he;simp only[ahe]at he;obtain⟨e1,e2,e3⟩:=he;have:=oZ mixed (bV _) hl 10 139 _ _ r hr;rw[e1,e2]at this;exact this.wr (Kq (λl hl=>aht (ahq.1 e3 l hl)) rfl)
 obtain⟨W,hW,⟨hn,dC⟩|⟨v,i,hn,dC⟩⟩:=Wz P l d q t z e hq
 ·exact .inl ⟨hn,key _ _ _ (λ_=>ba ab) (ah (Tp P l d q t z e _) (bc (dC.wr (Kq hW rfl)))) rfl⟩
 ·exact .inr ⟨v,hn,key _ _ _ (λ_=>ba ab) (ah (OF P l d q t z e i _) (bc (dC.wr (Kq hW rfl)))) rfl⟩
theorem Er {P:bg}{fs:jo}{lo:bX}{rt:nY}{g:FuncId}{args:List AV}{x:AV}{F:Option (AV×aa×Bool)}{n:Nat}(hl:bA prog lo) (h:(C6 prog (cK []) lo rt qM n g args (P.H fs)).via xB=F) (hF:F=some (x,P.H fs,true)) (hx:ff 3 x=true):bZ prog g args x (P.H fs) (P.H fs) []:=by
 obtain⟨r1,YR,hg⟩:=cv h hF;have dC:=K3 mixed (au _) hl By YR;unfold xB at hg;simp only[ahe]at hg;obtain⟨rfl,e,hw⟩:=hg;refine(kg dC e (gD P fs 3 (ag3 _)) hx).wr (λl hl cO=> ?_);have h3:=aht (ahq.1 hw l hl);have h4:l<3:=cO;omega
theorem Kr (hq:q.length<=16777216) (hn:l.length<=4398046511104) (hk:∀s∈P.l,s.kind≠0) (hr:∀H,bZ prog 69 [d.opts.av] (.bq [dd sJ q,i64 z,i64 e]) H H []):
  bZ prog 28 [.ptr 0 0,aS t,.agg d.cells] (cY (Cv d q (kW P l t))) (P.H (gZ l)) (P.H (gZ l)) []:=by
 unfold Cv;cases h3:(d.label !=(3:Int))with
 |true=>exact Er aF (ah (Ig P l d t false) h3) rfl rfl
 |false=>
  simp only[cond_false]
  cases hb:A9 d.mg with
  |false=>
   have ha:=ak (Cu d.mg []);rw[hb]at ha;exact Er aF (ah (ah (bO (Ig P l d t false) h3) ha) rfl) rfl rfl
  |true=>
   have ha:=ak (Cu d.mg []);rw[hb]at ha;have ed:Kp d=d:=by
    have:d.label=3:=by simpa using h3
    unfold Kp;rw[←this]
   rcases Ze P l d q t z e hq with ⟨sx,hc⟩|⟨v,sx,hc⟩
   ·have ht:=ah (ah (ah (ah (Wy P l d q t z e (kW P l t)) ha) (ak (hr []))) (bS hc)) (ak (H9 P l t hn hk));rw[ed]at ht;rw[sx];exact Er aF ht rfl rfl
   ·have ht:=ah (ah (ah (Tt P l d q t z e v (kW P l t)) ha) (ak (hr []))) (bS hc);rw[ed]at ht;rw[sx];exact Er aF ht rfl rfl
end
theorem Et {α:Type}{b:Bool}{x y z:α}(h:z=bif b then x else y):(b=true/\z=x)∨(b=false/\z=y):=by
 cases b with
 |true=>exact .inl ⟨rfl,h⟩
 |false=>exact .inr ⟨rfl,h⟩
theorem OG {p q:Bool}(h:(bif p then true else q)=false):p=false:=by
 cases p with
 |true=>cases h
 |false=>rfl
theorem Zf {nl:Bool}{l:List az}:LF (fL nl l):=bQ
theorem w7:∀(k:Nat) (nl:Bool) (l:List az) (a d:Int),0<=a->a<=1000->0<=d->d<=1000->(71-d).toNat<=k->l.length<=dg->(∀m∈l,m.sm)->∃n:Int,(0<=n/\n<=1000)/\∀H,bZ prog 180 [fL nl l,i64 a,i64 d] (i64 n) H H []
 |k,nl,l,a,d,ha0,ha1,TH,Uk,hk,hl,hm=>by
  have lf:∀x∈[fL nl l,i64 a,i64 d],LF x:=ao Zf (ao (.sc _) (ao (.sc _) bC));unfold dg at hl;by_cases j9:d>70
  ·exact⟨1000,⟨by omega,by omega⟩,λH=>bG mixed (au _) (ba ab) (ah (Ic nl l a 0 d 0) (bl j9)) rfl (.refl _) (.sc _) lf H⟩
  ·match k,hk with
   |0,hk=>omega
   |k+1,hk=>
    have Iu:=iE (P:=prog) (c:=ae f180 4)
     (λm T H=>∃(i:Nat) (b:Int),i<=l.length/\m=l.length-i/\(0<=b/\b<=1000)/\T=OB nl l b d 0 i/\H=[])
     (λx T H=>H=[]/\∃(i:Nat) (b:Int),(0<=b/\b<=1001)/\((x= .exit 0/\b<=1000/\T=OB nl l b d 0 i)∨(x= .ret/\T=OB nl l b d 1000 i))) 0 (by
     rintro m T H ⟨i,b,hi,rfl,hbb,rfl,rfl⟩;by_cases cO:i<l.length
     ·have oJ:aA l i∈l:=bM cO;have Bh:=az.dD (hm _ oJ);have key:∀n:Int,_:=λn=>ah (ah (Ib nl l b d n i) (bl (by omega))) (bl (by omega))
      rcases Et (key 0)with ⟨hc,hb⟩|⟨hc,hb⟩
      ·rw[wi (x:=b+1) (by omega) (by omega)]at hb;exact⟨_,_,_,_,ai mixed (au _) aF hb rfl (ag9 _) (by simp),λ_ _=>ag9 _,.inr ⟨by simp,rfl,i,b+1,⟨by omega,by omega⟩,.inr ⟨rfl,rfl⟩⟩⟩
      ·have h1:=of_decide_eq_false (OG hc);rw[wi (x:=b+1) (by omega) (by omega)]at h1;obtain⟨n,hn,hct⟩:=w7 k (aA l i).mN (aA l i).aC (b+1) (d+1) (by omega) (by omega) (by omega) (by omega) (by omega) Bh.aC.1 Bh.aC.2;have hb:=bO (key n) hc;rw[wi (x:=b+1) (by omega) (by omega),wi (x:=d+1) (by omega) (by omega),wi (x:=(i:Int)+1) (by omega) (by omega)]at hb;have hcc:bZ prog 180 [je (aA l i),i64 (b+1),i64 (d+1)] (i64 n) [] [] []:=(hct []).fR (.cons (mH _) (.refl _));have hb:=ah hb (ak hcc);exact⟨_,_,_,_,ai mixed (au _) aF hb rfl (ag9 _) (by simp),λ_ _=>ag9 _,.inl ⟨rfl,l.length-(i+1),by omega,i+1,n,by omega,rfl,hn,rfl,rfl⟩⟩
     ·have hb:=bO (Ib nl l b d 0 i) (da (by omega));exact⟨_,_,_,_,ai mixed (au _) aF hb rfl (ag9 _) (by simp),λ_ _=>ag9 _,.inr ⟨by simp,rfl,i,b,⟨by omega,by omega⟩,.inl ⟨rfl,by omega,rfl⟩⟩⟩)
    obtain⟨x,T',H',W,dC,_,rfl,i,b,hbb,⟨rfl,mr,rfl⟩|⟨rfl,rfl⟩⟩:=Iu _ _ _ ⟨0,a,ag9 _,rfl,⟨ha0,ha1⟩,rfl,rfl⟩
    ·have dC:=dC.wr (Wr':=[]) (λl _ hl=>absurd hl (ahg _));exact⟨b,⟨hbb.1,mr⟩,λH=>bG mixed (au _) (ba ab) (ah (bO (Ic nl l a b d i) (da j9)) (bc dC)) rfl (.refl _) (.sc _) lf H⟩
    ·have dC:=dC.wr (Wr':=[]) (λl _ hl=>absurd hl (ahg _));exact⟨1000,⟨by omega,by omega⟩,λH=>bG mixed (au _) (ba ab) (ah (bO (OC nl l a b d i) (da j9)) (bc dC)) rfl (.refl _) (.sc _) lf H⟩
theorem Ks (f:ag) (h:f.sz<=bL):∃b:Bool,∀H,bZ prog 107 [.agg f.two] (cY b) H H []:=by
 have hs:=ag.dD h;obtain⟨n,hn,hc⟩:=w7 71 f.ay.nl f.ay.l 0 0 (by omega) (by omega) (by omega) (by omega) (by omega) hs.2.2.2.2.1.1 hs.2.2.2.2.1.2;have lf:∀x∈[AV.agg f.two],LF x:=ao (.agg _ (by rw[←f.jW];exact xT f)) bC;have hb:=Zc f n;have h1:∀c:Bool,(bif c then(aD prog 180 [(.aY (f.ay.nl) 11 (f.ay.l.length) (λi=>(f.ay.l.getD i default).one) .dA),(.sc (.int .i64 0)),(.sc (.int .i64 0))] [] (.sc (.int .i64 (n))))else true)=true:=λc=>by
  cases c with
  |true=>exact ak (hc [])
  |false=>rfl
 exact⟨_,λH=>bG mixed (au _) aF (ah hb (h1 _)) rfl (.refl _) (.sc _) lf H⟩
theorem OH (r:aX ag) (hr:bw ag.sz r.l<=bL):∃b:Bool,∀H,bZ prog 50 [r.av 11 ag.two] (cY b) H H []:=by
 have lf:∀a∈[r.av 11 ag.two],LF a:=ao bQ bC;have hlen:=cy (f:=ag.sz) (l:=r.l) (λx _=>x.bT);by_cases KU:(r.l.length:Int)>10
 ·exact⟨false,λH=>bG mixed (au _) (ba ab) (ah (Mm r 0) (bl KU)) rfl (.refl _) (.sc _) lf H⟩
 ·have Iu:=iE (P:=prog) (c:=ae f50 4)
   (λm T H=>∃i:Nat,i<=r.l.length/\m=r.l.length-i/\T=T50 r false i/\H=[])
   (λx T H=>H=[]/\∃i:Nat,(x= .exit 0∨x= .ret)/\T=T50 r false i) 0 (by
   rintro m T H ⟨i,hi,rfl,rfl,rfl⟩;by_cases cO:i<r.l.length
   ·obtain⟨c,hc⟩:=Ks (aU r.l i) (ahx (cf (f:=ag.sz) (bM cO)) hr);have hb:=ah (ah (ah (Ml r i c) (bl (by omega))) (bl (by omega))) (ak (hc []))
    cases c with
    |true=>
     rw[wi (x:=(i:Int)+1) (by omega) (by omega)]at hb;exact⟨_,_,_,_,ai mixed (au _) aF hb rfl (ag9 _) (by simp),λ_ _=>ag9 _,.inl ⟨rfl,r.l.length-(i+1),by omega,i+1,by omega,rfl,rfl,rfl⟩⟩
    |false=>exact⟨_,_,_,_,ai mixed (au _) aF hb rfl (ag9 _) (by simp),λ_ _=>ag9 _,.inr ⟨by simp,rfl,i,.inr rfl,rfl⟩⟩
   ·have hb:=bO (Ml r i false) (da (by omega));exact⟨_,_,_,_,ai mixed (au _) aF hb rfl (ag9 _) (by simp),λ_ _=>ag9 _,.inr ⟨by simp,rfl,i,.inl rfl,rfl⟩⟩)
  obtain⟨x,T',H',W,dC,_,rfl,i,rfl|rfl,rfl⟩:=Iu _ _ _ ⟨0,ag9 _,rfl,rfl,rfl⟩
  ·have dC:=dC.wr (Wr':=[]) (λl _ hl=>absurd hl (ahg _));exact⟨true,λH=>bG mixed (au _) (ba ab) (ah (bO (Mm r i) (da KU)) (bc dC)) rfl (.refl _) (.sc _) lf H⟩
  ·have dC:=dC.wr (Wr':=[]) (λl _ hl=>absurd hl (ahg _));exact⟨false,λH=>bG mixed (au _) (ba ab) (ah (bO (Ti r i) (da KU)) (bc dC)) rfl (.refl _) (.sc _) lf H⟩
theorem Kt {lo:bX}{g:FuncId}{args:List AV}{x:AV}{H2:aa}{F:Option (AV×aa)}(hl:bA prog lo) (h:(eb prog (cK []) lo [] 3 g args []).via (λr:AV×aa×List Nat=>(r.1,r.2.1))=F) (hF:F=some (x,H2)):bZ prog g args x [] H2 []:=by
 obtain⟨r1,YR,hg⟩:=cv h hF;have dC:=gQ mixed (au _) hl YR;simp only[ahe]at hg;obtain⟨rfl,rfl⟩:=hg;exact dC.wr (λl _ hl=>absurd hl (ahg _))
inductive Zg (r:aX ag):Prop where
 |none (y:AV) (hy:y=gB∨y=(gC r).done.av) (h:∀H,bZ prog 18 [r.av 11 ag.two] (.bq [gB,y,cY false]) H H [])
 |bad (P:bg) (y:AV) (hy:y=gB∨y=(gC r).done.av) (h:bZ prog 18 [r.av 11 ag.two] (.bq [.ptr 0 0,y,cY false]) [] (P.H (gZ r.l)) [])
 |vz (P:bg) (hp:pH r.l=some P) (h:bZ prog 18 [r.av 11 ag.two] (.bq [.ptr 0 0,(gC r).done.av,cY true]) [] (P.H (gZ r.l)) [])
theorem Mn (r:aX ag):(∃s k,DI r= .bq [gB,aS s,i64 k])∨DI r= .bq [(gC r).done.av,aS aq,i64 0]:=by
 unfold DI
 cases r.l.any rV with
 |true=>exact .inl ⟨_,_,rfl⟩
 |false=>
  cases (gC r).e !=0 with
  |true=>exact .inl ⟨_,_,rfl⟩
  |false=>exact .inr rfl
theorem Tv {y:AV}(hy:LF y){b:Bool}:LF (.bq [gB,y,cY b]):= .bq _ (ao (.sc _) (ao hy (ao (.sc _) bC)))
theorem Ih (r:aX ag) (hr:bw ag.sz r.l<=1048576) (hk:∀x∈r.l,x.ok):Zg r:=by
 have lf:∀a∈[r.av 11 ag.two],LF a:=ao bQ bC;have xb:bw ag.sz r.l<=bL:=hr;obtain⟨b,fy⟩:=OH r xb;obtain⟨t1,a1,k1,Ul⟩:=Oz hr;rw[nr]at Ul;have Ii:=fy []
 cases b with
 |false=>exact .none gB (.inl rfl) (λH=>bG mixed (au _) aF (ah (ah (Ie r false t1 t1 t1 a1 k1 k1 k1) (ak Ii)) rfl) rfl (.refl _) (Tv (.sc _)) lf H)
 |true=>
  have WA:=Lv r xb [];rw[nr]at WA;have Xq:=abj r xb hk
  cases hp:pH r.l with
  |none=>
   rw[hp]at Xq;obtain⟨t3,k3,Xq⟩:=Xq;rcases Mn r with ⟨t2,k2,e⟩|e
   ·rw[e]at WA;have hb:=ah (ah (ah (bO (ah (Ie r true t1 t2 t3 a1 k1 k2 k3) (ak Ii)) rfl) (ak (Ul []))) (ak WA)) (ak (Xq []));refine .none gB (.inl rfl) (λH=>bG mixed (au _) aF hb ?_ (.refl _) (Tv (.sc _)) lf H);cases k1==0<;>rfl
   ·rw[e]at WA;have hb:=ah (ah (ah (bO (ah (Tj r true (gC r).done t1 aq t3 a1 k1 0 k3) (ak Ii)) rfl) (ak (Ul []))) (ak WA)) (ak (Xq []));refine .none (gC r).done.av (.inr rfl) (λH=>bG mixed (au _) aF hb ?_ (.refl _) (Tv (UQ _)) lf H);cases k1==0<;>rfl
  |some P=>
   rw[hp]at Xq;rcases Mn r with ⟨t2,k2,e⟩|e
   ·rw[e]at WA;have hb:=ah (ah (ah (ah (Tl r P t1 t2 a1 k1 k2) (ak Ii)) (ak (Ul []))) (ak WA)) (bS Xq);refine .bad P gB (.inl rfl) (Kt (bx aF) hb ?_);cases k1==0<;>rfl
   ·rw[e]at WA;have hb:=ah (ah (ah (ah (Wv r P (gC r).done t1 aq a1 k1 0) (ak Ii)) (ak (Ul []))) (ak WA)) (bS Xq);cases nz:k1==(0:Int)with
    |true=>rw[nz]at hb;exact .vz P hp (Kt (bx aF) hb rfl)
    |false=>rw[nz]at hb;exact .bad P _ (.inr rfl) (Kt (bx aF) hb rfl)
theorem Cw {r:aX ag}{P:bg}{d:aP}{y:AV}{b:Bool}(hy:y=gB∨y=(gC r).done.av) (h:bZ prog 18 [r.av 11 ag.two] (.bq [.ptr 0 0,y,cY b]) [] (P.H (gZ r.l)) []):
  bZ prog 18 [r.av 11 ag.two] (.bq [.ptr 1 0,y,cY b]) [.cells d.cells] (HV P r.l d) []:=by
 have key:=y4 h (H:=[.cells d.cells]) (s:=[]) (by simp) rfl (λi l hi=>by simp at hi) rfl (λo ho=>by simp at ho) (λo ho=>(gD P (gZ r.l) 3 (ag3 _) o ho).2);rcases hy with rfl|rfl<;>exact key
theorem Ku {P:bg}{l:List ag}{d:aP}{full:ByteArray}{c:Bool}(h:bZ prog 28 [.ptr 0 0,aS full,.agg d.cells] (cY c) (P.H (gZ l)) (P.H (gZ l)) []):
  bZ prog 28 [.ptr 1 0,aS full,.agg d.cells] (cY c) (HV P l d) (HV P l d) []:=by
 have NQ:dG 3 [.ptr 0 0,aS full,.agg d.cells]=true:=by
  simp only[dG,ff];rw[eP (Dx d)];rfl
 have key:=y4 h (H:=HV P l d) (s:=[1,2,3]) (by simp) rfl (λi l hi=>by
  match i,hi with
  |0,hi=>simp at hi;subst hi;rfl
  |1,hi=>simp at hi;subst hi;rfl
  |2,hi=>simp at hi;subst hi;rfl) NQ (gD P (gZ l) 3 (ag3 _)) (λo ho=>(gD P (gZ l) 3 (ag3 _) o ho).2)
 exact key
theorem xC (r:aX ag) (full:ByteArray) (d:aP) (hr:bw ag.sz r.l<=1048576) (hk:∀x∈r.l,x.ok) (hd:d.ok) (Ew:d.sz<=1048576):∃H1 Wr,bZ prog 6 [r.av 11 ag.cells,aS full,.agg d.cells] (.sc (.bool true)) [] H1 Wr:=by
 rw[nr];have lf:∀a∈[r.av 11 ag.two,aS full,.agg d.cells],LF a:=ao bQ (ao (.sc _) (ao (.agg _ (Dx d)) bC));have fin:∀{lo:bX} {F:Option AV},bA prog lo->(eb prog (cK []) lo [] 3 6 [r.av 11 ag.two,aS full,.agg d.cells] []).via ch=F->F=some (cY true)->∃H1 Wr,bZ prog 6 [r.av 11 ag.two,aS full,.agg d.cells] (.sc (.bool true)) [] H1 Wr:=
  λhl h hF=>⟨_,_,gh mixed (au _) hl h hF lf []⟩
 have aw:=ak (FI [])
 cases Ih r hr hk with
 |none y hy h=>exact fin (bx aF) (ah (ah (Tn r y full d) aw) (bS (h [.cells d.cells]))) rfl
 |bad P y hy h=>exact fin (bx aF) (ah (ah (Tm r P r.l y full d) aw) (bS (Cw hy h))) rfl
 |vz P hp h=>
  obtain⟨hh,S⟩:=Wo hp;have hlen:=cy (f:=ag.sz) (l:=r.l) (λx _=>x.bT);have hl0:=py r.l (fS r);have h0:(fS r).s.l.length=0:=rfl;have hf:(gC r).f=r:=(sV (Ma r) r.l (λf hf=>ag.dD (ahx (cf (f:=ag.sz) hf) hr)) (fS r) ⟨λx hx=>by simp[fS]at hx,rfl⟩).2;have XO:(gC r).done.s.l.length<=4398046511104:=by
   show (eW r.l (fS r)).s.l.length<=_;omega
  have hf1:(gC r).done.f.l.length<=4398046511104:=by
   show (gC r).f.l.length<=_;rw[hf];omega
  have s7:d.opts.l.length<=16777216:=by unfold aP.sz jh.sz at Ew;omega
  obtain⟨q,z,e,hq,he,h42,h69⟩:=Zb d.opts s7 hd.2.2.2.2.1;have c28:=Ku (Kr P r.l d q full z e (by omega) (by omega) S.kinds h69);have c29:=Ko (gC r).done full d q z e XO hf1 (by omega) he h42 [];rw[←H6 S hf full]at c29;have hb:=ah (ah (Ww r P r.l (gC r).done full d (Cv d q (kW P r.l full)) (Cv d q (kW P r.l full))) aw) (bS (Cw (.inr rfl) h));rcases Et hb with ⟨_,hb⟩|⟨_,hb⟩
  ·exact fin (bx aF) hb rfl
  ·rcases Et hb with ⟨_,hb⟩|⟨_,hb⟩
   ·exact fin (bx aF) hb rfl
   ·have hb:=ah (ah hb (ak c28)) (ak c29);exact fin (bx aF) hb (by rw[beq_self_eq_true]<;>rfl)
end Go.Proofs.YtiipaliigpkfhaaGreat.Ab
namespace Go.Proofs.YtiipaliigpkfhaaGreat.Ab
open Go Go.RowKit Go.ChangeShapes Go.Proofs Go.Proofs.Tryz
theorem gW {H:Type}(d:DataW H):1<=Rows.uptoBulk d:=by
 cases d with
 |lit l=>cases l<;>simp[Rows.uptoBulk]
 |nil=>simp[Rows.uptoBulk]
 |ptr d=>simp[Rows.uptoBulk]
 |slice elems spare=>simp[Rows.uptoBulk]
 |agg parts=>simp[Rows.uptoBulk]
 |iface t d=>simp[Rows.uptoBulk]
 |map entries=>simp[Rows.uptoBulk]
 |held h=>simp[Rows.uptoBulk]
theorem As {α:Type}:∀l:List α,bw (λ_=>1) l=l.length
 |[]=>rfl
 |a::l=>by rw[eh,As l,ahv];omega
theorem Ij {H α:Type}(f:α->Nat):∀(l:List α) (es:List (DataW H)),es.length=l.length->(∀(i:Nat) (a:α) (d:DataW H),l[i]? =some a->es[i]? =some d->f a<=Rows.uptoBulk d)->bw f l<=Rows.uptoBulkAll es
 |[],es,_,_=>ag9 _
 |a::l,[],h,_=>by simp at h
 |a::l,d::es,h,hr=>by
  rw[eh];simp only[Rows.uptoBulkAll];have h0:=hr 0 a d rfl rfl;have:=Ij f l es (by simpa using h) (λi a d h1 h2=>hr (i+1) a d (by simpa using h1) (by simpa using h2));omega
section
variable {H:Type}{enc:TypeId×Value->H}{W:World}{held:Bool}
theorem rB {α:Type}(OI:α->List AV) (f:α->Nat){P:Program}{t e:TypeId}{sz fuel:Nat}{cs:List Value}{x:DataW H×List MemPlace}(ht:P.underlying t=some (.slice e)) (hc:P.cellsOf e=sz) (IG:0<sz) (ga:∀a,(OI a).length=sz)
  (KQ:∀n,n<fuel->∀cs x,DataW.trod enc P W 0 (λ_=>true) held n e cs=some x->∃a:α,f a<=Rows.uptoBulk x.1/\Told W (OI a) cs) (h:DataW.trod enc P W 0 (λ_=>true) held fuel t cs=some x):
  ∃(nl:Bool) (l:List α),bw f l+1<=Rows.uptoBulk x.1/\Told W [.aY nl sz l.length (λi=>(l.map OI).getD i []) .dA] cs:=by
 rcases DataW.trod_slice ht h with ⟨rfl,rfl⟩|⟨a,len,cap,elems,rest,n,rfl,rfl,rfl,hb,hl,hm,hlen,he,hsp,_⟩
 ·exact⟨true,[],by simp[bw,Rows.uptoBulk],.one rfl (.fw _ _ _ (.inl rfl))⟩
 ·rw[hc]at he hsp;obtain⟨Zn,ZW⟩:=hsp rfl;have Xs:∀l:List α,bw f l<=Rows.uptoBulkAll (elems.map (·.1))->bw f l+1<=Rows.uptoBulk (DataW.slice (elems.map (·.1)) (rest.map (·.1))):=λl h=>by
   simp only[Rows.uptoBulk];omega
  have wb:∀i,i<cap->∃cs',W.cells? 0 (a.add (i*sz)) sz=some cs'/\∃y,DataW.trod enc P W 0 (λ_=>true) held n e cs'=some y/\(i<len->elems[i]? =some y):=by
   intro i hi;by_cases ud:i<len
   ·have:=he i ud;rw[ahc (by omega),Option.bind_eq_some_iff]at this;obtain⟨cs',h1,h2⟩:=this;exact⟨cs',h1,_,h2,λ_=>ahc (by omega)⟩
   ·have:=ZW (i-len) (by omega);rw[ahc (by omega),Option.bind_eq_some_iff]at this;rw[show len+(i-len)=i by omega]at this;obtain⟨cs',h1,h2⟩:=this;exact⟨cs',h1,_,h2,λh=>absurd h ud⟩
  by_cases h0:cap=0
  ·subst h0;have:len=0:=by omega
   subst this;exact⟨false,[],Xs [] (ag9 _),.one rfl (.gG _ _ _ a (.inl rfl))⟩
  ·obtain⟨b,off,spot⟩:=a;have abP:spot=none:=by
    obtain⟨cs',h1,_⟩:=wb 0 (by omega);have h2:=(World.cells?_some h1).2.2 0 IG;have WL:=(World.cells?_some h1).2.1;rw[ahc (by omega)]at h2;simp only[Nat.zero_mul,Addr.add,if_true]at h2
    cases spot with
    |none=>rfl
    |some s=>
     unfold World.cell? at h2;simp at h2;split at h2<;>simp at h2
   subst abP;obtain⟨l,vr,hlq⟩:=BG (Q:=λi (y:α)=>∃cs',W.cells? 0 ((⟨b,off,none⟩:Addr).add (i*sz)) sz=some cs'/\Told W (OI y) cs'/\∃d,elems[i]? =some d/\f y<=Rows.uptoBulk d.1) len (λi hi=>by
    obtain⟨cs',h1,y,h2,hy⟩:=wb i (by omega);obtain⟨z,XB,hz⟩:=KQ n (ahP _) cs' y h2;exact⟨z,cs',h1,hz,y,hy hi,XB⟩)
   have fx:∀i,i<len->∃y,l[i]? =some y/\(l.map OI).getD i []=OI y:=λi hi=>by
    have sY:i<l.length:=by omega
    exact⟨l[i],ahc sY,by simp[ag4,sY]⟩
   refine⟨false,l,Xs l (Ij f l _ (by simp;omega) (λi a d ha hd=> ?_)),.one rfl ?_⟩
   ·obtain⟨cs',_,_,d0,h1,h2⟩:=hlq i a ha;rw[ahy,h1]at hd;simp at hd;rw[←hd];exact h2
   rw[vr];refine .aY sz len _ .dA b off cap (λi j=>(W.cell? ⟨b,off+i*sz+j,none⟩).getD undef) hm hl hl (λi hi=> ?_) (λi hi x hx=> ?_) (λi hi j x hj=> ?_) (λi hi j x hj=> ?_)
   ·obtain⟨y,_,hy⟩:=fx i hi;rw[hy,ga]
   ·obtain⟨y,Zw,hy⟩:=fx i hi;rw[hy]at hx;obtain⟨cs',_,hT,_⟩:=hlq i y Zw;obtain⟨j,hj⟩:=ahT hx;exact(hT.2 j x hj).1
   ·obtain⟨y,Zw,hy⟩:=fx i hi;rw[hy]at hj;obtain⟨cs',EJ,hT,_⟩:=hlq i y Zw;have TX:j<sz:=by rw[←ga y];exact(ag5.1 hj).1
    have h2:=(World.cells?_some EJ).2.2 j TX;have h3:=(World.cells?_some EJ).2.1;rw[dV,dV,ahc (by omega)]at h2;show W.cell? ⟨b,off+i*sz+j,none⟩=some ((W.cell? ⟨b,off+i*sz+j,none⟩).getD undef);rw[h2];rfl
   ·obtain⟨y,Zw,hy⟩:=fx i hi;rw[hy]at hj;obtain⟨cs',EJ,hT,_⟩:=hlq i y Zw;have TX:j<sz:=by rw[←ga y];exact(ag5.1 hj).1
    have h2:=(World.cells?_some EJ).2.2 j TX;have h3:=(World.cells?_some EJ).2.1;rw[dV,dV,ahc (by omega)]at h2;have h4:=(hT.2 j x hj).2;rw[ag4,ahc (by omega)]at h4;show Rel (Env.lL W).data.data x ((W.cell? ⟨b,off+i*sz+j,none⟩).getD undef);rw[h2];exact h4
variable {fuel:Nat}{cs:List Value}{x:DataW H×List MemPlace}
theorem iW (h:DataW.trod enc prog W 0 (λ_=>true) held fuel 9 cs=some x):∃s:ByteArray,s.size+1<=Rows.uptoBulk x.1/\Told W [.sc (.string s)] cs:=by
 obtain⟨s,rfl,rfl,_⟩:=DataW.trod_string underlying9 h;refine⟨s,?_,.one rfl (.sc _ rfl)⟩;simp only[Rows.uptoBulk];have:s.data.toList.length=s.size:=by rw[Array.length_toList];rfl
 omega
theorem lP (h:DataW.trod enc prog W 0 (λ_=>true) held fuel 23 cs=some x):∃b:jh,(b.nl=true->b.l.length=0)/\b.sz<=Rows.uptoBulk x.1/\Told W [b.av] cs:=by
 obtain⟨nl,l,hz,hT⟩:=rB dy (λ_=>1) (e:=5) (sz:=1) underlying23 (by kernel_rfl) (by omega) (λ_=>rfl) (λn _ cs x hx=>by
  obtain⟨k,rfl,rfl,hw⟩:=DataW.trod_int underlying5 hx;exact⟨UInt8.ofNat k.toNat,gW _,.one rfl (by rw[aaA hw];exact .sc _ rfl)⟩) h
 refine⟨⟨nl,l⟩,uw hT,?_,hT⟩;have:bw (λ_:UInt8=>1) l=l.length:=As l;unfold jh.sz;simp only;omega
theorem Mo (h:DataW.trod enc prog W 0 (λ_=>true) held fuel 40 cs=some x):∃b:bD,(b.nl=true->b.l.length=0)/\b.sz<=Rows.uptoBulk x.1/\Told W [b.av] cs:=by
 obtain⟨nl,l,hz,hT⟩:=rB (λs:ByteArray=>[AV.sc (.string s)]) (λs=>s.size+1) (e:=9) (sz:=1) underlying40 (by kernel_rfl) (by omega) (λ_=>rfl) (λn _ cs x hx=>iW hx) h;refine⟨⟨nl,l⟩,uw hT,hz,hT.wk1 (ev.aY ?_) rfl⟩;exact y5 _ _ l (λi s hs=>by simp[ag4,hs])
theorem WB (h:DataW.trod enc prog W 0 (λ_=>true) held fuel 56 cs=some x):∃b:nZ,(b.nl=true->b.l.length=0)/\b.sz<=Rows.uptoBulk x.1/\Told W [b.av] cs:=by
 obtain⟨nl,l,hz,hT⟩:=rB (λs:Int=>[AV.sc (.int .i64 s)]) (λ_=>1) (e:=3) (sz:=1) underlying56 (by kernel_rfl) (by omega) (λ_=>rfl) (λn _ cs x hx=>let ⟨k,_,h⟩:=lh underlying3 hx;⟨k,gW _,h⟩) h;refine⟨⟨nl,l⟩,uw hT,?_,hT.wk1 (ev.aY ?_) rfl⟩
 ·have:bw (λ_:Int=>1) l=l.length:=As l;unfold nZ.sz;simp only;omega
 ·exact y5 _ _ l (λi s hs=>by simp[ag4,hs])
theorem kM {α:Type} [Inhabited α] {Q:α->Prop}(f:α->List AV) (s:α->Nat){t e:TypeId}{sz:Nat}(ht:prog.underlying t=some (.slice e)) (hc:prog.cellsOf e=sz) (IG:0<sz) (ga:∀a,(f a).length=sz)
  (KQ:∀n,n<fuel->∀cs x,DataW.trod enc prog W 0 (λ_=>true) held n e cs=some x->∃a:α,Q a/\s a<=Rows.uptoBulk x.1/\Told W (f a) cs) (h:DataW.trod enc prog W 0 (λ_=>true) held fuel t cs=some x):
  ∃r:aX α,(r.nl=true->r.l.length=0)/\(∀y∈r.l,Q y)/\r.sz s<=Rows.uptoBulk x.1/\Told W [r.av sz f] cs:=by
 obtain⟨nl,l,hz,hT⟩:=rB (λs:{ a:α // Q a}=>f s.1) (λy=>s y.1) ht hc IG (λs=>ga s.1) (λn hn cs x hx=>let ⟨a,ha,hs,h⟩:=KQ n hn cs x hx;⟨⟨a,ha⟩,hs,h⟩) h;refine⟨⟨nl,l.map (·.1)⟩,by simpa using uw hT,aaB l,?_,?_⟩
 ·unfold aX.sz;have:bw s (l.map (·.1))=bw (λy:{ a:α // Q a}=>s y.1) l:=by simp[bw,ain,Function.comp_def]
  simp only[this];exact hz
 ·unfold aX.av;simp only[air];exact hT.wk1 (ev.aY (y5 _ _ l (λi s hs=>by simp[ag4,hs]))) rfl
theorem Mp (h:DataW.trod enc prog W 0 (λ_=>true) held fuel 273 cs=some x):∃d:dY,d.ok/\d.sz<=Rows.uptoBulk x.1/\Told W d.cells cs:=by
 obtain⟨xs,n,rfl,Ik,hlen,Il,hf⟩:=DataW.trod_struct underlying273 h;have hl:cs.length=2:=by rw[hlen];kernel_rfl
 have hx:xs.length=2:=by rw[Il];rfl
 match cs,hl,xs,hx with
 |[c0,c1],_,[x0,x1],_=>
  have e0:DataW.trod enc prog W 0 (λ_=>true) held n 2 [c0]=some x0:=kh (t:=2) (o:=0) (k:=1) (cs:=[c0,c1]) (hf 0 _ rfl) (by kernel_rfl);obtain⟨v0,o0,t0⟩:=lh underlying2 e0;have b0:=gW x0.1;have e1:DataW.trod enc prog W 0 (λ_=>true) held n 2 [c1]=some x1:=kh (t:=2) (o:=1) (k:=1) (cs:=[c0,c1]) (hf 1 _ rfl) (by kernel_rfl);obtain⟨v1,o1,t1⟩:=lh underlying2 e1;have b1:=gW x1.1;exact⟨⟨v0,v1⟩,⟨o0,o1⟩,by subst Ik;simp only[ahJ,aia,Rows.uptoBulk,Rows.uptoBulkAll];unfold dY.sz;(try simp only);omega,t0.append t1⟩
theorem ye (h:DataW.trod enc prog W 0 (λ_=>true) held fuel 45 cs=some x):∃d:aP,d.ok/\d.sz<=Rows.uptoBulk x.1/\Told W d.cells cs:=by
 obtain⟨xs,n,rfl,Ik,hlen,Il,hf⟩:=DataW.trod_struct underlying45 h;have hl:cs.length=13:=by rw[hlen];kernel_rfl
 have hx:xs.length=13:=by rw[Il];rfl
 match cs,hl,xs,hx with
 |[c0,c1,c2,c3,c4,c5,c6,c7,c8,c9,oF,Mq,Mr],_,[x0,x1,x2,x3,x4,x5,x6,x7,x8,x9,ZD,x11,TC],_=>
  have e0:DataW.trod enc prog W 0 (λ_=>true) held n 9 [c0]=some x0:=kh (t:=9) (o:=0) (k:=1) (cs:=[c0,c1,c2,c3,c4,c5,c6,c7,c8,c9,oF,Mq,Mr]) (hf 0 _ rfl) (by kernel_rfl);obtain⟨v0,b0,t0⟩:=iW e0;have e1:DataW.trod enc prog W 0 (λ_=>true) held n 2 [c1]=some x1:=kh (t:=2) (o:=1) (k:=1) (cs:=[c0,c1,c2,c3,c4,c5,c6,c7,c8,c9,oF,Mq,Mr]) (hf 1 _ rfl) (by kernel_rfl);obtain⟨v1,o1,t1⟩:=lh underlying2 e1;have b1:=gW x1.1;have e2:DataW.trod enc prog W 0 (λ_=>true) held n 3 [c2]=some x2:=kh (t:=3) (o:=2) (k:=1) (cs:=[c0,c1,c2,c3,c4,c5,c6,c7,c8,c9,oF,Mq,Mr]) (hf 2 _ rfl) (by kernel_rfl);obtain⟨v2,o2,t2⟩:=lh underlying3 e2;have b2:=gW x2.1;have e3:DataW.trod enc prog W 0 (λ_=>true) held n 3 [c3]=some x3:=kh (t:=3) (o:=3) (k:=1) (cs:=[c0,c1,c2,c3,c4,c5,c6,c7,c8,c9,oF,Mq,Mr]) (hf 3 _ rfl) (by kernel_rfl);obtain⟨v3,o3,t3⟩:=lh underlying3 e3;have b3:=gW x3.1;have e4:DataW.trod enc prog W 0 (λ_=>true) held n 9 [c4]=some x4:=kh (t:=9) (o:=4) (k:=1) (cs:=[c0,c1,c2,c3,c4,c5,c6,c7,c8,c9,oF,Mq,Mr]) (hf 4 _ rfl) (by kernel_rfl);obtain⟨v4,b4,t4⟩:=iW e4;have e5:DataW.trod enc prog W 0 (λ_=>true) held n 9 [c5]=some x5:=kh (t:=9) (o:=5) (k:=1) (cs:=[c0,c1,c2,c3,c4,c5,c6,c7,c8,c9,oF,Mq,Mr]) (hf 5 _ rfl) (by kernel_rfl);obtain⟨v5,b5,t5⟩:=iW e5;have e6:DataW.trod enc prog W 0 (λ_=>true) held n 9 [c6]=some x6:=kh (t:=9) (o:=6) (k:=1) (cs:=[c0,c1,c2,c3,c4,c5,c6,c7,c8,c9,oF,Mq,Mr]) (hf 6 _ rfl) (by kernel_rfl);obtain⟨v6,b6,t6⟩:=iW e6;have e7:DataW.trod enc prog W 0 (λ_=>true) held n 4 [c7]=some x7:=kh (t:=4) (o:=7) (k:=1) (cs:=[c0,c1,c2,c3,c4,c5,c6,c7,c8,c9,oF,Mq,Mr]) (hf 7 _ rfl) (by kernel_rfl)
  obtain⟨v7,t7⟩:=rQ e7;have b7:=gW x7.1;have e8:DataW.trod enc prog W 0 (λ_=>true) held n 3 [c8]=some x8:=kh (t:=3) (o:=8) (k:=1) (cs:=[c0,c1,c2,c3,c4,c5,c6,c7,c8,c9,oF,Mq,Mr]) (hf 8 _ rfl) (by kernel_rfl);obtain⟨v8,o8,t8⟩:=lh underlying3 e8;have b8:=gW x8.1;have e9:DataW.trod enc prog W 0 (λ_=>true) held n 9 [c9]=some x9:=kh (t:=9) (o:=9) (k:=1) (cs:=[c0,c1,c2,c3,c4,c5,c6,c7,c8,c9,oF,Mq,Mr]) (hf 9 _ rfl) (by kernel_rfl);obtain⟨v9,b9,t9⟩:=iW e9;have Zt:DataW.trod enc prog W 0 (λ_=>true) held n 4 [oF]=some ZD:=kh (t:=4) (o:=10) (k:=1) (cs:=[c0,c1,c2,c3,c4,c5,c6,c7,c8,c9,oF,Mq,Mr]) (hf 10 _ rfl) (by kernel_rfl);obtain⟨v10,t10⟩:=rQ Zt;have dP:=gW ZD.1;have e11:DataW.trod enc prog W 0 (λ_=>true) held n 23 [Mq]=some x11:=kh (t:=23) (o:=11) (k:=1) (cs:=[c0,c1,c2,c3,c4,c5,c6,c7,c8,c9,oF,Mq,Mr]) (hf 11 _ rfl) (by kernel_rfl);obtain⟨v11,o11,dT,t11⟩:=lP e11;have e12:DataW.trod enc prog W 0 (λ_=>true) held n 23 [Mr]=some TC:=kh (t:=23) (o:=12) (k:=1) (cs:=[c0,c1,c2,c3,c4,c5,c6,c7,c8,c9,oF,Mq,Mr]) (hf 12 _ rfl) (by kernel_rfl);obtain⟨v12,o12,dU,t12⟩:=lP e12;exact⟨⟨v0,v1,v2,v3,v4,v5,v6,v7,v8,v9,v10,v11,v12⟩,⟨o1,o2,o3,o8,o11,o12⟩,by subst Ik;simp only[ahJ,aia,Rows.uptoBulk,Rows.uptoBulkAll];unfold aP.sz;(try simp only);omega,t0.append (t1.append (t2.append (t3.append (t4.append (t5.append (t6.append (t7.append (t8.append (t9.append (t10.append (t11.append t12)))))))))))⟩
theorem Zh (h:DataW.trod enc prog W 0 (λ_=>true) held fuel 217 cs=some x):∃d:eT,d.ok/\d.sz<=Rows.uptoBulk x.1/\Told W d.cells cs:=by
 obtain⟨xs,n,rfl,Ik,hlen,Il,hf⟩:=DataW.trod_struct underlying217 h;have hl:cs.length=4:=by rw[hlen];kernel_rfl
 have hx:xs.length=4:=by rw[Il];rfl
 match cs,hl,xs,hx with
 |[c0,c1,c2,c3],_,[x0,x1,x2,x3],_=>
  have e0:DataW.trod enc prog W 0 (λ_=>true) held n 9 [c0]=some x0:=kh (t:=9) (o:=0) (k:=1) (cs:=[c0,c1,c2,c3]) (hf 0 _ rfl) (by kernel_rfl);obtain⟨v0,b0,t0⟩:=iW e0;have e1:DataW.trod enc prog W 0 (λ_=>true) held n 2 [c1]=some x1:=kh (t:=2) (o:=1) (k:=1) (cs:=[c0,c1,c2,c3]) (hf 1 _ rfl) (by kernel_rfl);obtain⟨v1,o1,t1⟩:=lh underlying2 e1;have b1:=gW x1.1;have e2:DataW.trod enc prog W 0 (λ_=>true) held n 23 [c2]=some x2:=kh (t:=23) (o:=2) (k:=1) (cs:=[c0,c1,c2,c3]) (hf 2 _ rfl) (by kernel_rfl);obtain⟨v2,o2,b2,t2⟩:=lP e2;have e3:DataW.trod enc prog W 0 (λ_=>true) held n 23 [c3]=some x3:=kh (t:=23) (o:=3) (k:=1) (cs:=[c0,c1,c2,c3]) (hf 3 _ rfl) (by kernel_rfl);obtain⟨v3,o3,b3,t3⟩:=lP e3;exact⟨⟨v0,v1,v2,v3⟩,⟨o1,o2,o3⟩,by subst Ik;simp only[ahJ,aia,Rows.uptoBulk,Rows.uptoBulkAll];unfold eT.sz;(try simp only);omega,t0.append (t1.append (t2.append t3))⟩
theorem WC (h:DataW.trod enc prog W 0 (λ_=>true) held fuel 215 cs=some x):∃d:cF,d.ok/\d.sz<=Rows.uptoBulk x.1/\Told W d.cells cs:=by
 obtain⟨xs,n,rfl,Ik,hlen,Il,hf⟩:=DataW.trod_struct underlying215 h;have hl:cs.length=3:=by rw[hlen];kernel_rfl
 have hx:xs.length=3:=by rw[Il];rfl
 match cs,hl,xs,hx with
 |[c0,c1,c2],_,[x0,x1,x2],_=>
  have e0:DataW.trod enc prog W 0 (λ_=>true) held n 9 [c0]=some x0:=kh (t:=9) (o:=0) (k:=1) (cs:=[c0,c1,c2]) (hf 0 _ rfl) (by kernel_rfl);obtain⟨v0,b0,t0⟩:=iW e0;have e1:DataW.trod enc prog W 0 (λ_=>true) held n 23 [c1]=some x1:=kh (t:=23) (o:=1) (k:=1) (cs:=[c0,c1,c2]) (hf 1 _ rfl) (by kernel_rfl);obtain⟨v1,o1,b1,t1⟩:=lP e1;have e2:DataW.trod enc prog W 0 (λ_=>true) held n 23 [c2]=some x2:=kh (t:=23) (o:=2) (k:=1) (cs:=[c0,c1,c2]) (hf 2 _ rfl) (by kernel_rfl);obtain⟨v2,o2,b2,t2⟩:=lP e2;exact⟨⟨v0,v1,v2⟩,⟨o1,o2⟩,by subst Ik;simp only[ahJ,aia,Rows.uptoBulk,Rows.uptoBulkAll];unfold cF.sz;(try simp only);omega,t0.append (t1.append t2)⟩
theorem WD (h:DataW.trod enc prog W 0 (λ_=>true) held fuel 222 cs=some x):∃d:cM,d.ok/\d.sz<=Rows.uptoBulk x.1/\Told W d.cells cs:=by
 obtain⟨xs,n,rfl,Ik,hlen,Il,hf⟩:=DataW.trod_struct underlying222 h;have hl:cs.length=7:=by rw[hlen];kernel_rfl
 have hx:xs.length=7:=by rw[Il];rfl
 match cs,hl,xs,hx with
 |[c0,c1,c2,c3,c4,c5,c6],_,[x0,x1,x2,x3,x4,x5,x6],_=>
  have e0:DataW.trod enc prog W 0 (λ_=>true) held n 9 [c0]=some x0:=kh (t:=9) (o:=0) (k:=1) (cs:=[c0,c1,c2,c3,c4,c5,c6]) (hf 0 _ rfl) (by kernel_rfl);obtain⟨v0,b0,t0⟩:=iW e0;have e1:DataW.trod enc prog W 0 (λ_=>true) held n 9 [c1]=some x1:=kh (t:=9) (o:=1) (k:=1) (cs:=[c0,c1,c2,c3,c4,c5,c6]) (hf 1 _ rfl) (by kernel_rfl);obtain⟨v1,b1,t1⟩:=iW e1;have e2:DataW.trod enc prog W 0 (λ_=>true) held n 9 [c2]=some x2:=kh (t:=9) (o:=2) (k:=1) (cs:=[c0,c1,c2,c3,c4,c5,c6]) (hf 2 _ rfl) (by kernel_rfl);obtain⟨v2,b2,t2⟩:=iW e2;have e3:DataW.trod enc prog W 0 (λ_=>true) held n 4 [c3]=some x3:=kh (t:=4) (o:=3) (k:=1) (cs:=[c0,c1,c2,c3,c4,c5,c6]) (hf 3 _ rfl) (by kernel_rfl);obtain⟨v3,t3⟩:=rQ e3;have b3:=gW x3.1;have e4:DataW.trod enc prog W 0 (λ_=>true) held n 4 [c4]=some x4:=kh (t:=4) (o:=4) (k:=1) (cs:=[c0,c1,c2,c3,c4,c5,c6]) (hf 4 _ rfl) (by kernel_rfl);obtain⟨v4,t4⟩:=rQ e4;have b4:=gW x4.1;have e5:DataW.trod enc prog W 0 (λ_=>true) held n 23 [c5]=some x5:=kh (t:=23) (o:=5) (k:=1) (cs:=[c0,c1,c2,c3,c4,c5,c6]) (hf 5 _ rfl) (by kernel_rfl);obtain⟨v5,o5,b5,t5⟩:=lP e5;have e6:DataW.trod enc prog W 0 (λ_=>true) held n 23 [c6]=some x6:=kh (t:=23) (o:=6) (k:=1) (cs:=[c0,c1,c2,c3,c4,c5,c6]) (hf 6 _ rfl) (by kernel_rfl);obtain⟨v6,o6,b6,t6⟩:=lP e6;exact⟨⟨v0,v1,v2,v3,v4,v5,v6⟩,⟨o5,o6⟩,by subst Ik;simp only[ahJ,aia,Rows.uptoBulk,Rows.uptoBulkAll];unfold cM.sz;(try simp only);omega,t0.append (t1.append (t2.append (t3.append (t4.append (t5.append t6)))))⟩
theorem Ms (h:DataW.trod enc prog W 0 (λ_=>true) held fuel 106 cs=some x):∃d:bt,d.ok/\d.sz<=Rows.uptoBulk x.1/\Told W d.cells cs:=by
 obtain⟨xs,n,rfl,Ik,hlen,Il,hf⟩:=DataW.trod_struct underlying106 h;have hl:cs.length=4:=by rw[hlen];kernel_rfl
 have hx:xs.length=4:=by rw[Il];rfl
 match cs,hl,xs,hx with
 |[c0,c1,c2,c3],_,[x0,x1,x2,x3],_=>
  have e0:DataW.trod enc prog W 0 (λ_=>true) held n 9 [c0]=some x0:=kh (t:=9) (o:=0) (k:=1) (cs:=[c0,c1,c2,c3]) (hf 0 _ rfl) (by kernel_rfl);obtain⟨v0,b0,t0⟩:=iW e0;have e1:DataW.trod enc prog W 0 (λ_=>true) held n 104 [c1]=some x1:=kh (t:=104) (o:=1) (k:=1) (cs:=[c0,c1,c2,c3]) (hf 1 _ rfl) (by kernel_rfl);obtain⟨v1,o1,q1,b1,t1⟩:=kM eT.cells eT.sz (Q:=eT.ok) (e:=217) (sz:=4) underlying104 (by kernel_rfl) (by omega) eT.dJ (λn1 _ OJ y1 h1=>Zh h1) e1;have e2:DataW.trod enc prog W 0 (λ_=>true) held n 23 [c2]=some x2:=kh (t:=23) (o:=2) (k:=1) (cs:=[c0,c1,c2,c3]) (hf 2 _ rfl) (by kernel_rfl);obtain⟨v2,o2,b2,t2⟩:=lP e2;have e3:DataW.trod enc prog W 0 (λ_=>true) held n 23 [c3]=some x3:=kh (t:=23) (o:=3) (k:=1) (cs:=[c0,c1,c2,c3]) (hf 3 _ rfl) (by kernel_rfl);obtain⟨v3,o3,b3,t3⟩:=lP e3;exact⟨⟨v0,v1,v2,v3⟩,⟨o1,q1,o2,o3⟩,by subst Ik;simp only[ahJ,aia,Rows.uptoBulk,Rows.uptoBulkAll];unfold bt.sz;(try simp only);omega,t0.append (t1.append (t2.append t3))⟩
theorem WE (h:DataW.trod enc prog W 0 (λ_=>true) held fuel 220 cs=some x):∃d:bN,d.ok/\d.sz<=Rows.uptoBulk x.1/\Told W d.cells cs:=by
 obtain⟨xs,n,rfl,Ik,hlen,Il,hf⟩:=DataW.trod_struct underlying220 h;have hl:cs.length=4:=by rw[hlen];kernel_rfl
 have hx:xs.length=4:=by rw[Il];rfl
 match cs,hl,xs,hx with
 |[c0,c1,c2,c3],_,[x0,x1,x2,x3],_=>
  have e0:DataW.trod enc prog W 0 (λ_=>true) held n 9 [c0]=some x0:=kh (t:=9) (o:=0) (k:=1) (cs:=[c0,c1,c2,c3]) (hf 0 _ rfl) (by kernel_rfl);obtain⟨v0,b0,t0⟩:=iW e0;have e1:DataW.trod enc prog W 0 (λ_=>true) held n 218 [c1]=some x1:=kh (t:=218) (o:=1) (k:=1) (cs:=[c0,c1,c2,c3]) (hf 1 _ rfl) (by kernel_rfl);obtain⟨v1,o1,q1,b1,t1⟩:=kM cM.cells cM.sz (Q:=cM.ok) (e:=222) (sz:=7) underlying218 (by kernel_rfl) (by omega) cM.dJ (λn1 _ OJ y1 h1=>WD h1) e1;have e2:DataW.trod enc prog W 0 (λ_=>true) held n 23 [c2]=some x2:=kh (t:=23) (o:=2) (k:=1) (cs:=[c0,c1,c2,c3]) (hf 2 _ rfl) (by kernel_rfl);obtain⟨v2,o2,b2,t2⟩:=lP e2;have e3:DataW.trod enc prog W 0 (λ_=>true) held n 23 [c3]=some x3:=kh (t:=23) (o:=3) (k:=1) (cs:=[c0,c1,c2,c3]) (hf 3 _ rfl) (by kernel_rfl);obtain⟨v3,o3,b3,t3⟩:=lP e3;exact⟨⟨v0,v1,v2,v3⟩,⟨o1,q1,o2,o3⟩,by subst Ik;simp only[ahJ,aia,Rows.uptoBulk,Rows.uptoBulkAll];unfold bN.sz;(try simp only);omega,t0.append (t1.append (t2.append t3))⟩
theorem WG:∀(fuel:Nat) (cs:List Value) (x:DataW H×List MemPlace),DataW.trod enc prog W 0 (λ_=>true) held fuel 84 cs=some x->∃d:az,d.ok/\d.sz<=Rows.uptoBulk x.1/\Told W d.cells cs:=by
 intro fuel
 induction fuel using Nat.strongRecOn with
 |_ fuel ih=>
 intro cs x h;obtain⟨xs,n,rfl,Ik,hlen,Il,hf⟩:=DataW.trod_struct underlying84 h;have hl:cs.length=11:=by rw[hlen];kernel_rfl
 have hx:xs.length=11:=by rw[Il];rfl
 match cs,hl,xs,hx with
 |[c0,c1,c2,c3,c4,c5,c6,c7,c8,c9,oF],_,[x0,x1,x2,x3,x4,x5,x6,x7,x8,x9,ZD],_=>
  have e0:DataW.trod enc prog W 0 (λ_=>true) held n 9 [c0]=some x0:=kh (t:=9) (o:=0) (k:=1) (cs:=[c0,c1,c2,c3,c4,c5,c6,c7,c8,c9,oF]) (hf 0 _ rfl) (by kernel_rfl);obtain⟨v0,b0,t0⟩:=iW e0;have e1:DataW.trod enc prog W 0 (λ_=>true) held n 53 [c1]=some x1:=kh (t:=53) (o:=1) (k:=1) (cs:=[c0,c1,c2,c3,c4,c5,c6,c7,c8,c9,oF]) (hf 1 _ rfl) (by kernel_rfl);obtain⟨v1,o1,q1,b1,t1⟩:=kM aP.cells aP.sz (Q:=aP.ok) (e:=45) (sz:=13) underlying53 (by kernel_rfl) (by omega) aP.dJ (λn1 _ OJ y1 h1=>ye h1) e1;have e2:DataW.trod enc prog W 0 (λ_=>true) held n 57 [c2]=some x2:=kh (t:=57) (o:=2) (k:=1) (cs:=[c0,c1,c2,c3,c4,c5,c6,c7,c8,c9,oF]) (hf 2 _ rfl) (by kernel_rfl);obtain⟨v2,o2,b2,t2⟩:=rB (λs:{ m:az // m.ok}=>az.cells s.1) (λs=>s.1.sz) (e:=84) (sz:=11) underlying57 (by kernel_rfl) (by omega) (λs=>az.dJ s.1) (λn1 tf OJ y1 h1=>let ⟨m,a,b,c⟩:=ih n1 (by omega) _ _ h1;⟨⟨m,a⟩,b,c⟩) e2;have e3:DataW.trod enc prog W 0 (λ_=>true) held n 58 [c3]=some x3:=kh (t:=58) (o:=3) (k:=1) (cs:=[c0,c1,c2,c3,c4,c5,c6,c7,c8,c9,oF]) (hf 3 _ rfl) (by kernel_rfl);obtain⟨v3,o3,q3,b3,t3⟩:=kM bt.cells bt.sz (Q:=bt.ok) (e:=106) (sz:=4) underlying58 (by kernel_rfl) (by omega) bt.dJ (λn1 _ OJ y1 h1=>Ms h1) e3;have e4:DataW.trod enc prog W 0 (λ_=>true) held n 81 [c4]=some x4:=kh (t:=81) (o:=4) (k:=1) (cs:=[c0,c1,c2,c3,c4,c5,c6,c7,c8,c9,oF]) (hf 4 _ rfl) (by kernel_rfl);obtain⟨v4,o4,q4,b4,t4⟩:=kM dY.cells dY.sz (Q:=dY.ok) (e:=273) (sz:=2) underlying81 (by kernel_rfl) (by omega) dY.dJ (λn1 _ OJ y1 h1=>Mp h1) e4;have e5:DataW.trod enc prog W 0 (λ_=>true) held n 53 [c5]=some x5:=kh (t:=53) (o:=5) (k:=1) (cs:=[c0,c1,c2,c3,c4,c5,c6,c7,c8,c9,oF]) (hf 5 _ rfl) (by kernel_rfl)
  obtain⟨v5,o5,q5,b5,t5⟩:=kM aP.cells aP.sz (Q:=aP.ok) (e:=45) (sz:=13) underlying53 (by kernel_rfl) (by omega) aP.dJ (λn1 _ OJ y1 h1=>ye h1) e5;have e6:DataW.trod enc prog W 0 (λ_=>true) held n 82 [c6]=some x6:=kh (t:=82) (o:=6) (k:=1) (cs:=[c0,c1,c2,c3,c4,c5,c6,c7,c8,c9,oF]) (hf 6 _ rfl) (by kernel_rfl);obtain⟨v6,o6,q6,b6,t6⟩:=kM cF.cells cF.sz (Q:=cF.ok) (e:=215) (sz:=3) underlying82 (by kernel_rfl) (by omega) cF.dJ (λn1 _ OJ y1 h1=>WC h1) e6;have e7:DataW.trod enc prog W 0 (λ_=>true) held n 81 [c7]=some x7:=kh (t:=81) (o:=7) (k:=1) (cs:=[c0,c1,c2,c3,c4,c5,c6,c7,c8,c9,oF]) (hf 7 _ rfl) (by kernel_rfl);obtain⟨v7,o7,q7,b7,t7⟩:=kM dY.cells dY.sz (Q:=dY.ok) (e:=273) (sz:=2) underlying81 (by kernel_rfl) (by omega) dY.dJ (λn1 _ OJ y1 h1=>Mp h1) e7;have e8:DataW.trod enc prog W 0 (λ_=>true) held n 40 [c8]=some x8:=kh (t:=40) (o:=8) (k:=1) (cs:=[c0,c1,c2,c3,c4,c5,c6,c7,c8,c9,oF]) (hf 8 _ rfl) (by kernel_rfl);obtain⟨v8,o8,b8,t8⟩:=Mo e8;have e9:DataW.trod enc prog W 0 (λ_=>true) held n 23 [c9]=some x9:=kh (t:=23) (o:=9) (k:=1) (cs:=[c0,c1,c2,c3,c4,c5,c6,c7,c8,c9,oF]) (hf 9 _ rfl) (by kernel_rfl);obtain⟨v9,o9,b9,t9⟩:=lP e9;have Zt:DataW.trod enc prog W 0 (λ_=>true) held n 23 [oF]=some ZD:=kh (t:=23) (o:=10) (k:=1) (cs:=[c0,c1,c2,c3,c4,c5,c6,c7,c8,c9,oF]) (hf 10 _ rfl) (by kernel_rfl);obtain⟨v10,o10,dP,t10⟩:=lP Zt;refine⟨.mk v0 v1 v2 (o2.map (·.1)) v3 v4 v5 v6 v7 v8 v9 v10,?_,?_,?_⟩
  ·simp only[az.ok];exact⟨o1,q1,by simpa using uw t2,az.Qh o2,o3,q3,o4,q4,o5,q5,o6,q6,o7,q7,o8,o9,o10⟩
  ·subst Ik;have e2:az.BP (o2.map (·.1))=bw (λs:{ m:az // m.ok}=>s.1.sz) o2:=by rw[az.gA];simp[bw,ain,Function.comp_def]
   simp only[ahJ,aia,Rows.uptoBulk,Rows.uptoBulkAll,az.sz,e2];omega
  ·have:=t0.append (t1.append (t2.append (t3.append (t4.append (t5.append (t6.append (t7.append (t8.append (t9.append t10)))))))));simpa [az.cells,az.ph,ain,Function.comp_def]using this
theorem Tw (h:DataW.trod enc prog W 0 (λ_=>true) held fuel 61 cs=some x):∃d:ag,d.ok/\d.sz<=Rows.uptoBulk x.1/\Told W d.cells cs:=by
 obtain⟨xs,n,rfl,Ik,hlen,Il,hf⟩:=DataW.trod_struct underlying61 h;have hl:cs.length=11:=by rw[hlen];kernel_rfl
 have hx:xs.length=11:=by rw[Il];rfl
 match cs,hl,xs,hx with
 |[c0,c1,c2,c3,c4,c5,c6,c7,c8,c9,oF],_,[x0,x1,x2,x3,x4,x5,x6,x7,x8,x9,ZD],_=>
  have e0:DataW.trod enc prog W 0 (λ_=>true) held n 9 [c0]=some x0:=kh (t:=9) (o:=0) (k:=1) (cs:=[c0,c1,c2,c3,c4,c5,c6,c7,c8,c9,oF]) (hf 0 _ rfl) (by kernel_rfl);obtain⟨v0,b0,t0⟩:=iW e0;have e1:DataW.trod enc prog W 0 (λ_=>true) held n 9 [c1]=some x1:=kh (t:=9) (o:=1) (k:=1) (cs:=[c0,c1,c2,c3,c4,c5,c6,c7,c8,c9,oF]) (hf 1 _ rfl) (by kernel_rfl);obtain⟨v1,b1,t1⟩:=iW e1;have e2:DataW.trod enc prog W 0 (λ_=>true) held n 40 [c2]=some x2:=kh (t:=40) (o:=2) (k:=1) (cs:=[c0,c1,c2,c3,c4,c5,c6,c7,c8,c9,oF]) (hf 2 _ rfl) (by kernel_rfl);obtain⟨v2,o2,b2,t2⟩:=Mo e2;have e3:DataW.trod enc prog W 0 (λ_=>true) held n 56 [c3]=some x3:=kh (t:=56) (o:=3) (k:=1) (cs:=[c0,c1,c2,c3,c4,c5,c6,c7,c8,c9,oF]) (hf 3 _ rfl) (by kernel_rfl);obtain⟨v3,o3,b3,t3⟩:=WB e3;have e4:DataW.trod enc prog W 0 (λ_=>true) held n 57 [c4]=some x4:=kh (t:=57) (o:=4) (k:=1) (cs:=[c0,c1,c2,c3,c4,c5,c6,c7,c8,c9,oF]) (hf 4 _ rfl) (by kernel_rfl);obtain⟨v4,o4,q4,b4,t4⟩:=kM az.cells az.sz (Q:=az.ok) (e:=84) (sz:=11) underlying57 (by kernel_rfl) (by omega) az.dJ (λn1 _ OJ y1 h1=>WG n1 _ _ h1) e4;have e5:DataW.trod enc prog W 0 (λ_=>true) held n 58 [c5]=some x5:=kh (t:=58) (o:=5) (k:=1) (cs:=[c0,c1,c2,c3,c4,c5,c6,c7,c8,c9,oF]) (hf 5 _ rfl) (by kernel_rfl);obtain⟨v5,o5,q5,b5,t5⟩:=kM bt.cells bt.sz (Q:=bt.ok) (e:=106) (sz:=4) underlying58 (by kernel_rfl) (by omega) bt.dJ (λn1 _ OJ y1 h1=>Ms h1) e5;have e6:DataW.trod enc prog W 0 (λ_=>true) held n 59 [c6]=some x6:=kh (t:=59) (o:=6) (k:=1) (cs:=[c0,c1,c2,c3,c4,c5,c6,c7,c8,c9,oF]) (hf 6 _ rfl) (by kernel_rfl)
  obtain⟨v6,o6,q6,b6,t6⟩:=kM bN.cells bN.sz (Q:=bN.ok) (e:=220) (sz:=4) underlying59 (by kernel_rfl) (by omega) bN.dJ (λn1 _ OJ y1 h1=>WE h1) e6;have e7:DataW.trod enc prog W 0 (λ_=>true) held n 53 [c7]=some x7:=kh (t:=53) (o:=7) (k:=1) (cs:=[c0,c1,c2,c3,c4,c5,c6,c7,c8,c9,oF]) (hf 7 _ rfl) (by kernel_rfl);obtain⟨v7,o7,q7,b7,t7⟩:=kM aP.cells aP.sz (Q:=aP.ok) (e:=45) (sz:=13) underlying53 (by kernel_rfl) (by omega) aP.dJ (λn1 _ OJ y1 h1=>ye h1) e7;have e8:DataW.trod enc prog W 0 (λ_=>true) held n 9 [c8]=some x8:=kh (t:=9) (o:=8) (k:=1) (cs:=[c0,c1,c2,c3,c4,c5,c6,c7,c8,c9,oF]) (hf 8 _ rfl) (by kernel_rfl);obtain⟨v8,b8,t8⟩:=iW e8;have e9:DataW.trod enc prog W 0 (λ_=>true) held n 23 [c9]=some x9:=kh (t:=23) (o:=9) (k:=1) (cs:=[c0,c1,c2,c3,c4,c5,c6,c7,c8,c9,oF]) (hf 9 _ rfl) (by kernel_rfl);obtain⟨v9,o9,b9,t9⟩:=lP e9;have Zt:DataW.trod enc prog W 0 (λ_=>true) held n 23 [oF]=some ZD:=kh (t:=23) (o:=10) (k:=1) (cs:=[c0,c1,c2,c3,c4,c5,c6,c7,c8,c9,oF]) (hf 10 _ rfl) (by kernel_rfl);obtain⟨v10,o10,dP,t10⟩:=lP Zt;exact⟨⟨v0,v1,v2,v3,v4,v5,v6,v7,v8,v9,v10⟩,⟨o2,o3,o4,q4,o5,q5,o6,q6,o7,q7,o9,o10⟩,by subst Ik;simp only[ahJ,aia,Rows.uptoBulk,Rows.uptoBulkAll];unfold ag.sz;(try simp only);omega,t0.append (t1.append (t2.append (t3.append (t4.append (t5.append (t6.append (t7.append (t8.append (t9.append t10)))))))))⟩
theorem Tx (h:DataW.trod enc prog W 0 (λ_=>true) held fuel 32 cs=some x):∃r:aX ag,(r.nl=true->r.l.length=0)/\(∀y∈r.l,ag.ok y)/\r.sz ag.sz<=Rows.uptoBulk x.1/\Told W [r.av 11 ag.cells] cs:=
 kM ag.cells ag.sz (Q:=ag.ok) (e:=61) (sz:=11) underlying32 (by kernel_rfl) (by omega) ag.dJ (λn1 _ OJ y1 h1=>Tw h1) h
end
end Go.Proofs.YtiipaliigpkfhaaGreat.Ab
namespace Go.Proofs.YtiipaliigpkfhaaGreat
open Go.ChangeShapes Go.WideShapes Go.ChangeAt Go.RowKit Ab Go.Proofs Go.Proofs.Tryz
namespace Ab
variable {H:Type}{enc:TypeId×Value->H}{W:World}{held:Bool}
theorem OK {r:Reach}{b0:Nat}{v:Value}{d:DataW H}{ps:List MemPlace}(hv:Value.okWide prog W r b0 45 v) (h:DataW.Trod enc prog W 0 (λ_=>true) held 45 v d ps):∃x:aP,x.ok/\x.sz<=Rows.uptoBulk d/\Rel (Env.lL W) (.agg x.cells) v:=by
 obtain⟨fuel,h⟩:=h;unfold Value.okWide at hv;rw[underlying45]at hv;obtain⟨us,rfl,_,_⟩:=hv;obtain⟨x,hx,hs,hT⟩:=ye h;exact⟨x,hx,hs,hT.agg⟩
theorem Im {a:Option Addr}{len cap:Nat}{d:DataW H}{ps:List MemPlace}(h:DataW.Trod enc prog W 0 (λ_=>true) held 32 (.slice a len cap) d ps):∃r:aX ag,(r.nl=true->r.l.length=0)/\(∀y∈r.l,ag.ok y)/\r.sz ag.sz<=Rows.uptoBulk d/\Rel (Env.lL W) (r.av 11 ag.cells) (.slice a len cap):=by
 obtain⟨fuel,h⟩:=h;obtain⟨r,h1,h2,h3,hT⟩:=Tx h;have hr:Rel (Env.lL W).data (r.av 11 ag.cells) (.slice a len cap):=(hT.2 0 _ rfl).2;exact⟨r,h1,h2,h3,hr.mono (Env.xD _)⟩
end Ab
theorem adX:ownKnob prog.godebug=none:=by kernel_rfl
theorem laidB:laidOutB prog=true:=by kernel_rfl
theorem abQ {H:Type}{d0 d1 d2:DataW H}(hk:Rows.uptoSmall H ([d0,d1,d2]++[])=true):Rows.uptoBulk d0<=1048576/\Rows.uptoBulk d1<=1048576/\Rows.uptoBulk d2<=1048576:=by
 have h:Rows.uptoBulkAll [d0,d1,d2]<=1048576:=aht hk;simp only[Rows.uptoBulkAll]at h;omega
def abR:Value:= .agg #[.string .empty,.int .i64 0,.int .i64 0,.int .i64 0,.string .empty,.string .empty,.string .empty,.bool false,.int .i64 0,.string .empty,.bool false,.slice none 0 0,.slice none 0 0]
theorem tL (K:∀(r:aX ag) (full:ByteArray) (d:aP),(r.nl=true->r.l.length=0)->(∀y∈r.l,ag.ok y)->bw ag.sz r.l<=1048576->d.ok->d.sz<=1048576->∃H1 Wr,bZ prog 6 [r.av 11 ag.cells,aS full,.agg d.cells] (.sc (.bool true)) [] H1 Wr)
  (os:Os) (started:os.Started) (H:Type) (enc:TypeId×Value->H) (F:Stop.Interp):
  ReturnsInHanded {} checked os 6 .any ((Rows.OpenSpec.upto Rows.valuePackedSpec).pre6 enc prog f6 Rows.valuePackedUptoRow.domain false) (((Rows.OpenSpec.upto Rows.valuePackedSpec).at F).post enc prog f6 false true false false):=by
 refine returnsInHanded_of_cond (C:=checked) (s:=Rows.OpenSpec.upto Rows.valuePackedSpec) (k:=Rows.uptoSmall) rfl adX started (by kernel_rfl) func6
  (OpenSpec.witness (enc:=enc) (C:=checked) (s:=Rows.OpenSpec.upto Rows.valuePackedSpec) (k:=Rows.uptoSmall) rfl false ⟨#[],#[.slice none 0 0,.string .empty,abR],[]⟩ 8 (by kernel_rfl) (by kernel_rfl) (by kernel_rfl)
   (x:=([.nil,.lit (.string []),.agg [.lit (.string []),.lit (.int .i64 0),.lit (.int .i64 0),.lit (.int .i64 0),.lit (.string []),.lit (.string []),.lit (.string []),.lit (.bool false),.lit (.int .i64 0),.lit (.string []),.lit (.bool false),.nil,.nil]],[],[])) (by kernel_rfl) rfl (by kernel_rfl)) ?_
 intro W base args ds gs before Xt hW agE hk _;have vu:∀(j:Nat) t v,f6.params[j]? =some t->args[j]? =some v->Value.okWide prog W .any base t v:=Xt;have hW':=hW;obtain⟨p,q,hA0,hV,rfl,hfz,lU⟩:=hW;have hA:DataW.TrodAll enc prog W 0 (λ_=>true) true f6.params.toList args.toList ds p:=hA0;rw[params6]at hA vu;obtain⟨v0,v1,v2,d0,d1,d2,p0,p1,p2,rfl,rfl,rfl,h0,h1,h2⟩:=trodAll_three hA;obtain⟨rfl,rfl⟩:=trodVars_none hV;obtain⟨b0,b1,b2⟩:=abQ hk;obtain⟨a,len,cap,rfl⟩:=okWide_slice underlying32 (vu 0 32 v0 rfl rfl);obtain⟨s,rfl⟩:=okWide_string underlying9 (vu 1 9 v1 rfl rfl);obtain⟨r,r1,r2,r3,adY⟩:=Im h0;obtain⟨d,e1,e2,adZ⟩:=OK (vu 2 45 v2 rfl rfl) h2;clear hA0 Xt;simp only[ah3,aio]at hW';have ga:bw ag.sz r.l<=1048576:=by unfold aX.sz at r3;omega
 obtain⟨H1,Wr,jk⟩:=K r s d r1 r2 ga e1 (by omega);refine(Dc (W:=W) (args:= #[.slice a len cap,.string s,v2]) jk ⟨rfl,λi z hz=> ?_⟩).mono λe W' ⟨he,hB⟩=> ?_
 ·match i,hz with
  |0,hz=>simp at hz;subst hz;exact adY
  |1,hz=>simp at hz;subst hz;exact .sc _ rfl
  |2,hz=>simp at hz;subst hz;exact adZ
 subst he;have cO:∀z∈p0++(p1++p2),z.block<W.heap.size:=λz hz=>hW'.lt z hz
 have h0':=Below.trod laidB (by kernel_rfl) (aht (by kernel_rfl)) h0 hB (λz hz=>cO z (ahk _ hz));have Xx:=Below.trod laidB (by kernel_rfl) (aht (by kernel_rfl)) h1 hB (λz hz=>cO z (ahj _ (ahk _ hz)));have Zj:=Below.trod laidB (by kernel_rfl) (aht (by kernel_rfl)) h2 hB (λz hz=>cO z (ahj _ (ahj _ hz)));refine⟨_,rfl,_,_,_,[],p0++(p1++p2),[],hW',?_,?_,?_,hB.frame _,λh=>by cases h⟩
 ·exact trodAll_mk1 (shut_bool underlying4 true)
 ·exact trodAll_mk3 h0' Xx Zj
 ·exact rfl
end Go.Proofs.YtiipaliigpkfhaaGreat
namespace Go.Proofs.YtiipaliigpkfhaaGreat
open Go Go.Proofs Go.Proofs.Tryz
theorem tM:((Rows.valuePackedUptoRow.wf (OpenSpec.ofChange (Rows.OpenSpec.upto Rows.valuePackedSpec).bare))&&(laidOutB prog)&&(mapsRowed prog)&&(f6.params.all (prog.readableRec ·))&&(namedTie prog Rows.valuePackedUptoRow.named (Rows.OpenSpec.upto Rows.valuePackedSpec).bare.vars)&&((Rows.valuePackedUptoRow.stops==[]))&&((prog.stops==[]))&&((Rows.valuePackedUptoRow.knobs==[]))&&((prog.stopKnobs==[])))=true:=by kernel_rfl
theorem tN:(((Rows.valuePackedUptoRow.inPlace==prog.inPlace 6))&&((Rows.valuePackedUptoRow.unfollowed==prog.unfollowed 6))&&((Rows.valuePackedUptoRow.recurses==prog.recurses 6))&&((Rows.valuePackedUptoRow.named==prog.varsNamed 6)))=true:=by kernel_rfl
theorem tO:(((Rows.valuePackedUptoRow.maps==(f6.params.toList++(Rows.OpenSpec.upto Rows.valuePackedSpec).bare.plain.varTypes prog).any (prog.mapsRec ·)))&&((Rows.valuePackedUptoRow.ifaces==(f6.params.toList++(Rows.OpenSpec.upto Rows.valuePackedSpec).bare.plain.varTypes prog).any (prog.ifacesRec ·)))&&((Rows.valuePackedUptoRow.mapsOut==prog.mapsAmong f6.resultTypes.toList))&&((Rows.valuePackedUptoRow.loops==(f6.params.toList++(Rows.OpenSpec.upto Rows.valuePackedSpec).bare.plain.varTypes prog).any (prog.loopsFrom ·)))&&((Rows.valuePackedUptoRow.wideKeys==(f6.params.toList++(Rows.OpenSpec.upto Rows.valuePackedSpec).bare.plain.varTypes prog++f6.resultTypes.toList).any (prog.wideKeysFrom ·)))&&((Rows.OpenSpec.upto Rows.valuePackedSpec).bare.vars.all (prog.varReadable ·))&&(f6.resultTypes.all (λt=>prog.readableRec t&&decide (t<prog.types.size)))&&((Rows.valuePackedUptoRow.ifacesOut==f6.resultTypes.toList.any (prog.ifacesRec ·)))&&((Rows.valuePackedUptoRow.loopsOut==f6.resultTypes.toList.any (prog.loopsFrom ·))))=true:=by kernel_rfl
theorem tP:(((Rows.valuePackedUptoRow.plainKeys==prog.plainKeys))&&(Rows.valuePackedUptoRow.shortTexts.isNone)&&(prog.stopsHeard)&&(prog.mayEnter)&&((Rows.valuePackedUptoRow.lifted==prog.liftsFinal)))=true:=by kernel_rfl
theorem tQ:(((prog.make==some Rows.valuePackedUptoRow.make))&&((Rows.valuePackedUptoRow.kinds==(if Rows.valuePackedUptoRow.domain.isEmpty then[]else f6.params.toList.map λt=>match prog.underlying t with|some (.int k)=>some k|_=>none)))&&((Rows.valuePackedUptoRow.pinned==Rows.valuePackedUptoRow.pinnedBy))&&((Rows.valuePackedUptoRow.veiled==(f6.params.toList++(Rows.OpenSpec.upto Rows.valuePackedSpec).bare.plain.varTypes prog++f6.resultTypes.toList).any (prog.veiledRec ·)))&&(Rows.valuePackedUptoRow.veiledFits prog f6.params.toList (f6.params.toList++(Rows.OpenSpec.upto Rows.valuePackedSpec).bare.plain.varTypes prog++f6.resultTypes.toList)))=true:=by kernel_rfl
theorem tR:joinedFacts prog 6 f6 (Rows.OpenSpec.upto Rows.valuePackedSpec).bare Rows.valuePackedUptoRow=true:=by
 have h0:=tM;have h1:=tN;have h2:=tO;have h3:=tP;have h4:=tQ;simp only[Bool.and_eq_true]at h0 h1 h2 h3 h4;unfold joinedFacts;simp only[Bool.and_eq_true];exact⟨⟨⟨⟨⟨⟨⟨⟨⟨⟨⟨⟨⟨⟨⟨⟨⟨⟨⟨⟨⟨⟨⟨⟨⟨⟨⟨⟨⟨⟨⟨h0.1.1.1.1.1.1.1.1,h0.1.1.1.1.1.1.1.2⟩,h0.1.1.1.1.1.1.2⟩,h0.1.1.1.1.1.2⟩,h0.1.1.1.1.2⟩,h0.1.1.1.2⟩,h0.1.1.2⟩,h0.1.2⟩,h0.2⟩,h1.1.1.1⟩,h1.1.1.2⟩,h1.1.2⟩,h1.2⟩,h2.1.1.1.1.1.1.1.1⟩,h2.1.1.1.1.1.1.1.2⟩,h2.1.1.1.1.1.1.2⟩,h2.1.1.1.1.1.2⟩,h2.1.1.1.1.2⟩,h2.1.1.1.2⟩,h2.1.1.2⟩,h2.1.2⟩,h2.2⟩,h3.1.1.1.1⟩,h3.1.1.1.2⟩,h3.1.1.2⟩,h3.1.2⟩,h3.2⟩,h4.1.1.1.1⟩,h4.1.1.1.2⟩,h4.1.1.2⟩,h4.1.2⟩,h4.2⟩
end Go.Proofs.YtiipaliigpkfhaaGreat
namespace Go.Proofs.YtiipaliigpkfhaaGreat
open Go.ChangeShapes Go.WideShapes Go.ChangeAt Go.RowKit Ab Go.Proofs Go.Proofs.Tryz
theorem valuePacked_holds:Rows.ValuePackedUptoSaid:=
 OpenClaim.holds_of_cond 6 f6 rfl rfl rfl rfl rfl rfl rfl ⟨rfl,rfl,rfl,rfl,rfl⟩ rfl rfl rfl rfl rfl (by kernel_rfl) func6 tR
  (aht (by kernel_rfl)) (by unfold Func.isWrapper;first|(rw[if_pos (by decide+kernel)];kernel_rfl)|(rw[if_neg (by decide+kernel)];exact⟨rfl,rfl⟩))
  (λos started H enc _ F=>tL (λr full d _ h2 h3 h4 h5=>xC r full d h3 h2 h4 h5) os started H enc F)
end Go.Proofs.YtiipaliigpkfhaaGreat
