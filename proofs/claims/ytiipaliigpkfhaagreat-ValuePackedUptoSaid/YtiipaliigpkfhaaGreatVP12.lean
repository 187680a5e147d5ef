/- Lemmas 12. -/
import Derived.Sort.Walk0
import Derived.Shelf.SlSortCmp.NoneTotal
import Derived.Maps.RangeRun
import Derived.Test.YtiipaliigpkfhaaGreatVP11
set_option maxRecDepth 100000
namespace Go.Proofs.YtiipaliigpkfhaaGreat.Ab
open Go Go.RowKit Go.Proofs Go.Proofs.Tryz
theorem sP {α:Type}(r:aX α) (c:α->α) (f:α->Nat) (h:∀x∈r.l,f (c x)=f x):(r.cl c).sz f=r.sz f:=by
 unfold aX.sz aX.cl bw;simp only[ain];congr 2;exact ahV (λx hx=>h x hx)
theorem Rz (e:bt):(tU e).sz=e.sz:=by
 unfold tU bt.sz;rw[sP e.aM id eT.sz (λ_ _=>rfl)]
theorem YE (e:bN):(xX e).sz=e.sz:=by
 unfold xX bN.sz;rw[sP e.aO id cM.sz (λ_ _=>rfl)]
mutual
theorem RB:∀m:az,(sN m).sz=m.sz
 | .mk name af mN aC aQ bB exts aI bp bY opts dE=>by
  simp only[sN,az.sz];rw[sP af id aP.sz (λ_ _=>rfl),sP aQ tU bt.sz (λx _=>Rz x),sP exts id aP.sz (λ_ _=>rfl),sP aI id cF.sz (λ_ _=>rfl),LH aC]
theorem LH:∀l:List az,az.BP (DP l)=az.BP l
 |[]=>rfl
 |m::r=>by simp only[DP,az.BP];rw[RB m,LH r]
end
theorem JY (f:ag):(rj f).sz=f.sz:=by
 unfold rj ag.sz;rw[sP f.ay sN az.sz (λx _=>RB x),sP f.aQ tU bt.sz (λx _=>Rz x),sP f.aL xX bN.sz (λx _=>YE x),sP f.exts id aP.sz (λ_ _=>rfl)]
def hA (fs:AV) (m3 m4:bu) (J:aa):aa:=[.cells [.ptr 5 0],.cells [aS aq],.cells [i64 0],m3,m4,.cells [.cU 3,.cU 4,fs]]++J
def Ax (l:List ag):Nat->List AV:=λi=>(rj (aU l i)).two
def hC (el:Nat->List AV) (m3 m4:bu):Nat->aa
 |0=>hA aR m3 m4 []
 |i+1=>hA (.aY false 11 (i+1) el (.tok 7)) m3 m4 [.dead,.tail (i+1) 11]
section
variable (r:aX ag)
def qq (i:Int):List AV:=bz 62 [(2,.ptr 0 0),(3,.ptr 1 0),(4,.ptr 2 0),(15,.cU 4),(18,r.av 11 ag.two),(19,i64 r.l.length),(20,i64 i)]
theorem G4 (i:Nat):(iH prog (cK []) (told prog [] [⟨30,0,.agg (rj (aU r.l i)).two⟩]) 3 (ae f44 6) (qq r i) (hA aR (.map []) (.map []) [])).via (cz [2,3,4,15,18,19,20] [6] 8)=
  bif decide ((i:Int)<(r.l.length:Int))then bif decide ((0:Int)<=(i:Int)/\(i:Int)<(r.l.length:Int))then bif aD prog 100 [.agg (aU r.l i).two] [] (.agg (rj (aU r.l i)).two)then
   some ⟨.normal,qq r (IntKind.wrap .i64 ((i:Int)+1)),hA (.aY false 11 1 (bI 0 (λ_=>[]) (rowOf 11 (rj (aU r.l i)).two)) (.tok 7)) (.map []) (.map []) [.dead,.tail 1 11],[6,5],true⟩else none else none
  else some ⟨.exit 0,qq r i,hA aR (.map []) (.map []) [],[],true⟩:=by kernel_rfl
theorem G5 (i n:Nat) (el:Nat->List AV):(iH prog (cK []) (told prog [] [⟨30,0,.agg (rj (aU r.l i)).two⟩]) 3 (ae f44 6) (qq r i) (hA (.aY false 11 n el (.tok 7)) (.map []) (.map []) [.dead,.tail n 11])).via (cz [2,3,4,15,18,19,20] [8] 8)=
  bif decide ((i:Int)<(r.l.length:Int))then bif decide ((0:Int)<=(i:Int)/\(i:Int)<(r.l.length:Int))then bif aD prog 100 [.agg (aU r.l i).two] [] (.agg (rj (aU r.l i)).two)then bif decide ((n+1)*240<=70368744177664/\n+1<4611686018427387904)then bif decide (n=n)then
   some ⟨.normal,qq r (IntKind.wrap .i64 ((i:Int)+1)),hA (.aY false 11 (n+1) (bI n el (rowOf 11 (rj (aU r.l i)).two)) (.tok 7)) (.map []) (.map []) [.dead,.tail (n+1) 11],[7,5],true⟩else none else none else none else none
  else some ⟨.exit 0,qq r i,hA (.aY false 11 n el (.tok 7)) (.map []) (.map []) [.dead,.tail n 11],[],true⟩:=by kernel_rfl
end
theorem RC {fs Vu:AV}(w:ev fs Vu) (m3 m4:bu) (J:aa):Yc (hA fs m3 m4 J) (hA Vu m3 m4 J):=by
 refine⟨rfl,λl o' hl=> ?_⟩;by_cases h5:l=5
 ·subst h5;have:o'= .cells [.cU 3,.cU 4,Vu]:=by
   have:(hA Vu m3 m4 J)[5]? =some (.cells [.cU 3,.cU 4,Vu]):=rfl;rw[this]at hl;cases hl;rfl
  subst this;exact⟨_,rfl,.cells (.cons (.refl _) (.cons (.refl _) (.cons w .nil)))⟩
 ·refine⟨o',?_,.refl _⟩
  match l,h5,hl with
  |0,_,hl=>exact hl
  |1,_,hl=>exact hl
  |2,_,hl=>exact hl
  |3,_,hl=>exact hl
  |4,_,hl=>exact hl
  |5,h5,_=>exact absurd rfl h5
  |k+6,_,hl=>exact hl
theorem NY {sz t:Nat}{c:List AV}{el:Nat->List AV}(h:el 0=c) (hc:c.length=sz):ev (.aY false sz 1 (bI 0 (λ_=>[]) (rowOf sz c)) (.tok t)) (.aY false sz 1 el (.tok t)):=
 ev.aY (λi hi=>by
  have:i=0:=by omega
  subst this;rw[h];exact row_one hc)
theorem NZ {sz n t:Nat}{c:List AV}{el:Nat->List AV}(h:el n=c) (hc:c.length=sz):ev (.aY false sz (n+1) (bI n el (rowOf sz c)) (.tok t)) (.aY false sz (n+1) el (.tok t)):=
 ev.aY (λi hi=>by
  unfold bI;by_cases XE:i<n
  ·rw[if_pos XE]
  ·have:i=n:=by omega
   subst this;rw[if_neg XE,h,ahX];exact row_one hc)
theorem Vv (r:aX ag) (hr:bw ag.sz r.l<=bL) (hk:∀x∈r.l,x.ok):an prog (.loop (ae f44 6)) (qq r ((0:Nat):Int)) (hA aR (.map []) (.map []) []) (.exit 0) (qq r r.l.length) (hC (Ax r.l) (.map []) (.map []) r.l.length) [5,6,7]:=by
 have hlen:=cy (f:=ag.sz) (l:=r.l) (λx _=>x.bT);have XG:∀i,i<r.l.length->bZ prog 100 [.agg (aU r.l i).two] (.agg (rj (aU r.l i)).two) [] [] []:=λi hi=>Vb _ (ahx (cf (f:=ag.sz) (bM hi)) hr) (hk _ (bM hi)) []
 unfold bL at hr;refine dR (P:=prog) (c:=ae f44 6) (λi=>qq r i) (λi=>hC (Ax r.l) (.map []) (.map []) i) [5,6,7] (.exit 0) (by simp) r.l.length (λi hi=> ?_) ?_
 ·have hc:=XG i hi
  match i,hi,hc with
  |0,hi,hc=>
   have hb:=G4 r 0;rw[ag2 (by omega:((0:Nat):Int)<(r.l.length:Int)),ag2 (by omega:(0:Int)<=((0:Nat):Int)/\((0:Nat):Int)<(r.l.length:Int)),ak hc,wi (x:=((0:Nat):Int)+1) (by omega) (by omega)]at hb;have:=(cE mixed (au _) aF hb rfl (by show (6:Nat)<=8;omega) (λl hl=>by simp at hl;subst hl;exact ag3 6)).eI (W':=[5,6,7]) (by simp);exact this.LG (RC (NY (el:=Ax r.l) rfl rfl) _ _ _) (λl hl hm=>by
    rw[←this.2.2 l hl hm]
    match l,hm with
    |0,_=>rfl
    |1,_=>rfl
    |2,_=>rfl
    |3,_=>rfl
    |4,_=>rfl
    |5,hm=>exact absurd (by simp) hm
    |k+6,_=>exact absurd hl (by show ¬k+6<6;omega))
  |i+1,hi,hc=>
   have hb:=G5 r (i+1) (i+1) (Ax r.l);rw[ag2 (by omega:((i+1:Nat):Int)<(r.l.length:Int)),ag2 (by omega:(0:Int)<=((i+1:Nat):Int)/\((i+1:Nat):Int)<(r.l.length:Int)),ak hc,ag2 (by constructor<;>omega:(i+1+1)*240<=70368744177664/\i+1+1<4611686018427387904),ag2 (rfl:i+1=i+1),wi (x:=((i+1:Nat):Int)+1) (by omega) (by omega)]at hb;have:=(cE mixed (au _) aF hb rfl (ag3 8) (λl hl=>by simp at hl;subst hl;exact ag3 8)).eI (W':=[5,6,7]) (by simp);exact this.LG (RC (NZ (el:=Ax r.l) rfl rfl) _ _ _) (λl hl hm=>by
    rw[←this.2.2 l hl hm]
    match l,hm with
    |0,_=>rfl
    |1,_=>rfl
    |2,_=>rfl
    |3,_=>rfl
    |4,_=>rfl
    |5,hm=>exact absurd (by simp) hm
    |6,hm=>exact absurd (by simp) hm
    |7,hm=>exact absurd (by simp) hm
    |k+8,_=>exact absurd hl (by show ¬k+8<8;omega))
 ·match hn:r.l.length with
  |0=>
   show an prog (ae f44 6) (qq r ((0:Nat):Int)) (hA aR (.map []) (.map []) []) (.exit 0) (qq r ((0:Nat):Int)) (hA aR (.map []) (.map []) []) [];have hb:=G4 r 0;rw[ag8 (by omega)]at hb;exact cE mixed (au _) aF hb rfl (by show (6:Nat)<=8;omega) (λl hl=>by simp at hl;subst hl;exact ag3 6)
  |n+1=>
   show an prog (ae f44 6) (qq r ((n+1:Nat):Int)) (hA (.aY false 11 (n+1) (Ax r.l) (.tok 7)) (.map []) (.map []) [.dead,.tail (n+1) 11]) (.exit 0) (qq r ((n+1:Nat):Int)) (hA (.aY false 11 (n+1) (Ax r.l) (.tok 7)) (.map []) (.map []) [.dead,.tail (n+1) 11]) [];have hb:=G5 r (n+1) (n+1) (Ax r.l);rw[ag8 (by omega)]at hb;exact cE mixed (au _) aF hb rfl (ag3 8) (λl hl=>by simp at hl;subst hl;exact ag3 8)
def hB (p:bg) (fs:jo) (J:aa):aa:=hA fs.av (.ez (eC p.l) (nG p.l)) (.rows p.x none) ([.dead,.dead]++J)
def mj (nl:Bool) (l:List ag):jo:=⟨nl,l.length,Ax l⟩
def xx:List AV:=bz 62 [(2,.ptr 0 0),(3,.ptr 1 0),(4,.ptr 2 0)]
def qt (fs:AV) (n:Int) (i:Int):List AV:=bz 62 [(2,.ptr 0 0),(3,.ptr 1 0),(4,.ptr 2 0),(15,.cU 4),(39,fs),(40,i64 n),(41,i64 i)]
theorem zM (p q:bg) (nl:Bool) (l:List ag) (i:Nat) (x:ByteArray) (ok:Bool):(iH prog (cK []) (jn prog (cK []) [⟨13,2,ok,bE x,[5,3,4]⟩] (eV prog [⟨47,.bq [],hB q (mj nl l) [.cells (rj (aU l i)).two],[5,3,4]⟩] aN)) 3 (ae f44 11) (qt (mj nl l).av l.length i) (hB p (mj nl l) [])).via (zL [2,3,4,15,39,40,41] [] 8 8 [2,3,4])=
  bif decide ((i:Int)<(l.length:Int))then bif decide ((0:Int)<=(i:Int)/\(i:Int)<(l.length:Int))then
   bif ok then bif cW prog 101 [.ptr 5 0,.agg (rj (aU l i)).two] (hB p (mj nl l) [.cells (rj (aU l i)).two]) (.bq []) (hB q (mj nl l) [.cells (rj (aU l i)).two]) [5,3,4]then some ⟨.normal,qt (mj nl l).av l.length (IntKind.wrap .i64 ((i:Int)+1)),hB q (mj nl l) [],[5,3,4],true⟩else none
   else bif fj prog 101 [.ptr 5 0,.agg (rj (aU l i)).two] (hB p (mj nl l) [.cells (rj (aU l i)).two]) (bE x) [5,3,4]then some ⟨.panic (bE x),xx,[],[5,3,4],true⟩else none else none
  else some ⟨.exit 2,qt (mj nl l).av l.length i,hB p (mj nl l) [],[],true⟩:=by kernel_rfl
def gw (l:List ag) (p:bg):Option bg:=gq (λp f=>iV p (rj f)) l p
theorem aa6 (p:bg) (fs:jo):∀o∈hB p fs [],cH (hB p fs []).length o=true:=by
 intro o ho;have e:hB p fs []=[.cells [.ptr 5 0],.cells [aS aq],.cells [i64 0],.ez (eC p.l) (nG p.l),.rows p.x none,.cells [.cU 3,.cU 4,fs.av],.dead,.dead]:=rfl;rw[e]at ho ⊢;simp only[ahl,ahr,ahO]at ho;rcases ho with rfl|rfl|rfl|rfl|rfl|rfl|rfl|rfl<;>rfl
theorem Vw {p q:bg}{fs:jo}{f:ag}(h:bZ prog 101 [.ptr 0 0,.agg f.two] (.bq []) (p.H fs) (q.H fs) [0,1,2]):bZ prog 101 [.ptr 5 0,.agg f.two] (.bq []) (hB p fs [.cells f.two]) (hB q fs [.cells f.two]) [5,3,4]:=by
 have NQ:dG 3 [.ptr 0 0,.agg f.two]=true:=by
  simp only[dG,ff];rw[eP (l8 f)];rfl
 have key:=y4 h (H:=hB p fs [.cells f.two]) (s:=[5,3,4]) (by simp) rfl (λi l hi=>by
  match i,hi with
  |0,hi=>simp at hi;subst hi;rfl
  |1,hi=>simp at hi;subst hi;rfl
  |2,hi=>simp at hi;subst hi;rfl) NQ (gD p fs 3 (ag3 _)) (λo ho=>(gD q fs 3 (ag3 _) o ho).2)
 exact key
theorem RD {p:bg}{fs:jo}{f:ag}{x:ByteArray}(h:iQ prog 101 [.ptr 0 0,.agg f.two] (bE x) (p.H fs) (dc [0,1,2] (p.H fs)) [0,1,2]):iQ prog 101 [.ptr 5 0,.agg f.two] (bE x) (hB p fs [.cells f.two]) (dc [5,3,4] (hB p fs [.cells f.two])) [5,3,4]:=by
 have NQ:dG 3 [.ptr 0 0,.agg f.two]=true:=by
  simp only[dG,ff];rw[eP (l8 f)];rfl
 have key:=NW h (H:=hB p fs [.cells f.two]) (s:=[5,3,4]) (by simp) rfl (λi l hi=>by
  match i,hi with
  |0,hi=>simp at hi;subst hi;rfl
  |1,hi=>simp at hi;subst hi;rfl
  |2,hi=>simp at hi;subst hi;rfl) NQ (gD p fs 3 (ag3 _))
 exact key
theorem LI (nl:Bool) (l:List ag) (hr:bw ag.sz l<=bL):match gw l ⟨[],[]⟩with
  |some q=>an prog (.loop (ae f44 11)) (qt (mj nl l).av l.length ((0:Nat):Int)) (hB ⟨[],[]⟩ (mj nl l) []) (.exit 2) (qt (mj nl l).av l.length l.length) (hB q (mj nl l) []) [5,3,4]
  |none=>∃y,an prog (.loop (ae f44 11)) (qt (mj nl l).av l.length ((0:Nat):Int)) (hB ⟨[],[]⟩ (mj nl l) []) (.panic (bE y)) xx (dc [5,3,4] (hB ⟨[],[]⟩ (mj nl l) [])) [5,3,4]:=by
 have hlen:=cy (f:=ag.sz) (l:=l) (λx _=>x.bT);have h0:(⟨[],[]⟩:bg).iA=0:=rfl;have ga:∀i,i<l.length->(rj (aU l i)).sz<=bL:=λi hi=>by rw[JY];exact ahx (cf (f:=ag.sz) (bM hi)) hr
 unfold bL at hr;have xN:∀{x i b q},bA prog (jn prog (cK []) [⟨13,2,b,bE x,[5,3,4]⟩] (eV prog [⟨47,.bq [],hB q (mj nl l) [.cells (rj (aU l i)).two],[5,3,4]⟩] aN)):=cT (au _) (bx ab);have key:=zC (P:=prog) (c:=ae f44 11) (st:=λp f=>iV p (rj f)) (l:=l) (s0:=(⟨[],[]⟩:bg)) (λi=>qt (mj nl l).av l.length i) (λq=>hB q (mj nl l) []) [5,3,4] (.exit 2) (by simp) xx (λx=>∃y,x=bE y) (λi s=>s.iA<=bw ag.sz (l.take i)) (by rw[h0];exact ag9 _) (λ_ _=>rfl)
  (λi s s' hi hI gY=>by
   have hc:=u4 gY;rw[JY]at hc;have ht:=jy ag.sz l i hi;have oE:=dM ag.sz l (i+1);have afK:=dM ag.sz l i;have hs:=ga i hi;have e:=(LC s (mj nl l) (rj (aU l i)) hs (by unfold cq;unfold bL at hs;omega)).ok gY [];rw[ah3,ah3]at e;have hb:=zM s s' nl l i aq true;rw[ag2 (by omega:(i:Int)<(l.length:Int)),ag2 (by omega:(0:Int)<=(i:Int)/\(i:Int)<(l.length:Int)),bS (Vw e),wi (x:=(i:Int)+1) (by omega) (by omega)]at hb;refine⟨wV mixed (au _) xN hb rfl rfl (ag3 8) (by simp),?_⟩;have hd:(l.getD i default).sz=(aU l i).sz:=rfl;omega)
  (λi s hi hI gY=>by
   have oE:=dM ag.sz l i;have hs:=ga i hi;obtain⟨y,e⟩:=(LC s (mj nl l) (rj (aU l i)) hs (by unfold cq;unfold bL at hs;omega)).bad gY;have e:=e [];rw[ah3]at e;have hb:=zM s s nl l i y false;rw[ag2 (by omega:(i:Int)<(l.length:Int)),ag2 (by omega:(0:Int)<=(i:Int)/\(i:Int)<(l.length:Int)),fB (RD e)]at hb;exact⟨_,⟨y,rfl⟩,DX mixed (au _) xN hb rfl (eQ _) (ag3 8) rfl (aa6 s _) (λl h=>h)⟩)
  (λs hI=>by
   have hb:=zM s s nl l l.length aq true;rw[ag8 (by omega)]at hb;exact wV mixed (au _) xN hb rfl rfl (ag3 8) (by simp))
 unfold gw;cases h1:gq (λp f=>iV p (rj f)) l ⟨[],[]⟩with
 |some q=>rw[h1]at key;exact key.2
 |none=>
  rw[h1]at key;obtain⟨_,⟨y,rfl⟩,hc⟩:=key;exact⟨y,hc⟩
end Go.Proofs.YtiipaliigpkfhaaGreat.Ab
namespace Go.Proofs.YtiipaliigpkfhaaGreat.Ab
open Go Go.RowKit Go.Sort Go.Proofs Go.Proofs.Tryz
def N0 (a b:Int):Int:=bif decide (a<b)then-1 else bif decide (a>b)then 1 else 0
def N1 (a b:ByteArray):Int:=bif Op.bytesLess a.toList b.toList then-1 else bif !(Op.bytesLess a.toList b.toList||a.toList==b.toList)then 1 else 0
def Vx (a b:Int):Int:=bif a !=0 then a else bif b !=0 then b else 0
theorem Vy (a b:Int):(eb prog (cK []) aN [] 4 105 [i64 a,i64 b] []).via ch=
  bif a !=a then bif b !=b then some (i64 0)else some (i64 (-1))else bif b !=b then some (i64 1)else bif decide (a<b)then some (i64 (-1))else bif decide (a>b)then some (i64 1)else some (i64 0):=by kernel_rfl
theorem Vz (a b:ByteArray):(eb prog (cK []) aN [] 4 106 [aS a,aS b] []).via ch=
  bif !(a.toList==a.toList)then bif !(b.toList==b.toList)then some (i64 0)else some (i64 (-1))else bif !(b.toList==b.toList)then some (i64 1)else bif Op.bytesLess a.toList b.toList then some (i64 (-1))else bif !(Op.bytesLess a.toList b.toList||a.toList==b.toList)then some (i64 1)else some (i64 0):=by kernel_rfl
theorem VA (a b:Int):(eb prog (cK []) aN [] 4 104 [.aY false 1 2 (rowOf 1 [i64 a,i64 b]) .tight] []).via ch=
  bif a !=0 then some (i64 a)else bif b !=0 then some (i64 b)else some (i64 0):=by kernel_rfl
theorem RE (a b:Int) (H:aa):bZ prog 105 [i64 a,i64 b] (i64 (N0 a b)) H H []:=by
 have ht:=Vy a b;have e1:(a !=a)=false:=by simp
 have e2:(b !=b)=false:=by simp
 rw[e1,e2]at ht;refine bG mixed (au _) ab ht ?_ (.refl _) (.sc _) (ao (.sc _) (ao (.sc _) bC)) H;unfold N0;cases decide (a<b)<;>cases decide (a>b)<;>rfl
theorem RF (a b:ByteArray) (H:aa):bZ prog 106 [aS a,aS b] (i64 (N1 a b)) H H []:=by
 have ht:=Vz a b;have e1:(a.toList==a.toList)=true:=by simp
 have e2:(b.toList==b.toList)=true:=by simp
 rw[e1,e2]at ht;refine bG mixed (au _) ab ht ?_ (.refl _) (.sc _) (ao (.sc _) (ao (.sc _) bC)) H;unfold N1;cases Op.bytesLess a.toList b.toList<;>cases (a.toList==b.toList)<;>rfl
theorem VB (a b:Int) (H:aa):bZ prog 104 [.aY false 1 2 (rowOf 1 [i64 a,i64 b]) .tight] (i64 (Vx a b)) H H []:=by
 refine bG mixed (au _) ab (VA a b) ?_ (.refl _) (.sc _) (ao (.aY _ _ _ _ _ (by simp)) bC) H;unfold Vx;cases a !=0<;>cases b !=0<;>rfl
def G6 (l:List dh) (a b:ByteArray):Int:=Vx (N0 (fE l a).f.cc (fE l b).f.cc) (N1 a b)
def zN (l:List dh):aa:=[.cells [.ptr 2 0],.ez (eC l) (nG l),.cells [.cU 1,.any,.any]]
theorem VC (l:List dh) (a b:ByteArray) (c1 c2 c3:Int):(eb prog (cK []) (told prog [] [⟨26,0,i64 c1⟩,⟨29,0,i64 c2⟩,⟨31,0,i64 c3⟩]) [] 4 103 [aS a,aS b,.ptr 0 0] (zN l)).via (λr=>(r.1,r.2.1.take 3,r.2.2))=
  bif eC l a then bif eC l b then bif aD prog 105 [i64 (fE l a).f.cc,i64 (fE l b).f.cc] [] (i64 c1)then bif aD prog 106 [aS a,aS b] [] (i64 c2)then bif aD prog 104 [.aY false 1 2 (rowOf 1 [i64 c1,i64 c2]) .tight] [] (i64 c3)then
   some (i64 c3,zN l,[])else none else none else none else none else none:=by kernel_rfl
theorem RG (l:List dh) (a b:ByteArray) (ha:eC l a=true) (hb:eC l b=true):bZ prog 103 [aS a,aS b,.ptr 0 0] (i64 (G6 l a b)) (zN l) (zN l) []:=by
 have ht:=VC l a b (N0 (fE l a).f.cc (fE l b).f.cc) (N1 a b) (G6 l a b);have k3:bZ prog 104 [.aY false 1 2 (rowOf 1 [i64 (N0 (fE l a).f.cc (fE l b).f.cc),i64 (N1 a b)]) .tight] (i64 (G6 l a b)) [] [] []:=VB _ _ [];rw[ha,hb,ak (RE _ _ []),ak (RF _ _ []),ak k3]at ht;obtain⟨⟨x,H1,W⟩,hr,hg⟩:=cv ht rfl;have:=gQ mixed (au _) aF hr;simp only[ahe]at hg;obtain⟨rfl,e,rfl⟩:=hg;exact kg this e (λo ho=>by
  simp only[zN,ahl,ahr,ahO]at ho;rcases ho with rfl|rfl|rfl<;>exact⟨rfl,rfl⟩) rfl
theorem ltX (l:List dh) (a b:ByteArray):decide (G6 l a b<0)=decide ((fE l a).f.cc<(fE l b).f.cc∨((fE l a).f.cc=(fE l b).f.cc/\a.toList<b.toList)):=by
 unfold G6 Vx N0 N1;rw[bytesLess_eq];generalize (fE l a).f.cc=x;generalize (fE l b).f.cc=y;by_cases h1:x<y
 ·rw[ag2 h1];simp[h1]
 ·rw[ag8 h1];by_cases h2:x>y
  ·rw[ag2 h2];have:¬x=y:=by omega
   simp[h1,this]
  ·rw[ag8 h2];have hxy:x=y:=by omega
   by_cases h3:a.toList<b.toList
   ·rw[ag2 h3];simp[hxy,h3]
   ·rw[ag8 h3];cases (a.toList==b.toList)<;>simp[hxy,h3]
abbrev A1 (l:List dh):Type:={ s:ByteArray // eC l s=true}
def A2 (l:List dh) (x:A1 l):Value:= .string x.1
def TJ (l:List dh) (x y:A1 l):Int:=G6 l x.1 y.1
theorem ltK (l:List dh) (x y:A1 l):ltOf (TJ l) x y=decide ((fE l x.1).f.cc<(fE l y.1).f.cc∨((fE l x.1).f.cc=(fE l y.1).f.cc/\x.1.toList<y.1.toList)):=ltX l x.1 y.1
theorem toList_inj {a b:ByteArray}(h:a.toList=b.toList):a=b:=by
 rw[ByteArray.toList_eq,ByteArray.toList_eq]at h;exact ByteArray.ext (Array.toList_inj.1 h)
theorem adq (l:List dh):SWO (ltOf (TJ l)) where
 irrefl x:=by
  rw[ltK];simp[List.lt_irrefl]
 trans x y z h1 h2:=by
  rw[ltK]at*;simp only[decide_eq_true_eq]at*;rcases h1 with h1|⟨h1,k1⟩<;>rcases h2 with h2|⟨h2,k2⟩
  ·exact .inl (by omega)
  ·exact .inl (by omega)
  ·exact .inl (by omega)
  ·exact .inr ⟨by omega,List.lt_trans k1 k2⟩
 ntrans x y z h1 h2:=by
  rw[ltK]at*;simp only[decide_eq_false_iff_not,not_or,not_and]at*;refine⟨by omega,λh=> ?_⟩;have e1:(fE l x.1).f.cc=(fE l y.1).f.cc:=by omega
  have e2:(fE l y.1).f.cc=(fE l z.1).f.cc:=by omega
  have q1:=h1.2 e1;have q2:=h2.2 e2;rw[List.not_lt]at*;exact List.le_trans q2 q1
theorem adr (l:List dh) (x y:A1 l) (h1:ltOf (TJ l) x y=false) (h2:ltOf (TJ l) y x=false):x=y:=by
 rw[ltK]at*;simp only[decide_eq_false_iff_not,not_or,not_and]at*;have e:(fE l x.1).f.cc=(fE l y.1).f.cc:=by omega
 have q1:=h1.2 e;have q2:=h2.2 e.symm;rw[List.not_lt]at*;exact Subtype.ext (toList_inj (List.le_antisymm q2 q1))
end Go.Proofs.YtiipaliigpkfhaaGreat.Ab
namespace Go.Proofs.YtiipaliigpkfhaaGreat.Ab
open Go Go.RowKit Go.Sort Go.Shelf Go.Proofs Go.Proofs.Tryz
def aac:Go.Shelf.Ren:=⟨fun|6=>102|15=>177|14=>176|28=>251|29=>252|20=>243|21=>244|22=>245|23=>246|24=>247|25=>248|26=>249|27=>250|46=>277|47=>278|48=>279|49=>280|50=>281|57=>291|n=>n,fun|22=>40|24=>9|25=>179|3=>3|39=>93|0=>0|53=>304|55=>22|4=>4|46=>329|45=>328|50=>290|5=>5|9=>9|66=>353|70=>357|76=>367|77=>368|n=>n,fun|n=>n⟩
theorem sortStr:SlLaysF.n6 prog aac:={
 mixed:=by kernel_rfl
 f6:=⟨f102.name,by decide,func102.trans (congrArg some (by kernel_rfl))⟩
 f14:=⟨f176.name,by decide,func176.trans (congrArg some (by kernel_rfl))⟩
 f15:=func177.trans (congrArg some (by kernel_rfl))
 f20:=⟨f243.name,by decide,func243.trans (congrArg some (by kernel_rfl))⟩
 f21:=⟨f244.name,by decide,func244.trans (congrArg some (by kernel_rfl))⟩
 f22:=⟨f245.name,by decide,func245.trans (congrArg some (by kernel_rfl))⟩
 f23:=⟨f246.name,by decide,func246.trans (congrArg some (by kernel_rfl))⟩
 f24:=⟨f247.name,by decide,func247.trans (congrArg some (by kernel_rfl))⟩
 f25:=⟨f248.name,by decide,func248.trans (congrArg some (by kernel_rfl))⟩
 f26:=⟨f249.name,by decide,func249.trans (congrArg some (by kernel_rfl))⟩
 f27:=⟨f250.name,by decide,func250.trans (congrArg some (by kernel_rfl))⟩
 f28:=func251.trans (congrArg some (by kernel_rfl))
 f29:=func252.trans (congrArg some (by kernel_rfl))
 f46:=⟨f277.name,by decide,func277.trans (congrArg some (by kernel_rfl))⟩
 f47:=func278.trans (congrArg some (by kernel_rfl))
 f48:=func279.trans (congrArg some (by kernel_rfl))
 f49:=⟨f280.name,by decide,func280.trans (congrArg some (by kernel_rfl))⟩
 f50:=⟨f281.name,by decide,func281.trans (congrArg some (by kernel_rfl))⟩
 f57:=⟨f291.name,by decide,func291.trans (congrArg some (by kernel_rfl))⟩
 t0:=underlying0
 a0:=isAgg0
 z0:=sizeOf0
 v0:=zeroValue0
 t3:=underlying3
 a3:=isAgg3
 z3:=sizeOf3
 v3:=zeroValue3
 t4:=underlying4
 a4:=isAgg4
 z4:=sizeOf4
 v4:=zeroValue4
 t5:=underlying5
 a5:=isAgg5
 z5:=sizeOf5
 v5:=zeroValue5
 t9:=underlying9
 a9:=isAgg9
 z9:=sizeOf9
 v9:=zeroValue9
 t22:=underlying40
 a22:=isAgg40
 z22:=sizeOf40
 v22:=zeroValue40
 a24:=isAgg9
 z24:=sizeOf9
 t25:=underlying179
 a25:=isAgg179
 z25:=sizeOf179
 v25:=zeroValue179
 t39:=underlying93
 a39:=isAgg93
 z39:=sizeOf93
 v39:=zeroValue93
 t45:=underlying328
 a45:=isAgg328
 z45:=sizeOf328
 v45:=zeroValue328
 t46:=underlying329
 a46:=isAgg329
 z46:=sizeOf329
 v46:=zeroValue329
 t50:=underlying290
 a50:=isAgg290
 z50:=sizeOf290
 v50:=zeroValue290
 t53:=underlying304
 a53:=isAgg304
 z53:=sizeOf304
 v53:=zeroValue304
 t55:=underlying22
 a55:=isAgg22
 z55:=sizeOf22
 v55:=zeroValue22
 t66:=underlying353
 a66:=isAgg353
 z66:=sizeOf353
 v66:=zeroValue353
 t70:=underlying357
 a70:=isAgg357
 z70:=sizeOf357
 v70:=zeroValue357
 t76:=underlying367
 a76:=isAgg367
 z76:=sizeOf367
 v76:=zeroValue367
 t77:=underlying368
 a77:=isAgg368
 z77:=sizeOf368
 v77:=zeroValue368}
section
variable {α:Type} [Inhabited α] (enc:α->Value) (w:World) (lB off m:Nat) (dk:Array α) (os:Array Obj)
theorem lx {c:Nat}(hc:c≠lB) (cO:c<w.heap.size):(sortWorld enc w lB off m dk os).heap[c]? =w.heap[c]? :=by
 unfold sortWorld grow putRow mapBlock;simp only;rw[ah1 (by simpa [Sort.ahead]using cO),aho,if_neg (λe=>hc e.symm)];rfl
theorem N2 {arr:Array Value}{T:TypeId}(h:w.heap[lB]? =some (.cells arr T (0,0))):(sortWorld enc w lB off m dk os).heap[lB]? =some (.cells (putCells enc off dk arr) T (0,0)):=by
 have cO:lB<w.heap.size:=(aha.1 h).1;unfold sortWorld grow putRow mapBlock;simp only;rw[ah1 (by simpa [Sort.ahead]using cO),aho,if_pos rfl];show (w.heap[lB]?).map _=_;rw[h];rfl
theorem tF:(sortWorld enc w lB off m dk os).heap.size=w.heap.size+os.size:=by
 unfold sortWorld grow putRow mapBlock;simp[Sort.ahead]
end
theorem Good.world {E:Env}{H:aa}{w0 w w':World}(g:Good E H w0 w) (hb:Below w0.heap.size w0 w') (ga:w.heap.size<=w'.heap.size) (dI:∀l b,owns E H l b->w'.heap[b]? =w.heap[b]?) (hS:∀b o u,E.S b o=some u->w'.heap[b]? =w.heap[b]?):Good E H w0 w':=by
 refine⟨hb,λ{b o u} h=> ?_,λ{k o'} hk=> ?_,g.sep,g.fresh,λh=>ahz (g.mb h) ga⟩
 ·rw[fF (hS b o u h)];exact g.snap h
 ·exact(g.obj hk).step hk (.refl E) (λ_ h=>h) (λ_=>rfl) (λ_ _ _ _ h=>h) (λx hx=>dI _ x hx)
theorem G7 {E E2:Env}{H:aa}{w0 w w':World}(g:Good E H w0 w) (g2:Good E2 H w0 w') (ex:Ext H.length (·∈([]:List Nat)) E H w E2 H w'):∃q os,w'=grow (w.drewN q) os:=by
 have hold:∀b,b<w.heap.size->w'.heap[b]? =w.heap[b]? :=λb hb=>by
  by_cases h:∃l,owns E H l b
  ·obtain⟨l,hl⟩:=h;exact ex.iX (my hl) (by simp) hl
  ·exact(ex.stay hb (λl hl=>h ⟨l,hl⟩)).1
 refine⟨w'.drawn-w.drawn,w'.heap.extract w.heap.size w'.heap.size,?_⟩;have h1:w.heap++w'.heap.extract w.heap.size w'.heap.size=w'.heap:=by
  refine Array.ext_getElem? (λi=> ?_);by_cases hi:i<w.heap.size
  ·rw[ah1 hi,hold i hi]
  ·rw[Array.getElem?_append_right (by omega),Array.getElem?_extract];by_cases hj:i<w'.heap.size
   ·rw[if_pos (by omega)];congr 1;omega
   ·rw[if_neg (by omega),Array.getElem?_eq_none (by omega)]
 have h2:w.drawn+(w'.drawn-w.drawn)=w'.drawn:=by have:=ex.size.drawn;omega
 have b1:=g.below;have b2:=g2.below;unfold grow World.drewN;rw[h1,h2];cases w';cases w;simp only[World.mk.injEq,true_and];exact⟨b2.tape.trans b1.tape.symm,b2.os.trans b1.os.symm,b2.output.trans b1.output.symm⟩
def leX (l:List dh) (x y:ByteArray):Bool:= !(decide (G6 l y x<0))
def ou (l:List dh) (ss:List ByteArray):List ByteArray:=ss.mergeSort (leX l)
def zO (l:List dh) (ss:List ByteArray) (hk:∀s∈ss,eC l s=true):List (A1 l):=ss.attach.map λs=>⟨s.1,hk s.1 s.2⟩
theorem vV (l:List dh) (ss:List ByteArray) (hk:∀s∈ss,eC l s=true):(zO l ss hk).map (·.1)=ss:=by
 unfold zO;rw[ain];exact List.attach_map_subtype_val ss
theorem N3 (l:List dh) (ss:List ByteArray) (hk:∀s∈ss,eC l s=true):((zO l ss hk).mergeSort λx y=> !(ltOf (TJ l) y x)).map (·.1)=ou l ss:=by
 unfold ou;have:=List.map_mergeSort (r:=λx y=> !(ltOf (TJ l) y x)) (s:=leX l) (f:=λx:A1 l=>x.1) (l:=zO l ss hk) (λa _ b _=>rfl);rw[this,vV]
theorem func102:prog.funcs[102]? =some f102:=by kernel_rfl
theorem func103:prog.funcs[103]? =some f103:=by kernel_rfl
theorem DY {α:Type} [Inhabited α] (enc:α->Value) (d:Array α) (c:Array Value) (k:Nat):(putCells enc 0 d c)[k]? =if k<d.size then(c[k]?).map λ_=>enc d[k]! else c[k]? :=by
 unfold putCells;rw[Array.getElem?_mapIdx];by_cases h:k<d.size
 ·rw[if_pos h]
  cases c[k]? with
  |none=>rfl
  |some v=>simp[h]
 ·rw[if_neg h]
  cases c[k]? with
  |none=>rfl
  |some v=>simp[h]
theorem A3 {α:Type} [Inhabited α] (enc:α->Value) (o:Nat) (d:Array α) (c:Array Value):(putCells enc o d c).size=c.size:=by unfold putCells;simp
theorem aa7:∀args w,(callFunc 103 args).run prog w= .ok (.enter 103 args) w:=enters_of func103 (by kernel_rfl) rfl
def G8:Oper:={ dst:=some 54,op:= .next (.tmp 53) false,type:=0,pos:="pool.go:116",after:= #[],guard:=none}
def N4:Oper:={ dst:=some 55,op:= .extract (.tmp 54) 0,type:=4,pos:="pool.go:116",after:= #[{ on:=0,ground:= .data}],guard:=none}
def RH:Oper:={ dst:=some 56,op:= .entry (.tmp 53),type:=0,pos:="pool.go:116",after:= #[],guard:=none}
def RI:Oper:={ dst:=some 57,op:= .extract (.tmp 56) 1,type:=40,pos:="pool.go:116",after:= #[{ on:=0,ground:= .data}],guard:=none}
def RJ:Oper:={ dst:=some 10,op:= .assign (.tmp 57),type:=40,pos:="pool.go:116",after:= #[{ on:=1,ground:= .data},{ on:=0,ground:= .phase},{ on:=1,ground:= .phase}],guard:=none}
theorem gF {a:Act}{d:Nat}{v:Value}(h:d<a.tmps.size):(a.put (some d) v).tmps.getD d undef=v:=by
 simp[Act.put,ahh,h]
theorem zP {a:Act}{d k:Nat}{v:Value}(h:d≠k):(a.put (some d) v).tmps.getD k undef=a.tmps.getD k undef:=by
 simp[Act.put,ahh,ahm h]
theorem ov {a:Act}{d:Nat}{v:Value}:(a.put (some d) v).tmps.size=a.tmps.size:=by simp[Act.put]
theorem kn {P:Program}{ops:Array Oper}{Q:Exit->Act->World->Prop}{i:Nat}{rest:List Nat}{a:Act}{w w':World}{o:Oper}{v:Value}(ho:ops[i]? =some o) (hg:o.guard=none) (hr:(execOp a.eval o).run P w= .ok (.value v) w') (h:wpOps P ops Q rest (a.put o.dst v) w'):wpOps P ops Q (i::rest) a w:=by
 simp only[wpOps,ho];rw[if_pos (by unfold Region.wanted;rw[hg])];left;unfold Oper.wp;rw[hr];exact h
theorem RK {Q:Exit->Act->World->Prop}{a:Act}{w:World}{r bm since c0:Nat}{seen:Array Nat}{es:Array MapEntry}{clock:Nat}(ga:a.tmps.size=62) (hp:a.tmps.getD 53 undef= .pointer (some ⟨r,0,none⟩))
  (hr:w.heap[r]? =some (.mapIter (some bm) since seen c0)) (hb:w.heap[bm]? =some (.map es clock)) (hold:∀x∈es.toList,x.born<since) (Iv:since<=c0)
  (ads:(Go.leftOf es seen).size=0->Q .normal ((a.put (some 54) (.tuple #[.bool false])).put (some 55) (.bool false)) w)
  (more:∀e∈(Go.leftOf es seen).toList,∀w1:World,(w1=w∨w1=w.drew)->Q .normal ((a.put (some 54) (.tuple #[.bool true,e.key,e.val])).put (some 55) (.bool true)) (ChangeMaps.setBlock w1 r (.mapIter (some bm) since (seen.push e.born) clock))):
  (Code.region 16 #[G8,N4] false).wp prog Q a w:=by
 refine wp_region ?_;have adt:List.range (#[G8,N4]:Array Oper).size=[0,1]:=rfl;rw[adt];have fin:∀(v:Value) (b:Bool) (vs:Array Value) (w':World),v= .tuple vs->vs[0]? =some (.bool b)->Q .normal ((a.put (some 54) v).put (some 55) (.bool b)) w'->wpOps prog #[G8,N4] Q [1] (a.put (some 54) v) w':=by
  intro v b vs w' hv xJ hQ;subst hv;have e2:(execOp (a.put (some 54) (.tuple vs)).eval N4).run prog w'= .ok (.value (.bool b)) w':=by
   have hg:(a.put (some 54) (.tuple vs)).eval (.tmp 54)= .tuple vs:=gF (by omega);simp only[execOp,N4,hg,Instr.extract,xJ];rfl
  exact kn rfl rfl e2 hQ
 have Tz:a.eval (.tmp 53)= .pointer (some ⟨r,0,none⟩):=hp;rcases run_next_at (P:=prog) w 0 r bm since c0 seen es clock hr hb hold Iv with ⟨h0,dz⟩|⟨e,he,w1,h1,dz⟩
 ·have e1:(execOp a.eval G8).run prog w= .ok (.value (.tuple #[.bool false])) w:=by
   simp only[execOp,G8,Tz,Sem.run_bind,dz];rfl
  exact kn rfl rfl e1 (fin _ false _ w rfl rfl (ads h0))
 ·have e1:(execOp a.eval G8).run prog w= .ok (.value (.tuple #[.bool true,e.key,e.val])) (ChangeMaps.setBlock w1 r (.mapIter (some bm) since (seen.push e.born) clock)):=by
   simp only[execOp,G8,Tz,Sem.run_bind,dz];rfl
  exact kn rfl rfl e1 (fin _ true _ _ rfl rfl (more e he w1 h1))
theorem RL {Q:Exit->Act->World->Prop}{a:Act}{w:World}{r bm since:Nat}{seen:Array Nat}{es:Array MapEntry}{clock:Nat}{e:MapEntry}(ga:a.tmps.size=62) (hp:a.tmps.getD 53 undef= .pointer (some ⟨r,0,none⟩))
  (hr:w.heap[r]? =some (.mapIter (some bm) since (seen.push e.born) clock)) (hb:w.heap[bm]? =some (.map es clock)) (he:e∈es.toList) (hn:(es.toList.map (·.born)).Nodup)
  (h:Q .normal (((a.put (some 56) (.tuple #[e.key,e.val])).put (some 57) e.val).put (some 10) e.val) w):
  (Code.region 17 #[RH,RI,RJ] false).wp prog Q a w:=by
 refine wp_region ?_;have adu:List.range (#[RH,RI,RJ]:Array Oper).size=[0,1,2]:=rfl;rw[adu];have Tz:a.eval (.tmp 53)= .pointer (some ⟨r,0,none⟩):=hp;have e1:(execOp a.eval RH).run prog w= .ok (.value (.tuple #[e.key,e.val])) w:=by
  simp only[execOp,RH,Tz,Sem.run_bind,run_entry_at (P:=prog) w r bm since seen es clock e hr hb he hn];rfl
 refine kn rfl rfl e1 ?_;have h2:(a.put (some 56) (.tuple #[e.key,e.val])).eval (.tmp 56)= .tuple #[e.key,e.val]:=gF (by omega);have e2:(execOp (a.put (some 56) (.tuple #[e.key,e.val])).eval RI).run prog w= .ok (.value e.val) w:=by
  simp only[execOp,RI,h2,Instr.extract];rfl
 refine kn rfl rfl e2 ?_;have h3:((a.put (some 56) (.tuple #[e.key,e.val])).put (some 57) e.val).eval (.tmp 57)=e.val:=gF (by rw[ov];omega);have e3:(execOp ((a.put (some 56) (.tuple #[e.key,e.val])).put (some 57) e.val).eval RJ).run prog w= .ok (.value e.val) w:=by
  simp only[execOp,RJ,h3];rfl
 exact kn rfl rfl e3 h
def vW:List AV:=bz 62 [(2,.ptr 0 0),(3,.ptr 1 0),(4,.ptr 2 0),(53,.ptr 8 0)]
def bg.JZ (p:bg) (i:Nat) (e:ByteArray×List ByteArray):bg:={ p with x:=p.x.set i (e.1,ou p.l e.2)}
theorem DZ {H:aa}{lab:Nat}{es:List (ByteArray×List ByteArray)}{E:Env}{w0 w w':World}(g:Good E H w0 w) (MK:H[lab]? =some (.rows es none)){i:Nat}{e:ByteArray×List ByteArray}(hi:es[i]? =some e){ss:List ByteArray}(hlen:ss.length=e.2.length)
  {lB c:Nat} (hG:E.G lab (code i e.2.length)=some (lB,c)) (hb:Below w0.heap.size w0 w') (ga:nN w w') (iz:∀b,b≠lB->b<w.heap.size->w'.heap[b]? =w.heap[b]?)
  (qk:∀arr T,w.heap[lB]? =some (.cells arr T (0,0))->∃lF,w'.heap[lB]? =some (.cells lF T (0,0))/\lF.size=arr.size/\∀(j:Nat) (s:ByteArray),ss[j]? =some s->lF[j]? =some (.string s)):
  Good E (H.set lab (.rows (es.set i (e.1,ss)) none)) w0 w'/\Ext (H).length (·∈[lab]) E (H) w E (H.set lab (.rows (es.set i (e.1,ss)) none)) w':=by
 have ud:i<es.length:=(ag5.1 hi).1;obtain⟨b,hφ,jO,ms,ck,hm,hR⟩:=g.obj MK;have VD:owns E H lab lB:=by
  unfold owns;rw[MK];exact⟨b,hφ,.inr ⟨i,e.2,c,by simp[rowAt,hi],hG⟩⟩
 have vr:lab<H.length:=(ag5.1 MK).1;have Fk:(H.set lab (.rows (es.set i (e.1,ss)) none))[lab]? =some (.rows (es.set i (e.1,ss)) none):=ahd vr;have J0:∀k,k≠lab->(H.set lab (.rows (es.set i (e.1,ss)) none))[k]? =H[k]? :=λk hk=>ag7 (λh=>hk h.symm)
 obtain⟨h0,b',c',arr,T,q1,q2,q3,q4,q5,q6,q7,q8,q9⟩:=hR.lB i e.2 (by simp[rowAt,hi]);rw[hG]at q1;cases q1;have tG:∀j,rowAt (es.set i (e.1,ss)) none j=if j=i then some ss else rowAt es none j:=λj=>by
  unfold rowAt;by_cases hj:j=i
  ·subst hj;rw[if_pos rfl,ahd ud];rfl
  ·rw[if_neg hj,ag7 (λe=>hj e.symm)]
 have YF:∀j t,rowAt (es.set i (e.1,ss)) none j=some t->∃t0,rowAt es none j=some t0/\t0.length=t.length/\(j≠i->t0=t):=λj t ht=>by
  rw[tG]at ht;by_cases hj:j=i
  ·subst hj;rw[if_pos rfl]at ht;cases ht;exact⟨e.2,by simp[rowAt,hi],hlen.symm,λh=>absurd rfl h⟩
  ·rw[if_neg hj]at ht;exact⟨t,ht,rfl,λ_=>rfl⟩
 have oW:∀k x,owns E (H.set lab (.rows (es.set i (e.1,ss)) none)) k x↔owns E (H) k x:=by
  intro k x;by_cases jI:k=lab
  ·subst jI;unfold owns;rw[Fk,MK];constructor
   ·rintro⟨y,hy,h⟩;refine⟨y,hy,?_⟩;rcases h with h|⟨j,t,c2,h1,h2⟩
    ·exact .inl h
    ·obtain⟨t0,k1,k2,_⟩:=YF j t h1;exact .inr ⟨j,t0,c2,k1,by rw[k2];exact h2⟩
   ·rintro⟨y,hy,h⟩;refine⟨y,hy,?_⟩;rcases h with h|⟨j,t,c2,h1,h2⟩
    ·exact .inl h
    ·by_cases hj:j=i
     ·subst hj;have:t=e.2:=by simpa [rowAt,hi]using h1.symm
      subst this;exact .inr ⟨j,ss,c2,by rw[tG,if_pos rfl],by rw[hlen];exact h2⟩
     ·exact .inr ⟨j,t,c2,by rw[tG,if_neg hj];exact h1,h2⟩
  ·unfold owns;rw[J0 k jI]
 have adv:∀k x,k≠lab->owns E (H) k x->x≠lB:=λk x hk ho hx=>hk (g.sep ho (hx▸VD))
 have same:∀k x,k≠lab->owns E (H) k x->w'.heap[x]? =w.heap[x]? :=λk x hk ho=>iz x (adv k x hk ho) (g.fG ho)
 obtain⟨lF,r1,r2,r3⟩:=qk arr T q4;refine⟨⟨hb,λ{x o u} h=> ?_,λ{k o'} hk=> ?_,λ{k1 k2 x} h1 h2=>g.sep ((oW _ _).1 h1) ((oW _ _).1 h2),λ{k} hk=>g.fresh (by simpa using hk),λh=>ahz (g.mb h) ga.heap⟩,
  ⟨.refl E,ga,by simp,λ{k} hk hw=>J0 k (λh=>hw (by simp[h])),λ{k x} hk hw ho=>same k x (λh=>hw (by simp[h])) ho,λ_=>rfl,λ{x} hx h0=>⟨iz x (λh=>h0 lab (h▸VD)) hx,λk ho=>h0 k ((oW k x).1 ho),λ_=>rfl⟩⟩⟩
 ·have gX:x≠lB:=λh2=>by subst h2;rw[q8]at h;cases h
  have hs:=g.snap h;have hx:x<w.heap.size:=by
   unfold World.cell? at hs
   cases hh:w.heap[x]? with
   |none=>rw[hh]at hs;cases hs
   |some ob=>exact(aha.1 hh).1
  rw[fF (iz x gX hx)];exact hs
 ·by_cases bo:k=lab
  ·subst bo;rw[Fk]at hk;cases hk;have adw:b≠lB:=λh=>q3 h.symm
   have xf:b<w.heap.size:=(aha.1 hm).1;refine⟨b,hφ,jO,ms,ck,(iz b adw xf).trans hm,⟨by rw[List.length_set];exact hR.size,λj e' hj=> ?_,hR.TL,hR.inj,λj t ht=> ?_,λj j' t t' x c1 c2 h1 h2 h3 h4=> ?_,λj m jZ=> ?_⟩⟩
   ·by_cases qi:j=i
    ·subst qi;rw[ahd ud]at hj;cases hj;obtain⟨m,k1,k2,k3⟩:=hR.keys j e hi;refine⟨m,k1,k2,λ_=> ?_⟩;obtain⟨b2,c2,k4,k5⟩:=k3 (λ_ h=>by cases h);exact⟨b2,c2,by rw[hlen];exact k4,by rw[hlen];exact k5⟩
    ·rw[ag7 (λh=>qi h.symm)]at hj;obtain⟨m,k1,k2,k3⟩:=hR.keys j e' hj;exact⟨m,k1,k2,λ_=>k3 (λ_ h=>by cases h)⟩
   ·by_cases qi:j=i
    ·subst qi;rw[tG,if_pos rfl]at ht;cases ht;exact⟨by omega,lB,c,lF,T,by rw[hlen];exact hG,q2,q3,r1,by rw[r2];exact q5,by omega,q7,q8,r3⟩
    ·rw[tG,if_neg qi]at ht;obtain⟨p0,x,c2,a2,T2,p1,p2,p3,p4,p5,p6,p7,p8,p9⟩:=hR.lB j t ht;have adx:x≠lB:=λh=>by
      subst h;exact qi (hR.sep j i t e.2 x c2 c ht (by simp[rowAt,hi]) p1 hG)
     have ady:x<w.heap.size:=(aha.1 p4).1;exact⟨p0,x,c2,a2,T2,p1,p2,p3,(iz x adx ady).trans p4,p5,p6,p7,p8,p9⟩
   ·obtain⟨t0,k1,k2,_⟩:=YF j t h1;obtain⟨t0',k1',k2',_⟩:=YF j' t' h2;exact hR.sep j j' t0 t0' x c1 c2 k1 k1' (by rw[k2];exact h3) (by rw[k2'];exact h4)
   ·refine hR.free j m (λt0 TD=> ?_);by_cases qi:j=i
    ·subst qi;have:t0=e.2:=by simpa [rowAt,hi]using TD.symm
     subst this;have:=jZ ss (by rw[tG,if_pos rfl]);omega
    ·exact jZ t0 (by rw[tG,if_neg qi];exact TD)
  ·rw[J0 k bo]at hk;exact(g.obj hk).step hk (.refl E) (λ_ h=>h) (λ_=>rfl) (λ_ _ _ _ h=>h) (λx hx=>same k x bo hx)
def J2 (l:List dh):aa:=[.cells [.ptr 5 0],.cells [aS aq],.cells [i64 0],.ez (eC l) (nG l),.dead,.cells [.cU 3,.any,.any],.dead,.dead,.dead]
theorem RM (l:List dh):∀o∈zN l,cH 3 o=true/\gn o=true:=by
 intro o ho;simp only[zN,ahl,ahr,ahO]at ho;rcases ho with rfl|rfl|rfl<;>exact⟨rfl,rfl⟩
theorem VE (l:List dh) (a b:ByteArray) (ha:eC l a=true) (hb:eC l b=true):bZ prog 103 [aS a,aS b,.ptr 0 0] (i64 (G6 l a b)) (J2 l) (J2 l) []:=by
 have key:=y4 (RG l a b ha hb) (H:=J2 l) (s:=[0,3,5]) (by simp) rfl (λj k hj=>by
  match j,hj with
  |0,hj=>simp at hj;subst hj;rfl
  |1,hj=>simp at hj;subst hj;rfl
  |2,hj=>simp at hj;subst hj;rfl) rfl (RM l) (λo ho=>(RM l o ho).2)
 exact key
theorem J3 (l:List dh){E:Env}{w0 W:World}(g:Good E (J2 l) w0 W){b0:Nat}(hb:E.φ 0=some b0) (x y:A1 l):
  Calls prog 103 (#[A2 l x,A2 l y]++ #[.pointer (some ⟨b0,0,none⟩)]) W λe w'=>e= .returned (.int .i64 (TJ l x y))/\∃q os',w'=grow (W.drewN q) os':=by
 have hr:ji E [aS x.1,aS y.1,.ptr 0 0] (#[A2 l x,A2 l y]++ #[.pointer (some ⟨b0,0,none⟩)]):=by
  refine⟨rfl,λi z hz=> ?_⟩
  match i,hz with
  |0,hz=>simp at hz;subst hz;exact .sc _ rfl
  |1,hz=>simp at hz;subst hz;exact .sc _ rfl
  |2,hz=>simp at hz;subst hz;exact .ptr 0 0 b0 hb
 refine((VE l x.1 y.1 x.2 y.2).2.1 E w0 W _ g hr).mono ?_;rintro e w' ⟨E',re,ex,g'⟩
 cases re with
 |ret a v hv=>
  cases hv;exact⟨rfl,G7 g g' ex⟩
theorem aa8 {p:bg}{fs:jo}{E:Env}{w0 w:World}(g:Good E (hB p fs [.dead]) w0 w):Good E (J2 p.l) w0 w:=g.WZ (by
 refine⟨rfl,λk o' hk=> ?_⟩
 match k,hk with
 |0,hk=>exact⟨_,rfl,by simp[J2]at hk;subst hk;exact .refl _⟩
 |1,hk=>exact⟨_,rfl,by simp[J2]at hk;subst hk;exact .refl _⟩
 |2,hk=>exact⟨_,rfl,by simp[J2]at hk;subst hk;exact .refl _⟩
 |3,hk=>exact⟨_,rfl,by simp[J2]at hk;subst hk;exact .refl _⟩
 |4,hk=>exact⟨_,rfl,by simp[J2]at hk;subst hk;exact .dead _⟩
 |5,hk=>exact⟨_,rfl,by simp[J2]at hk;subst hk;exact .cells (.cons (.refl _) (.cons (.any _) (.cons (.any _) .nil)))⟩
 |6,hk=>exact⟨_,rfl,by simp[J2]at hk;subst hk;exact .refl _⟩
 |7,hk=>exact⟨_,rfl,by simp[J2]at hk;subst hk;exact .refl _⟩
 |8,hk=>exact⟨_,rfl,by simp[J2]at hk;subst hk;exact .refl _⟩)
theorem aa9 {p:bg}{fs:jo}{E:Env}{k b:Nat}(h:owns E (J2 p.l) k b):k≠4/\owns E (hB p fs [.dead]) k b:=by
 match k,h with
 |0,h=>exact⟨by omega,h⟩
 |1,h=>exact⟨by omega,h⟩
 |2,h=>exact⟨by omega,h⟩
 |3,h=>exact⟨by omega,h⟩
 |5,h=>exact⟨by omega,h⟩
 |k+6,h=>exact⟨by omega,by
  match k,h with
  |0,h=>exact h
  |1,h=>exact h
  |2,h=>exact h⟩
theorem J4 (p:bg) (fs:jo) (i:Nat) (e:ByteArray×List ByteArray) (hi:p.x[i]? =some e) (hk:∀s∈e.2,eC p.l s=true) (U4:e.2.length<4611686018427387904){E:Env}{w0 w:World}{vs:Array Value}(g:Good E (hB p fs [.dead]) w0 w) (hr:ji E [.fY 4 i e.2.length,.fn (.func 103) [] [.ptr 0 0]] vs):
 Calls prog 102 vs w λen w'=>en= .returned (.tuple #[])/\Good E (hB (p.JZ i e) fs [.dead]) w0 w'/\Ext (hB p fs [.dead]).length (·∈[4]) E (hB p fs [.dead]) w E (hB (p.JZ i e) fs [.dead]) w'/\∃lB c,E.G 4 (code i e.2.length)=some (lB,c)/\∀b,b≠lB->b<w.heap.size->w'.heap[b]? =w.heap[b]? :=by
 obtain⟨b,hφ,jO,ms,ck,hm,hR⟩:=g.obj (l:=4) rfl;obtain⟨h0,lB,c,arr,T,q1,q2,q3,q4,q5,q6,q7,q8,q9⟩:=hR.lB i e.2 (by simp[rowAt,hi]);have ga:vs.size=2:=hr.1;have r0:=hr.2 0 _ rfl;have r1:=hr.2 1 _ rfl;obtain⟨v0,v1,rfl⟩:∃v0 v1,vs= #[v0,v1]:=⟨vs[0],vs[1],by
  apply Array.ext
  ·simpa using ga
  ·intro k h1 h2
   match k,h1 with
   |0,_=>rfl
   |1,_=>rfl
   |k+2,h1=>omega⟩
 have r0:Rel E (.fY 4 i e.2.length) v0:=r0;have r1:Rel E (.fn (.func 103) [] [.ptr 0 0]) v1:=r1;have e0:v0= .slice (some ⟨lB,0,none⟩) e.2.length c:=by
  generalize hn:e.2.length=n at*
  cases r0 with
  |jq=>omega
  |fY _ _ _ b2 c2 h=>
   rw[h]at q1;cases q1;rfl
 subst e0;obtain⟨b0,xJ,e1⟩:∃b0,E.φ 0=some b0/\v1= .func (.func 103) #[] #[.pointer (some ⟨b0,0,none⟩)]:=by
  cases r1 with
  |fn _ _ _ us TA h1 h2 k1 k2=>
   have hu:us= #[]:=Array.eq_empty_of_size_eq_zero (by simpa using h1);have hv:TA.size=1:=by simpa using h2
   have r:=k2 0 _ rfl;obtain⟨u,rfl⟩:∃u,TA= #[u]:=⟨TA[0],by
    apply Array.ext
    ·simpa using hv
    ·intro k h1 h2
     match k,h1 with
     |0,_=>rfl
     |k+1,h1=>omega⟩
   have r:Rel E (.ptr 0 0) u:=r
   cases r with
   |ptr _ _ b0 xJ=>exact⟨b0,xJ,by rw[hu]⟩
 subst e1;have xf:lB<w.heap.size:=(aha.1 q4).1;have VD:owns E (hB p fs [.dead]) 4 lB:=⟨b,hφ,.inr ⟨i,e.2,c,by simp[rowAt,hi],q1⟩⟩
 obtain⟨s0,Zv⟩:∃s,s∈e.2:=⟨e.2[0],ahG h0⟩
 haveI:Inhabited (A1 p.l):=⟨⟨s0,hk s0 Zv⟩⟩
 let d:Array (A1 p.l):=(zO p.l e.2 hk).toArray
 have hdl:(zO p.l e.2 hk).length=e.2.length:=by have:=congrArg List.length (vV p.l e.2 hk);simpa using this
 have Ew:d.size=e.2.length:=by simpa [d]using hdl
 have fx:∀j (h:j<e.2.length),(d[j]!).1=e.2[j]:=λj h=>by
  have h1:j<d.size:=by omega
  rw[getElem!_pos d j h1];have h2:((zO p.l e.2 hk).map (·.1))[j]? =some e.2[j]:=by rw[vV];exact ahc h
  rw[ahy]at h2;simp only[d,List.getElem_toArray];rw[ahc (by rw[hdl];exact h)]at h2;simpa using h2
 have hH:Holds (A2 p.l) w lB 0 d:=λj hj=>by
  have su:j<e.2.length:=by omega
  refine⟨?_,?_⟩
  ·unfold World.cell?;simp only[q4,ahF,Option.isSome_none,ahA,if_false];rw[q9 j e.2[j] (ahc su)];unfold A2;rw[fx j su]
  ·unfold World.frozen?;simp[q4]
 have aba:∀x o u,E.S x o=some u->x≠lB/\x<w.heap.size:=λx o u h=>by
  refine⟨λh2=>(by subst h2;rw[q8]at h;cases h),?_⟩;have hs:=g.snap h;unfold World.cell? at hs
  cases hh:w.heap[x]? with
  |none=>simp only[hh]at hs;cases hs
  |some ob=>exact(aha.1 hh).1
 have RN:∀(m:Nat) (dk:Array (A1 p.l)) (os:Array Obj),Below w0.heap.size w0 (sortWorld (A2 p.l) w lB 0 m dk os):=λm dk os=>
  ⟨g.below.os,g.below.tape,g.below.output,ahx g.below.size (by rw[tF];omega),λk hk=>(lx _ _ _ _ _ _ _ (by omega) (by have:=g.below.size;omega)).trans (g.below.block k hk)⟩
 have adA:CmpLays1 prog 103 #[.pointer (some ⟨b0,0,none⟩)] (A2 p.l) (TJ p.l) lB 0 d.size w:=λm os dk _ x y=>
  J3 p.l (E:=E) (w0:=w0) ((aa8 g).world (RN m dk os) (by rw[tF];omega) (λk x ho=>by
   obtain⟨hk,ho⟩:=aa9 ho;exact lx _ _ _ _ _ _ _ (λhx=>hk (g.sep ho (hx▸VD))) (g.fG ho)) (λx o u h=>lx _ _ _ _ _ _ _ (aba x o u h).1 (aba x o u h).2)) xJ x y
 have abb:d.size<4611686018427387904:=by rw[Ew];exact U4
 have YG:=Any.slices_SortFunc_total sortStr (A2 p.l) (λ_=>rfl) (TJ p.l) (adq p.l) 103 #[.pointer (some ⟨b0,0,none⟩)] lB 0 c d w aa7 adA hH xf abb (adr p.l);change Calls prog 102 _ _ _ at YG;rw[Ew]at YG;refine YG.mono ?_;rintro _ w' ⟨rfl,n,os,rfl⟩;have hlen:(ou p.l e.2).length=e.2.length:=by unfold ou;exact List.length_mergeSort _
 obtain⟨qw,hex⟩:=DZ g (lab:=4) rfl hi hlen q1 (RN n (d.toList.mergeSort λx y=> !(ltOf (TJ p.l)) y x).toArray os) ⟨by rw[tF];omega,by show w.drawn<=w.drawn+n;omega⟩ (λx hx cO=>lx _ _ _ _ _ _ _ hx cO) (λafQ T2 h2=>by
  rw[q4]at h2;cases h2;refine⟨_,N2 _ _ _ _ _ _ _ q4,A3 _ _ _ _,λj s hj=> ?_⟩;have hv:=N3 p.l e.2 hk;rw[←hv,ahy,ahE]at hj;obtain⟨x,hx,rfl⟩:=hj;have rE:=(ag5.1 hx).1;have afR:j<e.2.length:=by rw[List.length_mergeSort,hdl]at rE;exact rE
  rw[DY,if_pos (by simpa [d]using rE)];have hja:j<arr.size:=by omega
  rw[aii hja];simp only[ahs,ag6];unfold A2;congr 1;rw[getElem!_pos _ j (by simpa [d]using rE)];have:=(ag5.1 hx).2;simp only[List.getElem_toArray];exact congrArg Subtype.val this)
 exact⟨rfl,qw,hex,lB,c,q1,λx hx cO=>lx _ _ _ _ _ _ _ hx cO⟩
def RO:Oper:={ dst:=some 58,op:= .move (.tmp 10),type:=40,pos:="pool.go:117",after:= #[],guard:=none}
def RP:Oper:={ dst:=some 59,op:= .makeFunc (.func 103) #[] #[.tmp 2],type:=179,pos:="pool.go:117",after:= #[],guard:=none}
def RQ:Oper:={ dst:=some 60,op:= .call { callee:= .value (.func 102),args:= #[.tmp 58,.tmp 59],argTypes:= #[40,179]},type:=0,pos:="pool.go:117",after:= #[{ on:=0,ground:= .data},{ on:=1,ground:= .data}],guard:=none}
theorem adB:ae f44 16= .seq (.region 16 #[G8,N4] false) (.seq (.cond (.tmp 55) .skip (.exit 4)) (.block 5 (.seq (.region 17 #[RH,RI,RJ] false) (.region 18 #[RO,RP,RQ] false)))):=by kernel_rfl
theorem RR {P:Program}{ops:Array Oper}{Q:Exit->Act->World->Prop}{i:Nat}{rest:List Nat}{a:Act}{w w':World}{o:Oper}{f:FuncId}{args:Array Value}(ho:ops[i]? =some o) (hg:o.guard=none) (hr:(execOp a.eval o).run P w= .ok (.enter f args) w') (h:Calls P f args w' λe sr=>∃v,e= .returned v/\wpOps P ops Q rest (a.put o.dst v) sr):wpOps P ops Q (i::rest) a w:=by
 simp only[wpOps,ho];rw[if_pos (by unfold Region.wanted;rw[hg])];left;unfold Oper.wp;rw[hr];refine h.mono ?_;rintro e sr ⟨v,rfl,h⟩;exact h
theorem RS {Q:Exit->Act->World->Prop}{a:Act}{w:World}{v0 u:Value}(ga:a.tmps.size=62) (KU:a.tmps.getD 10 undef=v0) (h2:a.tmps.getD 2 undef=u)
  (h:Calls prog 102 #[v0,.func (.func 103) #[] #[u]] w λe w'=>e= .returned (.tuple #[])/\Q .normal (((a.put (some 58) v0).put (some 59) (.func (.func 103) #[] #[u])).put (some 60) (.tuple #[])) w'):
  (Code.region 18 #[RO,RP,RQ] false).wp prog Q a w:=by
 refine wp_region ?_;have adC:List.range (#[RO,RP,RQ]:Array Oper).size=[0,1,2]:=rfl;rw[adC];have e1:(execOp a.eval RO).run prog w= .ok (.value v0) w:=by
  have:a.eval (.tmp 10)=v0:=KU;simp only[execOp,RO,this];rfl
 refine kn rfl rfl e1 ?_;have e2:(execOp (a.put (some 58) v0).eval RP).run prog w= .ok (.value (.func (.func 103) #[] #[u])) w:=by
  have:(a.put (some 58) v0).eval (.tmp 2)=u:=(zP (by omega)).trans h2;simp[execOp,RP,this,Instr.makeFunc]
 refine kn rfl rfl e2 ?_;have k1:((a.put (some 58) v0).put (some 59) (.func (.func 103) #[] #[u])).eval (.tmp 58)=v0:=(zP (by omega)).trans (gF (by omega));have k2:((a.put (some 58) v0).put (some 59) (.func (.func 103) #[] #[u])).eval (.tmp 59)= .func (.func 103) #[] #[u]:=gF (by rw[ov];omega);have k3:((a.put (some 58) v0).put (some 59) (.func (.func 103) #[] #[u])).eval (.func 102)= .func (.func 102) #[] #[]:=rfl;have adD:∀args w,(callFunc 102 args).run prog w= .ok (.enter 102 args) w:=enters_of func102 (by kernel_rfl) rfl;have e3:(execOp ((a.put (some 58) v0).put (some 59) (.func (.func 103) #[] #[u])).eval RQ).run prog w= .ok (.enter 102 #[v0,.func (.func 103) #[] #[u]]) w:=by
  generalize (a.put (some 58) v0).put (some 59) (.func (.func 103) #[] #[u])=A at k1 k2 k3;simp[execOp,RQ,resolve,k1,k2,k3,Deferred.ofValue,invoke,adD]
 exact RR rfl rfl e3 (h.mono (λe w' ⟨he,hq⟩=>⟨_,he,hq⟩))
theorem RT {w:World}{b:Nat}{o:Obj}{k:Nat}(h:k≠b):(ChangeMaps.setBlock w b o).heap[k]? =w.heap[k]? :=by
 simp[ChangeMaps.setBlock,ahm (Ne.symm h)]
theorem N5 {w:World}{b:Nat}{o:Obj}(h:b<w.heap.size):(ChangeMaps.setBlock w b o).heap[b]? =some o:=by
 simp[ChangeMaps.setBlock,h]
theorem N6 {w:World}{b:Nat}{o:Obj}:(ChangeMaps.setBlock w b o).heap.size=w.heap.size:=by
 simp[ChangeMaps.setBlock]
theorem Ext.abc {n0:Nat}{W:Nat->Prop}{E E1:Env}{H H1:aa}{w0 w w' sr:World}(h:Ext n0 W E H w E1 H1 w') (g:Good E H w0 w) (hl:nN w' sr) (hs:∀b,b<w.heap.size->sr.heap[b]? =w'.heap[b]?):Ext n0 W E H w E1 H1 sr:=
 ⟨h.le,h.size.trans hl,h.len,h.same,λhl hw ho=>(hs _ (g.fG ho)).trans (h.iX hl hw ho),h.lL,λhb h0=>⟨(hs _ hb).trans (h.stay hb h0).1,(h.stay hb h0).2⟩⟩
theorem eJ.kV {E:Env}{T:List AV}{a:Act}(h:eJ E T a.tmps){d:Nat}(v:Value) (hd:T[d]? =some .any):eJ E T (a.put (some d) v).tmps:=by
 have:=fU h (some d) (Rel.any v);have e:gK T (some d) .any=T:=by
  unfold gK;refine ah2 (λi=> ?_);by_cases hi:d=i
  ·subst hi;rw[ahd (ag5.1 hd).1,hd]
  ·rw[ag7 hi]
 rwa [e]at this
def nH (ms:Array MapEntry) (i:Nat):Nat:=((ms[i]?).map (·.born)).getD 0
def Ay (l:List dh) (ms:Array MapEntry) (x:List (ByteArray×List ByteArray)) (seen:Array Nat):List (ByteArray×List ByteArray):=
 x.mapIdx λi e=>if seen.contains (nH ms i)then(e.1,ou l e.2)else e
def bg.sorted (p:bg):bg:={ p with x:=p.x.map λe=>(e.1,ou p.l e.2)}
theorem N7 (l:List dh) (s:List ByteArray):(ou l s).length=s.length:=by unfold ou;exact List.length_mergeSort _
section
variable (l:List dh) (ms:Array MapEntry) (x:List (ByteArray×List ByteArray)) (seen:Array Nat)
theorem pG (i:Nat):(Ay l ms x seen)[i]? =(x[i]?).map λe=>if seen.contains (nH ms i)then(e.1,ou l e.2)else e:=by
 unfold Ay;rw[List.getElem?_mapIdx]
theorem LJ:Ay l ms x #[]=x:=by
 refine ah2 (λi=> ?_);rw[pG]
 cases x[i]? with
 |none=>rfl
 |some e=>simp
theorem LK (hs:ms.size=x.length) (h:(Go.leftOf ms seen).size=0):Ay l ms x seen=x.map λe=>(e.1,ou l e.2):=by
 refine ah2 (λi=> ?_);rw[pG,ahy];by_cases hi:i<x.length
 ·have hm:ms[i]? =some (ms[i]'(by omega)):=aii (by omega);have:=Go.all_seen ms seen h (ms[i]'(by omega)) (by simp);have e:nH ms i=(ms[i]'(by omega)).born:=by unfold nH;rw[hm];rfl
  rw[e,this];simp
 ·rw[ahu (by omega)];rfl
theorem VF (i:Nat) (e:ByteArray×List ByteArray) (h:(Ay l ms x seen)[i]? =some e):∃e0,x[i]? =some e0/\e0.2.length=e.2.length:=by
 rw[pG,ahE]at h;obtain⟨e0,h0,rfl⟩:=h;refine⟨e0,h0,?_⟩;split
 ·exact(N7 _ _).symm
 ·rfl
theorem RU (X5:∀(i j:Nat) (m m':MapEntry),ms[i]? =some m->ms[j]? =some m'->m.born=m'.born->i=j) (hs:ms.size=x.length){i:Nat}{m:MapEntry}{e:ByteArray×List ByteArray}(hm:ms[i]? =some m) (he:x[i]? =some e):
  Ay l ms x (seen.push m.born)=(Ay l ms x seen).set i (e.1,ou l e.2):=by
 have ud:i<(Ay l ms x seen).length:=by
  have:=(ag5.1 he).1;unfold Ay;rw[List.length_mapIdx];exact this
 refine ah2 (λj=> ?_);by_cases hj:i=j
 ·subst hj;rw[ahd ud,pG,he];have e1:nH ms i=m.born:=by unfold nH;rw[hm];rfl
  simp[e1]
 ·rw[ag7 hj,pG,pG]
  cases hx:x[j]? with
  |none=>rfl
  |some e'=>
   have rE:j<ms.size:=by rw[hs];exact(ag5.1 hx).1
   have hmj:ms[j]? =some ms[j]:=aii rE;have e1:nH ms j=ms[j].born:=by unfold nH;rw[hmj];rfl
   have e2:(ms[j].born==m.born)=false:=by
    rw[beq_eq_false_iff_ne];intro h;exact hj (X5 j i _ _ hmj hm h).symm
   have e3:(seen.push m.born).contains ms[j].born=seen.contains ms[j].born:=by
    rw[Go.contains_push,e2,Bool.or_false]
   simp only[ahs,e1,e3]
end
theorem RV {p:bg}{fs:jo}{E:Env}{ms:Array MapEntry}{seen:Array Nat}{k b:Nat}(h:owns E (hB ⟨p.l,Ay p.l ms p.x seen⟩ fs [.dead]) k b):owns E (hB p fs [.iter 4]) k b/\k≠8:=by
 match k,h with
 |0,h=>exact⟨h,by omega⟩
 |1,h=>exact⟨h,by omega⟩
 |2,h=>exact⟨h,by omega⟩
 |3,h=>exact⟨h,by omega⟩
 |4,h=>
  refine⟨?_,by omega⟩;obtain⟨y,hy,h⟩:=h;refine⟨y,hy,?_⟩;rcases h with h|⟨i,ss,c,h1,h2⟩
  ·exact .inl h
  ·obtain⟨e1,h3,h4⟩:∃e,(Ay p.l ms p.x seen)[i]? =some e/\e.2=ss:=by
    have h1:((Ay p.l ms p.x seen)[i]?).map (·.2)=some ss:=h1;rw[ahE]at h1;exact h1
   obtain⟨e0,h5,h6⟩:=VF _ _ _ _ _ _ h3;refine .inr ⟨i,e0.2,c,?_,by rw[h6,h4];exact h2⟩;show (p.x[i]?).map (·.2)=some e0.2;rw[h5];rfl
 |5,h=>exact⟨h,by omega⟩
 |6,h=>exact⟨h,by omega⟩
 |7,h=>exact⟨h,by omega⟩
 |8,h=>exact(False.elim h)
 |k+9,h=>exact(False.elim h)
theorem LL {E:Env}{l o b:Nat}{v:Value}(h:Rel E (.ptr l o) v) (hb:E.φ l=some b):v= .pointer (some ⟨b,o,none⟩):=by
 cases h with
 |ptr l o b' h=>
  rw[hb]at h;cases h;rfl
theorem YH (p:bg) (fs:jo) (hk:∀e∈p.x,∀s∈e.2,eC p.l s=true) (U4:∀e∈p.x,e.2.length<4611686018427387904){n0:Nat}{W0:Nat->Prop}(sx:n0<=8) (hW4:4<n0->W0 4)
  {E0 E:Env} {w0 w w1:World} {D:List Deferred} {a:Act} (g0:Good E0 (hB p fs []) w0 w) (ex0:Ext n0 W0 E0 (hB p fs []) w E (hB p fs [.iter 4]) w1) (g:Good E (hB p fs [.iter 4]) w0 w1) (ht:eJ E vW a.tmps) (hd:a.defers=D)
  {r b8 ck:Nat} {ms:Array MapEntry} (hr:E.φ 4=some r) (h8:E.φ 8=some b8) (hb8:w.heap.size<=b8) (hm:w1.heap[r]? =some (.map ms ck)) (hi:w1.heap[b8]? =some (.mapIter (some r) ck #[] ck)):
  (Code.loop (ae f44 16)).wp prog (λe a' w'=>e= .exit 4/\Ext n0 W0 E0 (hB p fs []) w E (hB p.sorted fs [.dead]) w'/\Good E (hB p.sorted fs [.dead]) w0 w'/\eJ E vW a'.tmps/\a'.defers=D) a w1:=by
 have YI:owns E (hB p fs [.iter 4]) 8 b8:=h8;have VG:j1 E 4 r w0.heap.size p.x none ms ck w1.heap:=by
  obtain⟨b,hφ,jO,ms',ck',h1,h2⟩:=g.obj (l:=4) rfl;rw[hr]at hφ;cases hφ;rw[hm]at h1;cases h1;exact h2
 have adE:(ms.toList.map (·.born)).Nodup:=by
  unfold List.Nodup;rw[List.pairwise_iff_getElem];intro i j sY su mo he;rw[air,Array.length_toList]at sY su;simp only[List.getElem_map,Array.getElem_toList]at he;have:=VG.inj i j _ _ (aii sY) (aii su) he;omega
 have hold:∀x∈ms.toList,x.born<ck:=λx hx=>by
  obtain⟨i,sY⟩:=ahT hx;rw[Array.getElem?_toList]at sY;exact VG.TL i x sY
 have hr8:r≠b8:=λe=>by
  rw[hm]at*;have:owns E (hB p fs [.iter 4]) 4 b8:=⟨r,hr,.inl e⟩
  have:=g.sep this YI;omega
 have hS8:∀o u,E.S b8 o≠some u:=λo u h=>by
  have hs:=g.snap h;unfold World.cell? at hs;rw[hi]at hs;cases hs
 have hwb:w.heap.size<=w1.heap.size:=ex0.size.heap;have xJ:w0.heap.size<=b8:=ahx g0.below.size hb8
 let St (seen:Array Nat):aa:=hB ⟨p.l,Ay p.l ms p.x seen⟩ fs [.dead]
 refine wp_loop (λa' w'=>∃seen,Good E (St seen) w0 w'/\Ext n0 W0 E0 (hB p fs []) w E (St seen) w'/\eJ E vW a'.tmps/\a'.defers=D/\w'.heap[r]? =some (.map ms ck)/\w'.heap[b8]? =some (.mapIter (some r) ck seen ck))
  (λ_ w'=>match w'.heap[b8]? with
   |some (.mapIter _ _ seen _)=>(Go.leftOf ms seen).size
   |_=>0) ⟨#[],?_,?_,ht,hd,hm,hi⟩ ?_
 ·have e:St #[]=(hB p fs [.iter 4]).set 8 .dead:=by
   show hB ⟨p.l,Ay p.l ms p.x #[]⟩ fs [.dead]=_;rw[LJ];rfl
  rw[e];exact g.rL 8
 ·have e:St #[]=(hB p fs [.iter 4]).set 8 .dead:=by
   show hB ⟨p.l,Ay p.l ms p.x #[]⟩ fs [.dead]=_;rw[LJ];rfl
  rw[e];exact ex0.PT sx
 ·rintro a2 w2 ⟨seen,g2,iK,t2,d2,m2,i2⟩;have ga:a2.tmps.size=62:=t2.1;have h53:a2.tmps.getD 53 undef= .pointer (some ⟨b8,0,none⟩):=LL (t2.2 53 (.ptr 8 0) rfl) h8;rw[adB];refine wp_seq (RK ga h53 i2 m2 hold (ag3 _) (λh0=> ?_) (λe he w3 hw3=> ?_))
  ·
   refine wp_seq (wp_cond (t:=false) (gF (by rw[ov];omega)) ?_);refine wp_exit ⟨rfl,?_,?_,?_,?_⟩
   ·have e:hB p.sorted fs [.dead]=St seen:=by
     show _=hB ⟨p.l,Ay p.l ms p.x seen⟩ fs [.dead];rw[LK _ _ _ _ VG.size h0];rfl
    rw[e];exact iK
   ·have e:hB p.sorted fs [.dead]=St seen:=by
     show _=hB ⟨p.l,Ay p.l ms p.x seen⟩ fs [.dead];rw[LK _ _ _ _ VG.size h0];rfl
    rw[e];exact g2
   ·exact(t2.kV _ rfl).kV _ rfl
   ·rw[cg,cg];exact d2
  ·
   have TB:nN w2 w3:=by rcases hw3 with rfl|rfl<;>exact⟨ag3 _,by first|exact ag3 _|exact Nat.le_succ _⟩
   have hh3:w3.heap=w2.heap:=by rcases hw3 with rfl|rfl<;>rfl
   have TF:w3.os=w2.os/\w3.tape=w2.tape/\w3.output=w2.output:=by rcases hw3 with rfl|rfl<;>exact⟨rfl,rfl,rfl⟩
   have abd:b8<w3.heap.size:=by rw[hh3];exact(aha.1 i2).1
   generalize YJ:ChangeMaps.setBlock w3 b8 (.mapIter (some r) ck (seen.push e.born) ck)=w4;have h4o:∀k,k≠b8->w4.heap[k]? =w2.heap[k]? :=λk hk=>by rw[←YJ,RT hk,hh3]
   have h4i:w4.heap[b8]? =some (.mapIter (some r) ck (seen.push e.born) ck):=by rw[←YJ];exact N5 abd
   have h4s:w4.heap.size=w2.heap.size:=by rw[←YJ,N6,hh3]
   have h4l:nN w2 w4:=⟨by omega,by rw[←YJ];exact TB.drawn⟩
   have h4m:w4.heap[r]? =some (.map ms ck):=by rw[h4o r hr8];exact m2
   have g4:Good E (St seen) w0 w4:=g2.world ⟨by rw[←YJ];exact TF.1.trans g2.below.os,by rw[←YJ];exact TF.2.1.trans g2.below.tape,by rw[←YJ];exact TF.2.2.trans g2.below.output,by rw[h4s];exact g2.below.size,λk hk=>by rw[h4o k (by omega)];exact g2.below.block k hk⟩ (by omega) (λk x ho=>h4o x (λhx=>by
     subst hx;obtain⟨h1,h2⟩:=RV ho;exact h2 (g.sep h1 YI))) (λx o u hs=>h4o x (λhx=>by subst hx;exact hS8 _ _ hs))
   have ex4:Ext n0 W0 E0 (hB p fs []) w E (St seen) w4:=iK.abc g0 h4l (λb hb=>h4o b (by omega));obtain⟨hem,hes⟩:=Go.mem_left he;obtain⟨i,ud⟩:=ahT hem;rw[Array.getElem?_toList]at ud;have hix:i<p.x.length:=by rw[←VG.size];exact(aha.1 ud).1
   obtain⟨e0,Up⟩:∃e0,p.x[i]? =some e0:=⟨_,ahc hix⟩
   have Xj:e0∈p.x:=ahf Up;have hse:(Ay p.l ms p.x seen)[i]? =some e0:=by
    rw[pG,Up];have:nH ms i=e.born:=by unfold nH;rw[ud];rfl
    rw[this,hes];rfl
   obtain⟨m',ON,ue,hm3⟩:=VG.keys i e0 Up;rw[ud]at ON;cases ON;obtain⟨lB,c,hG,vu⟩:=hm3 (λ_ h=>by cases h);obtain⟨h0l,af6,c',arr,Tq,q1,q2,q3,q4,q5,q6,q7,q8,q9⟩:=VG.lB i e0.2 (by simp[rowAt,Up]);rw[hG]at q1;cases q1;have abf:lB≠b8:=λhx=>by
    subst hx;have h4:owns E (hB p fs [.iter 4]) 4 lB:=⟨r,hr,.inr ⟨i,e0.2,c,by show (p.x[i]?).map (·.2)=_;rw[Up];rfl,hG⟩⟩
    have:=g.sep h4 YI;omega
   have qk:Rel E (.fY 4 i e0.2.length) e.val:=by rw[vu];exact .fY _ _ _ _ _ hG h0l q6
   have t3:eJ E vW ((a2.put (some 54) (.tuple #[.bool true,e.key,e.val])).put (some 55) (.bool true)).tmps:=(t2.kV _ rfl).kV _ rfl;have d3:((a2.put (some 54) (.tuple #[.bool true,e.key,e.val])).put (some 55) (.bool true)).defers=D:=by rw[cg,cg];exact d2
   refine wp_seq (wp_cond (t:=true) (gF (by rw[ov];omega)) (wp_skip ?_));refine wp_block ?_;generalize (a2.put (some 54) (.tuple #[.bool true,e.key,e.val])).put (some 55) (.bool true)=a3 at t3 d3 ⊢;have adJ:a3.tmps.size=62:=t3.1;refine wp_seq (RL adJ (LL (t3.2 53 (.ptr 8 0) rfl) h8) h4i h4m hem adE ?_);have t5:eJ E vW (((a3.put (some 56) (.tuple #[e.key,e.val])).put (some 57) e.val).put (some 10) e.val).tmps:=((t3.kV _ rfl).kV _ rfl).kV _ rfl;have d5:(((a3.put (some 56) (.tuple #[e.key,e.val])).put (some 57) e.val).put (some 10) e.val).defers=D:=by rw[cg,cg,cg];exact d3
   have KU:(((a3.put (some 56) (.tuple #[e.key,e.val])).put (some 57) e.val).put (some 10) e.val).tmps.getD 10 undef=e.val:=gF (by rw[ov,ov];omega);generalize ((a3.put (some 56) (.tuple #[e.key,e.val])).put (some 57) e.val).put (some 10) e.val=a5 at t5 d5 KU ⊢;have adK:a5.tmps.size=62:=t5.1;refine RS adK KU rfl ?_;have hu:=t5.2 2 (.ptr 0 0) rfl;generalize a5.tmps.getD 2 undef=u at hu;have hrel:ji E [.fY 4 i e0.2.length,.fn (.func 103) [] [.ptr 0 0]] #[e.val,.func (.func 103) #[] #[u]]:=by
    refine⟨rfl,λj z hz=> ?_⟩
    match j,hz with
    |0,hz=>simp at hz;subst hz;exact qk
    |1,hz=>
     simp at hz;subst hz;refine .fn _ _ _ _ _ rfl rfl (λj x hj=>by simp at hj) (λj x hj=> ?_)
     match j,hj with
     |0,hj=>simp at hj;subst hj;exact hu
   refine(J4 ⟨p.l,Ay p.l ms p.x seen⟩ fs i e0 hse (hk e0 Xj) (U4 e0 Xj) g4 hrel).mono ?_;rintro en w6 ⟨rfl,g6,ex6,af7,c2,WT,iz⟩;rw[hG]at WT;cases WT;have eS:hB ((⟨p.l,Ay p.l ms p.x seen⟩:bg).JZ i e0) fs [.dead]=St (seen.push e.born):=by
    show hB ⟨p.l,(Ay p.l ms p.x seen).set i (e0.1,ou p.l e0.2)⟩ fs [.dead]=hB ⟨p.l,Ay p.l ms p.x (seen.push e.born)⟩ fs [.dead];rw[RU p.l ms p.x seen VG.inj VG.size ud Up]
   rw[eS]at g6 ex6;have YK:b8<w4.heap.size:=(aha.1 h4i).1;have abg:r<w4.heap.size:=(aha.1 h4m).1;have h6i:w6.heap[b8]? =some (.mapIter (some r) ck (seen.push e.born) ck):=by rw[iz b8 (λh=>abf h.symm) YK];exact h4i
   have h6m:w6.heap[r]? =some (.map ms ck):=by rw[iz r (λh=>q3 h.symm) abg];exact h4m
   refine⟨rfl,⟨⟨seen.push e.born,g6,?_,?_,?_,h6m,h6i⟩,?_⟩⟩
   ·exact ex4.trans (ex6.weaken (by show n0<=9;omega) (λl hl hm=>by simp at hm;subst hm;exact hW4 hl))
   ·exact((t5.kV _ rfl).kV _ rfl).kV _ rfl
   ·rw[cg,cg,cg];exact d5
   ·simp only[h6i,i2];exact Go.left_shrinks ms seen e he
theorem qg.YL {P:Program}{ops:Array Oper}{Q:Exit->Act->World->Prop}{Xk:List Nat}{is:List Nat}{T T':List AV}{H H':aa}{W:List Nat}(h:qg P ops is T H T' H' W):
  ∀{n0:Nat} {E:Env} {w0 w:World} {a:Act},n0<=H.length->Good E H w0 w->eJ E T a.tmps->
   (∀(E':Env) (a':Act) (w':World),Ext n0 (·∈W) E H w E' H' w'->Good E' H' w0 w'->eJ E' T' a'.tmps->a'.defers=a.defers->wpOps P ops Q Xk a' w')->
   wpOps P ops Q (is++Xk) a w:=by
 induction h with
 |nil T H=>
  intro n0 E w0 w a hn hg ht hk;exact hk E a w (.refl _ _ _ _ _) hg ht rfl
 | @skip i rest o T T' H H' W ho hw hr ih=>
  intro n0 E w0 w a hn hg ht hk;simp only[ah8,wpOps,ho,fm ht hw,if_false,ahA];refine ih hn hg (fU ht o.dst (nP _)) (λE' a' w' he qw EA hd=> ?_);exact hk E' a' w' he qw EA (hd.trans (cg _ _ _))
 | @step i rest o x T T' H H1 H' W1 W ho hw hs hr ih=>
  intro n0 E w0 w a hn hg ht hk;simp only[ah8,wpOps,ho,fm ht hw,if_true];refine .inl ((hs E w0 w a.eval hg (ht.o o)).wp ?_);rintro v w' ⟨E',he,qw,hv⟩;refine ih (ahx hn he.len) qw (fU (ht.mono he.le) o.dst hv) (λE2 a2 w2 Xv Iy Iz hd=> ?_);refine hk E2 a2 w2 ?_ Iy Iz (hd.trans (cg _ _ _));exact(he.weaken hn (λl _ hl=>ahk _ hl)).trans (Xv.weaken (ag3 _) (λl _ hl=>ahj _ hl))
def YM:Oper:={ dst:=some 53,op:= .range 168 (.tmp 52),type:=0,pos:="pool.go:116",after:= #[{ on:=3,ground:= .data}],guard:=none}
def u5:Array Oper:= #[{ dst:=some 49,op:= .load 33 (.tmp 2),type:=33,pos:="pool.go:116",after:= #[],guard:=none},{ dst:=some 50,op:= .nilCheck (.tmp 49),type:=0,pos:="pool.go:116",after:= #[{ on:=0,ground:= .data}],guard:=none},{ dst:=some 51,op:= .fieldAddr 170 (.tmp 50) 1,type:=0,pos:="pool.go:116",after:= #[{ on:=1,ground:= .data}],guard:=none},{ dst:=some 52,op:= .load 168 (.tmp 51),type:=168,pos:="pool.go:116",after:= #[{ on:=2,ground:= .data}],guard:=none},YM]
def abh:List AV:=bz 62 [(2,.ptr 0 0),(3,.ptr 1 0),(4,.ptr 2 0),(49,.ptr 5 0),(50,.ptr 5 0),(51,.ptr 5 1),(52,.cU 4)]
theorem abi (p:bg) (fs:jo):(ql prog (cK []) aN.site u5 (u5.toList.take 4) none xx (hB p fs [])).via (λq=>(q.1,q.2.1,r6 q.2.2))=some (abh,hB p fs [],[]):=by kernel_rfl
theorem N8 {l:Nat}{a:Act}{w:World}{r ck:Nat}{ms:Array MapEntry}(hv:a.tmps.getD 52 undef= .map (some r)) (hm:w.heap[r]? =some (.map ms ck)):
  (execOp a.eval YM).run prog w= .ok (.value (.pointer (some ⟨w.heap.size,0,none⟩))) (w.alloc (.mapIter (some r) ck #[] ck)):=by
 have hu:aB prog (underlying 168)=some (.map 9 27)∨∃kt et,aB prog (underlying 168)=some (.map kt et):= .inr (by exact⟨_,_,rfl⟩);have hu:∃kt et,aB prog (underlying 168)=some (.map kt et):=by
  rcases hu with h|h
  ·exact⟨_,_,h⟩
  ·exact h
 obtain⟨kt,et,hu⟩:=hu;have fx:(getObj r).run prog w= .ok (.map ms ck) w:=by simp[getObj,Sem.run,hm]
 have he:a.eval (.tmp 52)= .map (some r):=hv;simp only[execOp,YM,Instr.range,he,Sem.run_bind,aj hu,Result.andThen_ok,fx,newObj,Sem.run,Sem.run_pure,pure_bind];rfl
theorem YN (p:bg) (fs:jo) (hk:∀e∈p.x,∀s∈e.2,eC p.l s=true) (U4:∀e∈p.x,e.2.length<4611686018427387904):
  pF prog (.region 15 u5 false) (.block 4 (.loop (ae f44 16))) xx (hB p fs []) vW (hB p.sorted fs [.dead]) [4]:=by
 refine⟨λE w0 w ac hg ht=> ?_,⟨by show 8<=9;omega,λl hl hm=> ?_⟩⟩
 ·obtain⟨⟨T1,H1,L⟩,hr,hq⟩:=cv (abi p fs) rfl;simp only[ahe]at hq;obtain⟨rfl,rfl,hL⟩:=hq;obtain⟨c1,k1⟩:=fo (au []) ab.site (u5.toList.take 4) 0 none xx (hB p fs []) _ _ _ (λj q hq=>by
   rw[ahI]at hq;split at hq
   ·simpa using hq
   ·cases hq) hr
  have dz:=c1.run;rw[hL]at dz;refine wp_region ?_;have e1:List.range u5.size=(List.range (u5.toList.take 4).length).map (0+·)++[4]:=rfl;rw[e1];refine dz.YL (n0:=8) (ag3 _) hg ht (λE1 a1 w1 nw g1 t1 d1=> ?_);have r52:=t1.2 52 (.cU 4) rfl;obtain⟨b',iw,h1,ms,ck,h3,h4⟩:=g1.obj (l:=4) rfl;have hv:a1.tmps.getD 52 undef= .map (some b'):=by
   generalize a1.tmps.getD 52 undef=v at r52
   cases r52 with
   |cU l b hb=>
    rw[iw]at hb;cases hb;rfl
  refine kn rfl rfl (N8 (l:=4) hv h3) ?_;have g2:Good (E1.ej 8 w1.heap.size) (hB p fs [.iter 4]) w0 (w1.alloc (.mapIter (some b') ck #[] ck)):=by
   refine(g1.push (.mapIter (some b') ck #[] ck)).Ba (by rw[eK];omega) (λl ho=>absurd (g1.fG ho) (ahZ _)) (λ_ _=>by simp) ?_;intro c hc;have hc:(E1.ej 8 w1.heap.size).φ 8=some c:=hc;rw[cV]at hc;simp only[ag6]at hc;subst hc;exact⟨g1.below.size,b',ck,(Env.j2 (g1.fresh (l:=8) (ag3 _)).1).φ iw,heap_alloc_new w1 _⟩
  have iK:Ext 8 (·∈[4]) E1 (hB p fs []) w1 (E1.ej 8 w1.heap.size) (hB p fs [.iter 4]) (w1.alloc (.mapIter (some b') ck #[] ck)):=j3 8 (·∈[4]) (ag3 _) g1 _ _;have t2:eJ (E1.ej 8 w1.heap.size) vW (a1.put (some 53) (.pointer (some ⟨w1.heap.size,0,none⟩))).tmps:=by
   have:=fU (t1.mono iK.le) (some 53) (.ptr 8 0 _ (cV _ _ _));have e:vW=lC 0 [2,3,4,53] (gK abh (some 53) (.ptr 8 0)):=rfl;rw[e];exact this.wk (dL _ 0 _)
  have G9:=YH p fs hk U4 (n0:=8) (W0:=(·∈[4])) (ag3 _) (λ_=>by simp) hg ((nw.weaken (ag3 _) (λl _ hl=>by simp at hl)).trans iK) g2 t2 rfl (r:=b') (b8:=w1.heap.size) (ck:=ck) (ms:=ms) ((Env.j2 (g1.fresh (l:=8) (ag3 _)).1).φ iw) (cV _ _ _) nw.size.heap (by
   rw[heap_alloc_old w1 _ (aha.1 h3).1];exact h3) (heap_alloc_new w1 _)
  refine wp_block (wp_mono G9 ?_);rintro e a' w' ⟨rfl,ex,g,t,d⟩;simp only[Exit.inBlock,if_true];exact⟨_,trivial,ex,g,t,by rw[d,cg,d1]⟩
 ·match l,hl,hm with
  |0,_,_=>rfl
  |1,_,_=>rfl
  |2,_,_=>rfl
  |3,_,_=>rfl
  |4,_,hm=>exact absurd (by simp) hm
  |5,_,_=>rfl
  |6,_,_=>rfl
  |7,_,_=>rfl
  |k+8,hl,_=>exact absurd hl (by show ¬k+8<8;omega)
theorem RW {sz n t:Nat}{el:Nat->List AV}:ev (.aY false sz n el (.tok t)) (.aY false sz n el .dA):=by
 intro E v h
 cases h with
 |gG _ _ _ a h=>simp at h
 |aY _ _ _ _ b off c u hn ho hc hl h1 h k=>exact .aY _ _ _ _ b off c u hn hc hc hl h1 h k
theorem RX {c:Code}{l:List ag}{n:Nat}(hn:l.length=n+1){i:Int}{x:bj}{T1:List AV}{H1:aa}(h:an prog c (qt (mj false l).av l.length i) (hB ⟨[],[]⟩ (mj false l) []) x T1 H1 [5,3,4]):
  an prog c (qt (.aY false 11 (n+1) (Ax l) (.tok 7)) l.length i) (hA (.aY false 11 (n+1) (Ax l) (.tok 7)) (.map []) (.map []) [.dead,.tail (n+1) 11]) x T1 H1 [5,3,4,7]:=by
 have h:=h.eI (W':=[5,3,4,7]) (by simp);have e:(mj false l).av= .aY false 11 (n+1) (Ax l) .dA:=by unfold mj jo.av;rw[hn]
 unfold hB at h;rw[e]at h;refine an.Rx (l:=3) (val:=nG []) rfl (λs=> .dO _) ?_ (by simp);refine an.Ry (l:=4) (j:=15) rfl rfl ?_ (by simp);refine an.aa5 (H2:=hA (.aY false 11 (n+1) (Ax l) .dA) (.ez (eC []) (nG [])) (.rows [] none) ([.dead,.dead]++[])) ?_ ?_ ?_
 ·refine h.ik (Wk.tm ?_);exact .cons (.refl _) (.cons (.refl _) (.cons (.refl _) (.cons (.refl _) (.cons RW (.cons (.refl _) (.cons (.refl _) .nil))))))
 ·refine⟨rfl,λk o' hk=> ?_⟩
  match k,hk with
  |0,hk=>exact⟨_,rfl,by simp[hA]at hk;subst hk;exact .refl _⟩
  |1,hk=>exact⟨_,rfl,by simp[hA]at hk;subst hk;exact .refl _⟩
  |2,hk=>exact⟨_,rfl,by simp[hA]at hk;subst hk;exact .refl _⟩
  |3,hk=>exact⟨_,rfl,by simp[hA]at hk;subst hk;exact .refl _⟩
  |4,hk=>exact⟨_,rfl,by simp[hA]at hk;subst hk;exact .refl _⟩
  |5,hk=>exact⟨_,rfl,by simp[hA]at hk;subst hk;exact .cells (.cons (.refl _) (.cons (.refl _) (.cons RW .nil)))⟩
  |6,hk=>exact⟨_,rfl,by simp[hA]at hk;subst hk;exact .refl _⟩
  |7,hk=>exact⟨_,rfl,by simp[hA]at hk;subst hk;exact .dead _⟩
  |k+8,hk=>simp[hA]at hk
 ·intro k hk hm
  match k,hk,hm with
  |0,_,_=>rfl
  |1,_,_=>rfl
  |2,_,_=>rfl
  |3,_,hm=>exact absurd (by simp) hm
  |4,_,hm=>exact absurd (by simp) hm
  |5,_,hm=>exact absurd (by simp) hm
  |6,_,_=>rfl
  |7,_,hm=>exact absurd (by simp) hm
  |k+8,hk,_=>exact absurd hk (by simp[hA])
theorem YO {c:Code}{i:Int}{x:bj}{T1:List AV}{H1:aa}(h:an prog c (qt (mj true []).av ((0:Nat):Int) i) (hB ⟨[],[]⟩ (mj true []) []) x T1 H1 [5,3,4]):
  an prog c (qt aR ((0:Nat):Int) i) (hA aR (.map []) (.map []) []) x T1 H1 [5,3,4,6,7]:=by
 have h:=h.eI (W':=[5,3,4,6,7]) (by simp);refine an.U5 (an.U5 ?_);refine an.Rx (l:=3) (val:=nG []) rfl (λs=> .dO _) ?_ (by simp);refine an.Ry (l:=4) (j:=15) rfl rfl ?_ (by simp);refine an.aa5 (H2:=hA (mj true []).av (.ez (eC []) (nG [])) (.rows [] none) ([.dead,.dead]++[])) ?_ ?_ ?_
 ·refine h.ik (Wk.tm ?_);exact .cons (.refl _) (.cons (.refl _) (.cons (.refl _) (.cons (.refl _) (.cons fc (.cons (.refl _) (.cons (.refl _) .nil))))))
 ·refine⟨rfl,λk o' hk=> ?_⟩
  match k,hk with
  |0,hk=>exact⟨_,rfl,by simp[hA]at hk;subst hk;exact .refl _⟩
  |1,hk=>exact⟨_,rfl,by simp[hA]at hk;subst hk;exact .refl _⟩
  |2,hk=>exact⟨_,rfl,by simp[hA]at hk;subst hk;exact .refl _⟩
  |3,hk=>exact⟨_,rfl,by simp[hA]at hk;subst hk;exact .refl _⟩
  |4,hk=>exact⟨_,rfl,by simp[hA]at hk;subst hk;exact .refl _⟩
  |5,hk=>exact⟨_,rfl,by simp[hA]at hk;subst hk;exact .cells (.cons (.refl _) (.cons (.refl _) (.cons fc .nil)))⟩
  |6,hk=>exact⟨_,rfl,by simp[hA]at hk;subst hk;exact .dead _⟩
  |7,hk=>exact⟨_,rfl,by simp[hA]at hk;subst hk;exact .dead _⟩
  |k+8,hk=>simp[hA]at hk
 ·intro k hk hm
  match k,hk,hm with
  |0,_,_=>rfl
  |1,_,_=>rfl
  |2,_,_=>rfl
  |3,_,hm=>exact absurd (by simp) hm
  |4,_,hm=>exact absurd (by simp) hm
  |5,_,hm=>exact absurd (by simp) hm
  |6,_,hm=>exact absurd (by simp) hm
  |7,_,hm=>exact absurd (by simp) hm
  |k+8,hk,_=>exact absurd hk (by simp[hA])
def VH:nY:=⟨.any,[],[]⟩
noncomputable def YP (r:aX ag) (b ok:Bool) (q:bg) (n:Nat) (fs:AV) (Vu:jo) (W:List Nat) (x:ByteArray):bX:=
 nF prog [⟨11,[2,3,4,15,39,40,41],ok,.exit 2,qt fs r.l.length r.l.length,hB q Vu [],bE x,xx,W⟩] (cJ prog [⟨6,[2,3,4,15,18,19,20],.exit 0,qq r r.l.length,hC (Ax r.l) (.map []) (.map []) n,[5,6,7]⟩] (told prog [] [⟨12,0,.sc (.bool b)⟩]))
section
variable (r:aX ag) (b ok:Bool) (q:bg) (n:Nat) (x:ByteArray)
theorem zQ:(NX prog (cK []) (YP r b ok q (n+1) (mj false r.l).av (mj false r.l) [5,3,4,7] x) VH [⟨15,[2,3,4],vW,hB q.sorted (mj false r.l) [.dead],[4]⟩] (FD prog 12) 3 44 [r.av 11 ag.two] []).via (λr=>(r.1,r.2.1.take 9))=
  bif aD prog 96 [r.av 11 ag.two,.fn (.func 97) [] []] [] (.sc (.bool b))then bif b then some (.bq [gB,aS aq,i64 2],[.cells [gB],.cells [aS aq],.cells [i64 2]])else
  bif cj prog (ae f44 6) (qq r ((0:Nat):Int)) (hA aR (.map []) (.map []) []) (.exit 0) (qq r r.l.length) (hC (Ax r.l) (.map []) (.map []) (n+1)) [5,6,7]then
   bif ok then bif cj prog (ae f44 11) (qt (.aY false 11 (n+1) (Ax r.l) (.tok 7)) ((n+1:Nat):Int) ((0:Nat):Int)) (hA (.aY false 11 (n+1) (Ax r.l) (.tok 7)) (.map []) (.map []) [.dead,.tail (n+1) 11]) (.exit 2) (qt (mj false r.l).av r.l.length r.l.length) (hB q (mj false r.l) []) [5,3,4,7]then
    bif B2 prog (.region 15 u5 false) (.block 4 (.loop (ae f44 16))) xx (hB q (mj false r.l) []) vW (hB q.sorted (mj false r.l) [.dead]) [4]then
     some (.bq [.ptr 5 0,aS aq,i64 0],[.cells [.ptr 5 0],.cells [aS aq],.cells [i64 0],.ez (eC q.sorted.l) (nG q.sorted.l),.rows q.sorted.x none,.cells [.cU 3,.cU 4,(mj false r.l).av],.dead,.dead,.dead])else none else none
   else bif cj prog (ae f44 11) (qt (.aY false 11 (n+1) (Ax r.l) (.tok 7)) ((n+1:Nat):Int) ((0:Nat):Int)) (hA (.aY false 11 (n+1) (Ax r.l) (.tok 7)) (.map []) (.map []) [.dead,.tail (n+1) 11]) (.panic (bE x)) xx (dc [5,3,4,7] (hA (.aY false 11 (n+1) (Ax r.l) (.tok 7)) (.map []) (.map []) [.dead,.tail (n+1) 11])) [5,3,4,7]then
    some (.bq [gB,aS x,i64 140],[.cells [gB],.cells [aS x],.cells [i64 140],.dead,.dead,.dead,.dead,.dead,.cells [aS x]])else none
  else none else none:=by kernel_rfl
theorem RY:(NX prog (cK []) (YP r b ok q 0 (mj true []).av (mj true []) [5,3,4,6,7] x) VH [⟨15,[2,3,4],vW,hB q.sorted (mj true []) [.dead],[4]⟩] (FD prog 12) 3 44 [r.av 11 ag.two] []).via (λr=>(r.1,r.2.1.take 9))=
  bif aD prog 96 [r.av 11 ag.two,.fn (.func 97) [] []] [] (.sc (.bool b))then bif b then some (.bq [gB,aS aq,i64 2],[.cells [gB],.cells [aS aq],.cells [i64 2]])else
  bif cj prog (ae f44 6) (qq r ((0:Nat):Int)) (hA aR (.map []) (.map []) []) (.exit 0) (qq r r.l.length) (hC (Ax r.l) (.map []) (.map []) 0) [5,6,7]then
   bif ok then bif cj prog (ae f44 11) (qt aR ((0:Nat):Int) ((0:Nat):Int)) (hA aR (.map []) (.map []) []) (.exit 2) (qt (mj true []).av r.l.length r.l.length) (hB q (mj true []) []) [5,3,4,6,7]then
    bif B2 prog (.region 15 u5 false) (.block 4 (.loop (ae f44 16))) xx (hB q (mj true []) []) vW (hB q.sorted (mj true []) [.dead]) [4]then
     some (.bq [.ptr 5 0,aS aq,i64 0],[.cells [.ptr 5 0],.cells [aS aq],.cells [i64 0],.ez (eC q.sorted.l) (nG q.sorted.l),.rows q.sorted.x none,.cells [.cU 3,.cU 4,(mj true []).av],.dead,.dead,.dead])else none else none
   else bif cj prog (ae f44 11) (qt aR ((0:Nat):Int) ((0:Nat):Int)) (hA aR (.map []) (.map []) []) (.panic (bE x)) xx (dc [5,3,4,6,7] (hA aR (.map []) (.map []) [])) [5,3,4,6,7]then
    some (.bq [gB,aS x,i64 140],[.cells [gB],.cells [aS x],.cells [i64 140],.dead,.dead,.dead,.cells [aS x]])else none
  else none else none:=by kernel_rfl
end
structure Xl (I:bg->Prop):Prop where
 add:∀p s q,I p->p.add s=some q->I q
 ext:∀p s q k,I p->p.add s=some q->I (q.ext k s.full)
theorem ml {I:bg->Prop}{α:Type}{st:bg->α->Option bg}(h:∀p a q,I p->st p a=some q->I q):∀(l:List α) (p q:bg),I p->gq st l p=some q->I q
 |[],p,q,hp,e=>by cases e;exact hp
 |a::r,p,q,hp,e=>by
  obtain⟨p1,h1,h2⟩:=bn (show (st p a).bind (gq st r)=some q from e);exact ml h r p1 q (h p a p1 hp h1) h2
section
variable {I:bg->Prop}(K:Xl I)
include K
theorem rY {α:Type}{home sc:ByteArray}{k:Int}{nm:α->ByteArray}{l:List α}{p q:bg}(hp:I p) (h:gq (λp v=>bg.v home sc k p (nm v)) l p=some q):I q:=
 ml (λp a q hp h=>K.add _ _ _ hp h) l p q hp h
theorem A4 {home sc:ByteArray}{p q:bg}{e:bt}(hp:I p) (h:oh home sc p e=some q):I q:=by
 obtain⟨p1,h1,h2⟩:=bn h;exact rY K (K.add _ _ _ hp h1) h2
theorem rp {home sc:ByteArray}{l:List bt}{p q:bg}(hp:I p) (h:gU home sc l p=some q):I q:=
 ml (λp a q hp h=>A4 K hp h) l p q hp h
theorem D0 {home sc:ByteArray}{p q:bg}{x:aP}(hp:I p) (h:pB home sc p x=some q):I q:=by
 unfold pB at h;cases h1:p.add ((mG (ar sc x.name) 6 x).at home)with
 |none=>rw[h1]at h;cases h
 |some p1=>
  rw[h1]at h;cases h;exact K.ext _ _ _ _ hp h1
theorem sQ {home sc:ByteArray}{l:List aP}{p q:bg}(hp:I p) (h:jz home sc l p=some q):I q:=
 ml (λp a q hp h=>D0 K hp h) l p q hp h
mutual
theorem D3:∀(home sc:ByteArray) (p q:bg) (m:az),I p->gE home sc p m=some q->I q
 |home,sc,p,q,.mk name af mN aC aQ bB exts aI bp bY opts dE,hp,h=>by
  simp only[gE]at h;obtain⟨p1,h1,h⟩:=bn h;obtain⟨p2,h2,h⟩:=bn h;obtain⟨p3,h3,h⟩:=bn h;obtain⟨p4,h4,h⟩:=bn h;obtain⟨p5,h5,h⟩:=bn h;have k1:=K.add _ _ _ hp h1;have k2:=rY K k1 h2;have k3:=rY K k2 h3;have k4:=nI home (ar sc name) p3 p4 aC k3 h4;have k5:=rp K k4 h5;exact sQ K k5 h
theorem nI:∀(home sc:ByteArray) (p q:bg) (l:List az),I p->eM home sc l p=some q->I q
 |home,sc,p,q,[],hp,h=>by simp only[eM]at h;cases h;exact hp
 |home,sc,p,q,m::r,hp,h=>by
  simp only[eM]at h;obtain⟨p1,h1,h⟩:=bn h;have:=K;exact nI home sc p1 q r (D3 home sc p p1 m hp h1) h
end
theorem sR:∀{n:Nat}{home s:ByteArray}{p q:bg},I p->gV n home s p=some q->I q
 |0,home,s,p,q,hp,h=>by simp only[gV]at h;cases h;exact hp
 |n+1,home,s,p,q,hp,h=>by
  unfold gV at h
  cases he:qU s with
  |true=>rw[he]at h;cases h;exact hp
  |false=>
   rw[he]at h;obtain⟨p1,h1,h2⟩:=bn h;exact sR (K.add _ _ _ hp h1) h2
theorem A5 {home sc:ByteArray}{l:List bN}{p q:bg}(hp:I p) (h:rk home sc l p=some q):I q:=
 ml (λp a q hp h=>by
  obtain⟨p1,h1,h2⟩:=bn h;exact rY K (K.add _ _ _ hp h1) h2) l p q hp h
theorem A6 {p q:bg}{f:ag}(hp:I p) (h:iV p f=some q):I q:=by
 obtain⟨p1,h1,h⟩:=bn h;obtain⟨p2,h2,h⟩:=bn h;obtain⟨p3,h3,h⟩:=bn h;obtain⟨p4,h4,h⟩:=bn h;exact sQ K (A5 K (rp K (nI K _ _ _ _ _ (sR K hp h1) h2) h3) h4) h
theorem zR {l:List ag}{p q:bg}(hp:I p) (h:gw l p=some q):I q:=
 ml (λp a q hp h=>A6 K hp h) l p q hp h
end
theorem A7 {l:List ag}{p q:bg}(h:gw l p=some q):q.iA<=p.iA+bw ag.sz l:=
 oi (w:=ag.sz) (λp a q h=>by have:=u4 h;rw[JY]at this;exact this) l p q h
def XL (p:bg):Prop:=∀e∈p.x,∀s∈e.2,eC p.l s=true
theorem LM {p q:bg}{s:dh}(h:p.add s=some q):eC q.l s.full=true/\∀x,eC p.l x=true->eC q.l x=true:=by
 unfold bg.add at h
 cases h1:eC p.l s.full with
 |true=>
  rw[h1]at h
  cases h2:(fE p.l s.full).kind !=1 with
  |true=>rw[h2]at h;cases h
  |false=>
   rw[h2]at h
   cases h3:s.kind !=1 with
   |true=>rw[h3]at h;cases h
   |false=>rw[h3]at h;cases h;exact⟨h1,λ_ h=>h⟩
 |false=>
  rw[h1]at h;cases h;refine⟨?_,λx hx=> ?_⟩
  ·unfold eC;rw[List.any_cons,nW,Bool.true_or]
  ·unfold eC at hx ⊢;rw[List.any_cons,hx,Bool.or_true]
theorem VI:Xl XL:=by
 have TS:∀p s q,XL p->p.add s=some q->XL q:=λp s q hp h e he t ht=>by
  rw[Xh h]at he;exact(LM h).2 _ (hp e he t ht)
 refine⟨TS,λp s q k hp h e he t ht=> ?_⟩;have hq:=TS p s q hp h;have qk:∀t∈oV q.x (fH q.x k)++[s.full],eC q.l t=true:=λt ht=>by
  rcases ahC.1 ht with h1|h1
  ·unfold oV at h1;split at h1
   ·rename_i e0 h0;exact hq e0 (ahf h0) t h1
   ·cases h1
  ·simp at h1;subst h1;exact(LM h).1
 have he:e∈xZ q.x k s.full:=he;unfold xZ vB at he;show eC q.l t=true;split at he
 ·rcases List.mem_or_eq_of_mem_set he with h1|h1
  ·exact hq e h1 t ht
  ·subst h1;exact qk t ht
 ·rcases ahC.1 he with h1|h1
  ·exact hq e h1 t ht
  ·simp at h1;subst h1;exact qk t ht
theorem RZ {l:List ag}{q:bg}(h:gw l ⟨[],[]⟩=some q):XL q:=zR VI (λe he=>by cases he) h
noncomputable def pH (l:List ag):Option bg:=bif l.any pY then none else(gw l ⟨[],[]⟩).map bg.sorted
def gZ (l:List ag):jo:=mj l.isEmpty l
theorem YQ (p:bg) (fs:jo){H1:aa}(h:H1.take 9=[.cells [.ptr 5 0],.cells [aS aq],.cells [i64 0],.ez (eC p.l) (nG p.l),.rows p.x none,.cells [.cU 3,.cU 4,fs.av],.dead,.dead,.dead]):Sel [] [] H1 (p.H fs) [5,3,4]:=by
 have get:∀l,l<9->H1[l]? =(H1.take 9)[l]? :=λl hl=>by rw[aiv hl]
 rw[h]at get;refine⟨by simp,λl _=>ag9 _,rfl,λi o ho=> ?_,λl hl=>absurd hl (ahg _)⟩
 match i,ho with
 |0,ho=>simp[bg.H]at ho;subst ho;exact⟨get 5 (by omega),rfl,rfl⟩
 |1,ho=>simp[bg.H]at ho;subst ho;exact⟨get 3 (by omega),rfl,rfl⟩
 |2,ho=>simp[bg.H]at ho;subst ho;exact⟨get 4 (by omega),rfl,rfl⟩
 |i+3,ho=>simp[bg.H]at ho
theorem abj (r:aX ag) (hr:bw ag.sz r.l<=bL) (hk:∀x∈r.l,x.ok):match pH r.l with
  |some p=>bZ prog 44 [r.av 11 ag.two] (.bq [.ptr 0 0,aS aq,i64 0]) [] (p.H (gZ r.l)) []
  |none=>∃s k,∀H,bZ prog 44 [r.av 11 ag.two] (.bq [gB,aS s,i64 k]) H H []:=by
 have l1:=Vv r hr hk;have lfr:∀a∈[r.av 11 ag.two],LF a:=ao bQ bC;have abb:bw ag.sz r.l<4611686018427387904:=by unfold bL at hr;omega
 have xN:∀{b ok q n fs Vu W x},bA prog (YP r b ok q n fs Vu W x):=eL (ba aF);have tT:∀{lo:bX} {pr:List rn} {F:Option (AV×aa)} {x:AV} {H1:aa},bA prog lo->(NX prog (cK []) lo VH pr (FD prog 12) 3 44 [r.av 11 ag.two] []).via (λr=>(r.1,r.2.1.take 9))=F->F=some (x,H1)->∃H2 W,H2.take 9=H1/\bZ prog 44 [r.av 11 ag.two] x [] H2 W:=by
  intro lo pr F x H1 hl h hF;obtain⟨r1,YR,hg⟩:=cv h hF;have:=Vt mixed (au _) hl (PZ mixed 12) YR;simp only[ahe]at hg;obtain⟨rfl,e⟩:=hg;exact⟨_,_,e,this⟩
 have okN:∀{lo:bX} {pr:List rn} {F:Option (AV×aa)} {s:ByteArray} {k:Int} {H1:aa},bA prog lo->(NX prog (cK []) lo VH pr (FD prog 12) 3 44 [r.av 11 ag.two] []).via (λr=>(r.1,r.2.1.take 9))=F->F=some (.bq [gB,aS s,i64 k],H1)->∃s k,∀H,bZ prog 44 [r.av 11 ag.two] (.bq [gB,aS s,i64 k]) H H []:=by
  intro lo pr F s k H1 hl h hF;obtain⟨H2,W,_,hc⟩:=tT hl h hF;have OS:LF (.bq [gB,aS s,i64 k]):= .bq _ (ao (.sc _) (ao (.sc _) (ao (.sc _) bC)));exact⟨s,k,λH=>mI hc OS lfr H⟩
 have fin:∀(q:bg) {x:AV} {H2:aa} {W:List Nat},x= .bq [.ptr 5 0,aS aq,i64 0]->H2.take 9=[.cells [.ptr 5 0],.cells [aS aq],.cells [i64 0],.ez (eC q.l) (nG q.l),.rows q.x none,.cells [.cU 3,.cU 4,(gZ r.l).av],.dead,.dead,.dead]->bZ prog 44 [r.av 11 ag.two] x [] H2 W->bZ prog 44 [r.av 11 ag.two] (.bq [.ptr 0 0,aS aq,i64 0]) [] (q.H (gZ r.l)) []:=by
  intro q x H2 W hx hH hc;subst hx;have h1:bZ prog 44 [r.av 11 ag.two] (.bq [.ptr 5 0,aS aq,i64 0]) [] H2 []:=hc.wr (λl _ hl=>absurd hl (ahg _));exact h1.eR (YQ q (gZ r.l) hH) rfl rfl
 have EX:∀q,gw r.l ⟨[],[]⟩=some q->∀fs,pF prog (.region 15 u5 false) (.block 4 (.loop (ae f44 16))) xx (hB q fs []) vW (hB q.sorted fs [.dead]) [4]:=λq hq fs=>YN q fs (RZ hq) (λe he=>by
  have h1:=A7 hq;have h2:e.2.length<=q.iA:=cf (f:=λe:ByteArray×List ByteArray=>e.2.length) he;have h3:(⟨[],[]⟩:bg).iA=0:=rfl;omega)
 have xu:=Vq r hr []
 cases hb:r.l.any pY with
 |true=>
  rw[hb]at xu;unfold pH;rw[hb];have ht:=zQ r true true ⟨[],[]⟩ 0 aq;rw[ak xu]at ht;exact okN xN ht rfl
 |false=>
  rw[hb]at xu;unfold pH;rw[hb];obtain⟨nl,l⟩:=r;simp only at*
  cases l with
  |nil=>
   have l2:=LI true [] hr;have ht:=RY ⟨nl,[]⟩ false true ⟨[],[]⟩ aq;have e0:gw [] ⟨[],[]⟩=some ⟨[],[]⟩:=rfl;rw[e0]at l2;have l3:=YO l2;dsimp only at ht l1 l3;simp only[aiz]at ht l1 l3;rw[ak xu,bc l1,bc l3,G3 (EX _ e0 _)]at ht;rw[e0];obtain⟨H2,W,hH,hc⟩:=tT xN ht rfl;exact fin (bg.sorted ⟨[],[]⟩) rfl hH hc
  |cons f l=>
   have l2:=LI false (f::l) hr;have ef:gZ (f::l)=mj false (f::l):=rfl;cases hq:gw (f::l) ⟨[],[]⟩with
   |some q=>
    rw[hq]at l2;have ht:=zQ ⟨nl,f::l⟩ false true q l.length aq;have l3:=RX (l:=f::l) rfl l2;dsimp only at ht l1 l3;simp only[ahv]at ht l1 l3;rw[ak xu,bc l1,bc l3,G3 (EX _ hq _)]at ht;obtain⟨H2,W,hH,hc⟩:=tT xN ht rfl;exact fin q.sorted rfl hH hc
   |none=>
    rw[hq]at l2;obtain⟨y,l2⟩:=l2;have ht:=zQ ⟨nl,f::l⟩ false false ⟨[],[]⟩ l.length y;have l3:=RX (l:=f::l) rfl l2;dsimp only at ht l1 l3;simp only[ahv]at ht l1 l3;have ek:dc [5,3,4] (hB ⟨[],[]⟩ (mj false (f::l)) [])=dc [5,3,4,7] (hA (.aY false 11 (l.length+1) (Ax (f::l)) (.tok 7)) (.map []) (.map []) [.dead,.tail (l.length+1) 11]):=rfl;rw[ek]at l3;rw[ak xu,bc l1,bc l3]at ht;exact okN xN ht rfl
end Go.Proofs.YtiipaliigpkfhaaGreat.Ab
