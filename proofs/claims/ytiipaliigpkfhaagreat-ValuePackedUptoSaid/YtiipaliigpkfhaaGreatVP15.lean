/- Lemmas 15. -/
import Derived.Test.YtiipaliigpkfhaaGreatVP9
import Derived.Test.YtiipaliigpkfhaaGreatVP10
import Derived.Test.YtiipaliigpkfhaaGreatVP13
import Derived.Test.YtiipaliigpkfhaaGreatVP14
set_option maxRecDepth 100000
namespace Go.Proofs.YtiipaliigpkfhaaGreat.Ab
open Go Go.RowKit Go.Proofs Go.Proofs.Tryz
mutual
def gg:az->ko
 | .mk name af mN aC aQ bB exts aI bp bY opts dE=>cI aC++exts.l.map (λd=>(d.cp,d.cc))
def cI:List az->ko
 |[]=>[]
 |m::r=>gg m++cI r
end
theorem SD (m:az):gg m=cI m.aC++m.exts.l.map (λd=>(d.cp,d.cc)):=by cases m;simp only[gg];rfl
theorem nJ:∀(a b:List az),cI (a++b)=cI a++cI b
 |[],b=>by simp[cI]
 |m::r,b=>by simp only[ah8,cI,nJ r b,aio]
theorem np (l:List az){i:Nat}(hi:i<l.length):cI (l.take (i+1))=cI (l.take i)++gg (l.getD i default):=by
 have e:l.take (i+1)=l.take i++[l.getD i default]:=by
  rw[List.take_add_one,ag4,ahc hi];rfl
 rw[e,nJ];simp[cI]
theorem Hz {α:Type}(f:α->Nat) (h:∀x,1<=f x):∀l:List α,l.length<=bw f l
 |[]=>ag9 _
 |a::r=>by
  rw[eh];have:=Hz f h r;have:=h a;simp only[ahv];omega
mutual
theorem Ol:∀m:az,(gg m).length<=m.sz
 | .mk name af mN aC aQ bB exts aI bp bY opts dE=>by
  simp only[gg,az.sz,ahB,air];have h1:=mM aC;have h2:=Hz aP.sz (λx=>x.bT) exts.l;unfold aX.sz;omega
theorem mM:∀l:List az,(cI l).length<=az.BP l
 |[]=>by simp[cI]
 |m::r=>by
  simp only[cI,az.BP,ahB];have h1:=Ol m;have h2:=mM r;omega
end
theorem Cm (m:az):m.name.size+1+az.BP m.aC+bw aP.sz m.exts.l<=m.sz:=by
 cases m;simp only[az.sz,az.name,az.aC,az.exts,aX.sz];omega
theorem fb.ik {c:Code}{T T1:List AV}{x:bj}{T' pre:List AV}{X:AV}{Y:bu}{J:aa}(h:fb c T1 x T' pre X Y J) (w:Wk T T1):fb c T x T' pre X Y J:=λS=>by
 obtain⟨S',h⟩:=h S;exact⟨S',an.ik h w⟩
theorem zW.fR {g:FuncId}{rest K0 pre:List AV}{X:AV}{Y:bu}{X':AV}{Y':bu}(h:zW g K0 pre X Y X' Y') (w:Wk rest K0):zW g rest pre X Y X' Y':=λS=>by
 obtain⟨S',h⟩:=h S;exact⟨S',λJ=>(h J).fR (.cons (.refl _) w)⟩
section
variable {p:aJ}{f:ag}{seen:bD}{X:AV}{Y:bu}
theorem VW (hk:gi (aV p f seen) X Y){m:az}(hm:m.sm) (a:az) (e2:Nat->List AV) (sc t:ByteArray) (h:Bool):∀b,∃b',ry (ae f112 4) (Hw m sc t h b ((0:Nat):Int)) (.exit 0) (Hw m sc t h b' m.bY.l.length) (aV p f seen) X Y [.cells m.two,.cells (a.flat e2)]:=by
 have rH:=az.dD hm;have hn:=rH.bY.1;unfold dg at hn;refine yb (λb i=>Hw m sc t h b i) (.exit 0) (by simp) m.bY.l.length (λb i hi=> ?_) (λb S=>fT (cS _ _ _) ab hk (bO (Cj p f seen S X Y m a e2 sc t h b false false _) (da (by omega))) rfl rfl);have Aw:(m.bY.l.getD i aq).size<=lim:=by
  have:=rH.bY.2 _ (show m.bY.l.getD i aq∈m.bY.l by
   rw[ag4,ahc hi];exact ahG hi)
  unfold dg at this;unfold lim;omega
 obtain⟨b1,h1⟩:=kJ Aw;have hlen:(m.bY.l.take i).length=i:=by rw[List.length_take];omega
 obtain⟨b2,h2⟩:∃b:Bool,∀H,bZ prog 183 [.aY m.bY.nl 1 i (λk=>[aS (m.bY.l.getD k aq)]) .dA,aS (m.bY.l.getD i aq)] (cY b) H H []:=by
  obtain⟨c,hc⟩:=oa ⟨m.bY.nl,m.bY.l.take i⟩ (m.bY.l.getD i aq) (by rw[hlen];omega);refine⟨_,λH=>(hc H).fR (.cons ?_ (.refl _))⟩;unfold bD.av;simp only[hlen];refine ev.aY (λk hk=> ?_);simp[ag4,ahI,hk];rfl
 refine⟨(bif (bif b then b1 else false)then !b2 else false),λS=> ?_⟩;have hb:=ah (ah (ah (ah (ah (Cj p f seen S X Y m a e2 sc t h b b1 b2 i) (bl (by omega))) (bl (by omega))) (LN (λ_=>ct (.all h1)))) (LN (λ_=>bl (by show (0:Int)<=0/\(0:Int)<=(i:Int)/\(i:Int)<=(m.bY.l.length:Int);omega)))) (LN (λ_=>ct (.all h2)));have ew:IntKind.i64.wrap ((i:Int)+(1:Int))=((i+1:Nat):Int):=wi (x:=(i:Int)+1) (by omega) (by omega);rw[ew]at hb;exact fT (cS _ _ _) ab hk hb rfl rfl
theorem z8 (hk:gi (aV p f seen) X Y) (m a:az) (e2:Nat->List AV) (n:Nat) (hn:n<=1000000000) (rs:Nat->dY) (sc t:ByteArray) (h:Bool){row:AV}(w:ev row (kL n rs)):
  fb (ae f112 11) (qb row n sc t h ((0:Nat):Int)) (.exit 2) (w5 sc t h) (aV p f seen) X Y [.cells m.two,.cells (a.flat e2),.tail n 2]:=by
 have hO:∀i,i<n->fb (ae f112 15) (LZ n rs sc t h i ((0:Nat):Int)) (.exit 4) (qb (kL n rs) n sc t h i) (aV p f seen) X Y [.cells m.two,.cells (a.flat e2),.tail n 2,.cells (rs i).cells]:=λi hi=>
  (ir (λj=>LZ n rs sc t h i j) (.exit 4) (by simp) i (λj hj S=>by
   have hb:=ah (ah (ah (Ck p f seen S X Y m a e2 n rs sc t h i j) (bl (by omega))) (bl (by omega))) (bU hk);have ew:IntKind.i64.wrap ((j:Int)+(1:Int))=((j+1:Nat):Int):=wi (x:=(j:Int)+1) (by omega) (by omega);rw[ew]at hb;exact dm (cS _ _ _) ab hk hb rfl rfl) (λS=>dm (cS _ _ _) ab hk (bO (Ck p f seen S X Y m a e2 n rs sc t h i i) (da (by omega))) rfl rfl)).eB (by
    have e1:qb (kL n rs) n sc t h i=lC 0 [0,3,4,6,7,10,14,73,74,75] (LZ n rs sc t h i i):=rfl;rw[e1];exact dL _ 0 _)
 refine fb.ik (T1:=qb (kL n rs) n sc t h ((0:Nat):Int)) (fb.eB (ir (λi=>qb (kL n rs) n sc t h i) (.exit 2) (by simp) n (λi hi S=> ?_) (λS=>dm (cS _ _ _) (de ab) hk (bO (Cl p f seen S X Y m a e2 n rs sc t h n) (da (by omega))) rfl rfl)) ?_) ?_
 ·have hb:=ah (ah (ah (ah (ah (Cl p f seen S X Y m a e2 n rs sc t h i) (bl (by omega))) (bl (by omega))) (bU hk)) (bl (by show (0:Int)<=0/\(0:Int)<=(i:Int)/\(i:Int)<=(n:Int);omega))) (eO (hO i hi));have ew:IntKind.i64.wrap ((i:Int)+(1:Int))=((i+1:Nat):Int):=wi (x:=(i:Int)+1) (by omega) (by omega);rw[ew]at hb;exact dm (cS _ _ _) (de ab) hk hb rfl rfl
 ·have e1:w5 sc t h=lC 0 [0,3,4,6,7,10] (qb (kL n rs) n sc t h n):=rfl;rw[e1];exact dL _ 0 _
 ·exact Wk.tm (.cons (.refl _) (.cons (.refl _) (.cons (.refl _) (.cons (.refl _) (.cons (.refl _) (.cons (.refl _) (.cons w (.cons w (.cons (.refl _) (.cons (.refl _) .nil))))))))))
theorem SE (hk:gi (aV p f seen) X Y) (m a:az) (e2:Nat->List AV) (sc t:ByteArray) (h:Bool):
  fb (ae f112 11) (qb aR 0 sc t h ((0:Nat):Int)) (.exit 2) (w5 sc t h) (aV p f seen) X Y [.cells m.two,.cells (a.flat e2)]:=
 (ir (λi=>qb aR 0 sc t h i) (.exit 2) (by simp) 0 (λi hi S=>absurd hi (ahg _)) (λS=>dm (cS _ _ _) ab hk (Oj p f seen S X Y m a e2 sc t h) rfl rfl)).eB (by
  have e1:w5 sc t h=lC 0 [0,3,4,6,7,10] (qb aR 0 sc t h ((0:Nat):Int)):=rfl;rw[e1];exact dL _ 0 _)
theorem Ed {sz n t:Nat}{el:Nat->List AV}:ev (.aY false sz n el (.tok t)) (.aY false sz n el .dA):=by
 intro E v h
 cases h with
 |gG _ _ _ a h=>simp at h
 |aY _ _ _ _ b off c u hn ho hc hl h1 h k=>exact .aY _ _ _ _ b off c u hn hc hc hl h1 h k
theorem L0 {n t:Nat}{g:Nat->dY}:ev (.aY false 2 (0+n) (bI 0 (λ_=>[]) (λi=>(g i).cells)) (.tok t)) (kL (0+n) g):=λE v hr=>
 (ev.aY (λi hi=>by unfold bI;rw[if_neg (by omega)];rfl):ev (.aY false 2 (0+n) (bI 0 (λ_=>[]) (λi=>(g i).cells)) .dA) (kL (0+n) g)) E v (Ed E v hr)
theorem VX {n k t:Nat}{g g2:Nat->dY}:ev (.aY false 2 (0+n+k) (bI (0+n) (bI 0 (λ_=>[]) (λi=>(g i).cells)) (λi=>(g2 i).cells)) (.tok t)) (kL (0+n+k) (λi=>if i<0+n then g i else g2 (i-(0+n)))):=λE v hr=>
 (ev.aY (λi hi=>by
  show bI (0+n) _ _ i=(if i<0+n then g i else g2 (i-(0+n))).cells;unfold bI;by_cases h:i<0+n
  ·rw[if_pos h,if_pos h,if_neg (by omega)];rfl
  ·rw[if_neg h,if_neg h]):ev (.aY false 2 (0+n+k) (bI (0+n) (bI 0 (λ_=>[]) (λi=>(g i).cells)) (λi=>(g2 i).cells)) .dA) (kL (0+n+k) (λi=>if i<0+n then g i else g2 (i-(0+n))))) E v (Ed E v hr)
theorem SF (m a:az) (e2:Nat->List AV) (hm:m.sz<=bL) (sc t:ByteArray) (h:Bool) (l:ko) (Je:∀i,i<m.aC.length->∀l',l'=l++cI (m.aC.take i)->zW 112 [.agg (m.aC.getD i default).two,.agg m.two,cY true,aS t] (aV p f seen) (fM l') (fN l') (fM (l'++gg (m.aC.getD i default))) (fN (l'++gg (m.aC.getD i default)))) (J:aa) (hJ:J=[.cells m.two,.cells (a.flat e2)]∨∃q,J=[.cells m.two,.cells (a.flat e2),.tail q 2]):
  Ch (ae f112 26) (Hy m sc t h ((0:Nat):Int)) (.exit 6) (w5 sc t h) (aV p f seen) (fM l) (fN l) (fM (l++cI m.aC)) (fN (l++cI m.aC)) J:=by
 have hn:m.aC.length<=16777216:=(az.dD (az.xU m hm)).aC.1;have e0:l++cI (m.aC.take 0)=l:=by simp[cI]
 have eN:l++cI (m.aC.take m.aC.length)=l++cI m.aC:=by rw[ahR]
 intro S;have key:=Ea (c:=ae f112 26) (λi=>Hy m sc t h i) (λi S=> .cells (dH (aV p f seen) S (fM (l++cI (m.aC.take i))))::fN (l++cI (m.aC.take i))::J) (.exit 6) (by simp) m.aC.length (λi hi S=>by
  have hr:=(Je i hi _ rfl).fR (.cons (.agg (az.xS _)) (.refl _):Wk [.agg (m.aC.getD i default).one,.agg m.two,cY true,aS t] [.agg (m.aC.getD i default).two,.agg m.two,cY true,aS t]);have ew:IntKind.i64.wrap ((i:Int)+(1:Int))=((i+1:Nat):Int):=wi (x:=(i:Int)+1) (by omega) (by omega);rw[np m.aC hi,←aio];have hk:=nk p f seen (l++cI (m.aC.take i)++gg (m.aC.getD i default));generalize l++cI (m.aC.take i)=l1 at hr hk ⊢;rcases hJ with rfl|⟨q,rfl⟩
  ·have hb:=ah (ah (ah (z6 p f seen S (fM l1) (fM (l1++gg (m.aC.getD i default))) (fN l1) (fN (l1++gg (m.aC.getD i default))) m a e2 sc t h i) (bl (by omega))) (bl (by omega))) (ly hr);rw[ew]at hb;exact oB (vb _ _ _) ab hb rfl hk (.refl _) rfl
  ·have hb:=ah (ah (ah (z7 p f seen S (fM l1) (fM (l1++gg (m.aC.getD i default))) (fN l1) (fN (l1++gg (m.aC.getD i default))) m a e2 q sc t h i) (bl (by omega))) (bl (by omega))) (ly hr);rw[ew]at hb;exact oB (vb _ _ _) ab hb rfl hk (.refl _) rfl) (λS=>by
  have hk:=nk p f seen (l++cI (m.aC.take m.aC.length));generalize l++cI (m.aC.take m.aC.length)=l1 at hk ⊢;rcases hJ with rfl|⟨q,rfl⟩
  ·exact oB (vb _ _ _) ab (bO (z6 p f seen S (fM l1) aR (fN l1) .cN m a e2 sc t h _) (da (by omega))) rfl hk (.refl _) rfl
  ·exact oB (vb _ _ _) ab (bO (z7 p f seen S (fM l1) aR (fN l1) .cN m a e2 q sc t h _) (da (by omega))) rfl hk (.refl _) rfl) S
 simp only[e0,eN]at key;obtain⟨S',hc⟩:=key;refine⟨S',an.eB hc ?_⟩;have e1:w5 sc t h=lC 0 [0,3,4,6,7,10] (Hy m sc t h m.aC.length):=rfl;rw[e1];exact dL _ 0 _
theorem Aa (n:Nat) (hn:n<=100000000):decide (n*prog.types[(273:Nat)].bytes<=(2:Nat) ^ (46:Nat)/\n<(2:Nat) ^ (62:Nat))=true:=by
 have e1:prog.types[(273:Nat)].bytes=16:=by kernel_rfl
 rw[e1];have e2:(2:Nat) ^ 46=70368744177664:=by decide
 have e3:(2:Nat) ^ 62=4611686018427387904:=by decide
 rw[e2,e3];exact bl (by omega)
theorem Cn (hp:p.sm) (hs:seen.l.length<=lim):∀(N:Nat) (m:az),m.sz<=N->m.sz<=bL->∀(a:az),a.sm->∀(e2:Nat->List AV) (h:Bool) (sc:ByteArray) (l:ko),sc.size+2*m.sz<=500000000->l.length+(gg m).length<=16777215->
  zW 112 [.agg m.two,.agg (a.flat e2),cY h,aS sc] (aV p f seen) (fM l) (fN l) (fM (l++gg m)) (fN (l++gg m))
 |0,m,hN,_,_,_,_,_,_,_,_,_=>by
  have:=Cm m;omega
 |N+1,m,hN,hb,a,ha,e2,h,sc,l,Iv,hl=>by
  intro S;have hm:=az.xU m hb;have rH:=az.dD hm;have hpa:=Cm m;have TX:=gH sc m.name;have Aw:=rH.name;have tf:=rH.bB;have vw:=rH.bp;unfold dg at Aw tf vw;have Av:=nk p f seen l;have nz:=nk p f seen (l++cI m.aC);have abz:=SD m;have abA:(gg m).length=(cI m.aC).length+m.exts.l.length:=by rw[abz,ahB,air]
  obtain⟨t,ht⟩:∃t,t=ar sc m.name:=⟨_,rfl⟩
  have oE:t.size<=500000000:=by rw[ht];omega
  have hj:=jw (a:=sc) (b:=m.name) (by omega) (by omega);rw[←ht]at hj TX;obtain⟨b1,mr⟩:=kJ (s:=m.name) (by unfold lim;omega);have Je:∀i,i<m.aC.length->∀l',l'=l++cI (m.aC.take i)->zW 112 [.agg (m.aC.getD i default).two,.agg m.two,cY true,aS t] (aV p f seen) (fM l') (fN l') (fM (l'++gg (m.aC.getD i default))) (fN (l'++gg (m.aC.getD i default))):=λi hi l' sZ=>by
   have hx:(m.aC.getD i default).sz<=az.BP m.aC:=by
    rw[az.gA];exact cf (f:=az.sz) (bM hi)
   have TB:(cI (m.aC.take (i+1))).length<=(cI m.aC).length:=by
    have e:m.aC=m.aC.take (i+1)++m.aC.drop (i+1):=(ait _ _).symm
    conv=>rhs;rw[e,nJ,ahB]
    omega
   rw[np m.aC hi,ahB]at TB;refine Cn hp hs N (m.aC.getD i default) (by omega) (by omega) m hm _ true t l' (by omega) ?_;rw[sZ,ahB];omega
  obtain⟨F,hF⟩:=aip (VW Av hm a e2 sc t h);have vA:=J9 Av hm ha (λi=>(m.aC.getD i default).one) e2 h (full:=t) (by unfold lim;omega);have MP:=Sg Av hm (λi=>(m.aC.getD i default).one) (full:=t) (by unfold lim;omega);have VY:=Sk Av hp hs hm (λi=>(m.aC.getD i default).one) (full:=t) (by omega);have VZ:=LW nz rH.aQ (sc:=t) (by omega);have SG:=u9 (f:=f) hp hs (l++cI m.aC) (r:=m.exts) (by rw[ahB];omega) rH.exts (sc:=t) (by omega);have eX:lz (l++cI m.aC) m.exts.l=l++gg m:=by unfold lz;rw[abz,aio]
  rw[eX]at SG;have fin:∀{F:Option (Option J7)} {mx ms tl} {lo:bX},bA prog lo->(eb prog (cX mx ms tl) lo [] 3 112 [.ptr 0 0,.agg m.two,.agg (a.flat e2),cY h,aS sc] (H2 p f seen S (fM l) (fN l))).via Ht=F->F=some (some ⟨.bq [],aV p f seen,fM (l++gg m),fN (l++gg m),true⟩)->∃S',∀J,bZ prog 112 [.ptr 0 0,.agg m.two,.agg (a.flat e2),cY h,aS sc] (.bq []) (.cells (dH (aV p f seen) S (fM l))::fN l::J) (.cells (dH (aV p f seen) S' (fM (l++gg m)))::fN (l++gg m)::J) [0,1]:=λhl h hF=>
   LX (vb _ _ _) hl Av (nk p f seen _) h hF (by
    have e1:dG 2 m.two=true:=eP (pJ m _);simp only[dG,ff,e1,eP (pJ a e2)];rfl) rfl
  have h0:=ah (ah (ah (ah (SC p f seen S (fM l) (fM (l++cI m.aC)) (fM (l++gg m)) (fN l) (fN (l++cI m.aC)) (fN (l++gg m)) m a e2 sc t h (F _) b1) (ak (hj []))) (ct (.all mr))) (oz (hF _))) (bU Av);have V0:=SF (p:=p) (f:=f) (seen:=seen) m a e2 hb sc t h l Je;by_cases h1:m.bB.l.length=0
  ·have h0:=ah h0 (bl h1);by_cases h2:m.bp.l.length=0
   ·have h0:=ah h0 (bl h2);exact fin (kK (de aF)) (ah (ah (ah (ah (ah (ah (ah (ah h0 (eO (SE Av m a e2 sc t h))) (bU Av)) (fh vA)) (fh MP)) (fh VY)) (oA (V0 _ (.inl rfl)))) (fh VZ)) (ly SG)) rfl
   ·have h0:=bO h0 (da h2);exact fin (kK (de aF)) (ah (ah (ah (ah (ah (ah (ah (ah (ah h0 (Aa _ (by omega))) (eO (z8 Av m a e2 _ (by omega) _ sc t h L0))) (bU Av)) (fh vA)) (fh MP)) (fh VY)) (oA (V0 _ (.inr ⟨_,rfl⟩)))) (fh VZ)) (ly SG)) rfl
  ·have h0:=ah (bO h0 (da h1)) (Aa _ (by omega));by_cases h2:m.bp.l.length=0
   ·have h0:=ah h0 (bl h2);exact fin (kK (de aF)) (ah (ah (ah (ah (ah (ah (ah (ah h0 (eO (z8 Av m a e2 _ (by omega) _ sc t h L0))) (bU Av)) (fh vA)) (fh MP)) (fh VY)) (oA (V0 _ (.inr ⟨_,rfl⟩)))) (fh VZ)) (ly SG)) rfl
   ·have h0:=ah (ah (bO h0 (da h2)) (Aa _ (by omega))) (bl rfl);exact fin (kK (de aF)) (ah (ah (ah (ah (ah (ah (ah (ah h0 (eO (z8 Av m a e2 _ (by omega) _ sc t h VX))) (bU Av)) (fh vA)) (fh MP)) (fh VY)) (oA (V0 _ (.inr ⟨_,rfl⟩)))) (fh VZ)) (ly SG)) rfl
end
def L4 (c:Code) (T:List AV) (x:bj) (T' pre:List AV) (X:AV) (Y:bu) (J J':aa):Prop:=∀S,an prog (.loop c) T (.cells (dH pre S X)::Y::J) x T' (.cells (dH pre S X)::Y::J') []
open Classical in
noncomputable def HA (c:Code) (T:List AV) (x:bj) (T' pre:List AV) (X:AV) (Y:bu) (J J':aa):Bool:=decide (L4 c T x T' pre X Y J J')
structure SH where
 key:Nat
 ks:List Nat
 x:bj
 T:List AV
 J:aa
noncomputable def Kb (es:List SH) (lo:bX):bX:=
 {lo with loop:=λc T H=>match (kz c).bind (λi=>es.find? (·.key==i))with
  |some e=>match tH H with
   |some (pre,X,S,Y,J)=>some (.br (HA c (lC 0 e.ks T) e.x e.T pre X Y J e.J) (.leaf (e.x,e.T,.cells (dH pre S X)::Y::e.J,[])) .bad)
   |none=>none
  |none=>lo.loop c T H}
structure SI where
 x:bj
 T:List AV
 J:aa
 ok:Bool
def V1 (ks kl Wl:List Nat) (n0 n:Nat) (r:gm):Option SI:=match tH (dc kl r.2.2.1)with
 |some (pre,X,S,Y,J)=>some ⟨r.1,lC 0 ks r.2.1,J.take n,dG (n+2) (lC 0 ks r.2.1)&&(J.take n).all (cH (n+2))&&(below (n0+2) r.2.2.2).all (λl=>Wl.contains l)&&jC r.1⟩
 |none=>none
def Co (r:aX ag) (i:Nat):AV:= .aY r.nl 11 i (λk=>(r.l.getD k default).cells) .dA
def so (r:aX ag):Nat->List AV:=λk=>[aS (r.l.getD k default).name]
def V2 (r:aX ag) (i:Nat):List (Nat×AV):=[(0,.ptr 0 0),(6,.ptr 2 0)]
def Ac (r:aX ag) (i:Nat) (row:AV) (j:Int):List AV:=bz 135 (V2 r i++[(7,row),(20,Co r i),(21,i64 i),(22,i64 j)])
def qc (r:aX ag) (i:Nat) (row:AV) (j:Int):List AV:=bz 135 (V2 r i++[(7,row),(53,(aU r.l i).cm.av),(54,i64 (aU r.l i).cm.l.length),(55,i64 j)])
def qd (r:aX ag) (i:Nat) (j:Int):List AV:=bz 135 (V2 r i++[(78,(aU r.l i).ey.av),(79,i64 (aU r.l i).ey.l.length),(80,i64 j)])
def Ee (r:aX ag) (n:Nat):AV:= .aY false 1 n (so r) (.tok 4)
def sT (r:aX ag) (i:Nat):List AV:=bz 135 (V2 r i)
theorem SJ (b0 b1 b2 b3 b4 b5 b6 b7 b8 b9 dP dT dU:AV) (S:hU) (X:AV) (Y:bu) (r:aX ag) (i:Nat):(db prog (cC [] [] []) aN [] 3 (ae f109 3) (Ac r i aR 0) (.cells (dH [b0,b1,b2,b3,b4,b5,b6,b7,b8,b9,dP,dT,dU] S X)::Y::[.cells (aU r.l i).cells])).via (V1 [0,6,7,20,21,22] [3] [3,4] 1 3)=bif (decide (0<(i:Int)))then bif (decide ((0:Int)<=0/\0<(i:Int)))then some ((.some ⟨.normal,(bz 135 [(0,(.ptr 0 0)),(6,(.ptr 2 0)),(7,(.aY false 1 1 (bI 0 (λx=>[]) (rowOf 1 [(aS ((r.l.getD (Int.toNat (0:Int)) default).name))])) (.tok 4))),(20,(Co r i)),(21,(i64 ((i:Int)))),(22,(i64 (IntKind.i64.wrap ((0:Int)+(1:Int)))))]),[(.cells ((aU r.l i).cells)),.dead,(.tail 1 1)],true⟩))else none else some ((.some ⟨(.exit 0),(bz 135 [(0,(.ptr 0 0)),(6,(.ptr 2 0)),(7,(aR)),(20,(Co r i)),(21,(i64 ((i:Int)))),(22,(.sc (.int .i64 0)))]),[(.cells ((aU r.l i).cells))],true⟩)):=by kernel_rfl
theorem HB (b0 b1 b2 b3 b4 b5 b6 b7 b8 b9 dP dT dU:AV) (S:hU) (X:AV) (Y:bu) (r:aX ag) (i n j:Nat):(db prog (cC [] [] []) aN [] 3 (ae f109 3) (Ac r i (.aY false 1 n (so r) (.tok 4)) j) (.cells (dH [b0,b1,b2,b3,b4,b5,b6,b7,b8,b9,dP,dT,dU] S X)::Y::[.cells (aU r.l i).cells,.dead,.tail n 1])).via (V1 [0,6,7,20,21,22] [] [3,4] 3 3)=bif (decide ((j:Int)<(i:Int)))then bif (decide (0<=(j:Int)/\(j:Int)<(i:Int)))then bif (decide ((n+(1:Nat))*prog.types[(9:Nat)].bytes<=(2:Nat) ^ (46:Nat)/\n+(1:Nat)<(2:Nat) ^ (62:Nat)))then bif (decide (n=n))then some ((.some ⟨.normal,(bz 135 [(0,(.ptr 0 0)),(6,(.ptr 2 0)),(7,(.aY false 1 (n+(1:Nat)) (bI (n) (so r) (rowOf 1 [(aS ((r.l.getD j default).name))])) (.tok 4))),(20,(Co r i)),(21,(i64 ((i:Int)))),(22,(i64 (IntKind.i64.wrap ((j:Int)+(1:Int)))))]),[(.cells ((aU r.l i).cells)),.dead,(.tail (n+(1:Nat)) 1)],true⟩))else none else none else none else some ((.some ⟨(.exit 0),(bz 135 [(0,(.ptr 0 0)),(6,(.ptr 2 0)),(7,(.aY false 1 (n) (so r) (.tok 4))),(20,(Co r i)),(21,(i64 ((i:Int)))),(22,(i64 ((j:Int))))]),[(.cells ((aU r.l i).cells)),.dead,(.tail (n) 1)],true⟩)):=by kernel_rfl
theorem HC (b0 b1 b2 b3 b4 b5 b6 b7 b8 b9 dP dT dU:AV) (S:hU) (X:AV) (Y:bu) (r:aX ag) (i j:Nat) (c d:Bool):(db prog (cC [] [] []) (tI [(63,cY c),(70,cY d)] aN) [] 3 (ae f109 9) (qc r i aR j) (.cells (dH [b0,b1,b2,b3,b4,b5,b6,b7,b8,b9,dP,dT,dU] S X)::Y::[.cells (aU r.l i).cells])).via (mS [0,6,7,53,54,55] 1)=bif (decide ((j:Int)<((aU r.l i).cm.l.length:Int)))then bif (decide (0<=(j:Int)/\(j:Int)<((aU r.l i).cm.l.length:Int)))then bif (eD 183 [(aR),(aS ((aU r.l i).cm.l.getD j aq))] (cY (c)) ([b0,b1,b2,b3,b4,b5,b6,b7,b8,b9,dP,dT,dU]) (X) (Y))then bif (c)then bif (decide ((0:Int)<=none.getD (0:Int)/\none.getD 0<=(some (j:Int)).getD ((aU r.l i).cm.l.length:Int)/\(some (j:Int)).getD ((aU r.l i).cm.l.length:Int)<=((aU r.l i).cm.l.length:Int)))then bif (eD 183 [(.aY ((aU r.l i).cm.nl) 1 (((some (j:Int)).getD ((aU r.l i).cm.l.length:Int)).toNat-(none.getD (0:Int)).toNat) (λjg=>(λi_2=>[AV.sc (Value.string ((aU r.l i).cm.l.getD i_2 aq))]) (jg+(none.getD (0:Int)).toNat)) .dA),(aS ((aU r.l i).cm.l.getD j aq))] (cY (d)) ([b0,b1,b2,b3,b4,b5,b6,b7,b8,b9,dP,dT,dU]) (X) (Y))then bif (ca ([b0,b1,b2,b3,b4,b5,b6,b7,b8,b9,dP,dT,dU]) (X) (Y))then some ((.some ⟨.normal,(bz 135 [(0,(.ptr 0 0)),(6,(.ptr 2 0)),(7,(aR)),(53,((aU r.l i).cm.av)),(54,(i64 (((aU r.l i).cm.l.length:Int)))),(55,(i64 (IntKind.i64.wrap ((j:Int)+(1:Int)))))]),([b0,b1,b2,b3,b4,b5,b6,b7,b8,b9,dP,dT,dU]),(X),(Y),[(.cells ((aU r.l i).cells))],true⟩))else none else none else none else bif (ca ([b0,b1,b2,b3,b4,b5,b6,b7,b8,b9,dP,dT,dU]) (X) (Y))then some ((.some ⟨.normal,(bz 135 [(0,(.ptr 0 0)),(6,(.ptr 2 0)),(7,(aR)),(53,((aU r.l i).cm.av)),(54,(i64 (((aU r.l i).cm.l.length:Int)))),(55,(i64 (IntKind.i64.wrap ((j:Int)+(1:Int)))))]),([b0,b1,b2,b3,b4,b5,b6,b7,b8,b9,dP,dT,dU]),(X),(Y),[(.cells ((aU r.l i).cells))],true⟩))else none else none else none else some ((.some ⟨(.exit 2),(bz 135 [(0,(.ptr 0 0)),(6,(.ptr 2 0)),(7,(aR)),(53,((aU r.l i).cm.av)),(54,(i64 (((aU r.l i).cm.l.length:Int)))),(55,(i64 ((j:Int))))]),([b0,b1,b2,b3,b4,b5,b6,b7,b8,b9,dP,dT,dU]),(X),(Y),[(.cells ((aU r.l i).cells))],true⟩)):=by kernel_rfl
theorem L5 (b0 b1 b2 b3 b4 b5 b6 b7 b8 b9 dP dT dU:AV) (S:hU) (X:AV) (Y:bu) (r:aX ag) (i j:Nat):(db prog (cC [] [] []) aN [] 3 (ae f109 14) (qd r i j) (.cells (dH [b0,b1,b2,b3,b4,b5,b6,b7,b8,b9,dP,dT,dU] S X)::Y::[.cells (aU r.l i).cells])).via (mS [0,6,78,79,80] 1)=bif (decide ((j:Int)<((aU r.l i).ey.l.length:Int)))then bif (decide (0<=(j:Int)/\(j:Int)<((aU r.l i).ey.l.length:Int)))then bif (decide ((aU r.l i).ey.l.getD j (0:Int)≥0))then bif (decide ((aU r.l i).ey.l.getD j 0<((aU r.l i).cm.l.length:Int)))then bif ((j:Int)==0)then bif (ca ([b0,b1,b2,b3,b4,b5,b6,b7,b8,b9,dP,dT,dU]) (X) (Y))then some ((.some ⟨.normal,(bz 135 [(0,(.ptr 0 0)),(6,(.ptr 2 0)),(78,((aU r.l i).ey.av)),(79,(i64 (((aU r.l i).ey.l.length:Int)))),(80,(i64 (IntKind.i64.wrap ((j:Int)+(1:Int)))))]),([b0,b1,b2,b3,b4,b5,b6,b7,b8,b9,dP,dT,dU]),(X),(Y),[(.cells ((aU r.l i).cells))],true⟩))else none else bif (decide ((0:Int)<=IntKind.i64.wrap ((j:Int)-(1:Int))/\IntKind.i64.wrap ((j:Int)-(1:Int))<((aU r.l i).ey.l.length:Int)))then bif (ca ([b0,b1,b2,b3,b4,b5,b6,b7,b8,b9,dP,dT,dU]) (X) (Y))then some ((.some ⟨.normal,(bz 135 [(0,(.ptr 0 0)),(6,(.ptr 2 0)),(78,((aU r.l i).ey.av)),(79,(i64 (((aU r.l i).ey.l.length:Int)))),(80,(i64 (IntKind.i64.wrap ((j:Int)+(1:Int)))))]),([b0,b1,b2,b3,b4,b5,b6,b7,b8,b9,dP,dT,dU]),(X),(Y),[(.cells ((aU r.l i).cells))],true⟩))else none else none else bif (ca ([b0,b1,b2,b3,b4,b5,b6,b7,b8,b9,dP,dT,dU]) (X) (Y))then some ((.some ⟨.normal,(bz 135 [(0,(.ptr 0 0)),(6,(.ptr 2 0)),(78,((aU r.l i).ey.av)),(79,(i64 (((aU r.l i).ey.l.length:Int)))),(80,(i64 (IntKind.i64.wrap ((j:Int)+(1:Int)))))]),([b0,b1,b2,b3,b4,b5,b6,b7,b8,b9,dP,dT,dU]),(X),(Y),[(.cells ((aU r.l i).cells))],true⟩))else none else bif (ca ([b0,b1,b2,b3,b4,b5,b6,b7,b8,b9,dP,dT,dU]) (X) (Y))then some ((.some ⟨.normal,(bz 135 [(0,(.ptr 0 0)),(6,(.ptr 2 0)),(78,((aU r.l i).ey.av)),(79,(i64 (((aU r.l i).ey.l.length:Int)))),(80,(i64 (IntKind.i64.wrap ((j:Int)+(1:Int)))))]),([b0,b1,b2,b3,b4,b5,b6,b7,b8,b9,dP,dT,dU]),(X),(Y),[(.cells ((aU r.l i).cells))],true⟩))else none else none else some ((.some ⟨(.exit 4),(bz 135 [(0,(.ptr 0 0)),(6,(.ptr 2 0)),(78,((aU r.l i).ey.av)),(79,(i64 (((aU r.l i).ey.l.length:Int)))),(80,(i64 ((j:Int))))]),([b0,b1,b2,b3,b4,b5,b6,b7,b8,b9,dP,dT,dU]),(X),(Y),[(.cells ((aU r.l i).cells))],true⟩)):=by kernel_rfl
theorem HD (b0 b1 b2 b3 b4 b5 b6 b7 b8 b9 dP dT dU:AV) (S:hU) (X:AV) (Y:bu) (r:aX ag) (i j:Nat) (n:Nat) (c d:Bool):(db prog (cC [] [] []) (tI [(63,cY c),(70,cY d)] aN) [] 3 (ae f109 9) (qc r i (.aY false 1 n (so r) (.tok 4)) j) (.cells (dH [b0,b1,b2,b3,b4,b5,b6,b7,b8,b9,dP,dT,dU] S X)::Y::[.cells (aU r.l i).cells,.dead,.tail n 1])).via (mS [0,6,7,53,54,55] 3)=bif (decide ((j:Int)<((aU r.l i).cm.l.length:Int)))then bif (decide (0<=(j:Int)/\(j:Int)<((aU r.l i).cm.l.length:Int)))then bif (eD 183 [(.aY false 1 (n) (so r) (.tok 4)),(aS ((aU r.l i).cm.l.getD j aq))] (cY (c)) ([b0,b1,b2,b3,b4,b5,b6,b7,b8,b9,dP,dT,dU]) (X) (Y))then bif (c)then bif (decide ((0:Int)<=none.getD (0:Int)/\none.getD 0<=(some (j:Int)).getD ((aU r.l i).cm.l.length:Int)/\(some (j:Int)).getD ((aU r.l i).cm.l.length:Int)<=((aU r.l i).cm.l.length:Int)))then bif (eD 183 [(.aY ((aU r.l i).cm.nl) 1 (((some (j:Int)).getD ((aU r.l i).cm.l.length:Int)).toNat-(none.getD (0:Int)).toNat) (λjg=>(λi_2=>[AV.sc (Value.string ((aU r.l i).cm.l.getD i_2 aq))]) (jg+(none.getD (0:Int)).toNat)) .dA),(aS ((aU r.l i).cm.l.getD j aq))] (cY (d)) ([b0,b1,b2,b3,b4,b5,b6,b7,b8,b9,dP,dT,dU]) (X) (Y))then bif (ca ([b0,b1,b2,b3,b4,b5,b6,b7,b8,b9,dP,dT,dU]) (X) (Y))then some ((.some ⟨.normal,(bz 135 [(0,(.ptr 0 0)),(6,(.ptr 2 0)),(7,(.aY false 1 (n) (so r) (.tok 4))),(53,((aU r.l i).cm.av)),(54,(i64 (((aU r.l i).cm.l.length:Int)))),(55,(i64 (IntKind.i64.wrap ((j:Int)+(1:Int)))))]),([b0,b1,b2,b3,b4,b5,b6,b7,b8,b9,dP,dT,dU]),(X),(Y),[(.cells ((aU r.l i).cells)),.dead,(.tail (n) 1)],true⟩))else none else none else none else bif (ca ([b0,b1,b2,b3,b4,b5,b6,b7,b8,b9,dP,dT,dU]) (X) (Y))then some ((.some ⟨.normal,(bz 135 [(0,(.ptr 0 0)),(6,(.ptr 2 0)),(7,(.aY false 1 (n) (so r) (.tok 4))),(53,((aU r.l i).cm.av)),(54,(i64 (((aU r.l i).cm.l.length:Int)))),(55,(i64 (IntKind.i64.wrap ((j:Int)+(1:Int)))))]),([b0,b1,b2,b3,b4,b5,b6,b7,b8,b9,dP,dT,dU]),(X),(Y),[(.cells ((aU r.l i).cells)),.dead,(.tail (n) 1)],true⟩))else none else none else none else some ((.some ⟨(.exit 2),(bz 135 [(0,(.ptr 0 0)),(6,(.ptr 2 0)),(7,(.aY false 1 (n) (so r) (.tok 4))),(53,((aU r.l i).cm.av)),(54,(i64 (((aU r.l i).cm.l.length:Int)))),(55,(i64 ((j:Int))))]),([b0,b1,b2,b3,b4,b5,b6,b7,b8,b9,dP,dT,dU]),(X),(Y),[(.cells ((aU r.l i).cells)),.dead,(.tail (n) 1)],true⟩)):=by kernel_rfl
theorem L6 (b0 b1 b2 b3 b4 b5 b6 b7 b8 b9 dP dT dU:AV) (S:hU) (X:AV) (Y:bu) (r:aX ag) (i j:Nat) (n:Nat):(db prog (cC [] [] []) aN [] 3 (ae f109 14) (qd r i j) (.cells (dH [b0,b1,b2,b3,b4,b5,b6,b7,b8,b9,dP,dT,dU] S X)::Y::[.cells (aU r.l i).cells,.dead,.tail n 1])).via (mS [0,6,78,79,80] 3)=bif (decide ((j:Int)<((aU r.l i).ey.l.length:Int)))then bif (decide (0<=(j:Int)/\(j:Int)<((aU r.l i).ey.l.length:Int)))then bif (decide ((aU r.l i).ey.l.getD j (0:Int)≥0))then bif (decide ((aU r.l i).ey.l.getD j 0<((aU r.l i).cm.l.length:Int)))then bif ((j:Int)==0)then bif (ca ([b0,b1,b2,b3,b4,b5,b6,b7,b8,b9,dP,dT,dU]) (X) (Y))then some ((.some ⟨.normal,(bz 135 [(0,(.ptr 0 0)),(6,(.ptr 2 0)),(78,((aU r.l i).ey.av)),(79,(i64 (((aU r.l i).ey.l.length:Int)))),(80,(i64 (IntKind.i64.wrap ((j:Int)+(1:Int)))))]),([b0,b1,b2,b3,b4,b5,b6,b7,b8,b9,dP,dT,dU]),(X),(Y),[(.cells ((aU r.l i).cells)),.dead,(.tail (n) 1)],true⟩))else none else bif (decide ((0:Int)<=IntKind.i64.wrap ((j:Int)-(1:Int))/\IntKind.i64.wrap ((j:Int)-(1:Int))<((aU r.l i).ey.l.length:Int)))then bif (ca ([b0,b1,b2,b3,b4,b5,b6,b7,b8,b9,dP,dT,dU]) (X) (Y))then some ((.some ⟨.normal,(bz 135 [(0,(.ptr 0 0)),(6,(.ptr 2 0)),(78,((aU r.l i).ey.av)),(79,(i64 (((aU r.l i).ey.l.length:Int)))),(80,(i64 (IntKind.i64.wrap ((j:Int)+(1:Int)))))]),([b0,b1,b2,b3,b4,b5,b6,b7,b8,b9,dP,dT,dU]),(X),(Y),[(.cells ((aU r.l i).cells)),.dead,(.tail (n) 1)],true⟩))else none else none else bif (ca ([b0,b1,b2,b3,b4,b5,b6,b7,b8,b9,dP,dT,dU]) (X) (Y))then some ((.some ⟨.normal,(bz 135 [(0,(.ptr 0 0)),(6,(.ptr 2 0)),(78,((aU r.l i).ey.av)),(79,(i64 (((aU r.l i).ey.l.length:Int)))),(80,(i64 (IntKind.i64.wrap ((j:Int)+(1:Int)))))]),([b0,b1,b2,b3,b4,b5,b6,b7,b8,b9,dP,dT,dU]),(X),(Y),[(.cells ((aU r.l i).cells)),.dead,(.tail (n) 1)],true⟩))else none else bif (ca ([b0,b1,b2,b3,b4,b5,b6,b7,b8,b9,dP,dT,dU]) (X) (Y))then some ((.some ⟨.normal,(bz 135 [(0,(.ptr 0 0)),(6,(.ptr 2 0)),(78,((aU r.l i).ey.av)),(79,(i64 (((aU r.l i).ey.l.length:Int)))),(80,(i64 (IntKind.i64.wrap ((j:Int)+(1:Int)))))]),([b0,b1,b2,b3,b4,b5,b6,b7,b8,b9,dP,dT,dU]),(X),(Y),[(.cells ((aU r.l i).cells)),.dead,(.tail (n) 1)],true⟩))else none else none else some ((.some ⟨(.exit 4),(bz 135 [(0,(.ptr 0 0)),(6,(.ptr 2 0)),(78,((aU r.l i).ey.av)),(79,(i64 (((aU r.l i).ey.l.length:Int)))),(80,(i64 ((j:Int))))]),([b0,b1,b2,b3,b4,b5,b6,b7,b8,b9,dP,dT,dU]),(X),(Y),[(.cells ((aU r.l i).cells)),.dead,(.tail (n) 1)],true⟩)):=by kernel_rfl
theorem Om (b0 b1 b2 b3 b4 b5 b6 b7 b8 b9 dP dT dU:AV) (S:hU) (X:AV) (Y:bu) (r:aX ag) (c d:Bool):(eb prog (cC [] [] []) (tI [(46,cY c),(120,cY d)] (gr [⟨9,[0,6,7,53,54,55],.exit 2,sT r 0,true⟩,⟨14,[0,6,78,79,80],.exit 4,sT r 0,true⟩] aN)) [] 3 109 [.ptr 0 0,r.av 11 ag.cells,i64 0] [.cells (dH [b0,b1,b2,b3,b4,b5,b6,b7,b8,b9,dP,dT,dU] S X),Y]).via (xz)=bif (decide ((0:Int)<=0/\0<(r.l.length:Int)))then bif (!(r.l.getD (Int.toNat (0:Int)) default).name.toList==aq.toList)then bif (decide ((↑(r.l.getD (Int.toNat (0:Int)) default).name.size:Int)<=1000))then bif (eD 183 [(aR),(aS ((r.l.getD (Int.toNat (0:Int)) default).name))] (cY (c)) ([b0,b1,b2,b3,b4,b5,b6,b7,b8,b9,dP,dT,dU]) (X) (Y))then bif (ca ([b0,b1,b2,b3,b4,b5,b6,b7,b8,b9,dP,dT,dU]) (X) (Y))then bif (fC (ae f109 9) (bz 135 [(0,(.ptr 0 0)),(6,(.ptr 2 0)),(7,(aR)),(53,((r.l.getD (Int.toNat (0:Int)) default).cm.av)),(54,(i64 ((↑(r.l.getD (Int.toNat (0:Int)) default).cm.l.length:Int)))),(55,(.sc (.int .i64 0)))]) (.exit 2) (bz 135 [(0,(.ptr 0 0)),(6,(.ptr 2 0))]) ([b0,b1,b2,b3,b4,b5,b6,b7,b8,b9,dP,dT,dU]) (X) (Y) [(.cells ((r.l.getD (Int.toNat (0:Int)) default).cells))])then bif (fC (ae f109 14) (bz 135 [(0,(.ptr 0 0)),(6,(.ptr 2 0)),(78,((r.l.getD (Int.toNat (0:Int)) default).ey.av)),(79,(i64 ((↑(r.l.getD (Int.toNat (0:Int)) default).ey.l.length:Int)))),(80,(.sc (.int .i64 0)))]) (.exit 4) (bz 135 [(0,(.ptr 0 0)),(6,(.ptr 2 0))]) ([b0,b1,b2,b3,b4,b5,b6,b7,b8,b9,dP,dT,dU]) (X) (Y) [(.cells ((r.l.getD (Int.toNat (0:Int)) default).cells))])then bif ((r.l.getD (Int.toNat (0:Int)) default).cG.toList==aq.toList)then pI ((r.l.getD (Int.toNat (0:Int)) default).rP.toList==aq.toList) (bif (ca ([b0,b1,b2,b3,b4,b5,b6,b7,b8,b9,dP,dT,dU]) (X) (Y))then some ((.some ⟨(.bq []),([b0,b1,b2,b3,b4,b5,b6,b7,b8,b9,dP,dT,dU]),(X),(Y),true⟩))else none)else bif (eD 184 [(aS ((r.l.getD (Int.toNat (0:Int)) default).cG))] (cY (d)) ([b0,b1,b2,b3,b4,b5,b6,b7,b8,b9,dP,dT,dU]) (X) (Y))then bif (d)then pI ((r.l.getD (Int.toNat (0:Int)) default).rP.toList==aq.toList) (bif (ca ([b0,b1,b2,b3,b4,b5,b6,b7,b8,b9,dP,dT,dU]) (X) (Y))then some ((.some ⟨(.bq []),([b0,b1,b2,b3,b4,b5,b6,b7,b8,b9,dP,dT,dU]),(X),(Y),true⟩))else none)else bif (ca ([b0,b1,b2,b3,b4,b5,b6,b7,b8,b9,dP,dT,dU]) (X) (Y))then some ((.some ⟨(.bq []),([b0,b1,b2,b3,b4,b5,b6,b7,b8,b9,dP,dT,dU]),(X),(Y),true⟩))else none else none else none else none else none else none else bif (ca ([b0,b1,b2,b3,b4,b5,b6,b7,b8,b9,dP,dT,dU]) (X) (Y))then bif (fC (ae f109 9) (bz 135 [(0,(.ptr 0 0)),(6,(.ptr 2 0)),(7,(aR)),(53,((r.l.getD (Int.toNat (0:Int)) default).cm.av)),(54,(i64 ((↑(r.l.getD (Int.toNat (0:Int)) default).cm.l.length:Int)))),(55,(.sc (.int .i64 0)))]) (.exit 2) (bz 135 [(0,(.ptr 0 0)),(6,(.ptr 2 0))]) ([b0,b1,b2,b3,b4,b5,b6,b7,b8,b9,dP,dT,dU]) (X) (Y) [(.cells ((r.l.getD (Int.toNat (0:Int)) default).cells))])then bif (fC (ae f109 14) (bz 135 [(0,(.ptr 0 0)),(6,(.ptr 2 0)),(78,((r.l.getD (Int.toNat (0:Int)) default).ey.av)),(79,(i64 ((↑(r.l.getD (Int.toNat (0:Int)) default).ey.l.length:Int)))),(80,(.sc (.int .i64 0)))]) (.exit 4) (bz 135 [(0,(.ptr 0 0)),(6,(.ptr 2 0))]) ([b0,b1,b2,b3,b4,b5,b6,b7,b8,b9,dP,dT,dU]) (X) (Y) [(.cells ((r.l.getD (Int.toNat (0:Int)) default).cells))])then bif ((r.l.getD (Int.toNat (0:Int)) default).cG.toList==aq.toList)then pI ((r.l.getD (Int.toNat (0:Int)) default).rP.toList==aq.toList) (bif (ca ([b0,b1,b2,b3,b4,b5,b6,b7,b8,b9,dP,dT,dU]) (X) (Y))then some ((.some ⟨(.bq []),([b0,b1,b2,b3,b4,b5,b6,b7,b8,b9,dP,dT,dU]),(X),(Y),true⟩))else none)else bif (eD 184 [(aS ((r.l.getD (Int.toNat (0:Int)) default).cG))] (cY (d)) ([b0,b1,b2,b3,b4,b5,b6,b7,b8,b9,dP,dT,dU]) (X) (Y))then bif (d)then pI ((r.l.getD (Int.toNat (0:Int)) default).rP.toList==aq.toList) (bif (ca ([b0,b1,b2,b3,b4,b5,b6,b7,b8,b9,dP,dT,dU]) (X) (Y))then some ((.some ⟨(.bq []),([b0,b1,b2,b3,b4,b5,b6,b7,b8,b9,dP,dT,dU]),(X),(Y),true⟩))else none)else bif (ca ([b0,b1,b2,b3,b4,b5,b6,b7,b8,b9,dP,dT,dU]) (X) (Y))then some ((.some ⟨(.bq []),([b0,b1,b2,b3,b4,b5,b6,b7,b8,b9,dP,dT,dU]),(X),(Y),true⟩))else none else none else none else none else none else bif (ca ([b0,b1,b2,b3,b4,b5,b6,b7,b8,b9,dP,dT,dU]) (X) (Y))then bif (fC (ae f109 9) (bz 135 [(0,(.ptr 0 0)),(6,(.ptr 2 0)),(7,(aR)),(53,((r.l.getD (Int.toNat (0:Int)) default).cm.av)),(54,(i64 ((↑(r.l.getD (Int.toNat (0:Int)) default).cm.l.length:Int)))),(55,(.sc (.int .i64 0)))]) (.exit 2) (bz 135 [(0,(.ptr 0 0)),(6,(.ptr 2 0))]) ([b0,b1,b2,b3,b4,b5,b6,b7,b8,b9,dP,dT,dU]) (X) (Y) [(.cells ((r.l.getD (Int.toNat (0:Int)) default).cells))])then bif (fC (ae f109 14) (bz 135 [(0,(.ptr 0 0)),(6,(.ptr 2 0)),(78,((r.l.getD (Int.toNat (0:Int)) default).ey.av)),(79,(i64 ((↑(r.l.getD (Int.toNat (0:Int)) default).ey.l.length:Int)))),(80,(.sc (.int .i64 0)))]) (.exit 4) (bz 135 [(0,(.ptr 0 0)),(6,(.ptr 2 0))]) ([b0,b1,b2,b3,b4,b5,b6,b7,b8,b9,dP,dT,dU]) (X) (Y) [(.cells ((r.l.getD (Int.toNat (0:Int)) default).cells))])then bif ((r.l.getD (Int.toNat (0:Int)) default).cG.toList==aq.toList)then pI ((r.l.getD (Int.toNat (0:Int)) default).rP.toList==aq.toList) (bif (ca ([b0,b1,b2,b3,b4,b5,b6,b7,b8,b9,dP,dT,dU]) (X) (Y))then some ((.some ⟨(.bq []),([b0,b1,b2,b3,b4,b5,b6,b7,b8,b9,dP,dT,dU]),(X),(Y),true⟩))else none)else bif (eD 184 [(aS ((r.l.getD (Int.toNat (0:Int)) default).cG))] (cY (d)) ([b0,b1,b2,b3,b4,b5,b6,b7,b8,b9,dP,dT,dU]) (X) (Y))then bif (d)then pI ((r.l.getD (Int.toNat (0:Int)) default).rP.toList==aq.toList) (bif (ca ([b0,b1,b2,b3,b4,b5,b6,b7,b8,b9,dP,dT,dU]) (X) (Y))then some ((.some ⟨(.bq []),([b0,b1,b2,b3,b4,b5,b6,b7,b8,b9,dP,dT,dU]),(X),(Y),true⟩))else none)else bif (ca ([b0,b1,b2,b3,b4,b5,b6,b7,b8,b9,dP,dT,dU]) (X) (Y))then some ((.some ⟨(.bq []),([b0,b1,b2,b3,b4,b5,b6,b7,b8,b9,dP,dT,dU]),(X),(Y),true⟩))else none else none else none else none else none else none:=by kernel_rfl
theorem On (b0 b1 b2 b3 b4 b5 b6 b7 b8 b9 dP dT dU:AV) (S:hU) (X:AV) (Y:bu) (r:aX ag) (i:Nat) (c d:Bool):(eb prog (cC [] [] []) (tI [(46,cY c),(120,cY d)] (gr [⟨9,[0,6,7,53,54,55],.exit 2,sT r i,true⟩,⟨14,[0,6,78,79,80],.exit 4,sT r i,true⟩] (Kb [⟨3,[0,6,7,20,21,22],.exit 0,Ac r i (.aY false 1 i (so r) (.tok 4)) i,[.cells (aU r.l i).cells,.dead,.tail i 1]⟩] aN))) [] 3 109 [.ptr 0 0,r.av 11 ag.cells,i64 i] [.cells (dH [b0,b1,b2,b3,b4,b5,b6,b7,b8,b9,dP,dT,dU] S X),Y]).via (xz)=bif (decide (0<=(i:Int)/\(i:Int)<(r.l.length:Int)))then bif (decide ((0:Int)<=none.getD (0:Int)/\none.getD 0<=(some (i:Int)).getD (r.l.length:Int)/\(some (i:Int)).getD (r.l.length:Int)<=(r.l.length:Int)))then bif (HA (ae f109 3) (bz 135 [(0,(.ptr 0 0)),(6,(.ptr 2 0)),(7,(aR)),(20,(.aY (r.nl) 11 (((some (i:Int)).getD (r.l.length:Int)).toNat-(none.getD (0:Int)).toNat) (λi=>(λi=>(r.l.getD i default).cells) (i+(none.getD (0:Int)).toNat)) .dA)),(21,(i64 ((↑(((some (i:Int)).getD (r.l.length:Int)).toNat-(none.getD (0:Int)).toNat):Int)))),(22,(.sc (.int .i64 0)))]) (.exit 0) (bz 135 [(0,(.ptr 0 0)),(6,(.ptr 2 0)),(7,(.aY false 1 (i) (so r) (.tok 4))),(20,(Co r i)),(21,(i64 ((i:Int)))),(22,(i64 ((i:Int))))]) ([b0,b1,b2,b3,b4,b5,b6,b7,b8,b9,dP,dT,dU]) (X) (Y) [(.cells ((r.l.getD i default).cells))] [(.cells ((aU r.l i).cells)),.dead,(.tail (i) 1)])then bif (!(aU r.l i).name.toList==aq.toList)then bif (decide (((aU r.l i).name.size:Int)<=1000))then bif (eD 183 [(.aY false 1 (i) (so r) (.tok 4)),(aS ((aU r.l i).name))] (cY (c)) ([b0,b1,b2,b3,b4,b5,b6,b7,b8,b9,dP,dT,dU]) (X) (Y))then bif (ca ([b0,b1,b2,b3,b4,b5,b6,b7,b8,b9,dP,dT,dU]) (X) (Y))then bif (fC (ae f109 9) (bz 135 [(0,(.ptr 0 0)),(6,(.ptr 2 0)),(7,(.aY false 1 (i) (so r) (.tok 4))),(53,((aU r.l i).cm.av)),(54,(i64 (((aU r.l i).cm.l.length:Int)))),(55,(.sc (.int .i64 0)))]) (.exit 2) (bz 135 [(0,(.ptr 0 0)),(6,(.ptr 2 0))]) ([b0,b1,b2,b3,b4,b5,b6,b7,b8,b9,dP,dT,dU]) (X) (Y) [(.cells ((aU r.l i).cells)),.dead,(.tail (i) 1)])then bif (fC (ae f109 14) (bz 135 [(0,(.ptr 0 0)),(6,(.ptr 2 0)),(78,((aU r.l i).ey.av)),(79,(i64 (((aU r.l i).ey.l.length:Int)))),(80,(.sc (.int .i64 0)))]) (.exit 4) (bz 135 [(0,(.ptr 0 0)),(6,(.ptr 2 0))]) ([b0,b1,b2,b3,b4,b5,b6,b7,b8,b9,dP,dT,dU]) (X) (Y) [(.cells ((aU r.l i).cells)),.dead,(.tail (i) 1)])then bif ((aU r.l i).cG.toList==aq.toList)then pI ((aU r.l i).rP.toList==aq.toList) (bif (ca ([b0,b1,b2,b3,b4,b5,b6,b7,b8,b9,dP,dT,dU]) (X) (Y))then some ((.some ⟨(.bq []),([b0,b1,b2,b3,b4,b5,b6,b7,b8,b9,dP,dT,dU]),(X),(Y),true⟩))else none)else bif (eD 184 [(aS ((aU r.l i).cG))] (cY (d)) ([b0,b1,b2,b3,b4,b5,b6,b7,b8,b9,dP,dT,dU]) (X) (Y))then bif (d)then pI ((aU r.l i).rP.toList==aq.toList) (bif (ca ([b0,b1,b2,b3,b4,b5,b6,b7,b8,b9,dP,dT,dU]) (X) (Y))then some ((.some ⟨(.bq []),([b0,b1,b2,b3,b4,b5,b6,b7,b8,b9,dP,dT,dU]),(X),(Y),true⟩))else none)else bif (ca ([b0,b1,b2,b3,b4,b5,b6,b7,b8,b9,dP,dT,dU]) (X) (Y))then some ((.some ⟨(.bq []),([b0,b1,b2,b3,b4,b5,b6,b7,b8,b9,dP,dT,dU]),(X),(Y),true⟩))else none else none else none else none else none else none else bif (ca ([b0,b1,b2,b3,b4,b5,b6,b7,b8,b9,dP,dT,dU]) (X) (Y))then bif (fC (ae f109 9) (bz 135 [(0,(.ptr 0 0)),(6,(.ptr 2 0)),(7,(.aY false 1 (i) (so r) (.tok 4))),(53,((aU r.l i).cm.av)),(54,(i64 (((aU r.l i).cm.l.length:Int)))),(55,(.sc (.int .i64 0)))]) (.exit 2) (bz 135 [(0,(.ptr 0 0)),(6,(.ptr 2 0))]) ([b0,b1,b2,b3,b4,b5,b6,b7,b8,b9,dP,dT,dU]) (X) (Y) [(.cells ((aU r.l i).cells)),.dead,(.tail (i) 1)])then bif (fC (ae f109 14) (bz 135 [(0,(.ptr 0 0)),(6,(.ptr 2 0)),(78,((aU r.l i).ey.av)),(79,(i64 (((aU r.l i).ey.l.length:Int)))),(80,(.sc (.int .i64 0)))]) (.exit 4) (bz 135 [(0,(.ptr 0 0)),(6,(.ptr 2 0))]) ([b0,b1,b2,b3,b4,b5,b6,b7,b8,b9,dP,dT,dU]) (X) (Y) [(.cells ((aU r.l i).cells)),.dead,(.tail (i) 1)])then bif ((aU r.l i).cG.toList==aq.toList)then pI ((aU r.l i).rP.toList==aq.toList) (bif (ca ([b0,b1,b2,b3,b4,b5,b6,b7,b8,b9,dP,dT,dU]) (X) (Y))then some ((.some ⟨(.bq []),([b0,b1,b2,b3,b4,b5,b6,b7,b8,b9,dP,dT,dU]),(X),(Y),true⟩))else none)else bif (eD 184 [(aS ((aU r.l i).cG))] (cY (d)) ([b0,b1,b2,b3,b4,b5,b6,b7,b8,b9,dP,dT,dU]) (X) (Y))then bif (d)then pI ((aU r.l i).rP.toList==aq.toList) (bif (ca ([b0,b1,b2,b3,b4,b5,b6,b7,b8,b9,dP,dT,dU]) (X) (Y))then some ((.some ⟨(.bq []),([b0,b1,b2,b3,b4,b5,b6,b7,b8,b9,dP,dT,dU]),(X),(Y),true⟩))else none)else bif (ca ([b0,b1,b2,b3,b4,b5,b6,b7,b8,b9,dP,dT,dU]) (X) (Y))then some ((.some ⟨(.bq []),([b0,b1,b2,b3,b4,b5,b6,b7,b8,b9,dP,dT,dU]),(X),(Y),true⟩))else none else none else none else none else none else bif (ca ([b0,b1,b2,b3,b4,b5,b6,b7,b8,b9,dP,dT,dU]) (X) (Y))then bif (fC (ae f109 9) (bz 135 [(0,(.ptr 0 0)),(6,(.ptr 2 0)),(7,(.aY false 1 (i) (so r) (.tok 4))),(53,((aU r.l i).cm.av)),(54,(i64 (((aU r.l i).cm.l.length:Int)))),(55,(.sc (.int .i64 0)))]) (.exit 2) (bz 135 [(0,(.ptr 0 0)),(6,(.ptr 2 0))]) ([b0,b1,b2,b3,b4,b5,b6,b7,b8,b9,dP,dT,dU]) (X) (Y) [(.cells ((aU r.l i).cells)),.dead,(.tail (i) 1)])then bif (fC (ae f109 14) (bz 135 [(0,(.ptr 0 0)),(6,(.ptr 2 0)),(78,((aU r.l i).ey.av)),(79,(i64 (((aU r.l i).ey.l.length:Int)))),(80,(.sc (.int .i64 0)))]) (.exit 4) (bz 135 [(0,(.ptr 0 0)),(6,(.ptr 2 0))]) ([b0,b1,b2,b3,b4,b5,b6,b7,b8,b9,dP,dT,dU]) (X) (Y) [(.cells ((aU r.l i).cells)),.dead,(.tail (i) 1)])then bif ((aU r.l i).cG.toList==aq.toList)then pI ((aU r.l i).rP.toList==aq.toList) (bif (ca ([b0,b1,b2,b3,b4,b5,b6,b7,b8,b9,dP,dT,dU]) (X) (Y))then some ((.some ⟨(.bq []),([b0,b1,b2,b3,b4,b5,b6,b7,b8,b9,dP,dT,dU]),(X),(Y),true⟩))else none)else bif (eD 184 [(aS ((aU r.l i).cG))] (cY (d)) ([b0,b1,b2,b3,b4,b5,b6,b7,b8,b9,dP,dT,dU]) (X) (Y))then bif (d)then pI ((aU r.l i).rP.toList==aq.toList) (bif (ca ([b0,b1,b2,b3,b4,b5,b6,b7,b8,b9,dP,dT,dU]) (X) (Y))then some ((.some ⟨(.bq []),([b0,b1,b2,b3,b4,b5,b6,b7,b8,b9,dP,dT,dU]),(X),(Y),true⟩))else none)else bif (ca ([b0,b1,b2,b3,b4,b5,b6,b7,b8,b9,dP,dT,dU]) (X) (Y))then some ((.some ⟨(.bq []),([b0,b1,b2,b3,b4,b5,b6,b7,b8,b9,dP,dT,dU]),(X),(Y),true⟩))else none else none else none else none else none else none else none else none:=by kernel_rfl
theorem SK {c:Code}{T:List AV}{x:bj}{T' pre:List AV}{X:AV}{Y:bu}{J J':aa}(h:L4 c T x T' pre X Y J J'):HA c T x T' pre X Y J J'=true:=by simp[HA,h]
theorem Oo {es:List SH}{lo:bX}(hl:bA prog lo):bA prog (Kb es lo):=by
 refine⟨λc T H t x T' H' Wr h hr=> ?_,hl.site,hl.Ex⟩;unfold Kb at h;simp only at h;split at h
 ·rename_i e he;split at h
  ·rename_i pre X S Y J pQ;have eH:=iG pQ;subst eH;cases h;rcases Tree.df hr with ⟨hb,hr⟩|⟨_,hr⟩
   ·have:=Tree.aE hr;simp only[ahe]at this;obtain⟨rfl,rfl,rfl,rfl⟩:=this;have hk:L4 c (lC 0 e.ks T) e.x e.T pre X Y J e.J:=by simpa [HA]using hb
    exact(hk S).ik (dL T 0 _)
   ·exact(Tree.aZ hr).elim
  ·cases h
 ·exact hl.loop _ _ _ _ _ _ _ _ h hr
theorem Ad {call:cZ}{lo:bX}{nj:List Nat}(hc:cx prog call){k n0 n:Nat}{c:Code}{T T1:List AV}{pre:List AV}{S:hU}{X:AV}{Y:bu}{J J1:aa}{ks kl Wl:List Nat}{x:bj}{F:Option (Option SI)}(hl:bA prog lo) (hk:gi pre X Y)
  (h:(db prog call lo nj k c T (.cells (dH pre S X)::Y::J)).via (V1 ks kl Wl n0 n)=F) (hF:F=some (some ⟨x,T1,J1,true⟩)) (hn:J.length=n0) (sx:n0<=n) (jI:∀l∈kl,n0+2<=l) (h0:0∉Wl) (h1:1∉Wl):an prog c T (.cells (dH pre S X)::Y::J) x T1 (.cells (dH pre S X)::Y::J1) Wl:=by
 obtain⟨⟨y,T2,H2,W2⟩,hr,hg⟩:=cv h hF;have dC:=lX mixed hc hl nj k c _ _ _ _ _ _ hr;unfold V1 at hg;simp only at hg;split at hg
 ·rename_i oy X' S' Y' J' pQ;simp only[ag6,SI.mk.injEq,ahp]at hg;obtain⟨rfl,rfl,rfl,⟨⟨q1,q2⟩,q3⟩,q4⟩:=hg;have e:=iG pQ;have hlen:(.cells (dH pre S X)::Y::J:aa).length=n0+2:=by simp[hn]
  have adP:an prog c T (.cells (dH pre S X)::Y::J) y T2 H2 Wl:=dC.wr (λl hl cO=>by
   have:=ahq.1 q3 l (dt (by omega) hl);simpa using this)
  have SL:=an.kill kl H2 adP (λl hl=>by rw[hlen];exact jI l hl);rw[e]at SL;have z0:=SL.2.2 0 (by rw[hlen];omega) h0;have z1:=SL.2.2 1 (by rw[hlen];omega) h1;simp only[ahw,ahL,ag6]at z0 z1;rw[z0,z1]at SL;have key:=(an.eB SL (dL _ 0 ks)).trim (n:=n+2) (by omega) q1 (λo ho=>by
   simp only[ah5,ahl]at ho;rcases ho with rfl|rfl|ho
   ·exact hk.ZA (by omega) S
   ·exact(hk.lone.lb _).1
   ·exact ahq.1 q2 o ho) q4
  exact key
 ·cases hg
theorem SM {α:Type}{B C Q:Bool}{R z n:α}(h:z=bif B then(bif C then(bif Q then R else n)else R)else R) (hQ:Q=true):z=R:=by
 subst hQ;cases B<;>cases C<;>exact h
theorem SN {α:Type}{P s Q d:Bool}{R z n:α}(h:z=bif P then pI s R else bif Q then(bif d then pI s R else R)else n) (hQ:Q=true):z=R:=by
 subst hQ;cases P<;>cases s<;>cases d<;>exact h
theorem SO {α:Type}{c G Q:Bool}{R z n m:α}(h:z=bif c then(bif G then(bif Q then R else n)else m)else R) (hG:G=true) (hQ:Q=true):z=R:=by
 subst hQ;subst hG;cases c<;>exact h
theorem SP {α:Type}{a b c G:Bool}{R z n:α}(h:z=bif a then(bif b then(bif c then R else(bif G then R else n))else R)else R) (hG:c=false->G=true):z=R:=by
 cases c with
 |true=>cases a<;>cases b<;>exact h
 |false=>rw[hG rfl]at h;cases a<;>cases b<;>exact h
theorem HE (r:aX ag) (n:Nat) (s:ByteArray) (hn:n<=1000000000):∃b:Bool,∀H,bZ prog 183 [Ee r n,aS s] (cY b) H H []:=by
 obtain⟨c,hc⟩:=oa ⟨false,(List.range n).map (λk=>(r.l.getD k default).name)⟩ s (by simp;omega);refine⟨_,λH=>(hc H).fR (.cons ?_ (.refl _))⟩;unfold bD.av Ee;simp only[air,List.length_range];refine Ed.trans (ev.aY (λk hk=> ?_));simp[so,ag4,hk];rfl
theorem L7 (s:ByteArray):∃b:Bool,∀H,bZ prog 183 [aR,aS s] (cY b) H H []:=by
 obtain⟨c,hc⟩:=oa ⟨true,[]⟩ s (by simp);exact⟨_,λH=>(hc H).fR (.cons fc (.refl _))⟩
theorem L8 (x:bD) (j:Nat) (s:ByteArray) (hj:j<x.l.length) (hn:x.l.length<=1000000000):∃b:Bool,∀H,bZ prog 183 [.aY x.nl 1 j (λk=>[aS (x.l.getD k aq)]) .dA,aS s] (cY b) H H []:=by
 have hlen:(x.l.take j).length=j:=by rw[List.length_take];omega
 obtain⟨c,hc⟩:=oa ⟨x.nl,x.l.take j⟩ s (by rw[hlen];omega);refine⟨_,λH=>(hc H).fR (.cons ?_ (.refl _))⟩;unfold bD.av;simp only[hlen];refine ev.aY (λk hk=> ?_);simp[ag4,ahI,hk];rfl
theorem SQ {s:ByteArray}(h:s.size<=1000000000):∃b:Bool,∀H,bZ prog 184 [aS s] (cY b) H H []:=by
 obtain⟨c,h⟩:=JM s h;exact⟨_,h⟩
section
variable {pre:List AV}{X:AV}{Y:bu}
def adQ (r:aX ag) (i:Nat):Nat->List AV
 |0=>Ac r i aR 0
 |k+1=>Ac r i (Ee r (k+1)) ((k+1:Nat):Int)
def abB (r:aX ag) (i:Nat):Nat->aa
 |0=>[.cells (aU r.l i).cells]
 |k+1=>[.cells (aU r.l i).cells,.dead,.tail (k+1) 1]
theorem Kc {P:Program}{c:Code}(T:Nat->List AV) (H:Nat->aa) (W:List Nat) (ex:bj) (hx:ex≠.normal) (n:Nat) (round:∀i,i<n->an P c (T i) (H i) .normal (T (i+1)) (H (i+1)) W) (out:an P c (T n) (H n) ex (T n) (H n) W):
  an P (.loop c) (T 0) (H 0) ex (T n) (H n) W:=by
 have key:∀d i,n-i=d->i<=n->∃k W',dX P c ex (T n) (H n) k (T i) (H i) W'/\∀l∈W',l∈W:=by
  intro d
  induction d with
  |zero=>
   intro i hd hi;have:i=n:=by omega
   subst this;exact⟨0,_,.out out hx,λl hl=>hl⟩
  |succ d ih=>
   intro i hd hi;obtain⟨k,W',hr,hw⟩:=ih (i+1) (by omega) (by omega);exact⟨k+1,_,.next (round i (by omega)) hr,λl hl=>by
    rcases ahC.1 hl with h|h
    ·exact h
    ·exact hw l h⟩
 obtain⟨k,W',hr,hw⟩:=key n 0 (by omega) (ag9 _);exact hr.ok.eI hw
theorem YX (n:Nat) (hn:n<=1000000000):decide ((n+1)*prog.types[(9:Nat)].bytes<=(2:Nat) ^ (46:Nat)/\n+1<(2:Nat) ^ (62:Nat))=true:=by
 have e1:prog.types[(9:Nat)].bytes=16:=by kernel_rfl
 rw[e1];have e2:(2:Nat) ^ 46=70368744177664:=by decide
 have e3:(2:Nat) ^ 62=4611686018427387904:=by decide
 rw[e2,e3];exact bl (by omega)
theorem V3 (hk:gi pre X Y){r:aX ag}(hr:r.sm ag.sm){i:Nat}(hi:i<r.l.length) (h0:0<i):
  L4 (ae f109 3) (Ac r i aR 0) (.exit 0) (Ac r i (Ee r i) i) pre X Y [.cells (aU r.l i).cells] [.cells (aU r.l i).cells,.dead,.tail i 1]:=by
 obtain⟨b0,b1,b2,b3,b4,b5,b6,b7,b8,b9,dP,dT,dU,rfl⟩:=wX hk.len;have hn:=hr.1;unfold dg at hn;intro S;obtain⟨n,rfl⟩:∃n,i=n+1:=⟨i-1,by omega⟩
 have key:=Kc (P:=prog) (c:=ae f109 3) (adQ r (n+1)) (λk=> .cells (dH [b0,b1,b2,b3,b4,b5,b6,b7,b8,b9,dP,dT,dU] S X)::Y::abB r (n+1) k) [3,4] (.exit 0) (by simp) (n+1) (λk Pd=>by
  cases k with
  |zero=>
   have hb:=ah (ah (SJ b0 b1 b2 b3 b4 b5 b6 b7 b8 b9 dP dT dU S X Y r (n+1)) (bl (by omega))) (bl (by omega));have ew:IntKind.i64.wrap ((0:Int)+(1:Int))=((0+1:Nat):Int):=wi (x:=(0:Int)+1) (by omega) (by omega);rw[ew]at hb;refine an.eB (Ad (cS _ _ _) ab hk hb rfl rfl (by omega) (by simp) (by simp) (by simp)) ?_;exact Wk.tm (.cons (.refl _) (.cons (.refl _) (.cons (ev.aY (λk hk=>by
    have:k=0:=by omega
    subst this;rfl)) (.cons (.refl _) (.cons (.refl _) (.cons (.refl _) .nil))))))
  |succ k=>
   have hb:=ah (ah (ah (ah (HB b0 b1 b2 b3 b4 b5 b6 b7 b8 b9 dP dT dU S X Y r (n+1) (k+1) (k+1)) (bl (by omega))) (bl (by omega))) (YX (k+1) (by omega))) (bl rfl);have ew:IntKind.i64.wrap (((k+1:Nat):Int)+(1:Int))=((k+1+1:Nat):Int):=wi (x:=((k+1:Nat):Int)+1) (by omega) (by omega);rw[ew]at hb;refine an.eB (Ad (cS _ _ _) ab hk hb rfl rfl (by omega) (by simp) (by simp) (by simp)) ?_;exact Wk.tm (.cons (.refl _) (.cons (.refl _) (.cons (ev.aY (λj hj=>by
    unfold bI;by_cases cO:j<k+1
    ·rw[if_pos cO]
    ·have:j=k+1:=by omega
     subst this;rw[if_neg cO,ahX];rfl)) (.cons (.refl _) (.cons (.refl _) (.cons (.refl _) .nil))))))) (by
  have hb:=bO (HB b0 b1 b2 b3 b4 b5 b6 b7 b8 b9 dP dT dU S X Y r (n+1) (n+1) (n+1)) (da (by omega));exact Ad (cS _ _ _) ab hk hb rfl rfl (by omega) (by simp) (by simp) (by simp))
 exact key.wr (λl hl cO=>by simp[abB]at cO hl;omega)
theorem abC (hk:gi pre X Y){r:aX ag}(hr:r.sm ag.sm){i:Nat}(hi:i<r.l.length):
  fb (ae f109 14) (qd r i ((0:Nat):Int)) (.exit 4) (qd r i (aU r.l i).ey.l.length) pre X Y [.cells (aU r.l i).cells]:=by
 obtain⟨b0,b1,b2,b3,b4,b5,b6,b7,b8,b9,dP,dT,dU,rfl⟩:=wX hk.len;have hs:(aU r.l i).sm:=hr.2 _ (bM hi);have hn:=hs.2.2.2.1;unfold dg at hn;exact ir (λj=>qd r i j) (.exit 4) (by simp) (aU r.l i).ey.l.length (λj hj S=>by
  have hb:=SP (ah (ah (L5 b0 b1 b2 b3 b4 b5 b6 b7 b8 b9 dP dT dU S X Y r i j) (bl (by omega))) (bl (by omega))) (λhc=>bl (by
   have h0:j≠0:=by rintro rfl;simp at hc
   have e:IntKind.i64.wrap ((j:Int)-(1:Int))=(j:Int)-1:=wi (by omega) (by omega);rw[e];omega))
  have hb:=ah hb (bU hk);have ew:IntKind.i64.wrap ((j:Int)+(1:Int))=((j+1:Nat):Int):=wi (x:=(j:Int)+1) (by omega) (by omega);rw[ew]at hb;exact dm (cS _ _ _) ab hk hb rfl rfl) (λS=>dm (cS _ _ _) ab hk (bO (L5 b0 b1 b2 b3 b4 b5 b6 b7 b8 b9 dP dT dU S X Y r i _) (da (by omega))) rfl rfl)
theorem abD (hk:gi pre X Y){r:aX ag}(hr:r.sm ag.sm){i:Nat}(hi:i<r.l.length) (n:Nat):
  fb (ae f109 14) (qd r i ((0:Nat):Int)) (.exit 4) (qd r i (aU r.l i).ey.l.length) pre X Y [.cells (aU r.l i).cells,.dead,.tail n 1]:=by
 obtain⟨b0,b1,b2,b3,b4,b5,b6,b7,b8,b9,dP,dT,dU,rfl⟩:=wX hk.len;have hs:(aU r.l i).sm:=hr.2 _ (bM hi);have hn:=hs.2.2.2.1;unfold dg at hn;exact ir (λj=>qd r i j) (.exit 4) (by simp) (aU r.l i).ey.l.length (λj hj S=>by
  have hb:=SP (ah (ah (L6 b0 b1 b2 b3 b4 b5 b6 b7 b8 b9 dP dT dU S X Y r i j n) (bl (by omega))) (bl (by omega))) (λhc=>bl (by
   have h0:j≠0:=by rintro rfl;simp at hc
   have e:IntKind.i64.wrap ((j:Int)-(1:Int))=(j:Int)-1:=wi (by omega) (by omega);rw[e];omega))
  have hb:=ah hb (bU hk);have ew:IntKind.i64.wrap ((j:Int)+(1:Int))=((j+1:Nat):Int):=wi (x:=(j:Int)+1) (by omega) (by omega);rw[ew]at hb;exact dm (cS _ _ _) ab hk hb rfl rfl) (λS=>dm (cS _ _ _) ab hk (bO (L6 b0 b1 b2 b3 b4 b5 b6 b7 b8 b9 dP dT dU S X Y r i _ n) (da (by omega))) rfl rfl)
theorem YY (hk:gi pre X Y){r:aX ag}(hr:r.sm ag.sm){i:Nat}(hi:i<r.l.length):
  fb (ae f109 9) (qc r i aR ((0:Nat):Int)) (.exit 2) (qc r i aR (aU r.l i).cm.l.length) pre X Y [.cells (aU r.l i).cells]:=by
 obtain⟨b0,b1,b2,b3,b4,b5,b6,b7,b8,b9,dP,dT,dU,rfl⟩:=wX hk.len;have hs:(aU r.l i).sm:=hr.2 _ (bM hi);have hn:=hs.2.2.1.1;unfold dg at hn;exact ir (λj=>qc r i aR j) (.exit 2) (by simp) (aU r.l i).cm.l.length (λj hj S=>by
  obtain⟨c,h1⟩:=L7 ((aU r.l i).cm.l.getD j aq);obtain⟨d,h2⟩:=L8 (aU r.l i).cm j ((aU r.l i).cm.l.getD j aq) hj (by omega);have hb:=SO (ah (ah (ah (HC b0 b1 b2 b3 b4 b5 b6 b7 b8 b9 dP dT dU S X Y r i j c d) (bl (by omega))) (bl (by omega))) (ct (.all h1))) (bl (by show (0:Int)<=0/\(0:Int)<=(j:Int)/\(j:Int)<=((aU r.l i).cm.l.length:Int);omega)) (ct (.all h2));have hb:=ah hb (bU hk);have ew:IntKind.i64.wrap ((j:Int)+(1:Int))=((j+1:Nat):Int):=wi (x:=(j:Int)+1) (by omega) (by omega);rw[ew]at hb;exact dm (cS _ _ _) (jY ab) hk hb rfl rfl) (λS=>dm (cS _ _ _) (jY ab) hk (bO (HC b0 b1 b2 b3 b4 b5 b6 b7 b8 b9 dP dT dU S X Y r i _ false false) (da (by omega))) rfl rfl)
theorem YZ (hk:gi pre X Y){r:aX ag}(hr:r.sm ag.sm){i:Nat}(hi:i<r.l.length):
  fb (ae f109 9) (qc r i (Ee r i) ((0:Nat):Int)) (.exit 2) (qc r i (Ee r i) (aU r.l i).cm.l.length) pre X Y [.cells (aU r.l i).cells,.dead,.tail i 1]:=by
 obtain⟨b0,b1,b2,b3,b4,b5,b6,b7,b8,b9,dP,dT,dU,rfl⟩:=wX hk.len;have hs:(aU r.l i).sm:=hr.2 _ (bM hi);have hn:=hs.2.2.1.1;have hl:=hr.1;unfold dg at hn hl;exact ir (λj=>qc r i (Ee r i) j) (.exit 2) (by simp) (aU r.l i).cm.l.length (λj hj S=>by
  obtain⟨c,h1⟩:=HE r i ((aU r.l i).cm.l.getD j aq) (by omega);obtain⟨d,h2⟩:=L8 (aU r.l i).cm j ((aU r.l i).cm.l.getD j aq) hj (by omega);have hb:=SO (ah (ah (ah (HD b0 b1 b2 b3 b4 b5 b6 b7 b8 b9 dP dT dU S X Y r i j i c d) (bl (by omega))) (bl (by omega))) (ct (.all h1))) (bl (by show (0:Int)<=0/\(0:Int)<=(j:Int)/\(j:Int)<=((aU r.l i).cm.l.length:Int);omega)) (ct (.all h2));have hb:=ah hb (bU hk);have ew:IntKind.i64.wrap ((j:Int)+(1:Int))=((j+1:Nat):Int):=wi (x:=(j:Int)+1) (by omega) (by omega);rw[ew]at hb;exact dm (cS _ _ _) (jY ab) hk hb rfl rfl) (λS=>dm (cS _ _ _) (jY ab) hk (bO (HD b0 b1 b2 b3 b4 b5 b6 b7 b8 b9 dP dT dU S X Y r i _ i false false) (da (by omega))) rfl rfl)
theorem fb.SR {c:Code}{T T1 T2:List AV}{x:bj}{J:aa}(h:fb c T x T1 pre X Y J) (w:Wk T1 T2):fb c T x T2 pre X Y J:=λS=>by
 obtain⟨S',h⟩:=h S;exact⟨S',h.eB w⟩
theorem Y0 (hk:gi pre X Y){r:aX ag}(hr:r.sm ag.sm){i:Nat}(hi:i<r.l.length):TK 109 [r.av 11 ag.cells,i64 i] pre X Y:=by
 obtain⟨b0,b1,b2,b3,b4,b5,b6,b7,b8,b9,dP,dT,dU,rfl⟩:=wX hk.len;intro S;have hl:=hr.1;have hs:(aU r.l i).sm:=hr.2 _ (bM hi);have hp:=hs.2.1;unfold dg at hl hp;obtain⟨d,h2⟩:=SQ (s:=(aU r.l i).cG) (by omega);have e1:sT r i=lC 0 [0,6] (qc r i aR (aU r.l i).cm.l.length):=rfl;have e2:sT r i=lC 0 [0,6] (qc r i (Ee r i) (aU r.l i).cm.l.length):=rfl;have e3:sT r i=lC 0 [0,6] (qd r i (aU r.l i).ey.l.length):=rfl;have hP:∀J,fb (ae f109 14) (qd r i ((0:Nat):Int)) (.exit 4) (qd r i (aU r.l i).ey.l.length) [b0,b1,b2,b3,b4,b5,b6,b7,b8,b9,dP,dT,dU] X Y J->fb (ae f109 14) (qd r i ((0:Nat):Int)) (.exit 4) (sT r i) [b0,b1,b2,b3,b4,b5,b6,b7,b8,b9,dP,dT,dU] X Y J:=λJ h=>h.SR (by rw[e3];exact dL _ _ _)
 by_cases h0:i=0
 ·subst h0;obtain⟨c,h1⟩:=L7 (aU r.l 0).name;have hD:fb (ae f109 9) (qc r 0 aR ((0:Nat):Int)) (.exit 2) (sT r 0) [b0,b1,b2,b3,b4,b5,b6,b7,b8,b9,dP,dT,dU] X Y [.cells (aU r.l 0).cells]:=(YY hk hr hi).SR (by rw[e1];exact dL _ _ _);have hb:=SM (ah (Om b0 b1 b2 b3 b4 b5 b6 b7 b8 b9 dP dT dU S X Y r c d) (bl (by omega))) (ct (.all h1));have hb:=SN (ah (ah (ah hb (bU hk)) (eO hD)) (eO (hP _ (abC hk hr hi)))) (ct (.all h2));exact rv (cS _ _ _) (jY (de ab)) hk (ah hb (bU hk)) rfl rfl rfl
 ·obtain⟨c,h1⟩:=HE r i (aU r.l i).name (by omega);have hD:fb (ae f109 9) (qc r i (Ee r i) ((0:Nat):Int)) (.exit 2) (sT r i) [b0,b1,b2,b3,b4,b5,b6,b7,b8,b9,dP,dT,dU] X Y [.cells (aU r.l i).cells,.dead,.tail i 1]:=(YZ hk hr hi).SR (by rw[e2];exact dL _ _ _);have hg:(0:Int)<=0/\(0:Int)<=(i:Int)/\(i:Int)<=(r.l.length:Int):=by omega
  have hJ:=V3 hk hr hi (by omega);have hb:=ah (ah (ah (On b0 b1 b2 b3 b4 b5 b6 b7 b8 b9 dP dT dU S X Y r i c d) (bl (by omega))) (bl hg)) (SK hJ);have hb:=SM hb (ct (.all h1));have hb:=SN (ah (ah (ah hb (bU hk)) (eO hD)) (eO (hP _ (abD hk hr hi i)))) (ct (.all h2));exact rv (cS _ _ _) (jY (de (Oo ab))) hk (ah hb (bU hk)) rfl rfl rfl
end
structure Xn (I:aJ->Prop):Prop where
 add:∀p s,s.sm->I p->I (p.add s)
 home:∀p h,I p->I (p.atHome h)
theorem iu {α β:Type}{I:β->Prop}{f:β->α->β}:∀(l:List α) (p:β),(∀q,I q->∀x∈l,I (f q x))->I p->I (l.foldl f p)
 |[],p,_,h=>h
 |x::r,p,hf,h=>iu r (f p x) (λq hq y hy=>hf q hq y (ahn _ hy)) (hf p h x (ahD ..))
theorem SS:NA.sm:=by unfold NA jh.sm dg;simp
theorem yd:AS.sm:=by
 unfold AS;simp only[az.sm,az.Nz];refine⟨by decide,⟨by decide,λx hx=>by simp at hx⟩,⟨by decide,trivial⟩,⟨by decide,λx hx=>by simp at hx⟩,by decide,⟨by decide,λx hx=>by simp at hx⟩,⟨by decide,λx hx=>by simp at hx⟩,by decide,⟨by decide,λx hx=>by simp at hx⟩,SS⟩
theorem Ef:FY.sm:=by
 refine⟨by decide,⟨by decide,λx hx=>by simp[FY]at hx⟩,SS⟩
theorem Eg:JN.sm:=by
 unfold JN aP.sm dg aq;simp[jh.sm,NA]
 all_goals first|decide|skip
theorem vc (s:ByteArray) (k:Int):(gS s k).sm:=⟨yd,Ef,Eg⟩
theorem V4 (s:ByteArray){e:bt}(h:e.sm):(nC s e).sm:=⟨yd,h,Eg⟩
theorem L9 (s:ByteArray) (k:Int){f:aP}(h:f.sm):(mG s k f).sm:=⟨yd,Ef,h⟩
theorem V5 (s:ByteArray){m:az}(h:m.sm):(gI s m).sm:=⟨h,Ef,Eg⟩
section
variable {I:aJ->Prop}(K:Xn I)
include K
theorem Ae (sc:ByteArray) (l:List eT) (p:aJ) (h:I p):I (dK sc l p):=iu l p (λq hq x _=>K.add _ _ (vc _ _) hq) h
theorem Eh (sc:ByteArray) (p:aJ) (e:bt) (he:e.sm) (h:I p):I (jE sc p e):=Ae K _ _ _ (K.add _ _ (V4 _ he) h)
theorem vd (sc:ByteArray) (l:List aP) (hl:∀x∈l,x.sm) (p:aJ) (h:I p):I (dN sc l p):=iu l p (λq hq x hx=>K.add _ _ (L9 _ _ (hl x hx)) hq) h
theorem Af (sc:ByteArray) (l:List aP) (hl:∀x∈l,x.sm) (p:aJ) (h:I p):I (bJ sc l p):=iu l p (λq hq x hx=>K.add _ _ (L9 _ _ (hl x hx)) hq) h
theorem Ag (sc:ByteArray) (l:List cF) (p:aJ) (h:I p):I (bW sc l p):=iu l p (λq hq x _=>K.add _ _ (vc _ _) hq) h
theorem sU (sc:ByteArray) (l:List bt) (hl:∀x∈l,x.sm) (p:aJ) (h:I p):I (bK sc l p):=iu l p (λq hq x hx=>Eh K sc q x (hl x hx) hq) h
mutual
theorem HF:∀(sc:ByteArray) (p:aJ) (m:az),m.sm->I p->I (im sc p m)
 |sc,p,.mk name af mN aC aQ bB exts aI bp bY opts dE,hm,h=>by
  have hs:=hm;simp only[az.sm]at hs;obtain⟨_,h2,⟨_,h4⟩,h5,_,h7,_⟩:=hs;simp only[im];exact vd K _ _ h7.2 _ (sU K _ _ h5.2 _ (pK _ _ aC h4 (Ag K _ _ _ (Af K _ _ h2.2 _ (K.add _ _ (V5 _ hm) h)))))
theorem pK:∀(sc:ByteArray) (p:aJ) (l:List az),az.Nz l->I p->I (bF sc p l)
 |sc,p,[],_,h=>by have:=K;simpa only[bF]using h
 |sc,p,m::r,hl,h=>by
  simp only[az.Nz]at hl;simp only[bF];exact pK sc _ r hl.2 (HF sc p m hl.1 h)
end
theorem ve:∀(n:Nat) (s:ByteArray) (p:aJ),I p->I (fg n s p)
 |0,_,p,h=>h
 |n+1,s,p,h=>by
  unfold fg
  cases qU s with
  |true=>exact h
  |false=>exact ve n _ _ (K.add _ _ (vc _ _) h)
theorem xA (sc:ByteArray) (p:aJ) (s:bN) (h:I p):I (iU sc p s):=iu _ _ (λq hq x _=>K.add _ _ (vc _ _) hq) (K.add _ _ (vc _ _) h)
theorem vY (sc:ByteArray) (l:List bN) (p:aJ) (h:I p):I (dp sc l p):=iu l p (λq hq x _=>xA K sc q x hq) h
theorem SU:∀(l:List az),(∀x∈l,x.sm)->az.Nz l
 |[],_=>by have:=K;simp only[az.Nz]
 |x::r,h=>by simp only[az.Nz];exact⟨h x (ahD ..),SU r (λy hy=>h y (ahn _ hy))⟩
theorem Ei (p:aJ) (f:ag) (hf:f.sm) (h:I p):I (jF p f):=by
 obtain⟨_,_,_,_,h5,h6,h7,h8,_⟩:=hf;exact vd K _ _ h8.2 _ (vY K _ _ _ (sU K _ _ h6.2 _ (pK K _ _ _ (SU K _ h5.2) (ve K _ _ _ (K.home _ _ h)))))
theorem sV (l:List ag) (hl:∀f∈l,f.sm) (p:aJ) (h:I p):I (eW l p):=iu l p (λq hq x hx=>Ei K q x (hl x hx) hq) h
end
theorem Ma (r:aX ag):Xn (λp=>(∀x∈p.s.l,x.sm)/\p.f=r):=by
 refine⟨λp s hs h=> ?_,λp h hp=>hp⟩;unfold aJ.add;cases (p.e !=0)with
 |true=>exact h
 |false=>
  cases gR p s with
  |true=>exact h
  |false=>
   cases decide (cw p s.full≥0)with
   |true=>exact h
   |false=>
    refine⟨λx hx=> ?_,h.2⟩;simp only[cond_false,aJ.more]at hx;rcases ahC.1 hx with hx|hx
    ·exact h.1 x hx
    ·simp only[aiy]at hx;subst hx;exact hs
theorem V6 (r:aX ag) (hr:bw ag.sz r.l<=bL):(gC r).done.sm:=by
 have hf:∀f∈r.l,f.sm:=λf hf=>ag.dD (ahx (cf (f:=ag.sz) hf) hr)
 have hlen:=cy (f:=ag.sz) (l:=r.l) (λx _=>x.bT);have h:=sV (Ma r) r.l hf (fS r) ⟨λx hx=>by simp[fS]at hx,rfl⟩;have hl:=py r.l (fS r);have e0:(fS r).s.l.length=0:=rfl;unfold bL at hr;refine⟨⟨?_,h.1⟩,?_⟩
 ·show (gC r).s.l.length<=lim;unfold gC lim;omega
 ·show ((gC r).f).sm ag.sm;have e:(gC r).f=r:=h.2;rw[e];exact⟨by unfold dg;omega,hf⟩
def unC (f:ag):List AV:=[aS f.name,f.cm.av,f.ey.av]
def Ke (r:aX ag):Nat->List AV:=λi=>unC (r.l.getD i default)
def eY (r:aX ag):AV:= .aY (r.l.length==0) 3 r.l.length (Ke r) .dA
def V7 (r:aX ag) (acc:AV) (i:Int):List AV:=bz 24 [(3,acc),(6,r.av 11 ag.cells),(7,i64 r.l.length),(8,i64 i)]
def SV (r:aX ag) (p:ByteArray) (v i:Int):List AV:=bz 20 [(1,aS p),(4,i64 v),(7,eY r),(8,i64 r.l.length),(9,i64 i)]
def T23 (l:bD) (s:ByteArray) (b:Bool) (i:Int):List AV:=bz 17 [(1,aS s),(4,cY b),(7,l.av),(8,i64 l.l.length),(9,i64 i)]
def T22 (l:bD) (s:ByteArray) (i:Int):List AV:=bz 44 [(0,l.av),(1,aS s),(5,i64 i)]
theorem HG (r:aX ag):(db prog (cK []) aN [] 3 (ae f110 3) (V7 r aR 0) []).via (cz [3,6,7,8] [0] 2)=bif (decide (0<(r.l.length:Int)))then bif (decide ((0:Int)<=0/\0<(r.l.length:Int)))then some (⟨.normal,(bz 24 [(3,(.aY false 3 1 (bI 0 (λx=>[]) (rowOf 3 [(aS ((r.l.getD (Int.toNat (0:Int)) default).name)),((r.l.getD (Int.toNat (0:Int)) default).cm.av),((r.l.getD (Int.toNat (0:Int)) default).ey.av)])) (.tok 1))),(6,(r.av 11 ag.cells)),(7,(i64 ((r.l.length:Int)))),(8,(i64 (IntKind.i64.wrap ((0:Int)+(1:Int)))))]),[.dead,(.tail 1 3)],[0],true⟩)else none else some (⟨(.exit 0),(bz 24 [(3,(aR)),(6,(r.av 11 ag.cells)),(7,(i64 ((r.l.length:Int)))),(8,(.sc (.int .i64 0)))]),[],[],true⟩):=by kernel_rfl
theorem HI (r:aX ag) (i:Nat):(db prog (cK []) aN [] 3 (ae f110 3) (V7 r (.aY false 3 i (Ke r) (.tok 1)) i) [.dead,.tail i 3]).via (cz [3,6,7,8] [] 2)=bif (decide ((i:Int)<(r.l.length:Int)))then bif (decide (0<=(i:Int)/\(i:Int)<(r.l.length:Int)))then bif (decide ((i+(1:Nat))*prog.types[(269:Nat)].bytes<=(2:Nat) ^ (46:Nat)/\i+(1:Nat)<(2:Nat) ^ (62:Nat)))then bif (decide (i=i))then some (⟨.normal,(bz 24 [(3,(.aY false 3 (i+(1:Nat)) (bI (i) (Ke r) (rowOf 3 [(aS ((r.l.getD (i:Int).toNat default).name)),((r.l.getD (i:Int).toNat default).cm.av),((r.l.getD (i:Int).toNat default).ey.av)])) (.tok 1))),(6,(r.av 11 ag.cells)),(7,(i64 ((r.l.length:Int)))),(8,(i64 (IntKind.i64.wrap ((i:Int)+(1:Int)))))]),[.dead,(.tail (i+(1:Nat)) 3)],[1],true⟩)else none else none else none else some (⟨(.exit 0),(bz 24 [(3,(.aY false 3 (i) (Ke r) (.tok 1))),(6,(r.av 11 ag.cells)),(7,(i64 ((r.l.length:Int)))),(8,(i64 ((i:Int))))]),[.dead,(.tail (i) 3)],[],true⟩):=by kernel_rfl
theorem SX (r:aX ag) (x:AV) (H:aa):(eb prog (cK []) (cJ prog [⟨3,[3,6,7,8],.exit 0,V7 r x r.l.length,H,[]⟩] aN) [] 3 110 [r.av 11 ag.cells] []).via (ch)=bif (cj prog (ae f110 3) (bz 24 [(3,(aR)),(6,(r.av 11 ag.cells)),(7,(i64 ((r.l.length:Int)))),(8,(.sc (.int .i64 0)))]) [] (.exit 0) (bz 24 [(3,(x)),(6,(r.av 11 ag.cells)),(7,(i64 ((r.l.length:Int)))),(8,(i64 ((r.l.length:Int))))]) (H) [])then some ((x))else none:=by kernel_rfl
theorem Ah (r:aX ag) (p:ByteArray) (i:Nat):(db prog (cK []) aN [] 3 (ae f185 2) (SV r p 0 i) []).via (cz [1,4,7,8,9] [] 0)=bif (decide ((i:Int)<(r.l.length:Int)))then bif (decide (0<=(i:Int)/\(i:Int)<(r.l.length:Int)))then bif ((r.l.getD (i:Int).toNat default).name.toList==p.toList)then some (⟨.ret,(bz 20 [(1,(aS (p))),(4,(i64 ((i:Int)))),(7,(eY r)),(8,(i64 ((r.l.length:Int)))),(9,(i64 ((i:Int))))]),[],[],true⟩)else some (⟨.normal,(bz 20 [(1,(aS (p))),(4,(.sc (.int .i64 0))),(7,(eY r)),(8,(i64 ((r.l.length:Int)))),(9,(i64 (IntKind.i64.wrap ((i:Int)+(1:Int)))))]),[],[],true⟩)else none else some (⟨(.exit 0),(bz 20 [(1,(aS (p))),(4,(.sc (.int .i64 0))),(7,(eY r)),(8,(i64 ((r.l.length:Int)))),(9,(i64 ((i:Int))))]),[],[],true⟩):=by kernel_rfl
theorem SY (r:aX ag) (p:ByteArray) (i:Nat):(eb prog (cK []) (cJ prog [⟨2,[1,4,7,8,9],.exit 0,SV r p 0 i,[],[]⟩] aN) [] 3 185 [eY r,aS p] []).via (ch)=bif (cj prog (ae f185 2) (bz 20 [(1,(aS (p))),(4,(.sc (.int .i64 0))),(7,(eY r)),(8,(i64 ((r.l.length:Int)))),(9,(.sc (.int .i64 0)))]) [] (.exit 0) (bz 20 [(1,(aS (p))),(4,(.sc (.int .i64 0))),(7,(eY r)),(8,(i64 ((r.l.length:Int)))),(9,(i64 ((i:Int))))]) [] [])then some ((i64 (-0-1)))else none:=by kernel_rfl
theorem Oq (r:aX ag) (p:ByteArray) (i:Nat):(eb prog (cK []) (cJ prog [⟨2,[1,4,7,8,9],.ret,SV r p i i,[],[]⟩] aN) [] 3 185 [eY r,aS p] []).via (ch)=bif (cj prog (ae f185 2) (bz 20 [(1,(aS (p))),(4,(.sc (.int .i64 0))),(7,(eY r)),(8,(i64 ((r.l.length:Int)))),(9,(.sc (.int .i64 0)))]) [] .ret (bz 20 [(1,(aS (p))),(4,(i64 ((i:Int)))),(7,(eY r)),(8,(i64 ((r.l.length:Int)))),(9,(i64 ((i:Int))))]) [] [])then some ((i64 ((i:Int))))else none:=by kernel_rfl
theorem Ej (l:bD) (s:ByteArray) (i:Nat):(db prog (cK []) aN [] 3 (ae f23 2) (T23 l s false i) []).via (cz [1,4,7,8,9] [] 0)=bif (decide ((i:Int)<(l.l.length:Int)))then bif (decide (0<=(i:Int)/\(i:Int)<(l.l.length:Int)))then bif ((l.l.getD (i:Int).toNat aq).toList==s.toList)then some (⟨.ret,(bz 17 [(1,(aS (s))),(4,(.sc (.bool true))),(7,(l.av)),(8,(i64 ((l.l.length:Int)))),(9,(i64 ((i:Int))))]),[],[],true⟩)else some (⟨.normal,(bz 17 [(1,(aS (s))),(4,(.sc (.bool false))),(7,(l.av)),(8,(i64 ((l.l.length:Int)))),(9,(i64 (IntKind.i64.wrap ((i:Int)+(1:Int)))))]),[],[],true⟩)else none else some (⟨(.exit 0),(bz 17 [(1,(aS (s))),(4,(.sc (.bool false))),(7,(l.av)),(8,(i64 ((l.l.length:Int)))),(9,(i64 ((i:Int))))]),[],[],true⟩):=by kernel_rfl
theorem V8 (l:bD) (s:ByteArray) (i:Nat):(eb prog (cK []) (cJ prog [⟨2,[1,4,7,8,9],.exit 0,T23 l s false i,[],[]⟩] aN) [] 3 23 [l.av,aS s] []).via (ch)=bif (cj prog (ae f23 2) (bz 17 [(1,(aS (s))),(4,(.sc (.bool false))),(7,(l.av)),(8,(i64 ((l.l.length:Int)))),(9,(.sc (.int .i64 0)))]) [] (.exit 0) (bz 17 [(1,(aS (s))),(4,(.sc (.bool false))),(7,(l.av)),(8,(i64 ((l.l.length:Int)))),(9,(i64 ((i:Int))))]) [] [])then some ((.sc (.bool false)))else none:=by kernel_rfl
theorem SZ (l:bD) (s:ByteArray) (i:Nat):(eb prog (cK []) (cJ prog [⟨2,[1,4,7,8,9],.ret,T23 l s true i,[],[]⟩] aN) [] 3 23 [l.av,aS s] []).via (ch)=bif (cj prog (ae f23 2) (bz 17 [(1,(aS (s))),(4,(.sc (.bool false))),(7,(l.av)),(8,(i64 ((l.l.length:Int)))),(9,(.sc (.int .i64 0)))]) [] .ret (bz 17 [(1,(aS (s))),(4,(.sc (.bool true))),(7,(l.av)),(8,(i64 ((l.l.length:Int)))),(9,(i64 ((i:Int))))]) [] [])then some ((.sc (.bool true)))else none:=by kernel_rfl
theorem V9 (l:bD) (s:ByteArray) (i:Nat):(db prog (cK []) aN [] 3 (ae f22 2) (T22 l s i) []).via (cz [0,1,5] [] 0)=bif (bif (decide ((i:Int)<(l.l.length:Int)))then(decide (0<=(i:Int)/\(i:Int)<(l.l.length:Int)))else true)then bif (bif (decide ((i:Int)<(l.l.length:Int)))then(Op.bytesLess (l.l.getD (i:Int).toNat aq).toList s.toList)else false)then some (⟨.normal,(bz 44 [(0,(l.av)),(1,(aS (s))),(5,(i64 (IntKind.i64.wrap ((i:Int)+(1:Int)))))]),[],[],true⟩)else some (⟨(.exit 0),(bz 44 [(0,(l.av)),(1,(aS (s))),(5,(i64 ((i:Int))))]),[],[],true⟩)else none:=by kernel_rfl
theorem Wa (l:bD) (s:ByteArray) (i:Nat):(eb prog (cK []) (cJ prog [⟨2,[0,1,5],.exit 0,T22 l s i,[],[]⟩] aN) [] 3 22 [l.av,aS s] []).via (ch)=bif (cj prog (ae f22 2) (bz 44 [(0,(l.av)),(1,(aS (s))),(5,(.sc (.int .i64 0)))]) [] (.exit 0) (bz 44 [(0,(l.av)),(1,(aS (s))),(5,(i64 ((i:Int))))]) [] [])then bif (bif (decide ((i:Int)<(l.l.length:Int)))then(decide (0<=(i:Int)/\(i:Int)<(l.l.length:Int)))else true)then bif (bif (decide ((i:Int)<(l.l.length:Int)))then((l.l.getD (i:Int).toNat aq).toList==s.toList)else false)then some ((l.av))else bif (decide ((0:Int)<=none.getD (0:Int)/\none.getD 0<=(i:Int)/\(i:Int)=(i:Int)/\(i:Int)<=(l.l.length:Int)))then bif (decide (0<=(some (i:Int)).getD (0:Int)/\(some (i:Int)).getD (0:Int)<=none.getD (l.l.length:Int)/\none.getD (l.l.length:Int)<=(l.l.length:Int)))then bif (decide ((none.getD (l.l.length:Int)).toNat-((some (i:Int)).getD (0:Int)).toNat=(0:Nat)))then bif (decide (((i:Int).toNat-(none.getD (0:Int)).toNat+(1:Nat))*prog.types[(9:Nat)].bytes<=(2:Nat) ^ (46:Nat)/\(i:Int).toNat-(none.getD (0:Int)).toNat+(1:Nat)<(2:Nat) ^ (62:Nat)))then some ((.aY false 1 ((i:Int).toNat-(none.getD (0:Int)).toNat+(1:Nat)) (bI ((i:Int).toNat-(none.getD (0:Int)).toNat) (λi=>(λi=>[AV.sc (Value.string (l.l.getD i aq))]) (i+(none.getD (0:Int)).toNat)) (rowOf 1 [(aS (s))])) (.tok 0)))else none else bif (decide (((1:Nat)+((none.getD (l.l.length:Int)).toNat-((some (i:Int)).getD (0:Int)).toNat))*prog.types[(9:Nat)].bytes<=(2:Nat) ^ (46:Nat)/\(1:Nat)+((none.getD (l.l.length:Int)).toNat-((some (i:Int)).getD (0:Int)).toNat)<(2:Nat) ^ (62:Nat)))then bif (decide ((1:Nat)+((none.getD (l.l.length:Int)).toNat-((some (i:Int)).getD (0:Int)).toNat)=(0:Nat)))then some ((.aY (l.nl) 1 ((i:Int).toNat-(none.getD (0:Int)).toNat) (λi=>(λi=>[AV.sc (Value.string (l.l.getD i aq))]) (i+(none.getD (0:Int)).toNat)) .tight))else bif (decide (((i:Int).toNat-(none.getD (0:Int)).toNat+((1:Nat)+((none.getD (l.l.length:Int)).toNat-((some (i:Int)).getD (0:Int)).toNat)))*prog.types[(9:Nat)].bytes<=(2:Nat) ^ (46:Nat)/\(i:Int).toNat-(none.getD (0:Int)).toNat+((1:Nat)+((none.getD (l.l.length:Int)).toNat-((some (i:Int)).getD (0:Int)).toNat))<(2:Nat) ^ (62:Nat)))then some ((.aY false 1 ((i:Int).toNat-(none.getD (0:Int)).toNat+((1:Nat)+((none.getD (l.l.length:Int)).toNat-((some (i:Int)).getD (0:Int)).toNat))) (bI ((i:Int).toNat-(none.getD (0:Int)).toNat) (λi=>(λi=>[AV.sc (Value.string (l.l.getD i aq))]) (i+(none.getD (0:Int)).toNat)) (bI 1 (rowOf 1 [(aS (s))]) (λjg=>(λi=>[AV.sc (Value.string (l.l.getD i aq))]) (jg+((some (i:Int)).getD (0:Int)).toNat)))) (.tok 1)))else none else none else none else none else none else none:=by kernel_rfl
theorem S5 (n:Nat) (hn:n<=1000000000):decide ((n+1)*prog.types[(269:Nat)].bytes<=(2:Nat) ^ (46:Nat)/\n+1<(2:Nat) ^ (62:Nat))=true:=by
 have e1:prog.types[(269:Nat)].bytes=64:=by kernel_rfl
 rw[e1];have e2:(2:Nat) ^ 46=70368744177664:=by decide
 have e3:(2:Nat) ^ 62=4611686018427387904:=by decide
 rw[e2,e3];exact bl (by omega)
theorem Kf {P:Program}{c:Code}(T:Nat->List AV) (H:Nat->aa) (W:List Nat) (ex:bj) (hx:ex≠.normal) (n:Nat) (round:∀i,i<n->an P c (T i) (H i) .normal (T (i+1)) (H (i+1)) W) (out:an P c (T n) (H n) ex (T n) (H n) W):
  an P (.loop c) (T 0) (H 0) ex (T n) (H n) W:=by
 have key:∀d i,n-i=d->i<=n->∃k W',dX P c ex (T n) (H n) k (T i) (H i) W'/\∀l∈W',l∈W:=by
  intro d
  induction d with
  |zero=>
   intro i hd hi;have:i=n:=by omega
   subst this;exact⟨0,_,.out out hx,λl hl=>hl⟩
  |succ d ih=>
   intro i hd hi;obtain⟨k,W',hr,hw⟩:=ih (i+1) (by omega) (by omega);exact⟨k+1,_,.next (round i (by omega)) hr,λl hl=>by
    rcases ahC.1 hl with h|h
    ·exact h
    ·exact hw l h⟩
 obtain⟨k,W',hr,hw⟩:=key n 0 (by omega) (ag9 _);exact hr.ok.eI hw
theorem Ot (r:aX ag) (hr:r.l.length<=1000000000) (H:aa):bZ prog 110 [r.av 11 ag.cells] (eY r) H H []:=by
 have key:=Kf (P:=prog) (c:=ae f110 3) (λi=>V7 r (xW 3 (Ke r) i) (i:Nat)) (λi=>wK 3 i) [0,1] (.exit 0) (by simp) r.l.length (λi hi=>by
  cases i with
  |zero=>
   have hb:=ah (ah (HG r) (bl (by omega))) (bl (by omega));have ew:IntKind.i64.wrap ((0:Int)+(1:Int))=((0+1:Nat):Int):=wi (x:=(0:Int)+1) (by omega) (by omega);rw[ew]at hb;refine an.eI (W:=[0]) (an.eB (ai mixed (au _) ab hb rfl (by simp[wK]) (by simp[wK])) ?_) (by simp);exact Wk.tm (.cons (lp (el:=Ke r) rfl rfl) (.cons (.refl _) (.cons (.refl _) (.cons (.refl _) .nil))))
  |succ i=>
   have hb:=ah (ah (ah (ah (HI r (i+1)) (bl (by omega))) (bl (by omega))) (S5 (i+1) (by omega))) (bl rfl);have ew:IntKind.i64.wrap (((i+1:Nat):Int)+(1:Int))=((i+1+1:Nat):Int):=wi (x:=((i+1:Nat):Int)+1) (by omega) (by omega);rw[ew]at hb;refine an.eI (W:=[1]) (an.eB (ai mixed (au _) ab hb rfl (by simp[wK]) (by simp[wK])) ?_) (by simp);exact Wk.tm (.cons (lq (el:=Ke r) rfl rfl) (.cons (.refl _) (.cons (.refl _) (.cons (.refl _) .nil))))) (by
  generalize hn:r.l.length=n
  cases n with
  |zero=>
   have hb:=bO (HG r) (da (by omega));have:=ai mixed (au _) ab hb rfl (by simp) (by simp);exact an.eI (W:=[]) this (by simp)
  |succ n=>
   have hb:=bO (HI r (n+1)) (da (by omega));have:=ai mixed (au _) ab hb rfl (by simp) (by simp);exact an.eI (W:=[]) this (by simp))
 have key:=key.wr (Wr':=[]) (λl _ hl=>absurd hl (ahg _));exact bG mixed (au _) (ba ab) (ah (SX r _ _) (bc key)) rfl (Q7 (λi hi=>rfl)) bQ (ao (.aY _ _ _ _ _ (by simp)) bC) H
theorem rz (r:aX ag) (p:ByteArray) (hr:r.l.length<=1000000000):∃k:Int,(k= -1∨(0<=k/\k<r.l.length))/\∀H,bZ prog 185 [eY r,aS p] (i64 k) H H []:=by
 have lf:∀a∈[eY r,aS p],LF a:=ao bQ (u6 (.sc _));have hl:=iS (P:=prog) (c:=ae f185 2) (λi=>SV r p 0 (i:Nat)) (λi=>SV r p (i:Nat) (i:Nat)) (λi=>(r.l.getD i default).name.toList==p.toList) (.exit 0) (by simp) r.l.length (λi hi hc=>by
  have hb:=ah (ah (ah (Ah r p i) (bl (by omega))) (bl (by omega))) hc;exact ai mixed (au _) ab hb rfl (ag3 _) (by simp)) (λi hi hc=>by
  have hb:=bO (ah (ah (Ah r p i) (bl (by omega))) (bl (by omega))) hc;have ew:IntKind.i64.wrap ((i:Int)+(1:Int))=((i+1:Nat):Int):=wi (x:=(i:Int)+1) (by omega) (by omega);rw[ew]at hb;exact ai mixed (au _) ab hb rfl (ag3 _) (by simp)) (by
  have hb:=bO (Ah r p r.l.length) (da (by omega));exact ai mixed (au _) ab hb rfl (ag3 _) (by simp))
 rcases hl with ⟨h,_⟩|⟨j,hj,_,_,h⟩
 ·exact⟨-1,.inl rfl,λH=>fu (ba ab) (ah (SY r p _) (bc h)) (.sc _) lf H⟩
 ·exact⟨j,.inr ⟨by omega,by omega⟩,λH=>fu (ba ab) (ah (Oq r p _) (bc h)) (.sc _) lf H⟩
def Ey (l:List ByteArray) (s:ByteArray):Bool:=l.any (λx=>x.toList==s.toList)
theorem HJ (l:bD) (s:ByteArray) (hr:l.l.length<=1099511627776) (H:aa):bZ prog 23 [l.av,aS s] (cY (Ey l.l s)) H H []:=by
 have lf:∀a∈[l.av,aS s],LF a:=ao bQ (u6 (.sc _));have hl:=iS (P:=prog) (c:=ae f23 2) (λi=>T23 l s false (i:Nat)) (λi=>T23 l s true (i:Nat)) (λi=>(l.l.getD i aq).toList==s.toList) (.exit 0) (by simp) l.l.length (λi hi hc=>by
  have hb:=ah (ah (ah (Ej l s i) (bl (by omega))) (bl (by omega))) hc;exact ai mixed (au _) ab hb rfl (ag3 _) (by simp)) (λi hi hc=>by
  have hb:=bO (ah (ah (Ej l s i) (bl (by omega))) (bl (by omega))) hc;have ew:IntKind.i64.wrap ((i:Int)+(1:Int))=((i+1:Nat):Int):=wi (x:=(i:Int)+1) (by omega) (by omega);rw[ew]at hb;exact ai mixed (au _) ab hb rfl (ag3 _) (by simp)) (by
  have hb:=bO (Ej l s l.l.length) (da (by omega));exact ai mixed (au _) ab hb rfl (ag3 _) (by simp))
 have fx:∀i (hi:i<l.l.length),l.l.getD i aq=l.l[i]:=λi hi=>by simp[ag4,hi]
 rcases hl with ⟨h,fy⟩|⟨j,hj,hc,_,h⟩
 ·have e:Ey l.l s=false:=by
   unfold Ey;rw[List.any_eq_false];intro x hx;obtain⟨i,hi,rfl⟩:=ah0 hx;rw[←fx i hi,fy i hi];simp
  rw[e];exact fu (ba ab) (ah (V8 l s _) (bc h)) (.sc _) lf H
 ·have e:Ey l.l s=true:=by
   unfold Ey;rw[List.any_eq_true];exact⟨l.l[j],ahG hj,by rw[←fx j hj];exact hc⟩
  rw[e];exact fu (ba ab) (ah (SZ l s _) (bc h)) (.sc _) lf H
theorem Wb {n:Nat}{el:Nat->List AV}{own:Own}(h:∀i,i<n->∃s,el i=[aS s]):∃r:bD,r.l.length=n/\ev (.aY false 1 n el own) r.av:=by
 have h':∀i:Nat,∃s,i<n->el i=[aS s]:=λi=>by
  by_cases hi:i<n
  ·obtain⟨s,hs⟩:=h i hi;exact⟨s,λ_=>hs⟩
  ·exact⟨aq,λh=>absurd h hi⟩
 obtain⟨f,hf⟩:=aip h';refine⟨⟨false,(List.range n).map f⟩,by simp,?_⟩;unfold bD.av;simp only[air,List.length_range];exact ev.row (λi hi=>by rw[hf i hi];simp[ag4,hi];rfl)
theorem pL (n:Nat) (hn:n<=4398046511000):decide (n*prog.types[(9:Nat)].bytes<=(2:Nat) ^ (46:Nat)/\n<(2:Nat) ^ (62:Nat))=true:=by
 have e1:prog.types[(9:Nat)].bytes=16:=by kernel_rfl
 rw[e1];have e2:(2:Nat) ^ 46=70368744177664:=by decide
 have e3:(2:Nat) ^ 62=4611686018427387904:=by decide
 rw[e2,e3];exact bl (by omega)
theorem Cp (l:bD) (s:ByteArray) (hr:l.l.length<=1000000000000):∃r:bD,r.l.length<=l.l.length+1/\∀H,bZ prog 22 [l.av,aS s] r.av H H []:=by
 have lf:∀a∈[l.av,aS s],LF a:=ao bQ (u6 (.sc _));have hl:=iE (P:=prog) (c:=ae f22 2) (λm T H=>∃i:Nat,i<=l.l.length/\m=l.l.length-i/\T=T22 l s i/\H=[])
  (λx T H=>H=[]/\∃i:Nat,i<=l.l.length/\x= .exit 0/\T=T22 l s i) 0 (by
  rintro m T H ⟨i,hi,rfl,rfl,rfl⟩;have hb:=ah (V9 l s i) (gd (λh=>by omega));cases hc:(bif (decide ((i:Int)<(l.l.length:Int)))then(Op.bytesLess (l.l.getD (i:Int).toNat aq).toList s.toList)else false)with
  |true=>
   have cO:=VK hc;have hb:=ah hb hc;have ew:IntKind.i64.wrap ((i:Int)+(1:Int))=((i+1:Nat):Int):=wi (x:=(i:Int)+1) (by omega) (by omega);rw[ew]at hb;exact⟨_,_,_,_,ai mixed (au _) ab hb rfl (ag3 _) (by simp),λ_ _=>ag9 _,.inl ⟨rfl,l.l.length-(i+1),by omega,i+1,by omega,rfl,rfl,rfl⟩⟩
  |false=>
   have hb:=bO hb hc;exact⟨_,_,_,_,ai mixed (au _) ab hb rfl (ag3 _) (by simp),λ_ _=>ag9 _,.inr ⟨by simp,rfl,i,hi,rfl,rfl⟩⟩)
 obtain⟨x,T',H',W,dC,_,rfl,i,hi,rfl,rfl⟩:=hl _ _ _ ⟨0,ag9 _,rfl,rfl,rfl⟩;have dC:=dC.wr (Wr':=[]) (λl _ hl=>absurd hl (ahg _));have hb:=ah (ah (Wa l s i) (bc dC)) (gd (λh=>by omega));rcases lK hb with hb|hb
 ·exact⟨l,by omega,λH=>fu (ba ab) hb bQ lf H⟩
 ·have g1:(0:Int)<=0/\(0:Int)<=(i:Int)/\(i:Int)=(i:Int)/\(i:Int)<=(l.l.length:Int):=by omega
  have g2:(0:Int)<=(i:Int)/\(i:Int)<=(l.l.length:Int)/\(l.l.length:Int)<=(l.l.length:Int):=by omega
  have hb:=ah (ah hb (bl g1)) (bl g2);have fin:∀(n:Nat) (el:Nat->List AV) (t:Nat),n<=l.l.length+1->(∀k,k<n->∃s,el k=[aS s])->(eb prog (cK []) (cJ prog [⟨2,[0,1,5],.exit 0,T22 l s i,[],[]⟩] aN) [] 3 22 [l.av,aS s] []).via ch=some (.aY false 1 n el (.tok t))->∃r:bD,r.l.length<=l.l.length+1/\∀H,bZ prog 22 [l.av,aS s] r.av H H []:=λn el t hn KQ hb=>by
   obtain⟨r,h1,h2⟩:=Wb (own:= .tok t) KQ;exact⟨r,by omega,λH=>bG mixed (au _) (ba ab) hb rfl h2 bQ lf H⟩
  by_cases hc:l.l.length-i=0
  ·have hb:=ah (ah hb (bl hc)) (pL (i-0+1) (by omega));refine fin _ _ _ ?_ ?_ hb
   ·show i-0+1<=_;omega
   ·intro k hk;unfold bI;by_cases Pd:k<(i:Int).toNat-(none.getD (0:Int)).toNat
    ·rw[if_pos Pd];exact⟨_,rfl⟩
    ·rw[if_neg Pd];have:k-((i:Int).toNat-(none.getD (0:Int)).toNat)=0:=by
      have e:(i:Int).toNat-(none.getD (0:Int)).toNat=i:=by simp
      rw[e]at hk ⊢;omega
     rw[this];exact⟨s,rfl⟩
  ·have hb:=ah (bO hb (da hc)) (pL (1+(l.l.length-i)) (by omega));have hb:=ah (bO hb (da (by omega))) (pL (i-0+(1+(l.l.length-i))) (by omega));refine fin _ _ _ ?_ ?_ hb
   ·show i-0+(1+(l.l.length-i))<=_;omega
   ·intro k hk;unfold bI;by_cases Pd:k<(i:Int).toNat-(none.getD (0:Int)).toNat
    ·rw[if_pos Pd];exact⟨_,rfl⟩
    ·rw[if_neg Pd];by_cases nz:k-((i:Int).toNat-(none.getD (0:Int)).toNat)<1
     ·rw[if_pos nz];have:k-((i:Int).toNat-(none.getD (0:Int)).toNat)=0:=by omega
      rw[this];exact⟨s,rfl⟩
     ·rw[if_neg nz];exact⟨_,rfl⟩
end Go.Proofs.YtiipaliigpkfhaaGreat.Ab
