/- Lemmas 9. -/
import Derived.Test.YtiipaliigpkfhaaGreatVP8
set_option maxRecDepth 100000
namespace Go.Proofs.YtiipaliigpkfhaaGreat.Ab
open Go Go.RowKit Go.Proofs Go.Proofs.Tryz
def bJ (sc:ByteArray) (l:List aP) (p:aJ):aJ:=l.foldl (λp f=>p.add (mG (ar sc f.name) 5 f)) p
def bW (sc:ByteArray) (l:List cF) (p:aJ):aJ:=l.foldl (λp f=>p.add (gS (ar sc f.name) 7)) p
def bK (sc:ByteArray) (l:List bt) (p:aJ):aJ:=l.foldl (jE sc) p
mutual
def im:ByteArray->aJ->az->aJ
 |sc,p,.mk name af mN aC aQ bB exts aI bp bY opts dE=>
  dN (ar sc name) exts.l (bK (ar sc name) aQ.l (bF (ar sc name) (bW (ar sc name) aI.l (bJ (ar sc name) af.l (p.add (gI (ar sc name) (.mk name af mN aC aQ bB exts aI bp bY opts dE))))) aC))
def bF:ByteArray->aJ->List az->aJ
 |sc,p,[]=>p
 |sc,p,m::r=>bF sc (im sc p m) r
end
theorem ki (sc:ByteArray):∀(l:List az) (p:aJ),bF sc p l=l.foldl (im sc) p
 |[],p=>by simp[bF]
 |m::r,p=>by simp only[bF,ah7];exact ki sc r _
theorem NH (sc:ByteArray) (p:aJ) (m:az):im sc p m=dN (ar sc m.name) m.exts.l (bK (ar sc m.name) m.aQ.l (bF (ar sc m.name) (bW (ar sc m.name) m.aI.l (bJ (ar sc m.name) m.af.l (p.add (gI (ar sc m.name) m)))) m.aC)):=by
 cases m;simp only[im,az.name,az.af,az.aC,az.aQ,az.exts,az.aI]
theorem nD (sc:ByteArray) (l:List aP) (p:aJ):(bJ sc l p).s.l.length<=p.s.l.length+bw aP.sz l:=
 ll _ aP.sz (λq x=>by have:=q.jb (mG (ar sc x.name) 5 x);have:=x.bT;omega) l p
theorem nE (sc:ByteArray) (l:List cF) (p:aJ):(bW sc l p).s.l.length<=p.s.l.length+bw cF.sz l:=
 ll _ cF.sz (λq x=>by have:=q.jb (gS (ar sc x.name) 7);have:=x.bT;omega) l p
theorem jd (sc:ByteArray) (l:List bt) (p:aJ):(bK sc l p).s.l.length<=p.s.l.length+bw bt.sz l:=
 ll _ bt.sz (λq x=>F5 sc q x) l p
mutual
theorem JQ:∀(sc:ByteArray) (p:aJ) (m:az),(im sc p m).s.l.length<=p.s.l.length+m.sz
 |sc,p,.mk name af mN aC aQ bB exts aI bp bY opts dE=>by
  simp only[im,az.sz];have h1:=p.jb (gI (ar sc name) (.mk name af mN aC aQ bB exts aI bp bY opts dE));have h2:=nD (ar sc name) af.l (p.add (gI (ar sc name) (.mk name af mN aC aQ bB exts aI bp bY opts dE)));have h3:=nE (ar sc name) aI.l (bJ (ar sc name) af.l (p.add (gI (ar sc name) (.mk name af mN aC aQ bB exts aI bp bY opts dE))));have h4:=iT (ar sc name) (bW (ar sc name) aI.l (bJ (ar sc name) af.l (p.add (gI (ar sc name) (.mk name af mN aC aQ bB exts aI bp bY opts dE))))) aC;have h5:=jd (ar sc name) aQ.l (bF (ar sc name) (bW (ar sc name) aI.l (bJ (ar sc name) af.l (p.add (gI (ar sc name) (.mk name af mN aC aQ bB exts aI bp bY opts dE))))) aC);have h6:=ra (ar sc name) exts.l (bK (ar sc name) aQ.l (bF (ar sc name) (bW (ar sc name) aI.l (bJ (ar sc name) af.l (p.add (gI (ar sc name) (.mk name af mN aC aQ bB exts aI bp bY opts dE))))) aC));unfold aX.sz;omega
theorem iT:∀(sc:ByteArray) (p:aJ) (l:List az),(bF sc p l).s.l.length<=p.s.l.length+az.BP l
 |sc,p,[]=>by simp[bF]
 |sc,p,m::r=>by
  simp only[bF,az.BP];have h1:=JQ sc p m;have h2:=iT sc (im sc p m) r;omega
end
theorem jy {α:Type} [Inhabited α] (f:α->Nat) (l:List α) (i:Nat) (hi:i<l.length):bw f (l.take (i+1))=bw f (l.take i)+f (l.getD i default):=by
 induction l generalizing i with
 |nil=>simp at hi
 |cons x r ih=>
  cases i with
  |zero=>simp[bw]
  |succ i=>
   have:=ih i (by simpa using hi);rw[ah5,ah5,eh,eh,this];simp only[List.getD_cons_succ];omega
def fa (l:List cF) (i:Nat):cF:=l.getD i default
def aA (l:List az) (i:Nat):az:=l.getD i default
def bh (l:List bt) (i:Nat):bt:=l.getD i default
def U2 (m:az):AV:= .aY m.mN 11 m.aC.length (λi=>(m.aC.getD i default).one) .dA
theorem Lu (m:az):Wk m.two m.one:= .cons (.refl _) (.cons (.refl _) (.cons (.aY (λi hi=>(m.Qs i hi).symm)) (.refl _)))
section
variable (m:az) (sc:ByteArray)
def uJ (i:Int):List AV:=bz 84 [(0,.ptr 0 0),(4,.ptr 2 0),(6,aS sc),(25,m.af.av 13 aP.cells),(26,i64 m.af.l.length),(27,i64 i)]
theorem BR (o1 o2 a1 a2:bu) (i:Nat):(db prog (cK []) (eV prog [⟨38,.bq [],[a1,a2,.cells m.two,.cells (bH m.af.l i).cells],[0,1]⟩] (told prog [] [⟨35,0,aS (ar sc (bH m.af.l i).name)⟩])) [] 3 (ae f197 4) (uJ m sc i) [o1,o2,.cells m.two]).via (cz [0,4,6,25,26,27] [] 3)=
  bif decide ((i:Int)<(m.af.l.length:Int))then bif decide ((0:Int)<=(i:Int)/\(i:Int)<(m.af.l.length:Int))then
  bif aD prog 186 [aS sc,aS (bH m.af.l i).name] [] (aS (ar sc (bH m.af.l i).name))then
  bif cW prog 196 [.ptr 0 0,.agg (vL (ar sc (bH m.af.l i).name) 5 fz fP (bH m.af.l i).cells)] [o1,o2,.cells m.two,.cells (bH m.af.l i).cells] (.bq []) [a1,a2,.cells m.two,.cells (bH m.af.l i).cells] [0,1]then
  some ⟨.normal,uJ m sc (IntKind.wrap .i64 ((i:Int)+1)),[a1,a2,.cells m.two],[0,1],tT 3 a1 a2⟩else none else none else none
  else some ⟨.exit 0,uJ m sc i,[o1,o2,.cells m.two],[],tT 3 o1 o2⟩:=by kernel_rfl
end
section
variable (m:az) (sc:ByteArray)
def uK (i:Int):List AV:=bz 84 [(0,.ptr 0 0),(4,.ptr 2 0),(6,aS sc),(41,m.aI.av 3 cF.cells),(42,i64 m.aI.l.length),(43,i64 i)]
theorem BS (o1 o2 a1 a2:bu) (i:Nat):(db prog (cK []) (eV prog [⟨53,.bq [],[a1,a2,.cells m.two,.cells (fa m.aI.l i).cells],[0,1]⟩] (told prog [] [⟨51,0,aS (ar sc (fa m.aI.l i).name)⟩])) [] 3 (ae f197 9) (uK m sc i) [o1,o2,.cells m.two]).via (cz [0,4,6,41,42,43] [] 3)=
  bif decide ((i:Int)<(m.aI.l.length:Int))then bif decide ((0:Int)<=(i:Int)/\(i:Int)<(m.aI.l.length:Int))then
  bif aD prog 186 [aS sc,aS (fa m.aI.l i).name] [] (aS (ar sc (fa m.aI.l i).name))then
  bif cW prog 196 [.ptr 0 0,.agg (vL (ar sc (fa m.aI.l i).name) 7 fz fP fQ)] [o1,o2,.cells m.two,.cells (fa m.aI.l i).cells] (.bq []) [a1,a2,.cells m.two,.cells (fa m.aI.l i).cells] [0,1]then
  some ⟨.normal,uK m sc (IntKind.wrap .i64 ((i:Int)+1)),[a1,a2,.cells m.two],[0,1],tT 3 a1 a2⟩else none else none else none
  else some ⟨.exit 2,uK m sc i,[o1,o2,.cells m.two],[],tT 3 o1 o2⟩:=by kernel_rfl
end
section
variable (m:az) (sc:ByteArray)
def uL (i:Int):List AV:=bz 84 [(0,.ptr 0 0),(4,.ptr 2 0),(6,aS sc),(56,U2 m),(57,i64 m.aC.length),(58,i64 i)]
theorem BT (o1 o2 a1 a2:bu) (i:Nat):(db prog (cK []) (eV prog [⟨65,.bq [],[a1,a2,.cells m.two,.cells (aA m.aC i).one],[0,1]⟩] (told prog [] [])) [] 3 (ae f197 14) (uL m sc i) [o1,o2,.cells m.two]).via (cz [0,4,6,56,57,58] [] 3)=
  bif decide ((i:Int)<(m.aC.length:Int))then bif decide ((0:Int)<=(i:Int)/\(i:Int)<(m.aC.length:Int))then
  bif cW prog 197 [.ptr 0 0,.agg (aA m.aC i).one,aS sc] [o1,o2,.cells m.two,.cells (aA m.aC i).one] (.bq []) [a1,a2,.cells m.two,.cells (aA m.aC i).one] [0,1]then
  some ⟨.normal,uL m sc (IntKind.wrap .i64 ((i:Int)+1)),[a1,a2,.cells m.two],[0,1],tT 3 a1 a2⟩else none else none
  else some ⟨.exit 4,uL m sc i,[o1,o2,.cells m.two],[],tT 3 o1 o2⟩:=by kernel_rfl
end
section
variable (m:az) (sc:ByteArray)
def uM (i:Int):List AV:=bz 84 [(0,.ptr 0 0),(4,.ptr 2 0),(6,aS sc),(68,m.aQ.av 4 bt.cells),(69,i64 m.aQ.l.length),(70,i64 i)]
theorem BU (o1 o2 a1 a2:bu) (i:Nat):(db prog (cK []) (eV prog [⟨77,.bq [],[a1,a2,.cells m.two,.cells (bh m.aQ.l i).cells],[0,1]⟩] (told prog [] [])) [] 3 (ae f197 19) (uM m sc i) [o1,o2,.cells m.two]).via (cz [0,4,6,68,69,70] [] 3)=
  bif decide ((i:Int)<(m.aQ.l.length:Int))then bif decide ((0:Int)<=(i:Int)/\(i:Int)<(m.aQ.l.length:Int))then
  bif cW prog 198 [.ptr 0 0,.agg (bh m.aQ.l i).cells,aS sc] [o1,o2,.cells m.two,.cells (bh m.aQ.l i).cells] (.bq []) [a1,a2,.cells m.two,.cells (bh m.aQ.l i).cells] [0,1]then
  some ⟨.normal,uM m sc (IntKind.wrap .i64 ((i:Int)+1)),[a1,a2,.cells m.two],[0,1],tT 3 a1 a2⟩else none else none
  else some ⟨.exit 6,uM m sc i,[o1,o2,.cells m.two],[],tT 3 o1 o2⟩:=by kernel_rfl
end
theorem QP (p:aJ) (m:az) (sc:ByteArray) (hp:p.s.l.length+bw aP.sz m.af.l<=cq) (hs:sc.size+bw aP.sz m.af.l<=cq):an prog (.loop (ae f197 4)) (uJ m sc ((0:Nat):Int)) [(bJ sc (m.af.l.take 0) p).o1,(bJ sc (m.af.l.take 0) p).o2,.cells m.two] (.exit 0) (uJ m sc (m.af.l.length:Nat)) [(bJ sc (m.af.l.take m.af.l.length) p).o1,(bJ sc (m.af.l.take m.af.l.length) p).o2,.cells m.two] [0,1]:=by
 refine dR (P:=prog) (c:=ae f197 4) (λi=>uJ m sc i) (λi=>[(bJ sc (m.af.l.take i) p).o1,(bJ sc (m.af.l.take i) p).o2,.cells m.two]) [0,1] (.exit 0) (by simp) (m.af.l.length) (λi hi=> ?_) ?_
 ·have hb:=BR m sc (bJ sc (m.af.l.take i) p).o1 (bJ sc (m.af.l.take i) p).o2 (bJ sc (m.af.l.take (i+1)) p).o1 (bJ sc (m.af.l.take (i+1)) p).o2 i;have hm:bH m.af.l i∈m.af.l:=bM hi;have hz:=cf (f:=aP.sz) hm;have hl:=nD sc (m.af.l.take i) p;have ht:=dM aP.sz m.af.l i;have e1:bJ sc (m.af.l.take (i+1)) p=(bJ sc (m.af.l.take i) p).add (mG (ar sc (bH m.af.l i).name) 5 (bH m.af.l i)):=gv _ _ _ _ hi;unfold cq at hp hs;have hlen:=cy (f:=aP.sz) (l:=m.af.l) (λx _=>x.bT);have hn:(bH m.af.l i).name.size<=aP.sz (bH m.af.l i):=by unfold aP.sz;omega
  rw[e1]at hb ⊢;rw[ag2 (by omega:(i:Int)<(m.af.l.length:Int)),ag2 (by omega:(0:Int)<=(i:Int)/\(i:Int)<(m.af.l.length:Int)),wi (x:=(i:Int)+1) (by omega) (by omega),ln (by omega) (by omega),bS (pt (bJ sc (m.af.l.take i) p) (mG (ar sc (bH m.af.l i).name) 5 (bH m.af.l i)) (by omega) (Lt _ _ _) _),ec _ (by omega)]at hb;exact ai mixed (au _) (bx aF) hb rfl (ag3 _) (by simp)
 ·have hb:=BR m sc (bJ sc (m.af.l.take m.af.l.length) p).o1 (bJ sc (m.af.l.take m.af.l.length) p).o2 (bJ sc (m.af.l.take m.af.l.length) p).o1 (bJ sc (m.af.l.take m.af.l.length) p).o2 (m.af.l.length);rw[ag8 (by omega),ec _ (by omega)]at hb;exact ai mixed (au _) (bx aF) hb rfl (ag3 _) (by simp)
theorem QQ (p:aJ) (m:az) (sc:ByteArray) (hp:p.s.l.length+bw cF.sz m.aI.l<=cq) (hs:sc.size+bw cF.sz m.aI.l<=cq):an prog (.loop (ae f197 9)) (uK m sc ((0:Nat):Int)) [(bW sc (m.aI.l.take 0) p).o1,(bW sc (m.aI.l.take 0) p).o2,.cells m.two] (.exit 2) (uK m sc (m.aI.l.length:Nat)) [(bW sc (m.aI.l.take m.aI.l.length) p).o1,(bW sc (m.aI.l.take m.aI.l.length) p).o2,.cells m.two] [0,1]:=by
 refine dR (P:=prog) (c:=ae f197 9) (λi=>uK m sc i) (λi=>[(bW sc (m.aI.l.take i) p).o1,(bW sc (m.aI.l.take i) p).o2,.cells m.two]) [0,1] (.exit 2) (by simp) (m.aI.l.length) (λi hi=> ?_) ?_
 ·have hb:=BS m sc (bW sc (m.aI.l.take i) p).o1 (bW sc (m.aI.l.take i) p).o2 (bW sc (m.aI.l.take (i+1)) p).o1 (bW sc (m.aI.l.take (i+1)) p).o2 i;have hm:fa m.aI.l i∈m.aI.l:=bM hi;have hz:=cf (f:=cF.sz) hm;have hl:=nE sc (m.aI.l.take i) p;have ht:=dM cF.sz m.aI.l i;have e1:bW sc (m.aI.l.take (i+1)) p=(bW sc (m.aI.l.take i) p).add (gS (ar sc (fa m.aI.l i).name) 7):=gv _ _ _ _ hi;unfold cq at hp hs;have hlen:=cy (f:=cF.sz) (l:=m.aI.l) (λx _=>x.bT);have hn:(fa m.aI.l i).name.size<=cF.sz (fa m.aI.l i):=by unfold cF.sz;omega
  rw[e1]at hb ⊢;rw[ag2 (by omega:(i:Int)<(m.aI.l.length:Int)),ag2 (by omega:(0:Int)<=(i:Int)/\(i:Int)<(m.aI.l.length:Int)),wi (x:=(i:Int)+1) (by omega) (by omega),ln (by omega) (by omega),bS (pt (bW sc (m.aI.l.take i) p) (gS (ar sc (fa m.aI.l i).name) 7) (by omega) (uH _ _) _),ec _ (by omega)]at hb;exact ai mixed (au _) (bx aF) hb rfl (ag3 _) (by simp)
 ·have hb:=BS m sc (bW sc (m.aI.l.take m.aI.l.length) p).o1 (bW sc (m.aI.l.take m.aI.l.length) p).o2 (bW sc (m.aI.l.take m.aI.l.length) p).o1 (bW sc (m.aI.l.take m.aI.l.length) p).o2 (m.aI.l.length);rw[ag8 (by omega),ec _ (by omega)]at hb;exact ai mixed (au _) (bx aF) hb rfl (ag3 _) (by simp)
theorem QR (p:aJ) (m:az) (sc:ByteArray) (hp:p.s.l.length+bw bt.sz m.aQ.l<=cq) (hs:sc.size+bw bt.sz m.aQ.l<=cq):an prog (.loop (ae f197 19)) (uM m sc ((0:Nat):Int)) [(bK sc (m.aQ.l.take 0) p).o1,(bK sc (m.aQ.l.take 0) p).o2,.cells m.two] (.exit 6) (uM m sc (m.aQ.l.length:Nat)) [(bK sc (m.aQ.l.take m.aQ.l.length) p).o1,(bK sc (m.aQ.l.take m.aQ.l.length) p).o2,.cells m.two] [0,1]:=by
 refine dR (P:=prog) (c:=ae f197 19) (λi=>uM m sc i) (λi=>[(bK sc (m.aQ.l.take i) p).o1,(bK sc (m.aQ.l.take i) p).o2,.cells m.two]) [0,1] (.exit 6) (by simp) (m.aQ.l.length) (λi hi=> ?_) ?_
 ·have hb:=BU m sc (bK sc (m.aQ.l.take i) p).o1 (bK sc (m.aQ.l.take i) p).o2 (bK sc (m.aQ.l.take (i+1)) p).o1 (bK sc (m.aQ.l.take (i+1)) p).o2 i;have hm:bh m.aQ.l i∈m.aQ.l:=bM hi;have hz:=cf (f:=bt.sz) hm;have hl:=jd sc (m.aQ.l.take i) p;have ht:=dM bt.sz m.aQ.l i;have e1:bK sc (m.aQ.l.take (i+1)) p=jE sc (bK sc (m.aQ.l.take i) p) (bh m.aQ.l i):=gv _ _ _ _ hi;unfold cq at hp hs;have hlen:=cy (f:=bt.sz) (l:=m.aQ.l) (λx _=>x.bT);have Iz:bw bt.sz (m.aQ.l.take (i+1))=bw bt.sz (m.aQ.l.take i)+bt.sz (bh m.aQ.l i):=jy _ _ _ hi;have ht3:=dM bt.sz m.aQ.l (i+1);rw[e1]at hb ⊢;rw[ag2 (by omega:(i:Int)<(m.aQ.l.length:Int)),ag2 (by omega:(0:Int)<=(i:Int)/\(i:Int)<(m.aQ.l.length:Int)),wi (x:=(i:Int)+1) (by omega) (by omega),bS (F7 (bK sc (m.aQ.l.take i) p) (bh m.aQ.l i) sc (by unfold cq;omega) (by unfold cq;omega) _),ec _ (by omega)]at hb;exact ai mixed (au _) (bx aF) hb rfl (ag3 _) (by simp)
 ·have hb:=BU m sc (bK sc (m.aQ.l.take m.aQ.l.length) p).o1 (bK sc (m.aQ.l.take m.aQ.l.length) p).o2 (bK sc (m.aQ.l.take m.aQ.l.length) p).o1 (bK sc (m.aQ.l.take m.aQ.l.length) p).o2 (m.aQ.l.length);rw[ag8 (by omega),ec _ (by omega)]at hb;exact ai mixed (au _) (bx aF) hb rfl (ag3 _) (by simp)
theorem QS (p:aJ) (m:az) (sc:ByteArray) (hp:p.s.l.length+bw az.sz m.aC<=cq) (hs:sc.size+bw az.sz m.aC<=cq) (rec:∀x∈m.aC,∀(q:aJ),q.s.l.length+x.sz<=cq->sc.size+x.sz<=cq->∀J,bZ prog 197 [.ptr 0 0,.agg x.one,aS sc] (.bq []) (q.o1::q.o2::J) ((im sc q x).o1::(im sc q x).o2::J) [0,1]):an prog (.loop (ae f197 14)) (uL m sc ((0:Nat):Int)) [(bF sc p (m.aC.take 0)).o1,(bF sc p (m.aC.take 0)).o2,.cells m.two] (.exit 4) (uL m sc (m.aC.length:Nat)) [(bF sc p (m.aC.take m.aC.length)).o1,(bF sc p (m.aC.take m.aC.length)).o2,.cells m.two] [0,1]:=by
 refine dR (P:=prog) (c:=ae f197 14) (λi=>uL m sc i) (λi=>[(bF sc p (m.aC.take i)).o1,(bF sc p (m.aC.take i)).o2,.cells m.two]) [0,1] (.exit 4) (by simp) (m.aC.length) (λi hi=> ?_) ?_
 ·have hb:=BT m sc (bF sc p (m.aC.take i)).o1 (bF sc p (m.aC.take i)).o2 (bF sc p (m.aC.take (i+1))).o1 (bF sc p (m.aC.take (i+1))).o2 i;have hm:aA m.aC i∈m.aC:=bM hi;have hz:=cf (f:=az.sz) hm;have hl:=iT sc p (m.aC.take i);rw[az.gA]at hl;have ht:=dM az.sz m.aC (i+1);have Iz:bw az.sz (m.aC.take (i+1))=bw az.sz (m.aC.take i)+az.sz (aA m.aC i):=jy _ _ _ hi;have e1:bF sc p (m.aC.take (i+1))=im sc (bF sc p (m.aC.take i)) (aA m.aC i):=by rw[ki,ki];exact gv _ _ _ _ hi
  unfold cq at hp hs;have hlen:=cy (f:=az.sz) (l:=m.aC) (λx _=>x.bT);rw[e1]at hb ⊢;rw[ag2 (by omega:(i:Int)<(m.aC.length:Int)),ag2 (by omega:(0:Int)<=(i:Int)/\(i:Int)<(m.aC.length:Int)),wi (x:=(i:Int)+1) (by omega) (by omega),bS (rec _ hm (bF sc p (m.aC.take i)) (by unfold cq;omega) (by unfold cq;omega) _),ec _ (by omega)]at hb;exact ai mixed (au _) (bx aF) hb rfl (ag3 _) (by simp)
 ·have hb:=BT m sc (bF sc p (m.aC.take m.aC.length)).o1 (bF sc p (m.aC.take m.aC.length)).o2 (bF sc p (m.aC.take m.aC.length)).o1 (bF sc p (m.aC.take m.aC.length)).o2 (m.aC.length);rw[ag8 (by omega),ec _ (by omega)]at hb;exact ai mixed (au _) (bx aF) hb rfl (ag3 _) (by simp)
theorem QT (m:az) (sc:ByteArray) (o1 o2 b1 b2 c1 c2 d1 d2 e1 e2 f1 f2 g1 g2:bu):(eb prog (cK []) (cJ prog [⟨4,[0,4,6,25,26,27],.exit 0,uJ m (ar sc m.name) m.af.l.length,[c1,c2,.cells m.two],[0,1]⟩,⟨9,[0,4,6,41,42,43],.exit 2,uK m (ar sc m.name) m.aI.l.length,[d1,d2,.cells m.two],[0,1]⟩,⟨14,[0,4,6,56,57,58],.exit 4,uL m (ar sc m.name) m.aC.length,[e1,e2,.cells m.two],[0,1]⟩,⟨19,[0,4,6,68,69,70],.exit 6,uM m (ar sc m.name) m.aQ.l.length,[f1,f2,.cells m.two],[0,1]⟩] (eV prog [⟨23,.bq [],[b1,b2,.cells m.two],[0,1]⟩,⟨83,.bq [],[g1,g2,.cells m.two],[0,1]⟩] (told prog [] [⟨18,0,aS (ar sc m.name)⟩]))) [] 3 197 [.ptr 0 0,.agg m.two,aS sc] [o1,o2]).via l7=
  bif aD prog 186 [aS sc,aS m.name] [] (aS (ar sc m.name))then
  bif cW prog 196 [.ptr 0 0,.agg (vL (ar sc m.name) 2 m.two fP fQ)] [o1,o2,.cells m.two] (.bq []) [b1,b2,.cells m.two] [0,1]then
  bif cj prog (ae f197 4) (uJ m (ar sc m.name) ((0:Nat):Int)) [b1,b2,.cells m.two] (.exit 0) (uJ m (ar sc m.name) m.af.l.length) [c1,c2,.cells m.two] [0,1]then
  bif cj prog (ae f197 9) (uK m (ar sc m.name) ((0:Nat):Int)) [c1,c2,.cells m.two] (.exit 2) (uK m (ar sc m.name) m.aI.l.length) [d1,d2,.cells m.two] [0,1]then
  bif cj prog (ae f197 14) (uL m (ar sc m.name) ((0:Nat):Int)) [d1,d2,.cells m.two] (.exit 4) (uL m (ar sc m.name) m.aC.length) [e1,e2,.cells m.two] [0,1]then
  bif cj prog (ae f197 19) (uM m (ar sc m.name) ((0:Nat):Int)) [e1,e2,.cells m.two] (.exit 6) (uM m (ar sc m.name) m.aQ.l.length) [f1,f2,.cells m.two] [0,1]then
  bif cW prog 199 [.ptr 0 0,m.exts.av 13 aP.cells,aS (ar sc m.name)] [f1,f2,.cells m.two] (.bq []) [g1,g2,.cells m.two] [0,1]then
  some (.bq [],[g1,g2])else none else none else none else none else none else none else none:=by kernel_rfl
theorem U3:∀(k:Nat) (m:az),m.sz<=k->∀(p:aJ) (sc:ByteArray),p.s.l.length+m.sz<=cq->sc.size+m.sz<=cq->∀J,bZ prog 197 [.ptr 0 0,.agg m.one,aS sc] (.bq []) (p.o1::p.o2::J) ((im sc p m).o1::(im sc p m).o2::J) [0,1]:=by
 intro k
 induction k with
 |zero=>intro m hm;have:=m.bT;omega
 |succ k ih=>
  intro m hm p sc hp hs J;have ga:=m.wI;have hj:=gH sc m.name;simp only[aX.sz]at ga;generalize Xe:ar sc m.name=full at*;have q0:=p.jb (gI full m);have q1:=nD full m.af.l (p.add (gI full m));have q2:=nE full m.aI.l (bJ full m.af.l (p.add (gI full m)));have q3:=iT full (bW full m.aI.l (bJ full m.af.l (p.add (gI full m)))) m.aC;rw[az.gA]at q3;have q4:=jd full m.aQ.l (bF full (bW full m.aI.l (bJ full m.af.l (p.add (gI full m)))) m.aC);unfold cq at hp hs;have l1:=QP (p.add (gI full m)) m full (by unfold cq;omega) (by unfold cq;omega);have l2:=QQ (bJ full m.af.l (p.add (gI full m))) m full (by unfold cq;omega) (by unfold cq;omega);have l3:=QS (bW full m.aI.l (bJ full m.af.l (p.add (gI full m)))) m full (by unfold cq;omega) (by unfold cq;omega) (λx hx q h1 h2 J=>ih x (by have:=cf (f:=az.sz) hx;omega) q full h1 h2 J);have l4:=QR (bF full (bW full m.aI.l (bJ full m.af.l (p.add (gI full m)))) m.aC) m full (by unfold cq;omega) (by unfold cq;omega);have l5:=F9 (bK full m.aQ.l (bF full (bW full m.aI.l (bJ full m.af.l (p.add (gI full m)))) m.aC)) m.exts full (by unfold cq aX.sz;omega) (by unfold cq aX.sz;omega) [.cells m.two];have e1:bJ full (m.af.l.take m.af.l.length) (p.add (gI full m))=bJ full m.af.l (p.add (gI full m)):=by rw[ahR]
  have e2:bW full (m.aI.l.take m.aI.l.length) (bJ full m.af.l (p.add (gI full m)))=bW full m.aI.l (bJ full m.af.l (p.add (gI full m))):=by rw[ahR]
  have e3:bF full (bW full m.aI.l (bJ full m.af.l (p.add (gI full m)))) (m.aC.take m.aC.length)=bF full (bW full m.aI.l (bJ full m.af.l (p.add (gI full m)))) m.aC:=by rw[ahR]
  have e4:∀q,bK full (m.aQ.l.take m.aQ.l.length) q=bK full m.aQ.l q:=λq=>by rw[ahR]
  have z1:∀q,bJ full (m.af.l.take 0) q=q:=λq=>rfl
  have z2:∀q,bW full (m.aI.l.take 0) q=q:=λq=>rfl
  have z3:∀q,bF full q (m.aC.take 0)=q:=λq=>by simp[bF]
  have z4:∀q,bK full (m.aQ.l.take 0) q=q:=λq=>rfl
  rw[e1,z1]at l1;rw[e2,z2]at l2;rw[e3,z3]at l3;rw[e4,z4]at l4;have a1:=pt p (gI full m) (by omega) (cs:=vL full 2 m.two fP fQ) (.cons (.refl _) (.cons (.refl _) (.cons (.refl _) ((Lu m).app (pn.app po))))) [.cells m.two];have Xf:=ln (a:=sc) (b:=m.name) (by omega) (by omega);rw[Xe]at Xf;have hb:=QT m sc p.o1 p.o2 (p.add (gI full m)).o1 (p.add (gI full m)).o2 (bJ full m.af.l (p.add (gI full m))).o1 (bJ full m.af.l (p.add (gI full m))).o2
   (bW full m.aI.l (bJ full m.af.l (p.add (gI full m)))).o1 (bW full m.aI.l (bJ full m.af.l (p.add (gI full m)))).o2
   (bF full (bW full m.aI.l (bJ full m.af.l (p.add (gI full m)))) m.aC).o1 (bF full (bW full m.aI.l (bJ full m.af.l (p.add (gI full m)))) m.aC).o2
   (bK full m.aQ.l (bF full (bW full m.aI.l (bJ full m.af.l (p.add (gI full m)))) m.aC)).o1 (bK full m.aQ.l (bF full (bW full m.aI.l (bJ full m.af.l (p.add (gI full m)))) m.aC)).o2
   (im sc p m).o1 (im sc p m).o2
  rw[NH,Xe]at hb ⊢;rw[Xf,bS a1,bc l1,bc l2,bc l3,bc l4,bS l5]at hb;have c:=rT (au _) (ba (bx aF)) hb rfl;have c2:=xV c (by simp only[dG,ff];rfl) J;refine⟨c2.1,λE w0 w1 vs hg hr=>c2.2.1 E w0 w1 vs hg ⟨hr.1,λi y hy=> ?_⟩,c2.2.2⟩
  match i,hy with
  |0,hy=>exact hr.2 0 y hy
  |1,hy=>
   simp at hy;subst hy;exact ev.agg (az.xS m) _ _ (hr.2 1 _ rfl)
  |2,hy=>exact hr.2 2 y hy
section
variable (s a b:ByteArray)
def xq (i:Int):List AV:=bz 24 [(0,aS s),(2,aS a),(3,aS b),(4,i64 i)]
theorem zo (i:Int):(db prog (cK []) aN [] 3 (ae f195 2) (xq s aq aq i) []).via (cz [0,2,3,4] [] 0)=
  bif decide (i≥0)then bif decide (0<=i/\i<(s.size:Int))then
   bif (cr s i.toNat==46)then
    bif decide ((0:Int)<=0/\(0:Int)<=i/\i<=(s.size:Int))then bif decide ((0:Int)<=IntKind.wrap .i64 (i+1)/\IntKind.wrap .i64 (i+1)<=(s.size:Int)/\(s.size:Int)<=(s.size:Int))then
     some ⟨.ret,xq s (s.extract 0 i.toNat) (s.extract (IntKind.wrap .i64 (i+1)).toNat s.size) i,[],[],true⟩else none else none
   else some ⟨.normal,xq s aq aq (IntKind.wrap .i64 (i-1)),[],[],true⟩else none
  else some ⟨.exit 0,xq s aq aq i,[],[],true⟩:=by kernel_rfl
theorem QU (i:Int):(eb prog (cK []) (cJ prog [⟨2,[0,2,3,4],.exit 0,xq s aq aq i,[],[]⟩] aN) [] 3 195 [aS s] []).via ch=
  bif cj prog (ae f195 2) (xq s aq aq (IntKind.wrap .i64 ((s.size:Int)-1))) [] (.exit 0) (xq s aq aq i) [] []then some (.bq [aS aq,aS s])else none:=by kernel_rfl
theorem NI (i:Int):(eb prog (cK []) (cJ prog [⟨2,[0,2,3,4],.ret,xq s a b i,[],[]⟩] aN) [] 3 195 [aS s] []).via ch=
  bif cj prog (ae f195 2) (xq s aq aq (IntKind.wrap .i64 ((s.size:Int)-1))) [] .ret (xq s a b i) [] []then some (.bq [aS a,aS b])else none:=by kernel_rfl
end
def sb (s:ByteArray):Nat->Option Nat
 |0=>none
 |n+1=>if cr s n=46 then some n else sb s n
def ft (s:ByteArray):ByteArray:=match sb s s.size with
 |some i=>s.extract 0 i
 |none=>aq
def pX (s:ByteArray):ByteArray:=match sb s s.size with
 |some i=>s.extract (i+1) s.size
 |none=>s
theorem vM {s:ByteArray}:∀{n:Nat},(∀j,j<n->cr s j≠46)->sb s n=none
 |0,_=>rfl
 |n+1,h=>by
  unfold sb;rw[if_neg (h n (by omega))];exact vM (λj hj=>h j (by omega))
theorem vN {s:ByteArray}{i:Nat}(hi:cr s i=46):∀{n:Nat},i<n->(∀j,i<j->j<n->cr s j≠46)->sb s n=some i
 |0,h,_=>by omega
 |n+1,h,k=>by
  unfold sb;by_cases hn:n=i
  ·subst hn;rw[if_pos hi]
  ·rw[if_neg (k n (by omega) (by omega))];exact vN hi (by omega) (λj h1 h2=>k j h1 (by omega))
theorem DF {s:ByteArray}:∀{n i:Nat},sb s n=some i->i<n
 |0,i,h=>by simp[sb]at h
 |n+1,i,h=>by
  unfold sb at h;split at h
  ·simp only[ag6]at h;omega
  ·have:=DF h;omega
theorem tD {s:ByteArray}(h:0<s.size):(ft s).size<s.size:=by
 unfold ft;split
 ·rename_i i hi;have:=DF hi;rw[ByteArray.size_extract];omega
 ·exact h
theorem JR (s:ByteArray) (hs:s.size<=1099511627776) (H:aa):bZ prog 195 [aS s] (.bq [aS (ft s),aS (pX s)]) H H []:=by
 have lf:∀a∈[aS s],LF a:=ao (.sc _) bC;have hl:=iS (P:=prog) (c:=ae f195 2) (λk=>xq s aq aq ((s.size:Int)-1-k)) (λk=>xq s (s.extract 0 (s.size-1-k)) (s.extract (s.size-k) s.size) ((s.size:Int)-1-k)) (λk=>cr s (s.size-1-k)==46) (.exit 0) (by simp) s.size (λk hk hc=>by
  have hb:=zo s ((s.size:Int)-1-k);have e1:((s.size:Int)-1-k).toNat=s.size-1-k:=by omega
  have e2:IntKind.wrap .i64 ((s.size:Int)-1-k+1)=(s.size:Int)-k:=by rw[wi (by omega) (by omega)];omega
  have e3:((s.size:Int)-k).toNat=s.size-k:=by omega
  rw[e1,e2,e3,hc,ag2 (by omega:(s.size:Int)-1-k≥0),ag2 (by omega:(0:Int)<=(s.size:Int)-1-k/\(s.size:Int)-1-k<(s.size:Int)),ag2 (by omega:(0:Int)<=0/\(0:Int)<=(s.size:Int)-1-k/\(s.size:Int)-1-k<=(s.size:Int)),ag2 (by omega:(0:Int)<=(s.size:Int)-k/\(s.size:Int)-k<=(s.size:Int)/\(s.size:Int)<=(s.size:Int))]at hb;exact ai mixed (au _) ab hb rfl (ag3 _) (by simp)) (λk hk hc=>by
  have hb:=zo s ((s.size:Int)-1-k);have e1:((s.size:Int)-1-k).toNat=s.size-1-k:=by omega
  have e2:IntKind.wrap .i64 ((s.size:Int)-1-k-1)=(s.size:Int)-1-((k+1:Nat):Int):=by rw[wi (by omega) (by omega)];omega
  rw[e1,hc,e2,ag2 (by omega:(s.size:Int)-1-k≥0),ag2 (by omega:(0:Int)<=(s.size:Int)-1-k/\(s.size:Int)-1-k<(s.size:Int))]at hb;exact ai mixed (au _) ab hb rfl (ag3 _) (by simp)) (by
  have hb:=zo s ((s.size:Int)-1-(s.size:Nat));rw[ag8 (by omega)]at hb;exact ai mixed (au _) ab hb rfl (ag3 _) (by simp))
 have e0:IntKind.wrap .i64 ((s.size:Int)-1)=(s.size:Int)-1-((0:Nat):Int):=by rw[wi (by omega) (by omega)];omega
 rcases hl with ⟨h,fy⟩|⟨j,hj,hc,fy,h⟩
 ·have hd:sb s s.size=none:=vM (λj hj=>by
   have:=fy (s.size-1-j) (by omega);rw[show s.size-1-(s.size-1-j)=j by omega]at this;simpa using this)
  have e1:ft s=aq:=by unfold ft;rw[hd]
  have e2:pX s=s:=by unfold pX;rw[hd]
  have hb:=QU s ((s.size:Int)-1-(s.size:Nat));rw[e0,bc h]at hb;rw[e1,e2];exact bG mixed (au _) (ba ab) hb rfl (.refl _) (zj (.sc _) (.sc _)) lf H
 ·have hd:sb s s.size=some (s.size-1-j):=vN (by simpa using hc) (by omega) (λq h1 h2=>by
   have:=fy (s.size-1-q) (by omega);rw[show s.size-1-(s.size-1-q)=q by omega]at this;simpa using this)
  have e1:ft s=s.extract 0 (s.size-1-j):=by unfold ft;rw[hd]
  have e2:pX s=s.extract (s.size-j) s.size:=by unfold pX;rw[hd];show s.extract (s.size-1-j+1) s.size=_;rw[show s.size-1-j+1=s.size-j by omega]
  have hb:=NI s (s.extract 0 (s.size-1-j)) (s.extract (s.size-j) s.size) ((s.size:Int)-1-j);rw[e0,bc h]at hb;rw[e1,e2];exact bG mixed (au _) (ba ab) hb rfl (.refl _) (zj (.sc _) (.sc _)) lf H
def ag.two (d:ag):List AV:=[.sc (.string d.name),.sc (.string d.cG),d.cm.av,d.ey.av,d.ay.av 11 az.one,d.aQ.av 4 bt.cells,d.aL.av 4 bN.cells,d.exts.av 13 aP.cells,.sc (.string d.rP),d.opts.av,d.dE.av]
theorem ag.jW (d:ag):d.cells=d.two:=by
 unfold ag.cells ag.two;rw[show az.cells=az.one from funext az.cells_one]
def bf (l:List bN) (i:Nat):bN:=l.getD i default
def fA (l:List cM) (i:Nat):cM:=l.getD i default
def fg:Nat->ByteArray->aJ->aJ
 |0,_,p=>p
 |n+1,s,p=>bif qU s then p else fg n (ft s) (p.add (gS s 1))
def di (sc:ByteArray) (l:List cM) (p:aJ):aJ:=l.foldl (λp m=>p.add (gS (ar sc m.name) 9)) p
def iU (sc:ByteArray) (p:aJ) (s:bN):aJ:=di (ar sc s.name) s.aO.l (p.add (gS (ar sc s.name) 8))
def dp (sc:ByteArray) (l:List bN) (p:aJ):aJ:=l.foldl (iU sc) p
def aJ.atHome (p:aJ) (h:ByteArray):aJ:={ p with home:=h}
def jF (p:aJ) (f:ag):aJ:=dN f.cG f.exts.l (dp f.cG f.aL.l (bK f.cG f.aQ.l (bF f.cG (fg (f.cG.size+1) f.cG (p.atHome f.name)) f.ay.l)))
theorem rf:∀(n:Nat) (s:ByteArray) (p:aJ),(fg n s p).s.l.length<=p.s.l.length+s.size
 |0,s,p=>by simp[fg]
 |n+1,s,p=>by
  unfold fg
  cases h:qU s with
  |true=>simp
  |false=>
   have h1:=rf n (ft s) (p.add (gS s 1));have h2:=p.jb (gS s 1);have h3:=tD (jx.1 h);simp only[cond_false];omega
theorem rh (sc:ByteArray) (l:List cM) (p:aJ):(di sc l p).s.l.length<=p.s.l.length+bw cM.sz l:=
 ll _ cM.sz (λq x=>by have:=q.jb (gS (ar sc x.name) 9);have:=x.bT;omega) l p
theorem zp (sc:ByteArray) (p:aJ) (s:bN):(iU sc p s).s.l.length<=p.s.l.length+s.sz:=by
 have h1:=rh (ar sc s.name) s.aO.l (p.add (gS (ar sc s.name) 8));have h2:=p.jb (gS (ar sc s.name) 8);unfold iU bN.sz aX.sz;omega
theorem lJ (sc:ByteArray) (l:List bN) (p:aJ):(dp sc l p).s.l.length<=p.s.l.length+bw bN.sz l:=
 ll _ bN.sz (λq x=>zp sc q x) l p
def wJ (s:ByteArray):List AV:=bz 96 [(0,.ptr 0 0),(3,.ptr 2 0),(4,aS s)]
theorem NJ (f:ag) (s t u:ByteArray) (o1 o2 a1 a2:bu):(db prog (cK []) (eV prog [⟨31,.bq [],[a1,a2,.cells f.two],[0,1]⟩] (told prog [] [⟨25,0,.bq [aS t,aS u]⟩])) [] 3 (ae f116 3) (wJ s) [o1,o2,.cells f.two]).via (cz [0,3,4] [] 3)=
  bif !qU s then bif cW prog 196 [.ptr 0 0,.agg (vL s 1 fz fP fQ)] [o1,o2,.cells f.two] (.bq []) [a1,a2,.cells f.two] [0,1]then bif aD prog 195 [aS s] [] (.bq [aS t,aS u])then
   some ⟨.normal,wJ t,[a1,a2,.cells f.two],[0,1],tT 3 a1 a2⟩else none else none
  else some ⟨.exit 0,wJ s,[o1,o2,.cells f.two],[],tT 3 o1 o2⟩:=by kernel_rfl
theorem Ga (f:ag):∀(n:Nat) (s:ByteArray) (p:aJ),s.size<n->p.s.l.length+s.size<=cq->s.size<=bL->∃k s' W,dX prog (ae f116 3) (.exit 0) (wJ s') [(fg n s p).o1,(fg n s p).o2,.cells f.two] k (wJ s) [p.o1,p.o2,.cells f.two] W/\∀l∈W,l∈[0,1]
 |0,s,p,h,_,_=>by omega
 |n+1,s,p,h,hp,hs=>by
  have hb:=NJ f s (ft s) (pX s) p.o1 p.o2 (p.add (gS s 1)).o1 (p.add (gS s 1)).o2;unfold cq bL at*
  cases he:qU s with
  |true=>
   rw[he,ec p (by omega)]at hb;have e1:fg (n+1) s p=p:=by unfold fg;rw[he];rfl
   rw[e1];exact⟨0,s,[],.out (ai mixed (au _) (bx aF) hb rfl (ag3 _) (by simp)) (by simp),λl hl=>by simp at hl⟩
  |false=>
   have h3:=tD (jx.1 he);rw[he,bS (pt p (gS s 1) (by omega) (uH _ _) _),ak (JR s (by omega) []),ec _ (by omega)]at hb;have e1:fg (n+1) s p=fg n (ft s) (p.add (gS s 1)):=by rw[fg,he];rfl
   have h2:=p.jb (gS s 1);obtain⟨k,s',W,hr,hW⟩:=Ga f n (ft s) (p.add (gS s 1)) (by omega) (by unfold cq;omega) (by unfold bL;omega);rw[e1];exact⟨k+1,s',_,.next (ai mixed (au _) (bx aF) hb rfl (ag3 _) (by simp)) hr,λl hl=>by
    rcases ahC.1 hl with h|h
    ·exact h
    ·exact hW l h⟩
section
variable (f:ag)
def uN (i:Int):List AV:=bz 96 [(0,.ptr 0 0),(3,.ptr 2 0),(33,f.ay.av 11 az.one),(34,i64 f.ay.l.length),(35,i64 i)]
theorem BV (o1 o2 a1 a2:bu) (i:Nat):(db prog (cK []) (eV prog [⟨43,.bq [],[a1,a2,.cells f.two,.cells (aA f.ay.l i).one],[0,1]⟩] (told prog [] [])) [] 3 (ae f116 7) (uN f i) [o1,o2,.cells f.two]).via (cz [0,3,33,34,35] [] 3)=
  bif decide ((i:Int)<(f.ay.l.length:Int))then bif decide ((0:Int)<=(i:Int)/\(i:Int)<(f.ay.l.length:Int))then
  bif cW prog 197 [.ptr 0 0,.agg (aA f.ay.l i).one,aS f.cG] [o1,o2,.cells f.two,.cells (aA f.ay.l i).one] (.bq []) [a1,a2,.cells f.two,.cells (aA f.ay.l i).one] [0,1]then
  some ⟨.normal,uN f (IntKind.wrap .i64 ((i:Int)+1)),[a1,a2,.cells f.two],[0,1],tT 3 a1 a2⟩else none else none
  else some ⟨.exit 2,uN f i,[o1,o2,.cells f.two],[],tT 3 o1 o2⟩:=by kernel_rfl
end
section
variable (f:ag)
def uO (i:Int):List AV:=bz 96 [(0,.ptr 0 0),(3,.ptr 2 0),(46,f.aQ.av 4 bt.cells),(47,i64 f.aQ.l.length),(48,i64 i)]
theorem BW (o1 o2 a1 a2:bu) (i:Nat):(db prog (cK []) (eV prog [⟨56,.bq [],[a1,a2,.cells f.two,.cells (bh f.aQ.l i).cells],[0,1]⟩] (told prog [] [])) [] 3 (ae f116 12) (uO f i) [o1,o2,.cells f.two]).via (cz [0,3,46,47,48] [] 3)=
  bif decide ((i:Int)<(f.aQ.l.length:Int))then bif decide ((0:Int)<=(i:Int)/\(i:Int)<(f.aQ.l.length:Int))then
  bif cW prog 198 [.ptr 0 0,.agg (bh f.aQ.l i).cells,aS f.cG] [o1,o2,.cells f.two,.cells (bh f.aQ.l i).cells] (.bq []) [a1,a2,.cells f.two,.cells (bh f.aQ.l i).cells] [0,1]then
  some ⟨.normal,uO f (IntKind.wrap .i64 ((i:Int)+1)),[a1,a2,.cells f.two],[0,1],tT 3 a1 a2⟩else none else none
  else some ⟨.exit 4,uO f i,[o1,o2,.cells f.two],[],tT 3 o1 o2⟩:=by kernel_rfl
end
section
variable (f:ag) (s:bN) (j:Int)
def uP (i:Int):List AV:=bz 96 [(0,.ptr 0 0),(3,.ptr 2 0),(10,.ptr 3 0),(11,aS (ar f.cG s.name)),(59,f.aL.av 4 bN.cells),(60,i64 f.aL.l.length),(61,i64 j),(75,s.aO.av 7 cM.cells),(76,i64 s.aO.l.length),(77,i64 i)]
theorem BX (o1 o2 a1 a2:bu) (i:Nat):(db prog (cK []) (eV prog [⟨87,.bq [],[a1,a2,.cells f.two,.cells s.cells,.cells (fA s.aO.l i).cells],[0,1]⟩] (told prog [] [⟨85,0,aS (ar (ar f.cG s.name) (fA s.aO.l i).name)⟩])) [] 3 (ae f116 22) (uP f s j i) [o1,o2,.cells f.two,.cells s.cells]).via (cz [0,3,10,11,59,60,61,75,76,77] [] 4)=
  bif decide ((i:Int)<(s.aO.l.length:Int))then bif decide ((0:Int)<=(i:Int)/\(i:Int)<(s.aO.l.length:Int))then
  bif aD prog 186 [aS (ar f.cG s.name),aS (fA s.aO.l i).name] [] (aS (ar (ar f.cG s.name) (fA s.aO.l i).name))then
  bif cW prog 196 [.ptr 0 0,.agg (vL (ar (ar f.cG s.name) (fA s.aO.l i).name) 9 fz fP fQ)] [o1,o2,.cells f.two,.cells s.cells,.cells (fA s.aO.l i).cells] (.bq []) [a1,a2,.cells f.two,.cells s.cells,.cells (fA s.aO.l i).cells] [0,1]then
  some ⟨.normal,uP f s j (IntKind.wrap .i64 ((i:Int)+1)),[a1,a2,.cells f.two,.cells s.cells],[0,1],tT 4 a1 a2⟩else none else none else none
  else some ⟨.exit 8,uP f s j i,[o1,o2,.cells f.two,.cells s.cells],[],tT 4 o1 o2⟩:=by kernel_rfl
end
theorem QV (p:aJ) (f:ag) (hp:p.s.l.length+bw az.sz f.ay.l<=cq) (hs:f.cG.size+bw az.sz f.ay.l<=cq):an prog (.loop (ae f116 7)) (uN f ((0:Nat):Int)) [(bF f.cG p (f.ay.l.take 0)).o1,(bF f.cG p (f.ay.l.take 0)).o2,.cells f.two] (.exit 2) (uN f (f.ay.l.length:Nat)) [(bF f.cG p (f.ay.l.take f.ay.l.length)).o1,(bF f.cG p (f.ay.l.take f.ay.l.length)).o2,.cells f.two] [0,1]:=by
 refine dR (P:=prog) (c:=ae f116 7) (λi=>uN f i) (λi=>[(bF f.cG p (f.ay.l.take i)).o1,(bF f.cG p (f.ay.l.take i)).o2,.cells f.two]) [0,1] (.exit 2) (by simp) (f.ay.l.length) (λi hi=> ?_) ?_
 ·have hb:=BV f (bF f.cG p (f.ay.l.take i)).o1 (bF f.cG p (f.ay.l.take i)).o2 (bF f.cG p (f.ay.l.take (i+1))).o1 (bF f.cG p (f.ay.l.take (i+1))).o2 i;have hm:aA f.ay.l i∈f.ay.l:=bM hi;have hz:=cf (f:=az.sz) hm;have hl:=iT f.cG p (f.ay.l.take i);rw[az.gA]at hl;have e1:bF f.cG p (f.ay.l.take (i+1))=im f.cG (bF f.cG p (f.ay.l.take i)) (aA f.ay.l i):=by rw[ki,ki];exact gv _ _ _ _ hi
  have Iz:bw az.sz (f.ay.l.take (i+1))=bw az.sz (f.ay.l.take i)+az.sz (aA f.ay.l i):=jy _ _ _ hi;have ht3:=dM az.sz f.ay.l (i+1);unfold cq at hp hs;have hlen:=cy (f:=az.sz) (l:=f.ay.l) (λx _=>x.bT);rw[e1]at hb ⊢;rw[ag2 (by omega:(i:Int)<(f.ay.l.length:Int)),ag2 (by omega:(0:Int)<=(i:Int)/\(i:Int)<(f.ay.l.length:Int)),wi (x:=(i:Int)+1) (by omega) (by omega),bS (U3 _ (aA f.ay.l i) (ag3 _) (bF f.cG p (f.ay.l.take i)) f.cG (by unfold cq;omega) (by unfold cq;omega) _),ec _ (by omega)]at hb;exact ai mixed (au _) (bx aF) hb rfl (ag3 _) (by simp)
 ·have hb:=BV f (bF f.cG p (f.ay.l.take f.ay.l.length)).o1 (bF f.cG p (f.ay.l.take f.ay.l.length)).o2 (bF f.cG p (f.ay.l.take f.ay.l.length)).o1 (bF f.cG p (f.ay.l.take f.ay.l.length)).o2 (f.ay.l.length);rw[ag8 (by omega),ec _ (by omega)]at hb;exact ai mixed (au _) (bx aF) hb rfl (ag3 _) (by simp)
theorem QW (p:aJ) (f:ag) (hp:p.s.l.length+bw bt.sz f.aQ.l<=cq) (hs:f.cG.size+bw bt.sz f.aQ.l<=cq):an prog (.loop (ae f116 12)) (uO f ((0:Nat):Int)) [(bK f.cG (f.aQ.l.take 0) p).o1,(bK f.cG (f.aQ.l.take 0) p).o2,.cells f.two] (.exit 4) (uO f (f.aQ.l.length:Nat)) [(bK f.cG (f.aQ.l.take f.aQ.l.length) p).o1,(bK f.cG (f.aQ.l.take f.aQ.l.length) p).o2,.cells f.two] [0,1]:=by
 refine dR (P:=prog) (c:=ae f116 12) (λi=>uO f i) (λi=>[(bK f.cG (f.aQ.l.take i) p).o1,(bK f.cG (f.aQ.l.take i) p).o2,.cells f.two]) [0,1] (.exit 4) (by simp) (f.aQ.l.length) (λi hi=> ?_) ?_
 ·have hb:=BW f (bK f.cG (f.aQ.l.take i) p).o1 (bK f.cG (f.aQ.l.take i) p).o2 (bK f.cG (f.aQ.l.take (i+1)) p).o1 (bK f.cG (f.aQ.l.take (i+1)) p).o2 i;have hm:bh f.aQ.l i∈f.aQ.l:=bM hi;have hz:=cf (f:=bt.sz) hm;have hl:=jd f.cG (f.aQ.l.take i) p;have e1:bK f.cG (f.aQ.l.take (i+1)) p=jE f.cG (bK f.cG (f.aQ.l.take i) p) (bh f.aQ.l i):=gv _ _ _ _ hi;have Iz:bw bt.sz (f.aQ.l.take (i+1))=bw bt.sz (f.aQ.l.take i)+bt.sz (bh f.aQ.l i):=jy _ _ _ hi;have ht3:=dM bt.sz f.aQ.l (i+1);unfold cq at hp hs;have hlen:=cy (f:=bt.sz) (l:=f.aQ.l) (λx _=>x.bT);rw[e1]at hb ⊢;rw[ag2 (by omega:(i:Int)<(f.aQ.l.length:Int)),ag2 (by omega:(0:Int)<=(i:Int)/\(i:Int)<(f.aQ.l.length:Int)),wi (x:=(i:Int)+1) (by omega) (by omega),bS (F7 (bK f.cG (f.aQ.l.take i) p) (bh f.aQ.l i) f.cG (by unfold cq;omega) (by unfold cq;omega) _),ec _ (by omega)]at hb;exact ai mixed (au _) (bx aF) hb rfl (ag3 _) (by simp)
 ·have hb:=BW f (bK f.cG (f.aQ.l.take f.aQ.l.length) p).o1 (bK f.cG (f.aQ.l.take f.aQ.l.length) p).o2 (bK f.cG (f.aQ.l.take f.aQ.l.length) p).o1 (bK f.cG (f.aQ.l.take f.aQ.l.length) p).o2 (f.aQ.l.length);rw[ag8 (by omega),ec _ (by omega)]at hb;exact ai mixed (au _) (bx aF) hb rfl (ag3 _) (by simp)
theorem QX (p:aJ) (f:ag) (s:bN) (j:Int) (hp:p.s.l.length+bw cM.sz s.aO.l<=cq) (hs:f.cG.size+s.sz<=cq):an prog (.loop (ae f116 22)) (uP f s j ((0:Nat):Int)) [(di (ar f.cG s.name) (s.aO.l.take 0) p).o1,(di (ar f.cG s.name) (s.aO.l.take 0) p).o2,.cells f.two,.cells s.cells] (.exit 8) (uP f s j (s.aO.l.length:Nat)) [(di (ar f.cG s.name) (s.aO.l.take s.aO.l.length) p).o1,(di (ar f.cG s.name) (s.aO.l.take s.aO.l.length) p).o2,.cells f.two,.cells s.cells] [0,1]:=by
 refine dR (P:=prog) (c:=ae f116 22) (λi=>uP f s j i) (λi=>[(di (ar f.cG s.name) (s.aO.l.take i) p).o1,(di (ar f.cG s.name) (s.aO.l.take i) p).o2,.cells f.two,.cells s.cells]) [0,1] (.exit 8) (by simp) (s.aO.l.length) (λi hi=> ?_) ?_
 ·have hb:=BX f s j (di (ar f.cG s.name) (s.aO.l.take i) p).o1 (di (ar f.cG s.name) (s.aO.l.take i) p).o2 (di (ar f.cG s.name) (s.aO.l.take (i+1)) p).o1 (di (ar f.cG s.name) (s.aO.l.take (i+1)) p).o2 i;have hj:=gH f.cG s.name;have hm:fA s.aO.l i∈s.aO.l:=bM hi;have hz:=cf (f:=cM.sz) hm;have hl:=rh (ar f.cG s.name) (s.aO.l.take i) p;have e1:di (ar f.cG s.name) (s.aO.l.take (i+1)) p=(di (ar f.cG s.name) (s.aO.l.take i) p).add (gS (ar (ar f.cG s.name) (fA s.aO.l i).name) 9):=gv _ _ _ _ hi;have Iz:bw cM.sz (s.aO.l.take (i+1))=bw cM.sz (s.aO.l.take i)+cM.sz (fA s.aO.l i):=jy _ _ _ hi;have ht3:=dM cM.sz s.aO.l (i+1);unfold cq at hp hs;have hlen:=cy (f:=cM.sz) (l:=s.aO.l) (λx _=>x.bT);have hn:(fA s.aO.l i).name.size<=cM.sz (fA s.aO.l i):=by unfold cM.sz;omega
  unfold bN.sz aX.sz at hs;rw[e1]at hb ⊢;rw[ag2 (by omega:(i:Int)<(s.aO.l.length:Int)),ag2 (by omega:(0:Int)<=(i:Int)/\(i:Int)<(s.aO.l.length:Int)),wi (x:=(i:Int)+1) (by omega) (by omega),ln (by omega) (by omega),bS (pt (di (ar f.cG s.name) (s.aO.l.take i) p) (gS (ar (ar f.cG s.name) (fA s.aO.l i).name) 9) (by omega) (uH _ _) _),ec _ (by omega)]at hb;exact ai mixed (au _) (bx aF) hb rfl (ag3 _) (by simp)
 ·have hb:=BX f s j (di (ar f.cG s.name) (s.aO.l.take s.aO.l.length) p).o1 (di (ar f.cG s.name) (s.aO.l.take s.aO.l.length) p).o2 (di (ar f.cG s.name) (s.aO.l.take s.aO.l.length) p).o1 (di (ar f.cG s.name) (s.aO.l.take s.aO.l.length) p).o2 (s.aO.l.length);rw[ag8 (by omega),ec _ (by omega)]at hb;exact ai mixed (au _) (bx aF) hb rfl (ag3 _) (by simp)
def uQ (f:ag) (i:Int):List AV:=bz 96 [(0,.ptr 0 0),(3,.ptr 2 0),(59,f.aL.av 4 bN.cells),(60,i64 f.aL.l.length),(61,i64 i)]
theorem BY (f:ag) (i:Nat) (o1 o2 a1 a2 b1 b2:bu):(db prog (cK []) (cJ prog [⟨22,[0,3,10,11,59,60,61,75,76,77],.exit 8,uP f (bf f.aL.l i) i (bf f.aL.l i).aO.l.length,[b1,b2,.cells f.two,.cells (bf f.aL.l i).cells],[0,1]⟩] (eV prog [⟨73,.bq [],[a1,a2,.cells f.two,.cells (bf f.aL.l i).cells],[0,1]⟩] (told prog [] [⟨69,0,aS (ar f.cG (bf f.aL.l i).name)⟩]))) [] 3 (ae f116 17) (uQ f i) [o1,o2,.cells f.two]).via (cz [0,3,59,60,61] [] 3)=
  bif decide ((i:Int)<(f.aL.l.length:Int))then bif decide ((0:Int)<=(i:Int)/\(i:Int)<(f.aL.l.length:Int))then
  bif aD prog 186 [aS f.cG,aS (bf f.aL.l i).name] [] (aS (ar f.cG (bf f.aL.l i).name))then
  bif cW prog 196 [.ptr 0 0,.agg (vL (ar f.cG (bf f.aL.l i).name) 8 fz fP fQ)] [o1,o2,.cells f.two,.cells (bf f.aL.l i).cells] (.bq []) [a1,a2,.cells f.two,.cells (bf f.aL.l i).cells] [0,1]then
  bif cj prog (ae f116 22) (uP f (bf f.aL.l i) i ((0:Nat):Int)) [a1,a2,.cells f.two,.cells (bf f.aL.l i).cells] (.exit 8) (uP f (bf f.aL.l i) i (bf f.aL.l i).aO.l.length) [b1,b2,.cells f.two,.cells (bf f.aL.l i).cells] [0,1]then
   some ⟨.normal,uQ f (IntKind.wrap .i64 ((i:Int)+1)),[b1,b2,.cells f.two],[0,1,0,1],tT 3 b1 b2⟩else none else none else none else none
  else some ⟨.exit 6,uQ f i,[o1,o2,.cells f.two],[],tT 3 o1 o2⟩:=by kernel_rfl
theorem QY (p:aJ) (f:ag) (hp:p.s.l.length+bw bN.sz f.aL.l<=cq) (hs:f.cG.size+bw bN.sz f.aL.l<=cq):an prog (.loop (ae f116 17)) (uQ f ((0:Nat):Int)) [p.o1,p.o2,.cells f.two] (.exit 6) (uQ f (f.aL.l.length:Nat)) [(dp f.cG f.aL.l p).o1,(dp f.cG f.aL.l p).o2,.cells f.two] [0,1]:=by
 have h:=dR (P:=prog) (c:=ae f116 17) (λi=>uQ f i) (λi=>[(dp f.cG (f.aL.l.take i) p).o1,(dp f.cG (f.aL.l.take i) p).o2,.cells f.two]) [0,1] (.exit 6) (by simp) f.aL.l.length (λi hi=> ?_) ?_
 ·have e0:dp f.cG (f.aL.l.take 0) p=p:=rfl;have e1:dp f.cG (f.aL.l.take f.aL.l.length) p=dp f.cG f.aL.l p:=by rw[ahR]
  simp only[e0,e1]at h;exact h
 ·have hm:bf f.aL.l i∈f.aL.l:=bM hi;have hl:=lJ f.cG (f.aL.l.take i) p;have e1:dp f.cG (f.aL.l.take (i+1)) p=iU f.cG (dp f.cG (f.aL.l.take i) p) (bf f.aL.l i):=gv _ _ _ _ hi;have Iz:bw bN.sz (f.aL.l.take (i+1))=bw bN.sz (f.aL.l.take i)+bN.sz (bf f.aL.l i):=jy _ _ _ hi;have ht3:=dM bN.sz f.aL.l (i+1);have hlen:=cy (f:=bN.sz) (l:=f.aL.l) (λx _=>x.bT);simp only[e1];generalize dp f.cG (f.aL.l.take i) p=q at*;unfold cq at hp hs;have hn:(bf f.aL.l i).name.size+bw cM.sz (bf f.aL.l i).aO.l+2<=bN.sz (bf f.aL.l i):=by unfold bN.sz aX.sz;omega
  have h2:=q.jb (gS (ar f.cG (bf f.aL.l i).name) 8);have l1:=QX (q.add (gS (ar f.cG (bf f.aL.l i).name) 8)) f (bf f.aL.l i) i (by unfold cq;omega) (by unfold cq;omega);have z0:∀r,di (ar f.cG (bf f.aL.l i).name) ((bf f.aL.l i).aO.l.take 0) r=r:=λr=>rfl
  have z1:∀r,di (ar f.cG (bf f.aL.l i).name) ((bf f.aL.l i).aO.l.take (bf f.aL.l i).aO.l.length) r=di (ar f.cG (bf f.aL.l i).name) (bf f.aL.l i).aO.l r:=λr=>by rw[ahR]
  have es:di (ar f.cG (bf f.aL.l i).name) (bf f.aL.l i).aO.l (q.add (gS (ar f.cG (bf f.aL.l i).name) 8))=iU f.cG q (bf f.aL.l i):=rfl;rw[z0,z1,es]at l1;have hb:=BY f i q.o1 q.o2 (q.add (gS (ar f.cG (bf f.aL.l i).name) 8)).o1 (q.add (gS (ar f.cG (bf f.aL.l i).name) 8)).o2 (iU f.cG q (bf f.aL.l i)).o1 (iU f.cG q (bf f.aL.l i)).o2;rw[ag2 (by omega:(i:Int)<(f.aL.l.length:Int)),ag2 (by omega:(0:Int)<=(i:Int)/\(i:Int)<(f.aL.l.length:Int)),wi (x:=(i:Int)+1) (by omega) (by omega),ln (by omega) (by omega),bS (pt q (gS (ar f.cG (bf f.aL.l i).name) 8) (by omega) (uH _ _) _),bc l1,ec _ (by omega)]at hb;exact(ai mixed (au _) (ba (bx aF)) hb rfl (ag3 _) (by simp)).eI (by simp)
 ·have hb:=BY f f.aL.l.length (dp f.cG (f.aL.l.take f.aL.l.length) p).o1 (dp f.cG (f.aL.l.take f.aL.l.length) p).o2 p.o1 p.o2 p.o1 p.o2;rw[ag8 (by omega),ec (dp f.cG (f.aL.l.take f.aL.l.length) p) (by omega)]at hb;exact ai mixed (au _) (ba (bx aF)) hb rfl (ag3 _) (by simp)
theorem QZ (p:aJ) (X:AV) (f:ag) (s:ByteArray) (o2 b1 b2 c1 c2 d1 d2 e1 e2 g1 g2:bu):(eb prog (cK []) (cJ prog [⟨3,[0,3,4],.exit 0,wJ s,[b1,b2,.cells f.two],[0,1]⟩,⟨7,[0,3,33,34,35],.exit 2,uN f f.ay.l.length,[c1,c2,.cells f.two],[0,1]⟩,⟨12,[0,3,46,47,48],.exit 4,uO f f.aQ.l.length,[d1,d2,.cells f.two],[0,1]⟩,⟨17,[0,3,59,60,61],.exit 6,uQ f f.aL.l.length,[e1,e2,.cells f.two],[0,1]⟩] (eV prog [⟨95,.bq [],[g1,g2,.cells f.two],[0,1]⟩] aN)) [] 3 116 [.ptr 0 0,.agg f.two] [.cells (p.C X),o2]).via l7=
  bif cj prog (ae f116 3) (wJ f.cG) [.cells ((p.atHome f.name).C X),o2,.cells f.two] (.exit 0) (wJ s) [b1,b2,.cells f.two] [0,1]then
  bif cj prog (ae f116 7) (uN f ((0:Nat):Int)) [b1,b2,.cells f.two] (.exit 2) (uN f f.ay.l.length) [c1,c2,.cells f.two] [0,1]then
  bif cj prog (ae f116 12) (uO f ((0:Nat):Int)) [c1,c2,.cells f.two] (.exit 4) (uO f f.aQ.l.length) [d1,d2,.cells f.two] [0,1]then
  bif cj prog (ae f116 17) (uQ f ((0:Nat):Int)) [d1,d2,.cells f.two] (.exit 6) (uQ f f.aL.l.length) [e1,e2,.cells f.two] [0,1]then
  bif cW prog 199 [.ptr 0 0,f.exts.av 13 aP.cells,aS f.cG] [e1,e2,.cells f.two] (.bq []) [g1,g2,.cells f.two] [0,1]then
  some (.bq [],[g1,g2])else none else none else none else none else none:=by kernel_rfl
noncomputable def aJ.Xr (p:aJ):AV:=if p.s.l=[]then aR else nB p.s.l 1
theorem aJ.Q0 (p:aJ):p.o1= .cells (p.C p.Xr):=by
 unfold aJ.o1 aJ.H aJ.Xr;split<;>rfl
theorem aJ.Q1 (p:aJ) (h:ByteArray):(p.atHome h).o1= .cells ((p.atHome h).C p.Xr)/\(p.atHome h).o2=p.o2:=by
 refine⟨(p.atHome h).Q0,?_⟩;unfold aJ.o2 aJ.H;show List.getD (if p.s.l=[]then(p.atHome h).H0 else(p.atHome h).H1) 1 bu.dead=_;split<;>rfl
theorem Q3 (p:aJ) (f:ag) (hp:p.s.l.length+f.sz<=cq) (hf:f.sz<=bL) (J:aa):bZ prog 116 [.ptr 0 0,.agg f.cells] (.bq []) (p.o1::p.o2::J) ((jF p f).o1::(jF p f).o2::J) [0,1]:=by
 rw[f.jW];have hz:f.cG.size+bw az.sz f.ay.l+bw bt.sz f.aQ.l+bw bN.sz f.aL.l+bw aP.sz f.exts.l+4<=f.sz:=by unfold ag.sz aX.sz;omega
 unfold cq bL at*;have n0:(p.atHome f.name).s.l.length=p.s.l.length:=rfl;have n1:=rf (f.cG.size+1) f.cG (p.atHome f.name);obtain⟨k,s',W,hr,hW⟩:=Ga f (f.cG.size+1) f.cG (p.atHome f.name) (by omega) (by unfold cq;omega) (by unfold bL;omega);have l0:=hr.ok.eI hW;have aaW:jF p f=dN f.cG f.exts.l (dp f.cG f.aL.l (bK f.cG f.aQ.l (bF f.cG (fg (f.cG.size+1) f.cG (p.atHome f.name)) f.ay.l))):=rfl;generalize hq1:fg (f.cG.size+1) f.cG (p.atHome f.name)=q1 at*;have n2:=iT f.cG q1 f.ay.l;rw[az.gA]at n2;have l1:=QV q1 f (by unfold cq;omega) (by unfold cq;omega);have y1:bF f.cG q1 (f.ay.l.take f.ay.l.length)=bF f.cG q1 f.ay.l:=by rw[ahR]
 have x1:bF f.cG q1 (f.ay.l.take 0)=q1:=by simp[bF]
 rw[y1,x1]at l1;generalize Zk:bF f.cG q1 f.ay.l=q2 at*;have n3:=jd f.cG f.aQ.l q2;have l2:=QW q2 f (by unfold cq;omega) (by unfold cq;omega);have y2:bK f.cG (f.aQ.l.take f.aQ.l.length) q2=bK f.cG f.aQ.l q2:=by rw[ahR]
 have x2:bK f.cG (f.aQ.l.take 0) q2=q2:=rfl;rw[y2,x2]at l2;generalize hq3:bK f.cG f.aQ.l q2=q3 at*;have n4:=lJ f.cG f.aL.l q3;have l3:=QY q3 f (by unfold cq;omega) (by unfold cq;omega);generalize hq4:dp f.cG f.aL.l q3=q4 at*;have l4:=F9 q4 f.exts f.cG (by unfold cq aX.sz;omega) (by unfold cq aX.sz;omega) [.cells f.two];have hb:=QZ p p.Xr f s' p.o2 q1.o1 q1.o2 q2.o1 q2.o2 q3.o1 q3.o2 q4.o1 q4.o2 (jF p f).o1 (jF p f).o2;rw[(p.Q1 f.name).1,(p.Q1 f.name).2]at l0;rw[←aaW]at l4;rw[bc l0,bc l1,bc l2,bc l3,bS l4,←p.Q0]at hb;exact xV (rT (au _) (ba (bx ab)) hb rfl) rfl J
theorem bZ.fR {P:Program}{g:FuncId}{args Gb:List AV}{x:AV}{H H1:aa}{W:List Nat}(h:bZ P g Gb x H H1 W) (w:Wk args Gb):bZ P g args x H H1 W:=
 ⟨h.1,λE w0 w1 vs hg hr=>h.2.1 E w0 w1 vs hg ⟨hr.1.trans w.1,λi y hy=>by
  obtain⟨z,hz,k⟩:=w.2 i y hy;exact k _ _ (hr.2 i z hz)⟩,h.2.2⟩
def fL (nl:Bool) (l:List az):AV:= .aY nl 11 l.length (λi=>(l.getD i default).one) .dA
def je (m:az):AV:= .aY m.mN 11 m.aC.length (λi=>(az.mE m.aC).getD i []) .dA
theorem mH (m:az):ev (je m) (fL m.mN m.aC):=ev.aY (λi hi=>by
 rw[az.ph];simp[ag4,hi,az.cells_one])
section
variable (nl:Bool) (l:List az) (a d k:Int)
def DG (i:Int):List AV:=bz 34 [(1,i64 a),(5,i64 d),(17,fL nl l),(18,i64 l.length),(19,i64 i)]
def uR (a b:Int):Int:=if b>a then b else a
theorem Gc (i:Nat):(db prog (cK []) (told prog [] [⟨28,0,i64 k⟩]) [] 3 (ae f181 7) (DG nl l a d i) []).via (cz [1,5,17,18,19] [] 0)=
  bif decide ((i:Int)<(l.length:Int))then bif decide ((0:Int)<=(i:Int)/\(i:Int)<(l.length:Int))then bif aD prog 181 [je (aA l i),i64 (IntKind.wrap .i64 (a+1))] [] (i64 k)then
   bif decide (uR d k>64)then some ⟨.exit 0,DG nl l a (uR d k) i,[],[],true⟩else some ⟨.normal,DG nl l a (uR d k) (IntKind.wrap .i64 ((i:Int)+1)),[],[],true⟩else none else none
  else some ⟨.exit 0,DG nl l a d i,[],[],true⟩:=by kernel_rfl
theorem Gd (i:Int):(eb prog (cK []) (cJ prog [⟨7,[1,5,17,18,19],.exit 0,DG nl l a d i,[],[]⟩] aN) [] 3 181 [fL nl l,i64 a] []).via ch=
  bif decide ((bif decide ((l.length:Int)>0)then IntKind.wrap .i64 (a+1)else a)>64)then some (i64 (bif decide ((l.length:Int)>0)then IntKind.wrap .i64 (a+1)else a))else
  bif cj prog (ae f181 7) (DG nl l a (bif decide ((l.length:Int)>0)then IntKind.wrap .i64 (a+1)else a) ((0:Nat):Int)) [] (.exit 0) (DG nl l a d i) [] []then some (i64 d)else none:=by kernel_rfl
theorem Q4 (f:ag):(eb prog (cK []) (told prog [] [⟨6,0,i64 k⟩]) [] 3 108 [.agg f.two] []).via ch=
  bif aD prog 181 [fL f.ay.nl f.ay.l,i64 0] [] (i64 k)then bif decide (k<=64)then some (i64 k)else some (i64 100)else none:=by kernel_rfl
end
def aaX (nl:Bool) (l:List az) (a:Int):Prop:=∃n:Int,(0<=n/\n<=65)/\∀H,bZ prog 181 [fL nl l,i64 a] (i64 n) H H []
theorem zq:∀(k:Nat) (nl:Bool) (l:List az) (a:Int),0<=a->a<=64->(64-a).toNat<=k->l.length<=dg->(∀m∈l,m.sm)->aaX nl l a
 |k,nl,l,a,h0,h1,hk,hl,hm=>by
  have lf:∀x∈[fL nl l,i64 a],LF x:=ao fe (ao (.sc _) bC);unfold dg at hl;have TG:IntKind.wrap .i64 (a+1)=a+1:=wi (by omega) (by omega);generalize TH:(bif decide ((l.length:Int)>0)then IntKind.wrap .i64 (a+1)else a)=d0;have hd:a<=d0/\d0<=a+1:=by
   rw[TG]at TH;by_cases h:(l.length:Int)>0
   ·rw[ag2 h]at TH;simp only[cond_true]at TH;omega
   ·rw[ag8 h]at TH;simp only[cond_false]at TH;omega
  by_cases j9:d0>64
  ·have hb:=Gd nl l a 0 0;rw[TH,ag2 j9]at hb;exact⟨d0,⟨by omega,by omega⟩,λH=>bG mixed (au _) (ba ab) hb rfl (.refl _) (.sc _) lf H⟩
  ·have Iu:=iE (P:=prog) (c:=ae f181 7)
    (λm T H=>∃(i:Nat) (d:Int),i<=l.length/\m=l.length-i/\(0<=d/\d<=64)/\T=DG nl l a d i/\H=[])
    (λx T H=>x= .exit 0/\H=[]/\∃(i:Nat) (d:Int),(0<=d/\d<=65)/\T=DG nl l a d i) 0 (by
    rintro m T H ⟨i,d,hi,rfl,hdd,rfl,rfl⟩;by_cases cO:i<l.length
    ·have IG:(l.length:Int)>0:=by omega
     have ha:a+1<=64:=by rw[ag2 IG,TG]at TH;simp only[cond_true]at TH;omega
     have oJ:aA l i∈l:=bM cO;have Bh:=az.dD (hm _ oJ)
     match k,hk with
     |0,hk=>omega
     |k+1,hk=>
      obtain⟨n,hn,hc⟩:=zq k (aA l i).mN (aA l i).aC (a+1) (by omega) (by omega) (by omega) Bh.aC.1 Bh.aC.2;have hb:=Gc nl l a d n i;have hcc:bZ prog 181 [je (aA l i),i64 (a+1)] (i64 n) [] [] []:=(hc []).fR (.cons (mH _) (.refl _));rw[TG,ag2 (by omega:(i:Int)<(l.length:Int)),ag2 (by omega:(0:Int)<=(i:Int)/\(i:Int)<(l.length:Int)),wi (x:=(i:Int)+1) (by omega) (by omega),ak hcc]at hb;have U4:0<=uR d n/\uR d n<=65:=by unfold uR;split<;>omega
      by_cases hb6:uR d n>64
      ·rw[ag2 hb6]at hb;exact⟨_,_,_,_,ai mixed (au _) aF hb rfl (ag9 _) (by simp),λ_ _=>ag9 _,.inr ⟨by simp,rfl,rfl,i,uR d n,U4,rfl⟩⟩
      ·rw[ag8 hb6]at hb;exact⟨_,_,_,_,ai mixed (au _) aF hb rfl (ag9 _) (by simp),λ_ _=>ag9 _,.inl ⟨rfl,l.length-(i+1),by omega,i+1,uR d n,by omega,rfl,by omega,rfl,rfl⟩⟩
    ·have hb:=Gc nl l a d 0 i;rw[ag8 (by omega:¬(i:Int)<(l.length:Int))]at hb;exact⟨_,_,_,_,ai mixed (au _) aF hb rfl (ag9 _) (by simp),λ_ _=>ag9 _,.inr ⟨by simp,rfl,rfl,i,d,⟨by omega,by omega⟩,rfl⟩⟩)
   obtain⟨x,T',H',W,dC,_,rfl,rfl,i,d,hdd,rfl⟩:=Iu _ _ _ ⟨0,d0,ag9 _,rfl,⟨by omega,by omega⟩,rfl,rfl⟩;have dC:=dC.wr (Wr':=[]) (λl _ hl=>absurd hl (ahg _));have hb:=Gd nl l a d i;rw[TH,ag8 j9,bc dC]at hb;exact⟨d,hdd,λH=>bG mixed (au _) (ba ab) hb rfl (.refl _) (.sc _) lf H⟩
theorem JS (f:ag) (h:f.sz<=bL):qL prog (.int .i64) 108 [.agg f.cells]:=by
 rw[f.jW];have hs:=ag.dD h;obtain⟨n,hn,hc⟩:=zq 64 f.ay.nl f.ay.l 0 (by omega) (by omega) (by omega) hs.2.2.2.2.1.1 hs.2.2.2.2.1.2;have hb:=Q4 n f;rw[ak (hc [])]at hb;have lf:∀x∈[AV.agg f.two],LF x:=ao (.agg _ (by rw[←f.jW];exact xT f)) bC;by_cases h64:n<=64
 ·rw[ag2 h64]at hb;exact⟨n,λH=>bG mixed (au _) aF hb rfl (.refl _) (.sc _) lf H⟩
 ·rw[ag8 h64]at hb;exact⟨100,λH=>bG mixed (au _) aF hb rfl (.refl _) (.sc _) lf H⟩
theorem mI {P:Program}{g:FuncId}{args:List AV}{x:AV}{H1:aa}{W:List Nat}(h:bZ P g args x [] H1 W) (hx:LF x) (dn:∀a∈args,LF a) (H:aa):bZ P g args x H H []:=by
 have h2:bZ P g args x [] H1 []:=h.wr (λl _ hl=>absurd hl (ahg _));have h3:=tp h2 hx;have:=mC h3 (eP dn) (qP hx) (λo ho=>by simp at ho) H;exact this
theorem NK {E:Env}{H:aa}{k b:Nat}(h:owns E (H++[.cN]) k b):owns E H k b:=by
 by_cases hk:k<H.length
 ·unfold owns at h ⊢;rwa [ahb hk]at h
 ·unfold owns at h;by_cases w9:k=H.length
  ·subst w9;rw[ahi (ag3 _),ahX,ahw]at h;exact h.elim
  ·rw[ahu (by simp;omega)]at h;exact h.elim
theorem an.U5 {P:Program}{c:Code}{T T1:List AV}{H H1:aa}{x:bj}{W:List Nat}(h:an P c T (H++[.cN]) x T1 H1 W):an P c T H x T1 H1 W:=by
 have hlen:=h.2.1;simp only[ahB,ahv,aiz]at hlen;refine⟨λn0 W0 hn hW E w0 w1 a D s6 hg ht hd=>wp_mono (h.1 n0 W0 (by simp;omega) hW E w0 w1 a D (by simp;omega) hg.aaU ht hd) ?_,⟨by omega,λl hl hm=>by rw[h.2.2 l (by simp;omega) hm,ahb hl]⟩⟩;rintro e a' w' ⟨E',ax,T2,H2,⟨rfl,rfl,rfl⟩,r,ex,g,t,d⟩;refine⟨E',ax,_,_,⟨rfl,rfl,rfl⟩,r,⟨ex.le,ex.size,by omega,λ{l} hl hw=> ?_,λhl hw ho=>ex.iX hl hw (Py ho),λ{l} hl=>ex.lL (by simp;omega),λ{b} hb h0=>ex.stay hb (λk ho=>h0 k (NK ho))⟩,g,t,d⟩;rw[ex.same hl hw,ahb (by omega)]
noncomputable def uS (f:ag):Int:=yR prog (.int .i64) 108 [.agg f.cells]
theorem rU (f:ag) (h:f.sz<=bL) (H:aa):bZ prog 108 [.agg f.cells] (i64 (uS f)) H H []:=yS (Br (JS f h)) H
def aU (l:List ag) (i:Nat):ag:=l.getD i default
noncomputable def rV (f:ag):Bool:=decide (uS f>64)
def eW (l:List ag) (p:aJ):aJ:=l.foldl jF p
def fS (r:aX ag):aJ:=⟨⟨true,[]⟩,r,aq,0,aq⟩
def gB:AV:= .sc (.pointer none)
theorem DH (p:aJ) (f:ag):(jF p f).s.l.length<=p.s.l.length+f.sz:=by
 have n0:(p.atHome f.name).s.l.length=p.s.l.length:=rfl;have n1:=rf (f.cG.size+1) f.cG (p.atHome f.name);have n2:=iT f.cG (fg (f.cG.size+1) f.cG (p.atHome f.name)) f.ay.l;rw[az.gA]at n2;have n3:=jd f.cG f.aQ.l (bF f.cG (fg (f.cG.size+1) f.cG (p.atHome f.name)) f.ay.l);have n4:=lJ f.cG f.aL.l (bK f.cG f.aQ.l (bF f.cG (fg (f.cG.size+1) f.cG (p.atHome f.name)) f.ay.l));have n5:=ra f.cG f.exts.l (dp f.cG f.aL.l (bK f.cG f.aQ.l (bF f.cG (fg (f.cG.size+1) f.cG (p.atHome f.name)) f.ay.l)));unfold jF ag.sz aX.sz;omega
theorem ag.bT (f:ag):1<=f.sz:=by unfold ag.sz;omega
theorem py (l:List ag) (p:aJ):(eW l p).s.l.length<=p.s.l.length+bw ag.sz l:=ll _ ag.sz (λq x=>DH q x) l p
section
variable (r:aX ag)
def xr (b:Int) (i:Int):List AV:=bz 47 [(0,r.av 11 ag.cells),(2,gB),(3,aS aq),(4,i64 b),(10,r.av 11 ag.cells),(11,i64 r.l.length),(12,i64 i)]
def JT (i:Int):List AV:=bz 47 [(7,.ptr 0 0),(23,r.av 11 ag.cells),(24,i64 r.l.length),(25,i64 i)]
theorem zr (i:Nat) (k:Int):(db prog (cK []) (told prog [] [⟨17,0,i64 k⟩]) [] 3 (ae f52 2) (xr r 0 i) []).via (cz [0,2,3,4,10,11,12] [] 0)=
  bif decide ((i:Int)<(r.l.length:Int))then bif decide ((0:Int)<=(i:Int)/\(i:Int)<(r.l.length:Int))then bif aD prog 108 [.agg (aU r.l i).cells] [] (i64 k)then
   bif decide (k>64)then some ⟨.ret,xr r 2 i,[],[],true⟩else some ⟨.normal,xr r 0 (IntKind.wrap .i64 ((i:Int)+1)),[],[],true⟩else none else none
  else some ⟨.exit 0,xr r 0 i,[],[],true⟩:=by kernel_rfl
theorem Ge (i:Nat) (o1 o2 a1 a2:bu):(db prog (cK []) (eV prog [⟨31,.bq [],[a1,a2,.cells (aU r.l i).cells],[0,1]⟩] aN) [] 3 (ae f52 9) (JT r i) [o1,o2]).via (cz [7,23,24,25] [] 2)=
  bif decide ((i:Int)<(r.l.length:Int))then bif decide ((0:Int)<=(i:Int)/\(i:Int)<(r.l.length:Int))then bif cW prog 116 [.ptr 0 0,.agg (aU r.l i).cells] [o1,o2,.cells (aU r.l i).cells] (.bq []) [a1,a2,.cells (aU r.l i).cells] [0,1]then
   some ⟨.normal,JT r (IntKind.wrap .i64 ((i:Int)+1)),[a1,a2],[0,1],tT 2 a1 a2⟩else none else none
  else some ⟨.exit 2,JT r i,[o1,o2],[],tT 2 o1 o2⟩:=by kernel_rfl
theorem Q5 (i:Nat):(eb prog (cK []) (cJ prog [⟨2,[0,2,3,4,10,11,12],.ret,xr r 2 i,[],[]⟩] aN) [] 3 52 [r.av 11 ag.cells] []).via ch=
  bif cj prog (ae f52 2) (xr r 0 ((0:Nat):Int)) [] .ret (xr r 2 i) [] []then some (.bq [gB,aS aq,i64 2])else none:=by kernel_rfl
theorem U6 (n:Nat) (q:aJ) (X:AV) (o2:bu):(eb prog (cK []) (cJ prog [⟨2,[0,2,3,4,10,11,12],.exit 0,xr r 0 n,[],[]⟩,⟨9,[7,23,24,25],.exit 2,JT r n,[.cells (q.C X),o2],[0,1]⟩] aN) [] 3 52 [r.av 11 ag.cells] []).via id=
  bif cj prog (ae f52 2) (xr r 0 ((0:Nat):Int)) [] (.exit 0) (xr r 0 n) [] []then
  bif cj prog (ae f52 9) (JT r ((0:Nat):Int)) [.cells ((fS r).C aR)] (.exit 2) (JT r n) [.cells (q.C X),o2] [0,1]then
   bif q.e !=0 then some (.bq [gB,aS q.name,i64 q.e],[.cells (q.C X),o2],[])else some (.bq [.ptr 0 0,aS aq,i64 0],[.cells (q.C X),o2],[])else none else none:=by kernel_rfl
end
def aJ.done (p:aJ):aJ:={ p with s:=⟨p.s.l.isEmpty,p.s.l⟩}
theorem U7 (p:aJ):Wk (p.C p.Xr) p.done.cells:=by
 unfold aJ.Xr aJ.C aJ.cells aJ.done;refine .cons ?_ (.refl _);by_cases h:p.s.l=[]
 ·rw[if_pos h,h];exact fc
 ·rw[if_neg h];have:p.s.l.isEmpty=false:=by cases hl:p.s.l with
   |nil=>exact absurd hl h
   |cons a l=>rfl
  rw[this];exact ev.row (λ_ _=>rfl)
theorem Q6 (p:aJ):∀x∈p.cells,LF x:=ao fe (ao fe (ao (.sc _) (ao (.sc _) (ao (.sc _) bC))))
noncomputable def gC (r:aX ag):aJ:=eW r.l (fS r)
noncomputable def DI (r:aX ag):AV:=
 bif r.l.any rV then .bq [gB,aS aq,i64 2]else bif (gC r).e !=0 then .bq [gB,aS (gC r).name,i64 (gC r).e]else .bq [(gC r).done.av,aS aq,i64 0]
theorem Lv (r:aX ag) (hr:bw ag.sz r.l<=bL) (H:aa):bZ prog 52 [r.av 11 ag.cells] (DI r) H H []:=by
 have lf:∀a∈[r.av 11 ag.cells],LF a:=ao fe bC;have hlen:=cy (f:=ag.sz) (l:=r.l) (λx _=>x.bT);have ga:∀i,i<r.l.length->(aU r.l i).sz<=bL:=λi hi=>ahx (cf (f:=ag.sz) (bM hi)) hr
 unfold bL at hr;have hl:=iS (P:=prog) (c:=ae f52 2) (λi=>xr r 0 i) (λi=>xr r 2 i) (λi=>rV (aU r.l i)) (.exit 0) (by simp) r.l.length (λi hi hc=>by
  have hb:=zr r i (uS (aU r.l i));have tV:uS (aU r.l i)>64:=aht hc;rw[ag2 (by omega:(i:Int)<(r.l.length:Int)),ag2 (by omega:(0:Int)<=(i:Int)/\(i:Int)<(r.l.length:Int)),ak (rU _ (ga i hi) []),ag2 tV]at hb;exact ai mixed (au _) aF hb rfl (ag3 _) (by simp)) (λi hi hc=>by
  have hb:=zr r i (uS (aU r.l i));have tV:¬uS (aU r.l i)>64:=of_decide_eq_false hc;rw[ag2 (by omega:(i:Int)<(r.l.length:Int)),ag2 (by omega:(0:Int)<=(i:Int)/\(i:Int)<(r.l.length:Int)),ak (rU _ (ga i hi) []),ag8 tV,wi (x:=(i:Int)+1) (by omega) (by omega)]at hb;exact ai mixed (au _) aF hb rfl (ag3 _) (by simp)) (by
  have hb:=zr r r.l.length 0;rw[ag8 (by omega)]at hb;exact ai mixed (au _) aF hb rfl (ag3 _) (by simp))
 have xu:∀i (hi:i<r.l.length),aU r.l i=r.l[i]:=λi hi=>by simp[aU,ag4,hi]
 rcases hl with ⟨h,fy⟩|⟨j,hj,hc,_,h⟩
 ·have ha:r.l.any rV=false:=by
   rw[List.any_eq_false];intro x hx;obtain⟨i,hi,rfl⟩:=ah0 hx;rw[←xu i hi,fy i hi];simp
  have l2:=dR (P:=prog) (c:=ae f52 9) (λi=>JT r i) (λi=>[(eW (r.l.take i) (fS r)).o1,(eW (r.l.take i) (fS r)).o2]) [0,1] (.exit 2) (by simp) r.l.length (λi hi=>by
   have hb:=Ge r i (eW (r.l.take i) (fS r)).o1 (eW (r.l.take i) (fS r)).o2 (eW (r.l.take (i+1)) (fS r)).o1 (eW (r.l.take (i+1)) (fS r)).o2;have e1:eW (r.l.take (i+1)) (fS r)=jF (eW (r.l.take i) (fS r)) (aU r.l i):=gv _ _ _ _ hi;have q1:=py (r.l.take i) (fS r);have q0:(fS r).s.l.length=0:=rfl;have q2:=dM ag.sz r.l i;have q3:=ga i hi;simp only[e1]at hb ⊢;rw[ag2 (by omega:(i:Int)<(r.l.length:Int)),ag2 (by omega:(0:Int)<=(i:Int)/\(i:Int)<(r.l.length:Int)),wi (x:=(i:Int)+1) (by omega) (by omega),bS (Q3 _ (aU r.l i) (by unfold cq;unfold bL at q3;omega) q3 _),ec _ (by omega)]at hb;exact ai mixed (au _) (bx ab) hb rfl (ag3 _) (by simp)) (by
   have hb:=Ge r r.l.length (eW (r.l.take r.l.length) (fS r)).o1 (eW (r.l.take r.l.length) (fS r)).o2 (eW (r.l.take r.l.length) (fS r)).o1 (eW (r.l.take r.l.length) (fS r)).o2;rw[ag8 (by omega),ec _ (by omega)]at hb;exact ai mixed (au _) (bx ab) hb rfl (ag3 _) (by simp))
  have e0:eW (r.l.take 0) (fS r)=fS r:=rfl;have eN:eW (r.l.take r.l.length) (fS r)=gC r:=by unfold gC;rw[ahR]
  simp only[e0,eN]at l2;have eo:[(fS r).o1,(fS r).o2]=[.cells ((fS r).C aR)]++[.cN]:=by
   rw[←(fS r).UY];exact if_pos rfl
  rw[eo]at l2;have l2:=l2.U5;rw[(gC r).Q0]at l2;have hb:=U6 r r.l.length (gC r) (gC r).Xr (gC r).o2;rw[bc h,bc l2]at hb;unfold DI;rw[ha];cases he:((gC r).e !=0)with
  |true=>
   rw[he]at hb;exact mI (gQ mixed (au _) (ba ab) (pq hb rfl)) (.bq _ (ao (.sc _) (ao (.sc _) (ao (.sc _) bC)))) lf H
  |false=>
   rw[he]at hb;have c1:=gQ mixed (au _) (ba ab) (pq hb rfl);have c2:=c1.WZ (H2:=[.cells (gC r).done.cells,.dead]) (DB (.cells (U7 _)) (.dead _)) (λl hl=>absurd hl (ahg _));have c3:=F1 c2 (l:=0) (m:=1) (o:= .dead) rfl (ag9 _) (Q6 _) (by omega) rfl (λh=>absurd h (ahg _));exact mI c3 (.bq _ (ao (.dO _) (ao (.sc _) (ao (.sc _) bC)))) lf H
 ·have ha:r.l.any rV=true:=by
   rw[List.any_eq_true];exact⟨r.l[j],ahG hj,by rw[←xu j hj];exact hc⟩
  have hb:=Q5 r j;rw[bc h]at hb;unfold DI;rw[ha];exact bG mixed (au _) (ba ab) hb rfl (.refl _) (.bq _ (ao (.sc _) (ao (.sc _) (ao (.sc _) bC)))) lf H
end Go.Proofs.YtiipaliigpkfhaaGreat.Ab
