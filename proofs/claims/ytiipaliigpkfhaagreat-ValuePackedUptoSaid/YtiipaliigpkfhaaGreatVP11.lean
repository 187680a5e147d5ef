/- Lemmas 11. -/
import Derived.Test.YtiipaliigpkfhaaGreatVP6
import Derived.Test.YtiipaliigpkfhaaGreatVP10
set_option maxRecDepth 100000
namespace Go.Proofs.YtiipaliigpkfhaaGreat.Ab
open Go Go.RowKit Go.Proofs Go.Proofs.Tryz
section
def wT (r:aX bt) (sc:ByteArray) (j:Nat) (i:Int):List AV:=bz 40 [(1,aS sc),(2,.ptr 3 0),(3,.ptr 4 0),(4,.ptr 5 0),(11,r.av 4 bt.cells),(12,i64 r.l.length),(13,i64 j),(27,(bh r.l j).aM.av 4 eT.cells),(28,i64 (bh r.l j).aM.l.length),(29,i64 i)]
theorem vO (p q:bg) (fs:jo) (f:ag) (r:aX bt) (sc:ByteArray) (j:Nat) (x:ByteArray) (i:Nat) (ok:Bool):(iH prog (cK []) (jn prog (cK []) [⟨7,4,ok,bE x,[0,1,2]⟩] (eV prog [⟨37,aS (ar sc (jc (bh r.l j).aM.l i).name),aT q fs f++[.cells (bh r.l j).cells,.cells (jc (bh r.l j).aM.l i).cells],[0,1,2]⟩] aN)) 3 (ae f173 5) (wT r sc j i) (aT p fs f++[.cells (bh r.l j).cells])).via (oe [1,2,3,4,11,12,13,27,28,29] [] 10)=
  bif decide ((i:Int)<((bh r.l j).aM.l.length:Int))then bif decide ((0:Int)<=(i:Int)/\(i:Int)<((bh r.l j).aM.l.length:Int))then
   bif ok then bif cW prog 170 [aS sc,aS (jc (bh r.l j).aM.l i).name,i64 4,.ptr 3 0,.ptr 4 0] (aT p fs f++[.cells (bh r.l j).cells,.cells (jc (bh r.l j).aM.l i).cells]) (aS (ar sc (jc (bh r.l j).aM.l i).name)) (aT q fs f++[.cells (bh r.l j).cells,.cells (jc (bh r.l j).aM.l i).cells]) [0,1,2]then some ⟨.normal,wT r sc j (IntKind.wrap .i64 ((i:Int)+1)),aT q fs f++[.cells (bh r.l j).cells],[0,1,2],true⟩else none
   else bif fj prog 170 [aS sc,aS (jc (bh r.l j).aM.l i).name,i64 4,.ptr 3 0,.ptr 4 0] (aT p fs f++[.cells (bh r.l j).cells,.cells (jc (bh r.l j).aM.l i).cells]) (bE x) [0,1,2]then some ⟨.panic (bE x),fD 40,[],[0,1,2],true⟩else none else none
  else some ⟨.exit 2,wT r sc j i,aT p fs f++[.cells (bh r.l j).cells],[],true⟩:=by kernel_rfl
end
theorem GO (p:bg) (fs:jo) (f:ag) (r:aX bt) (sc:ByteArray) (j:Nat) (hs:sc.size<=cq) (hb:(bh r.l j).sz<=bL):dj (ae f173 5) (λi=>wT r sc j i) (λq=>aT q fs f++[.cells (bh r.l j).cells]) 2 40 (λ(p:bg) (v:eT)=>p.v f.name sc 4 v.name) (bh r.l j).aM.l p:=by
 unfold bt.sz aX.sz bL at hb;have hlen:=cy (f:=eT.sz) (l:=(bh r.l j).aM.l) (λx _=>x.bT);refine ia (by simp) (λ_ _=>True) trivial (λ_ _=>rfl) (λi s s' hi _ gY=>⟨?_,trivial⟩) (λi s hi _ gY=> ?_) (λs _=> ?_)
 ·have e:=dw.ok (pD s fs f (a:=sc) (b:=(jc (bh r.l j).aM.l i).name) 4 (by unfold cq at hs;omega) (by have:=cf (f:=eT.sz) (bM hi);have:=eT.nm (jc (bh r.l j).aM.l i);unfold jc at*;omega)) gY;have k1:cW prog 170 [aS sc,aS (jc (bh r.l j).aM.l i).name,i64 4,.ptr 3 0,.ptr 4 0] (aT s fs f++[.cells (bh r.l j).cells,.cells (jc (bh r.l j).aM.l i).cells]) (aS (ar sc (jc (bh r.l j).aM.l i).name)) (aT s' fs f++[.cells (bh r.l j).cells,.cells (jc (bh r.l j).aM.l i).cells]) [0,1,2]=true:=by have e1:=e (uY++[.cells (bh r.l j).cells,.cells (jc (bh r.l j).aM.l i).cells]);exact bS e1
  have hb:=vO s s' fs f r sc j aq i true;rw[ag2 (by omega:(i:Int)<((bh r.l j).aM.l.length:Int)),ag2 (by omega:(0:Int)<=(i:Int)/\(i:Int)<((bh r.l j).aM.l.length:Int)),k1,wi (x:=(i:Int)+1) (by omega) (by omega)]at hb;exact dZ mixed (au _) (cT (au _) (bx ab)) hb rfl rfl (ag3 _) (by simp)
 ·obtain⟨x,e⟩:=dw.bad (pD s fs f (a:=sc) (b:=(jc (bh r.l j).aM.l i).name) 4 (by unfold cq at hs;omega) (by have:=cf (f:=eT.sz) (bM hi);have:=eT.nm (jc (bh r.l j).aM.l i);unfold jc at*;omega)) gY;have k1:fj prog 170 [aS sc,aS (jc (bh r.l j).aM.l i).name,i64 4,.ptr 3 0,.ptr 4 0] (aT s fs f++[.cells (bh r.l j).cells,.cells (jc (bh r.l j).aM.l i).cells]) (bE x) [0,1,2]=true:=by have e1:=e (uY++[.cells (bh r.l j).cells,.cells (jc (bh r.l j).aM.l i).cells]);exact fB e1
  have hb:=vO s s fs f r sc j x i false;rw[ag2 (by omega:(i:Int)<((bh r.l j).aM.l.length:Int)),ag2 (by omega:(0:Int)<=(i:Int)/\(i:Int)<((bh r.l j).aM.l.length:Int)),k1]at hb;exact⟨x,dS mixed (au _) (cT (au _) (bx ab)) hb rfl (eQ _) (ag3 _) (rW s fs f [.cells (bh r.l j).cells] (λo ho=>by
   simp only[ahl,ahr,ahO]at ho;rcases ho with rfl
   ·exact lfo _ (xY _))) (by simp)⟩
 ·have hb:=vO s s fs f r sc j aq (bh r.l j).aM.l.length true;rw[ag8 (by omega)]at hb;exact dZ mixed (au _) (cT (au _) (bx ab)) hb rfl rfl (ag3 _) (by simp)
section
def GP (r:aX bt) (sc:ByteArray) (i:Int):List AV:=bz 40 [(1,aS sc),(2,.ptr 3 0),(3,.ptr 4 0),(4,.ptr 5 0),(11,r.av 4 bt.cells),(12,i64 r.l.length),(13,i64 i)]
theorem uZ (p q q2:bg) (fs:jo) (f:ag) (r:aX bt) (sc x y:ByteArray) (i:Nat) (ok oS:Bool):(iH prog (cK []) (nF prog [⟨5,[1,2,3,4,11,12,13,27,28,29],oS,.exit 2,wT r sc i (bh r.l i).aM.l.length,aT q2 fs f++[.cells (bh r.l i).cells],bE y,fD 40,[0,1,2]⟩] (jn prog (cK []) [⟨3,8,ok,bE x,[0,1,2]⟩] (eV prog [⟨25,aS (ar sc (bh r.l i).name),aT q fs f++[.cells (bh r.l i).cells],[0,1,2]⟩] aN))) 3 (ae f173 1) (GP r sc i) (aT p fs f)).via (oe [1,2,3,4,11,12,13] [] 9)=
  bif decide ((i:Int)<(r.l.length:Int))then bif decide ((0:Int)<=(i:Int)/\(i:Int)<(r.l.length:Int))then
   bif ok then bif cW prog 171 [.ptr 0 0,aS sc,aS (bh r.l i).name,.agg (hY 3 f.name fz (bh r.l i).cells fQ)] (aT p fs f++[.cells (bh r.l i).cells]) (aS (ar sc (bh r.l i).name)) (aT q fs f++[.cells (bh r.l i).cells]) [0,1,2]then
    bif oS then bif cj prog (ae f173 5) (wT r sc i ((0:Nat):Int)) (aT q fs f++[.cells (bh r.l i).cells]) (.exit 2) (wT r sc i (bh r.l i).aM.l.length) (aT q2 fs f++[.cells (bh r.l i).cells]) [0,1,2]then some ⟨.normal,GP r sc (IntKind.wrap .i64 ((i:Int)+1)),aT q2 fs f,[0,1,2,0,1,2],true⟩else none
    else bif cj prog (ae f173 5) (wT r sc i ((0:Nat):Int)) (aT q fs f++[.cells (bh r.l i).cells]) (.panic (bE y)) (fD 40) (dc [0,1,2] (aT q fs f++[.cells (bh r.l i).cells])) [0,1,2]then some ⟨.panic (bE y),fD 40,[],[0,1,2,0,1,2],true⟩else none else none
   else bif fj prog 171 [.ptr 0 0,aS sc,aS (bh r.l i).name,.agg (hY 3 f.name fz (bh r.l i).cells fQ)] (aT p fs f++[.cells (bh r.l i).cells]) (bE x) [0,1,2]then some ⟨.panic (bE x),fD 40,[],[0,1,2],true⟩else none else none
  else some ⟨.exit 0,GP r sc i,aT p fs f,[],true⟩:=by kernel_rfl
end
theorem Vi (p:bg) (fs:jo) (f:ag) (r:aX bt) (sc:ByteArray) (hs:sc.size<=cq) (hb:r.sz bt.sz<=bL):dj (ae f173 1) (λi=>GP r sc i) (λq=>aT q fs f) 0 40 (oh f.name sc) r.l p:=by
 have hlen:=gM (r:=r) bt.bT;unfold bL at hb;refine ia (by simp) (λ_ _=>True) trivial (λ_ _=>rfl) (λi s s' hi _ gY=>⟨?_,trivial⟩) (λi s hi _ gY=> ?_) (λs _=> ?_)
 ·have hm:(bh r.l i).sz<=bL:=by have:=fI (f:=bt.sz) (r:=r) (bM hi);unfold bh bL;omega
  obtain⟨q,h1,h2⟩:=bn gY;have e:=(pA s fs (a:=sc) (b:=(bh r.l i).name) ((nC (ar sc (bh r.l i).name) (bh r.l i)).at f.name) rfl (by unfold cq at hs;omega) (by have:=bt.nm (bh r.l i);unfold bL at hm;omega)).fR (iq (GL (ar sc (bh r.l i).name) (bh r.l i) f.name));unfold dw at e;have Xx:s.add ((nC (ar sc (bh r.l i).name) (bh r.l i)).at f.name)=some q:=h1;rw[Xx]at e;have k1:cW prog 171 [.ptr 0 0,aS sc,aS (bh r.l i).name,.agg (hY 3 f.name fz (bh r.l i).cells fQ)] (aT s fs f++[.cells (bh r.l i).cells]) (aS (ar sc (bh r.l i).name)) (aT q fs f++[.cells (bh r.l i).cells]) [0,1,2]=true:=by have e1:=e (sO f++[.cells (bh r.l i).cells]);exact bS e1
  have l:=GO q fs f r sc i hs hm;unfold dj at l;have Zj:gq (λ(p:bg) (v:eT)=>p.v f.name sc 4 v.name) (bh r.l i).aM.l q=some s':=h2;rw[Zj]at l;have hb:=uZ s q s' fs f r sc aq aq i true true;rw[ag2 (by omega:(i:Int)<(r.l.length:Int)),ag2 (by omega:(0:Int)<=(i:Int)/\(i:Int)<(r.l.length:Int)),k1,bc l,wi (x:=(i:Int)+1) (by omega) (by omega)]at hb;exact(dZ mixed (au _) (eL (cT (au _) (bx ab))) hb rfl rfl (ag3 _) (by simp)).eI (by simp)
 ·have hm:(bh r.l i).sz<=bL:=by have:=fI (f:=bt.sz) (r:=r) (bM hi);unfold bh bL;omega
  have e:=(pA s fs (a:=sc) (b:=(bh r.l i).name) ((nC (ar sc (bh r.l i).name) (bh r.l i)).at f.name) rfl (by unfold cq at hs;omega) (by have:=bt.nm (bh r.l i);unfold bL at hm;omega)).fR (iq (GL (ar sc (bh r.l i).name) (bh r.l i) f.name));unfold dw at e;have zH:(s.add ((nC (ar sc (bh r.l i).name) (bh r.l i)).at f.name)).bind (gq (λ(p:bg) (v:eT)=>p.v f.name sc 4 v.name) (bh r.l i).aM.l)=none:=gY;cases h1:s.add ((nC (ar sc (bh r.l i).name) (bh r.l i)).at f.name)with
  |some q=>
   rw[h1]at e zH;have k1:cW prog 171 [.ptr 0 0,aS sc,aS (bh r.l i).name,.agg (hY 3 f.name fz (bh r.l i).cells fQ)] (aT s fs f++[.cells (bh r.l i).cells]) (aS (ar sc (bh r.l i).name)) (aT q fs f++[.cells (bh r.l i).cells]) [0,1,2]=true:=by have e1:=e (sO f++[.cells (bh r.l i).cells]);exact bS e1
   have l:=GO q fs f r sc i hs hm;unfold dj at l;rw[ahH]at zH;rw[zH]at l;obtain⟨y,l⟩:=l;have hb:=uZ s q q fs f r sc aq y i true false;rw[ag2 (by omega:(i:Int)<(r.l.length:Int)),ag2 (by omega:(0:Int)<=(i:Int)/\(i:Int)<(r.l.length:Int)),k1,bc l]at hb;exact⟨y,dS mixed (au _) (eL (cT (au _) (bx ab))) hb rfl (eQ _) (ag3 _) (λo ho=>(fk _ _ _ 9 (by omega) o ho).1) (by simp)⟩
  |none=>
   rw[h1]at e;obtain⟨x,e⟩:=e;have k1:fj prog 171 [.ptr 0 0,aS sc,aS (bh r.l i).name,.agg (hY 3 f.name fz (bh r.l i).cells fQ)] (aT s fs f++[.cells (bh r.l i).cells]) (bE x) [0,1,2]=true:=by have e1:=e (sO f++[.cells (bh r.l i).cells]);exact fB e1
   have hb:=uZ s s s fs f r sc x aq i false true;rw[ag2 (by omega:(i:Int)<(r.l.length:Int)),ag2 (by omega:(0:Int)<=(i:Int)/\(i:Int)<(r.l.length:Int)),k1]at hb;exact⟨x,dS mixed (au _) (eL (cT (au _) (bx ab))) hb rfl (eQ _) (ag3 _) (λo ho=>(fk _ _ _ 9 (by omega) o ho).1) (by simp)⟩
 ·have hb:=uZ s s s fs f r sc aq aq r.l.length true true;rw[ag8 (by omega)]at hb;exact dZ mixed (au _) (eL (cT (au _) (bx ab))) hb rfl rfl (ag3 _) (by simp)
theorem GQ (p q:bg) (fs:jo) (f:ag) (r:aX bt) (sc:ByteArray) (x:ByteArray) (ok:Bool):(TI prog (cK []) (nF prog [⟨1,[1,2,3,4,11,12,13],ok,.exit 0,GP r sc r.l.length,aT q fs f,bE x,fD 40,[0,1,2]⟩] aN) 3 173 [r.av 4 bt.cells,aS sc,.ptr 3 0,.ptr 4 0,.ptr 5 0] (aT p fs f)).via id=
  bif ok then bif cj prog (ae f173 1) (GP r sc ((0:Nat):Int)) (aT p fs f) (.exit 0) (GP r sc r.l.length) (aT q fs f) [0,1,2]then some (false,.bq [],aT q fs f,[0,1,2])else none
  else bif cj prog (ae f173 1) (GP r sc ((0:Nat):Int)) (aT p fs f) (.panic (bE x)) (fD 40) (dc [0,1,2] (aT p fs f)) [0,1,2]then some (true,bE x,[],[0,1,2])else none:=by kernel_rfl
theorem DT (p:bg) (fs:jo) (f:ag) (r:aX bt) (sc:ByteArray) (hs:sc.size<=cq) (hb:r.sz bt.sz<=bL):dw 173 [r.av 4 bt.cells,aS sc,.ptr 3 0,.ptr 4 0,.ptr 5 0] (λq=>aT q fs f) p (gU f.name sc r.l p) (.bq []):=by
 refine dw.of (n:=9) (by omega) (λq=>rfl) (λq=>fk q fs f 9 (by omega)) rfl rfl ?_;have l:=Vi p fs f r sc hs hb;unfold dj at l;have er:gU f.name sc r.l p=gq _ _ p:=rfl
 cases h:gU f.name sc r.l p with
 |some q=>
  rw[er]at h;rw[h]at l;have ht:=GQ p q fs f r sc aq true;rw[bc l]at ht;have:=kH mixed (au _) (eL ab) (ni ht rfl);rw[if_neg (by simp)]at this;exact this
 |none=>
  rw[er]at h;rw[h]at l;obtain⟨y,l⟩:=l;have ht:=GQ p p fs f r sc y false;rw[bc l]at ht;have:=kH mixed (au _) (eL ab) (ni ht rfl);rw[if_pos rfl]at this;exact⟨y,this (eQ _) (λo ho=>(fk p fs f 9 (by omega) o ho).1) _ (λl h=>h)⟩
section
def GR (r:aX aP) (sc:ByteArray) (i:Int):List AV:=bz 41 [(1,aS sc),(2,.ptr 3 0),(3,.ptr 4 0),(9,r.av 13 aP.cells),(10,i64 r.l.length),(11,i64 i)]
theorem zI (p q:bg) (fs:jo) (f:ag) (r:aX aP) (sc x:ByteArray) (i:Nat) (ok:Bool):(iH prog (cK []) (jn prog (cK []) [⟨3,8,ok,bE x,[0,1,2]⟩] (eV prog [⟨23,aS (ar sc (bH r.l i).name),aT q fs f++[.cells (bH r.l i).cells],[0,1,2]⟩] aN)) 3 (ae f174 1) (GR r sc i) (aT p fs f)).via (oe [1,2,3,9,10,11] [] 9)=
  bif decide ((i:Int)<(r.l.length:Int))then bif decide ((0:Int)<=(i:Int)/\(i:Int)<(r.l.length:Int))then
   bif ok then bif cW prog 171 [.ptr 0 0,aS sc,aS (bH r.l i).name,.agg (hY 6 f.name fz fP (bH r.l i).cells)] (aT p fs f++[.cells (bH r.l i).cells]) (aS (ar sc (bH r.l i).name)) (aT q fs f++[.cells (bH r.l i).cells]) [0,1,2]then
    bif decide (jJ q.x (fH q.x (bH r.l i).cp)=jJ q.x (fH q.x (bH r.l i).cp)/\(jJ q.x (fH q.x (bH r.l i).cp)+1)*16<=70368744177664/\jJ q.x (fH q.x (bH r.l i).cp)+1<4611686018427387904)then
    bif decide (2=2/\fH q.x (bH r.l i).cp=fH q.x (bH r.l i).cp/\fH q.x (bH r.l i).cp=fH q.x (bH r.l i).cp/\jJ q.x (fH q.x (bH r.l i).cp)+1=(oV q.x (fH q.x (bH r.l i).cp)++[ar sc (bH r.l i).name]).length)then
     some ⟨.normal,GR r sc (IntKind.wrap .i64 ((i:Int)+1)),aT (q.ext (bH r.l i).cp (ar sc (bH r.l i).name)) fs f,[0,1,2,2,2],true⟩else none else none else none
   else bif fj prog 171 [.ptr 0 0,aS sc,aS (bH r.l i).name,.agg (hY 6 f.name fz fP (bH r.l i).cells)] (aT p fs f++[.cells (bH r.l i).cells]) (bE x) [0,1,2]then some ⟨.panic (bE x),fD 41,[],[0,1,2],true⟩else none else none
  else some ⟨.exit 0,GR r sc i,aT p fs f,[],true⟩:=by kernel_rfl
end
theorem Rr (es:List (ByteArray×List ByteArray)) (i:Nat):jJ es i=(oV es i).length:=by
 unfold jJ oV;cases es[i]? <;>rfl
theorem Vj (p:bg) (fs:jo) (f:ag) (r:aX aP) (sc:ByteArray) (hs:sc.size<=cq) (hb:r.sz aP.sz<=bL) (hc:p.iA+r.sz aP.sz<=cq):dj (ae f174 1) (λi=>GR r sc i) (λq=>aT q fs f) 0 41 (pB f.name sc) r.l p:=by
 have hlen:=gM (r:=r) aP.bT;unfold bL at hb;unfold cq at hc;refine ia (by simp) (λi s=>s.iA<=p.iA+i) (by simp) (λ_ _=>rfl) (λi s s' hi hI gY=>⟨?_,by have:=wO gY;omega⟩) (λi s hi hI gY=> ?_) (λs _=> ?_)
 ·have hm:=fI (f:=aP.sz) (r:=r) (bM hi);have jZ:(bH r.l i).name.size<=1099511627776:=by have:=aP.nm (bH r.l i);unfold bH at*;omega
  have e:=(pA s fs (a:=sc) (b:=(bH r.l i).name) ((mG (ar sc (bH r.l i).name) 6 (bH r.l i)).at f.name) rfl (by unfold cq at hs;omega) jZ).fR (iq (GM (ar sc (bH r.l i).name) 6 (bH r.l i) f.name));unfold dw at e;have zH:(s.add ((mG (ar sc (bH r.l i).name) 6 (bH r.l i)).at f.name)).map (λq=>q.ext (bH r.l i).cp (ar sc (bH r.l i).name))=some s':=gY;cases h1:s.add ((mG (ar sc (bH r.l i).name) 6 (bH r.l i)).at f.name)with
  |none=>rw[h1]at zH;cases zH
  |some q=>
   rw[h1]at e zH;cases zH;have k1:cW prog 171 [.ptr 0 0,aS sc,aS (bH r.l i).name,.agg (hY 6 f.name fz fP (bH r.l i).cells)] (aT s fs f++[.cells (bH r.l i).cells]) (aS (ar sc (bH r.l i).name)) (aT q fs f++[.cells (bH r.l i).cells]) [0,1,2]=true:=by have e1:=e (sO f++[.cells (bH r.l i).cells]);exact bS e1
   have hl:=Rq q (fH q.x (bH r.l i).cp);rw[l9 h1]at hl;have hb:=zI s q fs f r sc aq i true;rw[ag2 (by omega:(i:Int)<(r.l.length:Int)),ag2 (by omega:(0:Int)<=(i:Int)/\(i:Int)<(r.l.length:Int)),k1,ag2 (by refine⟨rfl,?_,?_⟩<;>omega),ag2 (by
    refine⟨rfl,rfl,rfl,?_⟩;rw[ahB,Rr];rfl),wi (x:=(i:Int)+1) (by omega) (by omega)]at hb
   exact(dZ mixed (au _) (cT (au _) (bx ab)) hb rfl rfl (ag3 _) (by simp)).eI (by simp)
 ·have hm:=fI (f:=aP.sz) (r:=r) (bM hi);have jZ:(bH r.l i).name.size<=1099511627776:=by have:=aP.nm (bH r.l i);unfold bH at*;omega
  have e:=(pA s fs (a:=sc) (b:=(bH r.l i).name) ((mG (ar sc (bH r.l i).name) 6 (bH r.l i)).at f.name) rfl (by unfold cq at hs;omega) jZ).fR (iq (GM (ar sc (bH r.l i).name) 6 (bH r.l i) f.name));unfold dw at e;have zH:(s.add ((mG (ar sc (bH r.l i).name) 6 (bH r.l i)).at f.name)).map (λq=>q.ext (bH r.l i).cp (ar sc (bH r.l i).name))=none:=gY;cases h1:s.add ((mG (ar sc (bH r.l i).name) 6 (bH r.l i)).at f.name)with
  |some q=>rw[h1]at zH;cases zH
  |none=>
   rw[h1]at e;obtain⟨x,e⟩:=e;have k1:fj prog 171 [.ptr 0 0,aS sc,aS (bH r.l i).name,.agg (hY 6 f.name fz fP (bH r.l i).cells)] (aT s fs f++[.cells (bH r.l i).cells]) (bE x) [0,1,2]=true:=by have e1:=e (sO f++[.cells (bH r.l i).cells]);exact fB e1
   have hb:=zI s s fs f r sc x i false;rw[ag2 (by omega:(i:Int)<(r.l.length:Int)),ag2 (by omega:(0:Int)<=(i:Int)/\(i:Int)<(r.l.length:Int)),k1]at hb;exact⟨x,dS mixed (au _) (cT (au _) (bx ab)) hb rfl (eQ _) (ag3 _) (λo ho=>(fk _ _ _ 9 (by omega) o ho).1) (by simp)⟩
 ·have hb:=zI s s fs f r sc aq r.l.length true;rw[ag8 (by omega)]at hb;exact dZ mixed (au _) (cT (au _) (bx ab)) hb rfl rfl (ag3 _) (by simp)
theorem GS (p q:bg) (fs:jo) (f:ag) (r:aX aP) (sc:ByteArray) (x:ByteArray) (ok:Bool):(TI prog (cK []) (nF prog [⟨1,[1,2,3,9,10,11],ok,.exit 0,GR r sc r.l.length,aT q fs f,bE x,fD 41,[0,1,2]⟩] aN) 3 174 [r.av 13 aP.cells,aS sc,.ptr 3 0,.ptr 4 0] (aT p fs f)).via id=
  bif ok then bif cj prog (ae f174 1) (GR r sc ((0:Nat):Int)) (aT p fs f) (.exit 0) (GR r sc r.l.length) (aT q fs f) [0,1,2]then some (false,.bq [],aT q fs f,[0,1,2])else none
  else bif cj prog (ae f174 1) (GR r sc ((0:Nat):Int)) (aT p fs f) (.panic (bE x)) (fD 41) (dc [0,1,2] (aT p fs f)) [0,1,2]then some (true,bE x,[],[0,1,2])else none:=by kernel_rfl
theorem DU (p:bg) (fs:jo) (f:ag) (r:aX aP) (sc:ByteArray) (hs:sc.size<=cq) (hb:r.sz aP.sz<=bL) (hc:p.iA+r.sz aP.sz<=cq):dw 174 [r.av 13 aP.cells,aS sc,.ptr 3 0,.ptr 4 0] (λq=>aT q fs f) p (jz f.name sc r.l p) (.bq []):=by
 refine dw.of (n:=9) (by omega) (λq=>rfl) (λq=>fk q fs f 9 (by omega)) rfl rfl ?_;have l:=Vj p fs f r sc hs hb hc;unfold dj at l;have er:jz f.name sc r.l p=gq _ _ p:=rfl
 cases h:jz f.name sc r.l p with
 |some q=>
  rw[er]at h;rw[h]at l;have ht:=GS p q fs f r sc aq true;rw[bc l]at ht;have:=kH mixed (au _) (eL ab) (ni ht rfl);rw[if_neg (by simp)]at this;exact this
 |none=>
  rw[er]at h;rw[h]at l;obtain⟨y,l⟩:=l;have ht:=GS p p fs f r sc y false;rw[bc l]at ht;have:=kH mixed (au _) (eL ab) (ni ht rfl);rw[if_pos rfl]at this;exact⟨y,this (eQ _) (λo ho=>(fk p fs f 9 (by omega) o ho).1) _ (λl h=>h)⟩
section
def om (r:aX az) (sc:ByteArray) (j:Nat) (i:Int):List AV:=bz 77 [(1,aS sc),(2,.ptr 3 0),(3,.ptr 4 0),(4,.ptr 5 0),(5,.ptr 8 0),(6,.ptr 6 0),(7,.ptr 7 0),(11,.ptr 9 0),(12,aS (ar sc (aA r.l j).name)),(17,r.av 11 az.one),(18,i64 r.l.length),(19,i64 j),(33,(aA r.l j).af.av 13 aP.cells),(34,i64 (aA r.l j).af.l.length),(35,i64 i)]
theorem vQ (p q:bg) (fs:jo) (f:ag) (r:aX az) (sc:ByteArray) (j:Nat) (x:ByteArray) (i:Nat) (ok:Bool):(iH prog (cK []) (jn prog (cK []) [⟨7,7,ok,bE x,[0,1,2]⟩] (eV prog [⟨46,aS (ar (ar sc (aA r.l j).name) (bH (aA r.l j).af.l i).name),aT q fs f++[.cells (aA r.l j).one,.cells (bH (aA r.l j).af.l i).cells],[0,1,2]⟩] aN)) 3 (ae f175 5) (om r sc j i) (aT p fs f++[.cells (aA r.l j).one])).via (oe [1,2,3,4,5,6,7,11,12,17,18,19,33,34,35] [] 10)=
  bif decide ((i:Int)<((aA r.l j).af.l.length:Int))then bif decide ((0:Int)<=(i:Int)/\(i:Int)<((aA r.l j).af.l.length:Int))then
   bif ok then bif cW prog 171 [.ptr 0 0,aS (ar sc (aA r.l j).name),aS (bH (aA r.l j).af.l i).name,.agg (hY 5 f.name fz fP fQ)] (aT p fs f++[.cells (aA r.l j).one,.cells (bH (aA r.l j).af.l i).cells]) (aS (ar (ar sc (aA r.l j).name) (bH (aA r.l j).af.l i).name)) (aT q fs f++[.cells (aA r.l j).one,.cells (bH (aA r.l j).af.l i).cells]) [0,1,2]then some ⟨.normal,om r sc j (IntKind.wrap .i64 ((i:Int)+1)),aT q fs f++[.cells (aA r.l j).one],[0,1,2],true⟩else none
   else bif fj prog 171 [.ptr 0 0,aS (ar sc (aA r.l j).name),aS (bH (aA r.l j).af.l i).name,.agg (hY 5 f.name fz fP fQ)] (aT p fs f++[.cells (aA r.l j).one,.cells (bH (aA r.l j).af.l i).cells]) (bE x) [0,1,2]then some ⟨.panic (bE x),fD 77,[],[0,1,2],true⟩else none else none
  else some ⟨.exit 2,om r sc j i,aT p fs f++[.cells (aA r.l j).one],[],true⟩:=by kernel_rfl
end
theorem GU (p:bg) (fs:jo) (f:ag) (r:aX az) (sc:ByteArray) (j:Nat) (hs:(ar sc (aA r.l j).name).size<=cq) (hb:(aA r.l j).sz<=bL):dj (ae f175 5) (λi=>om r sc j i) (λq=>aT q fs f++[.cells (aA r.l j).one]) 2 77 (λ(p:bg) (v:aP)=>p.v f.name (ar sc (aA r.l j).name) 5 v.name) (aA r.l j).af.l p:=by
 have hz:=(aA r.l j).wI;unfold bL at hb;have hlen:=gM (r:=(aA r.l j).af) aP.bT;refine ia (by simp) (λ_ _=>True) trivial (λ_ _=>rfl) (λi s s' hi _ gY=>⟨?_,trivial⟩) (λi s hi _ gY=> ?_) (λs _=> ?_)
 ·have e:=dw.ok ((pA s fs (a:=(ar sc (aA r.l j).name)) (b:=(bH (aA r.l j).af.l i).name) ((gS (ar (ar sc (aA r.l j).name) (bH (aA r.l j).af.l i).name) 5).at f.name) rfl (by unfold cq at hs;omega) (by have:=fI (f:=aP.sz) (r:=(aA r.l j).af) (bM hi);have:=aP.nm (bH (aA r.l j).af.l i);unfold bH at*;omega)).fR (iq (zG (ar (ar sc (aA r.l j).name) (bH (aA r.l j).af.l i).name) 5 f.name))) gY;have k1:cW prog 171 [.ptr 0 0,aS (ar sc (aA r.l j).name),aS (bH (aA r.l j).af.l i).name,.agg (hY 5 f.name fz fP fQ)] (aT s fs f++[.cells (aA r.l j).one,.cells (bH (aA r.l j).af.l i).cells]) (aS (ar (ar sc (aA r.l j).name) (bH (aA r.l j).af.l i).name)) (aT s' fs f++[.cells (aA r.l j).one,.cells (bH (aA r.l j).af.l i).cells]) [0,1,2]=true:=by have e1:=e (sO f++[.cells (aA r.l j).one,.cells (bH (aA r.l j).af.l i).cells]);exact bS e1
  have hb:=vQ s s' fs f r sc j aq i true;rw[ag2 (by omega:(i:Int)<((aA r.l j).af.l.length:Int)),ag2 (by omega:(0:Int)<=(i:Int)/\(i:Int)<((aA r.l j).af.l.length:Int)),k1,wi (x:=(i:Int)+1) (by omega) (by omega)]at hb;exact dZ mixed (au _) (cT (au _) (bx ab)) hb rfl rfl (ag3 _) (by simp)
 ·obtain⟨x,e⟩:=dw.bad ((pA s fs (a:=(ar sc (aA r.l j).name)) (b:=(bH (aA r.l j).af.l i).name) ((gS (ar (ar sc (aA r.l j).name) (bH (aA r.l j).af.l i).name) 5).at f.name) rfl (by unfold cq at hs;omega) (by have:=fI (f:=aP.sz) (r:=(aA r.l j).af) (bM hi);have:=aP.nm (bH (aA r.l j).af.l i);unfold bH at*;omega)).fR (iq (zG (ar (ar sc (aA r.l j).name) (bH (aA r.l j).af.l i).name) 5 f.name))) gY;have k1:fj prog 171 [.ptr 0 0,aS (ar sc (aA r.l j).name),aS (bH (aA r.l j).af.l i).name,.agg (hY 5 f.name fz fP fQ)] (aT s fs f++[.cells (aA r.l j).one,.cells (bH (aA r.l j).af.l i).cells]) (bE x) [0,1,2]=true:=by have e1:=e (sO f++[.cells (aA r.l j).one,.cells (bH (aA r.l j).af.l i).cells]);exact fB e1
  have hb:=vQ s s fs f r sc j x i false;rw[ag2 (by omega:(i:Int)<((aA r.l j).af.l.length:Int)),ag2 (by omega:(0:Int)<=(i:Int)/\(i:Int)<((aA r.l j).af.l.length:Int)),k1]at hb;exact⟨x,dS mixed (au _) (cT (au _) (bx ab)) hb rfl (eQ _) (ag3 _) (rW s fs f [.cells (aA r.l j).one] (λo ho=>by
   simp only[ahl,ahr,ahO]at ho;rcases ho with rfl
   ·exact lfo _ (JV _))) (by simp)⟩
 ·have hb:=vQ s s fs f r sc j aq (aA r.l j).af.l.length true;rw[ag8 (by omega)]at hb;exact dZ mixed (au _) (cT (au _) (bx ab)) hb rfl rfl (ag3 _) (by simp)
section
def oo (r:aX az) (sc:ByteArray) (j:Nat) (i:Int):List AV:=bz 77 [(1,aS sc),(2,.ptr 3 0),(3,.ptr 4 0),(4,.ptr 5 0),(5,.ptr 8 0),(6,.ptr 6 0),(7,.ptr 7 0),(11,.ptr 9 0),(12,aS (ar sc (aA r.l j).name)),(17,r.av 11 az.one),(18,i64 r.l.length),(19,i64 j),(49,(aA r.l j).aI.av 3 cF.cells),(50,i64 (aA r.l j).aI.l.length),(51,i64 i)]
theorem vS (p q:bg) (fs:jo) (f:ag) (r:aX az) (sc:ByteArray) (j:Nat) (x:ByteArray) (i:Nat) (ok:Bool):(iH prog (cK []) (jn prog (cK []) [⟨12,4,ok,bE x,[0,1,2]⟩] (eV prog [⟨59,aS (ar (ar sc (aA r.l j).name) (fa (aA r.l j).aI.l i).name),aT q fs f++[.cells (aA r.l j).one,.cells (fa (aA r.l j).aI.l i).cells],[0,1,2]⟩] aN)) 3 (ae f175 10) (oo r sc j i) (aT p fs f++[.cells (aA r.l j).one])).via (oe [1,2,3,4,5,6,7,11,12,17,18,19,49,50,51] [] 10)=
  bif decide ((i:Int)<((aA r.l j).aI.l.length:Int))then bif decide ((0:Int)<=(i:Int)/\(i:Int)<((aA r.l j).aI.l.length:Int))then
   bif ok then bif cW prog 170 [aS (ar sc (aA r.l j).name),aS (fa (aA r.l j).aI.l i).name,i64 7,.ptr 3 0,.ptr 4 0] (aT p fs f++[.cells (aA r.l j).one,.cells (fa (aA r.l j).aI.l i).cells]) (aS (ar (ar sc (aA r.l j).name) (fa (aA r.l j).aI.l i).name)) (aT q fs f++[.cells (aA r.l j).one,.cells (fa (aA r.l j).aI.l i).cells]) [0,1,2]then some ⟨.normal,oo r sc j (IntKind.wrap .i64 ((i:Int)+1)),aT q fs f++[.cells (aA r.l j).one],[0,1,2],true⟩else none
   else bif fj prog 170 [aS (ar sc (aA r.l j).name),aS (fa (aA r.l j).aI.l i).name,i64 7,.ptr 3 0,.ptr 4 0] (aT p fs f++[.cells (aA r.l j).one,.cells (fa (aA r.l j).aI.l i).cells]) (bE x) [0,1,2]then some ⟨.panic (bE x),fD 77,[],[0,1,2],true⟩else none else none
  else some ⟨.exit 4,oo r sc j i,aT p fs f++[.cells (aA r.l j).one],[],true⟩:=by kernel_rfl
end
theorem GV (p:bg) (fs:jo) (f:ag) (r:aX az) (sc:ByteArray) (j:Nat) (hs:(ar sc (aA r.l j).name).size<=cq) (hb:(aA r.l j).sz<=bL):dj (ae f175 10) (λi=>oo r sc j i) (λq=>aT q fs f++[.cells (aA r.l j).one]) 4 77 (λ(p:bg) (v:cF)=>p.v f.name (ar sc (aA r.l j).name) 7 v.name) (aA r.l j).aI.l p:=by
 have hz:=(aA r.l j).wI;unfold bL at hb;have hlen:=gM (r:=(aA r.l j).aI) cF.bT;refine ia (by simp) (λ_ _=>True) trivial (λ_ _=>rfl) (λi s s' hi _ gY=>⟨?_,trivial⟩) (λi s hi _ gY=> ?_) (λs _=> ?_)
 ·have e:=dw.ok (pD s fs f (a:=(ar sc (aA r.l j).name)) (b:=(fa (aA r.l j).aI.l i).name) 7 (by unfold cq at hs;omega) (by have:=fI (f:=cF.sz) (r:=(aA r.l j).aI) (bM hi);have:=cF.nm (fa (aA r.l j).aI.l i);unfold fa at*;omega)) gY;have k1:cW prog 170 [aS (ar sc (aA r.l j).name),aS (fa (aA r.l j).aI.l i).name,i64 7,.ptr 3 0,.ptr 4 0] (aT s fs f++[.cells (aA r.l j).one,.cells (fa (aA r.l j).aI.l i).cells]) (aS (ar (ar sc (aA r.l j).name) (fa (aA r.l j).aI.l i).name)) (aT s' fs f++[.cells (aA r.l j).one,.cells (fa (aA r.l j).aI.l i).cells]) [0,1,2]=true:=by have e1:=e (uY++[.cells (aA r.l j).one,.cells (fa (aA r.l j).aI.l i).cells]);exact bS e1
  have hb:=vS s s' fs f r sc j aq i true;rw[ag2 (by omega:(i:Int)<((aA r.l j).aI.l.length:Int)),ag2 (by omega:(0:Int)<=(i:Int)/\(i:Int)<((aA r.l j).aI.l.length:Int)),k1,wi (x:=(i:Int)+1) (by omega) (by omega)]at hb;exact dZ mixed (au _) (cT (au _) (bx ab)) hb rfl rfl (ag3 _) (by simp)
 ·obtain⟨x,e⟩:=dw.bad (pD s fs f (a:=(ar sc (aA r.l j).name)) (b:=(fa (aA r.l j).aI.l i).name) 7 (by unfold cq at hs;omega) (by have:=fI (f:=cF.sz) (r:=(aA r.l j).aI) (bM hi);have:=cF.nm (fa (aA r.l j).aI.l i);unfold fa at*;omega)) gY;have k1:fj prog 170 [aS (ar sc (aA r.l j).name),aS (fa (aA r.l j).aI.l i).name,i64 7,.ptr 3 0,.ptr 4 0] (aT s fs f++[.cells (aA r.l j).one,.cells (fa (aA r.l j).aI.l i).cells]) (bE x) [0,1,2]=true:=by have e1:=e (uY++[.cells (aA r.l j).one,.cells (fa (aA r.l j).aI.l i).cells]);exact fB e1
  have hb:=vS s s fs f r sc j x i false;rw[ag2 (by omega:(i:Int)<((aA r.l j).aI.l.length:Int)),ag2 (by omega:(0:Int)<=(i:Int)/\(i:Int)<((aA r.l j).aI.l.length:Int)),k1]at hb;exact⟨x,dS mixed (au _) (cT (au _) (bx ab)) hb rfl (eQ _) (ag3 _) (rW s fs f [.cells (aA r.l j).one] (λo ho=>by
   simp only[ahl,ahr,ahO]at ho;rcases ho with rfl
   ·exact lfo _ (JV _))) (by simp)⟩
 ·have hb:=vS s s fs f r sc j aq (aA r.l j).aI.l.length true;rw[ag8 (by omega)]at hb;exact dZ mixed (au _) (cT (au _) (bx ab)) hb rfl rfl (ag3 _) (by simp)
section
def GW (r:aX az) (sc:ByteArray) (i:Int):List AV:=bz 77 [(1,aS sc),(2,.ptr 3 0),(3,.ptr 4 0),(4,.ptr 5 0),(5,.ptr 8 0),(6,.ptr 6 0),(7,.ptr 7 0),(17,r.av 11 az.one),(18,i64 r.l.length),(19,i64 i)]
noncomputable def Xi (p0 p1 p2 p3 p4 p5 p6:bg) (fs:jo) (f:ag) (r:aX az) (sc x:ByteArray) (i:Nat) (fq oS NR NS NT Zu:Bool):bX:=nF prog [⟨5,[1,2,3,4,5,6,7,11,12,17,18,19,33,34,35],oS,.exit 2,om r sc i (aA r.l i).af.l.length,(aT p2 fs f++[.cells (aA r.l i).one]),bE x,fD 77,[0,1,2]⟩,⟨10,[1,2,3,4,5,6,7,11,12,17,18,19,49,50,51],NR,.exit 4,oo r sc i (aA r.l i).aI.l.length,(aT p3 fs f++[.cells (aA r.l i).one]),bE x,fD 77,[0,1,2]⟩] (jn prog (cK []) [⟨3,8,fq,bE x,[0,1,2]⟩,⟨14,4,NS,bE x,[0,1,2]⟩,⟨15,4,NT,bE x,[0,1,2]⟩,⟨16,4,Zu,bE x,[0,1,2]⟩] (eV prog [⟨31,aS (ar sc (aA r.l i).name),(aT p1 fs f++[.cells (aA r.l i).one]),[0,1,2]⟩,⟨65,.bq [],(aT p4 fs f++[.cells (aA r.l i).one]),[0,1,2]⟩,⟨70,.bq [],(aT p5 fs f++[.cells (aA r.l i).one]),[0,1,2]⟩,⟨75,.bq [],(aT p6 fs f++[.cells (aA r.l i).one]),[0,1,2]⟩] aN))
theorem lu {p0 p1 p2 p3 p4 p5 p6:bg}{fs:jo}{f:ag}{r:aX az}{sc x:ByteArray}{i:Nat}{fq oS NR NS NT Zu:Bool}:bA prog (Xi p0 p1 p2 p3 p4 p5 p6 fs f r sc x i fq oS NR NS NT Zu):=eL (cT (au _) (bx ab))
theorem lv (p0 p1 p2 p3 p4 p5 p6:bg) (fs:jo) (f:ag) (r:aX az) (sc x:ByteArray) (i:Nat) (fq oS NR NS NT Zu:Bool):(iH prog (cK []) (Xi p0 p1 p2 p3 p4 p5 p6 fs f r sc x i fq oS NR NS NT Zu) 3 (ae f175 1) (GW r sc i) (aT p0 fs f)).via (oe [1,2,3,4,5,6,7,17,18,19] [] 9)=
  bif decide ((i:Int)<(r.l.length:Int))then bif decide ((0:Int)<=(i:Int)/\(i:Int)<(r.l.length:Int))then
   bif fq then bif cW prog 171 [.ptr 0 0,aS sc,aS (aA r.l i).name,.agg (hY 2 f.name (aA r.l i).one fP fQ)] (aT p0 fs f++[.cells (aA r.l i).one]) (aS (ar sc (aA r.l i).name)) (aT p1 fs f++[.cells (aA r.l i).one]) [0,1,2]then
   bif oS then bif cj prog (ae f175 5) (om r sc i ((0:Nat):Int)) (aT p1 fs f++[.cells (aA r.l i).one]) (.exit 2) (om r sc i (aA r.l i).af.l.length) (aT p2 fs f++[.cells (aA r.l i).one]) [0,1,2]then
   bif NR then bif cj prog (ae f175 10) (oo r sc i ((0:Nat):Int)) (aT p2 fs f++[.cells (aA r.l i).one]) (.exit 4) (oo r sc i (aA r.l i).aI.l.length) (aT p3 fs f++[.cells (aA r.l i).one]) [0,1,2]then
   bif NS then bif cW prog 175 [je (aA r.l i),aS (ar sc (aA r.l i).name),.ptr 3 0,.ptr 4 0,.ptr 5 0,.ptr 8 0,.ptr 6 0,.ptr 7 0] (aT p3 fs f++[.cells (aA r.l i).one]) (.bq []) (aT p4 fs f++[.cells (aA r.l i).one]) [0,1,2]then
   bif NT then bif cW prog 173 [(aA r.l i).aQ.av 4 bt.cells,aS (ar sc (aA r.l i).name),.ptr 3 0,.ptr 4 0,.ptr 5 0] (aT p4 fs f++[.cells (aA r.l i).one]) (.bq []) (aT p5 fs f++[.cells (aA r.l i).one]) [0,1,2]then
   bif Zu then bif cW prog 174 [(aA r.l i).exts.av 13 aP.cells,aS (ar sc (aA r.l i).name),.ptr 3 0,.ptr 4 0] (aT p5 fs f++[.cells (aA r.l i).one]) (.bq []) (aT p6 fs f++[.cells (aA r.l i).one]) [0,1,2]then
   some ⟨.normal,GW r sc (IntKind.wrap .i64 ((i:Int)+1)),aT p6 fs f,[0,1,2,0,1,2,0,1,2,0,1,2,0,1,2,0,1,2],true⟩else none
   else bif fj prog 174 [(aA r.l i).exts.av 13 aP.cells,aS (ar sc (aA r.l i).name),.ptr 3 0,.ptr 4 0] (aT p5 fs f++[.cells (aA r.l i).one]) (bE x) [0,1,2]then some ⟨.panic (bE x),fD 77,[],[0,1,2,0,1,2,0,1,2,0,1,2,0,1,2,0,1,2],true⟩else none else none
   else bif fj prog 173 [(aA r.l i).aQ.av 4 bt.cells,aS (ar sc (aA r.l i).name),.ptr 3 0,.ptr 4 0,.ptr 5 0] (aT p4 fs f++[.cells (aA r.l i).one]) (bE x) [0,1,2]then some ⟨.panic (bE x),fD 77,[],[0,1,2,0,1,2,0,1,2,0,1,2,0,1,2],true⟩else none else none
   else bif fj prog 175 [je (aA r.l i),aS (ar sc (aA r.l i).name),.ptr 3 0,.ptr 4 0,.ptr 5 0,.ptr 8 0,.ptr 6 0,.ptr 7 0] (aT p3 fs f++[.cells (aA r.l i).one]) (bE x) [0,1,2]then some ⟨.panic (bE x),fD 77,[],[0,1,2,0,1,2,0,1,2,0,1,2],true⟩else none else none
   else bif cj prog (ae f175 10) (oo r sc i ((0:Nat):Int)) (aT p2 fs f++[.cells (aA r.l i).one]) (.panic (bE x)) (fD 77) (dc [0,1,2] (aT p2 fs f++[.cells (aA r.l i).one])) [0,1,2]then some ⟨.panic (bE x),fD 77,[],[0,1,2,0,1,2,0,1,2],true⟩else none else none
   else bif cj prog (ae f175 5) (om r sc i ((0:Nat):Int)) (aT p1 fs f++[.cells (aA r.l i).one]) (.panic (bE x)) (fD 77) (dc [0,1,2] (aT p1 fs f++[.cells (aA r.l i).one])) [0,1,2]then some ⟨.panic (bE x),fD 77,[],[0,1,2,0,1,2],true⟩else none else none
   else bif fj prog 171 [.ptr 0 0,aS sc,aS (aA r.l i).name,.agg (hY 2 f.name (aA r.l i).one fP fQ)] (aT p0 fs f++[.cells (aA r.l i).one]) (bE x) [0,1,2]then some ⟨.panic (bE x),fD 77,[],[0,1,2],true⟩else none else none
  else some ⟨.exit 0,GW r sc i,aT p0 fs f,[],true⟩:=by kernel_rfl
end
abbrev LA:List AV:=[.ptr 3 0,.ptr 4 0,.ptr 5 0,.ptr 8 0,.ptr 6 0,.ptr 7 0]
def Rs (fs:jo) (f:ag) (sc:ByteArray) (m:az) (n:Nat):Prop:=∀p:bg,p.iA+bw az.sz m.aC<=n->dw 175 ([fL m.mN m.aC,aS (ar sc m.name)]++LA) (λq=>aT q fs f) p (eM f.name (ar sc m.name) m.aC p) (.bq [])
theorem Vk (p:bg) (fs:jo) (f:ag) (r:aX az) (sc:ByteArray) (hs:sc.size+bw az.sz r.l<=cq) (hb:bw az.sz r.l<=bL) (hc:p.iA+bw az.sz r.l<=cq) (rec:∀m∈r.l,Rs fs f sc m cq):dj (ae f175 1) (λi=>GW r sc i) (λq=>aT q fs f) 0 77 (gE f.name sc) r.l p:=by
 have hlen:=cy (f:=az.sz) (l:=r.l) (λx _=>x.bT);unfold bL at hb;refine ia (by simp) (λi s=>s.iA<=p.iA+bw az.sz (r.l.take i)) (by simp[bw]) (λ_ _=>rfl) (λi s s' hi hI gY=>⟨?_,by
  have:=wQ _ _ _ _ _ gY;rw[jy az.sz r.l i hi];omega⟩) (λi s hi hI gY=> ?_) (λs _=> ?_)
 ·have oJ:(aA r.l i)∈r.l:=bM hi;have adl:=cf (f:=az.sz) oJ;have htk:=jy az.sz r.l i hi;have oE:=dM az.sz r.l (i+1);have hz:=(aA r.l i).wI;have Aw:=gH sc (aA r.l i).name;have hmz:(r.l.getD i default).sz=(aA r.l i).sz:=rfl;have e1:=(pA s fs (a:=sc) (b:=(aA r.l i).name) ((gI (ar sc (aA r.l i).name) (aA r.l i)).at f.name) rfl (by unfold cq at hs;omega) (by omega)).fR (iq (GN (ar sc (aA r.l i).name) (aA r.l i) f.name));have e2:=λq:bg=>GU q fs f r sc i (by unfold cq at*;show (ar sc (aA r.l i).name).size<=_;omega) (by unfold bL;show (aA r.l i).sz<=_;omega)
  have e3:=λq:bg=>GV q fs f r sc i (by unfold cq at*;show (ar sc (aA r.l i).name).size<=_;omega) (by unfold bL;show (aA r.l i).sz<=_;omega)
  have e4:=λ(q:bg) (h:q.iA<=s.iA)=>(rec _ oJ q (by omega)).fR (args:=[je (aA r.l i),aS (ar sc (aA r.l i).name),.ptr 3 0,.ptr 4 0,.ptr 5 0,.ptr 8 0,.ptr 6 0,.ptr 7 0]) (.cons (mH _) (.refl _))
  have e5:=λq:bg=>DT q fs f (aA r.l i).aQ (ar sc (aA r.l i).name) (by unfold cq at*;omega) (by unfold bL;omega)
  have e6:=λ(q:bg) (h:q.iA<=s.iA+bw az.sz (aA r.l i).aC)=>DU q fs f (aA r.l i).exts (ar sc (aA r.l i).name) (by unfold cq at*;omega) (by unfold bL;omega) (by omega)
  rw[show gE f.name sc s (r.l.getD i default)=_ from zD f.name sc s (aA r.l i)]at gY;obtain⟨q1,h1,gY⟩:=bn gY;obtain⟨q2,h2,gY⟩:=bn gY;obtain⟨q3,h3,gY⟩:=bn gY;obtain⟨q4,h4,gY⟩:=bn gY;obtain⟨q5,h5,gY⟩:=bn gY;have h6:=gY;have k1:cW prog 171 [.ptr 0 0,aS sc,aS (aA r.l i).name,.agg (hY 2 f.name (aA r.l i).one fP fQ)] (aT s fs f++[.cells (aA r.l i).one]) (aS (ar sc (aA r.l i).name)) (aT q1 fs f++[.cells (aA r.l i).one]) [0,1,2]=true:=by have e:=dw.ok (e1) h1 (sO f++[.cells (aA r.l i).one]);exact bS e
  have k2:cj prog (ae f175 5) (om r sc i ((0:Nat):Int)) (aT q1 fs f++[.cells (aA r.l i).one]) (.exit 2) (om r sc i (aA r.l i).af.l.length) (aT q2 fs f++[.cells (aA r.l i).one]) [0,1,2]=true:=by have e:=dj.ok (e2 q1) h2;exact bc e
  have k3:cj prog (ae f175 10) (oo r sc i ((0:Nat):Int)) (aT q2 fs f++[.cells (aA r.l i).one]) (.exit 4) (oo r sc i (aA r.l i).aI.l.length) (aT q3 fs f++[.cells (aA r.l i).one]) [0,1,2]=true:=by have e:=dj.ok (e3 q2) h3;exact bc e
  have c1:=l9 h1;have c2:=lr h2;have c3:q3.iA<=s.iA:=by have:=lr h3;omega
  have k4:cW prog 175 [je (aA r.l i),aS (ar sc (aA r.l i).name),.ptr 3 0,.ptr 4 0,.ptr 5 0,.ptr 8 0,.ptr 6 0,.ptr 7 0] (aT q3 fs f++[.cells (aA r.l i).one]) (.bq []) (aT q4 fs f++[.cells (aA r.l i).one]) [0,1,2]=true:=by have e:=dw.ok (e4 q3 c3) h4 ([.cells (aA r.l i).one]);exact bS e
  have k5:cW prog 173 [(aA r.l i).aQ.av 4 bt.cells,aS (ar sc (aA r.l i).name),.ptr 3 0,.ptr 4 0,.ptr 5 0] (aT q4 fs f++[.cells (aA r.l i).one]) (.bq []) (aT q5 fs f++[.cells (aA r.l i).one]) [0,1,2]=true:=by have e:=dw.ok (e5 q4) h5 ([.cells (aA r.l i).one]);exact bS e
  have c4:=jf _ _ _ _ _ h4;rw[az.gA]at c4;have c5:q5.iA<=s.iA+bw az.sz (aA r.l i).aC:=by have:=jA h5;omega
  have k6:cW prog 174 [(aA r.l i).exts.av 13 aP.cells,aS (ar sc (aA r.l i).name),.ptr 3 0,.ptr 4 0] (aT q5 fs f++[.cells (aA r.l i).one]) (.bq []) (aT s' fs f++[.cells (aA r.l i).one]) [0,1,2]=true:=by have e:=dw.ok (e6 q5 c5) h6 ([.cells (aA r.l i).one]);exact bS e
  have hb:=lv s q1 q2 q3 q4 q5 s' fs f r sc aq i true true true true true true;rw[ag2 (by omega:(i:Int)<(r.l.length:Int)),ag2 (by omega:(0:Int)<=(i:Int)/\(i:Int)<(r.l.length:Int)),k1,k2,k3,k4,k5,k6,wi (x:=(i:Int)+1) (by omega) (by omega)]at hb;exact(dZ mixed (au _) lu hb rfl rfl (ag3 _) (by simp)).eI (by simp)
 ·have oJ:(aA r.l i)∈r.l:=bM hi;have adl:=cf (f:=az.sz) oJ;have htk:=jy az.sz r.l i hi;have oE:=dM az.sz r.l (i+1);have hz:=(aA r.l i).wI;have Aw:=gH sc (aA r.l i).name;have hmz:(r.l.getD i default).sz=(aA r.l i).sz:=rfl;have e1:=(pA s fs (a:=sc) (b:=(aA r.l i).name) ((gI (ar sc (aA r.l i).name) (aA r.l i)).at f.name) rfl (by unfold cq at hs;omega) (by omega)).fR (iq (GN (ar sc (aA r.l i).name) (aA r.l i) f.name));have e2:=λq:bg=>GU q fs f r sc i (by unfold cq at*;show (ar sc (aA r.l i).name).size<=_;omega) (by unfold bL;show (aA r.l i).sz<=_;omega)
  have e3:=λq:bg=>GV q fs f r sc i (by unfold cq at*;show (ar sc (aA r.l i).name).size<=_;omega) (by unfold bL;show (aA r.l i).sz<=_;omega)
  have e4:=λ(q:bg) (h:q.iA<=s.iA)=>(rec _ oJ q (by omega)).fR (args:=[je (aA r.l i),aS (ar sc (aA r.l i).name),.ptr 3 0,.ptr 4 0,.ptr 5 0,.ptr 8 0,.ptr 6 0,.ptr 7 0]) (.cons (mH _) (.refl _))
  have e5:=λq:bg=>DT q fs f (aA r.l i).aQ (ar sc (aA r.l i).name) (by unfold cq at*;omega) (by unfold bL;omega)
  have e6:=λ(q:bg) (h:q.iA<=s.iA+bw az.sz (aA r.l i).aC)=>DU q fs f (aA r.l i).exts (ar sc (aA r.l i).name) (by unfold cq at*;omega) (by unfold bL;omega) (by omega)
  rw[show gE f.name sc s (r.l.getD i default)=_ from zD f.name sc s (aA r.l i)]at gY;cases h1:s.add ((gI (ar sc (aA r.l i).name) (aA r.l i)).at f.name)with
  |none=>
   obtain⟨x,e⟩:=dw.bad (e1) h1;have b1:fj prog 171 [.ptr 0 0,aS sc,aS (aA r.l i).name,.agg (hY 2 f.name (aA r.l i).one fP fQ)] (aT s fs f++[.cells (aA r.l i).one]) (bE x) [0,1,2]=true:=by have e:=e (sO f++[.cells (aA r.l i).one]);exact fB e
   have hb:=lv s s s s s s s fs f r sc x i false true true true true true;rw[ag2 (by omega:(i:Int)<(r.l.length:Int)),ag2 (by omega:(0:Int)<=(i:Int)/\(i:Int)<(r.l.length:Int)),b1]at hb;exact⟨x,dS mixed (au _) lu hb rfl (eQ _) (ag3 _) (λo ho=>(fk _ _ _ 9 (by omega) o ho).1) (by simp)⟩
  |some q1=>
   rw[h1,ahH]at gY;have k1:cW prog 171 [.ptr 0 0,aS sc,aS (aA r.l i).name,.agg (hY 2 f.name (aA r.l i).one fP fQ)] (aT s fs f++[.cells (aA r.l i).one]) (aS (ar sc (aA r.l i).name)) (aT q1 fs f++[.cells (aA r.l i).one]) [0,1,2]=true:=by have e:=dw.ok (e1) h1 (sO f++[.cells (aA r.l i).one]);exact bS e
   cases h2:gq (λp (v:aP)=>p.v f.name (ar sc (aA r.l i).name) 5 v.name) (aA r.l i).af.l q1 with
   |none=>
    obtain⟨x,e⟩:=dj.bad (e2 q1) h2;have b2:cj prog (ae f175 5) (om r sc i ((0:Nat):Int)) (aT q1 fs f++[.cells (aA r.l i).one]) (.panic (bE x)) (fD 77) (dc [0,1,2] (aT q1 fs f++[.cells (aA r.l i).one])) [0,1,2]=true:=bc e;have hb:=lv s q1 s s s s s fs f r sc x i true false true true true true;rw[ag2 (by omega:(i:Int)<(r.l.length:Int)),ag2 (by omega:(0:Int)<=(i:Int)/\(i:Int)<(r.l.length:Int)),k1,b2]at hb;exact⟨x,dS mixed (au _) lu hb rfl (eQ _) (ag3 _) (λo ho=>(fk _ _ _ 9 (by omega) o ho).1) (by simp)⟩
   |some q2=>
    rw[h2,ahH]at gY;have k2:cj prog (ae f175 5) (om r sc i ((0:Nat):Int)) (aT q1 fs f++[.cells (aA r.l i).one]) (.exit 2) (om r sc i (aA r.l i).af.l.length) (aT q2 fs f++[.cells (aA r.l i).one]) [0,1,2]=true:=by have e:=dj.ok (e2 q1) h2;exact bc e
    cases h3:gq (λp (v:cF)=>p.v f.name (ar sc (aA r.l i).name) 7 v.name) (aA r.l i).aI.l q2 with
    |none=>
     obtain⟨x,e⟩:=dj.bad (e3 q2) h3;have b3:cj prog (ae f175 10) (oo r sc i ((0:Nat):Int)) (aT q2 fs f++[.cells (aA r.l i).one]) (.panic (bE x)) (fD 77) (dc [0,1,2] (aT q2 fs f++[.cells (aA r.l i).one])) [0,1,2]=true:=bc e;have hb:=lv s q1 q2 s s s s fs f r sc x i true true false true true true;rw[ag2 (by omega:(i:Int)<(r.l.length:Int)),ag2 (by omega:(0:Int)<=(i:Int)/\(i:Int)<(r.l.length:Int)),k1,k2,b3]at hb;exact⟨x,dS mixed (au _) lu hb rfl (eQ _) (ag3 _) (λo ho=>(fk _ _ _ 9 (by omega) o ho).1) (by simp)⟩
    |some q3=>
     rw[h3,ahH]at gY;have k3:cj prog (ae f175 10) (oo r sc i ((0:Nat):Int)) (aT q2 fs f++[.cells (aA r.l i).one]) (.exit 4) (oo r sc i (aA r.l i).aI.l.length) (aT q3 fs f++[.cells (aA r.l i).one]) [0,1,2]=true:=by have e:=dj.ok (e3 q2) h3;exact bc e
     have c1:=l9 h1;have c2:=lr h2;have c3:q3.iA<=s.iA:=by have:=lr h3;omega
     cases h4:eM f.name (ar sc (aA r.l i).name) (aA r.l i).aC q3 with
     |none=>
      obtain⟨x,e⟩:=dw.bad (e4 q3 c3) h4;have b4:fj prog 175 [je (aA r.l i),aS (ar sc (aA r.l i).name),.ptr 3 0,.ptr 4 0,.ptr 5 0,.ptr 8 0,.ptr 6 0,.ptr 7 0] (aT q3 fs f++[.cells (aA r.l i).one]) (bE x) [0,1,2]=true:=by have e:=e ([.cells (aA r.l i).one]);exact fB e
      have hb:=lv s q1 q2 q3 s s s fs f r sc x i true true true false true true;rw[ag2 (by omega:(i:Int)<(r.l.length:Int)),ag2 (by omega:(0:Int)<=(i:Int)/\(i:Int)<(r.l.length:Int)),k1,k2,k3,b4]at hb;exact⟨x,dS mixed (au _) lu hb rfl (eQ _) (ag3 _) (λo ho=>(fk _ _ _ 9 (by omega) o ho).1) (by simp)⟩
     |some q4=>
      rw[h4,ahH]at gY;have k4:cW prog 175 [je (aA r.l i),aS (ar sc (aA r.l i).name),.ptr 3 0,.ptr 4 0,.ptr 5 0,.ptr 8 0,.ptr 6 0,.ptr 7 0] (aT q3 fs f++[.cells (aA r.l i).one]) (.bq []) (aT q4 fs f++[.cells (aA r.l i).one]) [0,1,2]=true:=by have e:=dw.ok (e4 q3 c3) h4 ([.cells (aA r.l i).one]);exact bS e
      cases h5:gU f.name (ar sc (aA r.l i).name) (aA r.l i).aQ.l q4 with
      |none=>
       obtain⟨x,e⟩:=dw.bad (e5 q4) h5;have b5:fj prog 173 [(aA r.l i).aQ.av 4 bt.cells,aS (ar sc (aA r.l i).name),.ptr 3 0,.ptr 4 0,.ptr 5 0] (aT q4 fs f++[.cells (aA r.l i).one]) (bE x) [0,1,2]=true:=by have e:=e ([.cells (aA r.l i).one]);exact fB e
       have hb:=lv s q1 q2 q3 q4 s s fs f r sc x i true true true true false true;rw[ag2 (by omega:(i:Int)<(r.l.length:Int)),ag2 (by omega:(0:Int)<=(i:Int)/\(i:Int)<(r.l.length:Int)),k1,k2,k3,k4,b5]at hb;exact⟨x,dS mixed (au _) lu hb rfl (eQ _) (ag3 _) (λo ho=>(fk _ _ _ 9 (by omega) o ho).1) (by simp)⟩
      |some q5=>
       rw[h5,ahH]at gY;have k5:cW prog 173 [(aA r.l i).aQ.av 4 bt.cells,aS (ar sc (aA r.l i).name),.ptr 3 0,.ptr 4 0,.ptr 5 0] (aT q4 fs f++[.cells (aA r.l i).one]) (.bq []) (aT q5 fs f++[.cells (aA r.l i).one]) [0,1,2]=true:=by have e:=dw.ok (e5 q4) h5 ([.cells (aA r.l i).one]);exact bS e
       have c4:=jf _ _ _ _ _ h4;rw[az.gA]at c4;have c5:q5.iA<=s.iA+bw az.sz (aA r.l i).aC:=by have:=jA h5;omega
       have h6:=gY;obtain⟨x,e⟩:=dw.bad (e6 q5 c5) h6;have b6:fj prog 174 [(aA r.l i).exts.av 13 aP.cells,aS (ar sc (aA r.l i).name),.ptr 3 0,.ptr 4 0] (aT q5 fs f++[.cells (aA r.l i).one]) (bE x) [0,1,2]=true:=by have e:=e ([.cells (aA r.l i).one]);exact fB e
       have hb:=lv s q1 q2 q3 q4 q5 s fs f r sc x i true true true true true false;rw[ag2 (by omega:(i:Int)<(r.l.length:Int)),ag2 (by omega:(0:Int)<=(i:Int)/\(i:Int)<(r.l.length:Int)),k1,k2,k3,k4,k5,b6]at hb;exact⟨x,dS mixed (au _) lu hb rfl (eQ _) (ag3 _) (λo ho=>(fk _ _ _ 9 (by omega) o ho).1) (by simp)⟩
 ·have hb:=lv s s s s s s s fs f r sc aq r.l.length true true true true true true;rw[ag8 (by omega)]at hb;exact dZ mixed (au _) lu hb rfl rfl (ag3 _) (by simp)
theorem GX (p q:bg) (fs:jo) (f:ag) (r:aX az) (sc:ByteArray) (x:ByteArray) (ok:Bool):(TI prog (cK []) (nF prog [⟨1,[1,2,3,4,5,6,7,17,18,19],ok,.exit 0,GW r sc r.l.length,aT q fs f,bE x,fD 77,[0,1,2]⟩] aN) 3 175 [r.av 11 az.one,aS sc,.ptr 3 0,.ptr 4 0,.ptr 5 0,.ptr 8 0,.ptr 6 0,.ptr 7 0] (aT p fs f)).via id=
  bif ok then bif cj prog (ae f175 1) (GW r sc ((0:Nat):Int)) (aT p fs f) (.exit 0) (GW r sc r.l.length) (aT q fs f) [0,1,2]then some (false,.bq [],aT q fs f,[0,1,2])else none
  else bif cj prog (ae f175 1) (GW r sc ((0:Nat):Int)) (aT p fs f) (.panic (bE x)) (fD 77) (dc [0,1,2] (aT p fs f)) [0,1,2]then some (true,bE x,[],[0,1,2])else none:=by kernel_rfl
theorem LB (p:bg) (fs:jo) (f:ag) (r:aX az) (sc:ByteArray) (hs:sc.size+bw az.sz r.l<=cq) (hb:bw az.sz r.l<=bL) (hc:p.iA+bw az.sz r.l<=cq) (rec:∀m∈r.l,Rs fs f sc m cq):dw 175 [r.av 11 az.one,aS sc,.ptr 3 0,.ptr 4 0,.ptr 5 0,.ptr 8 0,.ptr 6 0,.ptr 7 0] (λq=>aT q fs f) p (gq (gE f.name sc) r.l p) (.bq []):=by
 refine dw.of (n:=9) (by omega) (λq=>rfl) (λq=>fk q fs f 9 (by omega)) rfl rfl ?_;have l:=Vk p fs f r sc hs hb hc rec;unfold dj at l;have er:gq (gE f.name sc) r.l p=gq _ _ p:=rfl
 cases h:gq (gE f.name sc) r.l p with
 |some q=>
  rw[er]at h;rw[h]at l;have ht:=GX p q fs f r sc aq true;rw[bc l]at ht;have:=kH mixed (au _) (eL ab) (ni ht rfl);rw[if_neg (by simp)]at this;exact this
 |none=>
  rw[er]at h;rw[h]at l;obtain⟨y,l⟩:=l;have ht:=GX p p fs f r sc y false;rw[bc l]at ht;have:=kH mixed (au _) (eL ab) (ni ht rfl);rw[if_pos rfl]at this;exact⟨y,this (eQ _) (λo ho=>(fk p fs f 9 (by omega) o ho).1) _ (λl h=>h)⟩
theorem Vl (fs:jo) (f:ag):∀(n:Nat) (p:bg) (nl:Bool) (l:List az) (sc:ByteArray),bw az.sz l<=n->sc.size+bw az.sz l<=cq->bw az.sz l<=bL->p.iA+bw az.sz l<=cq->dw 175 ([fL nl l,aS sc]++LA) (λq=>aT q fs f) p (eM f.name sc l p) (.bq []):=by
 intro n
 induction n with
 |zero=>
  intro p nl l sc h0 hs hb hc;rw[pC];refine LB p fs f ⟨nl,l⟩ sc hs hb hc (λm hm=> ?_);have:=cf (f:=az.sz) (l:=l) hm;have:=m.bT;omega
 |succ n ih=>
  intro p nl l sc h0 hs hb hc;rw[pC];refine LB p fs f ⟨nl,l⟩ sc hs hb hc (λm hm q hq=> ?_);have h1:=cf (f:=az.sz) (l:=l) hm;have h2:=m.wI;have h3:=gH sc m.name;unfold bL at*;exact ih q m.mN m.aC (ar sc m.name) (by omega) (by omega) (by omega) hq
def gV:Nat->ByteArray->ByteArray->bg->Option bg
 |0,_,_,p=>some p
 |n+1,home,s,p=>bif qU s then some p else(p.v home aq 1 s).bind (gV n home (ft s))
def DV (home sc:ByteArray) (p:bg) (s:bN):Option bg:=(p.v home sc 8 s.name).bind (gq (λp (m:cM)=>p.v home (ar sc s.name) 9 m.name) s.aO.l)
def rk (home sc:ByteArray) (l:List bN) (p:bg):Option bg:=gq (DV home sc) l p
def iV (p:bg) (f:ag):Option bg:=(gV (f.cG.size+1) f.name f.cG p).bind λp=>(eM f.name f.cG f.ay.l p).bind λp=>(gU f.name f.cG f.aQ.l p).bind λp=>(rk f.name f.cG f.aL.l p).bind λp=>jz f.name f.cG f.exts.l p
theorem pE:∀{n:Nat}{home s:ByteArray}{p q:bg},gV n home s p=some q->q.iA<=p.iA
 |0,home,s,p,q,h=>by cases h;exact ag3 _
 |n+1,home,s,p,q,h=>by
  unfold gV at h
  cases he:qU s with
  |true=>rw[he]at h;cases h;exact ag3 _
  |false=>
   rw[he]at h;obtain⟨p1,h1,h2⟩:=bn h;have:=pE h2;have:p1.iA=p.iA:=l9 h1;omega
theorem u0 {home sc:ByteArray}{l:List bN}{p q:bg}(h:rk home sc l p=some q):q.iA<=p.iA:=by
 have:=oi (w:=λ_=>0) (λp a q h=>by
  obtain⟨p1,h1,h2⟩:=bn h;have:=lr h2;have:p1.iA=p.iA:=l9 h1;omega) l p q h
 rw[zE]at this;exact this
theorem u4 {p q:bg}{f:ag}(h:iV p f=some q):q.iA<=p.iA+f.sz:=by
 obtain⟨p1,h1,h⟩:=bn h;obtain⟨p2,h2,h⟩:=bn h;obtain⟨p3,h3,h⟩:=bn h;obtain⟨p4,h4,h⟩:=bn h;have k1:=pE h1;have k2:=jf _ _ _ _ _ h2;rw[az.gA]at k2;have k3:=jA h3;have k4:=u0 h4;have k5:=uX h;unfold ag.sz aX.sz;omega
theorem Vm (s:ByteArray):ar aq s=s:=by
 unfold ar;have:qU aq=true:=by unfold qU;simp
 rw[this];rfl
def ib (p:bg) (fs:jo) (f:ag):aa:=[.cells [.cU 1,.cU 2,fs.av],.ez (eC p.l) (nG p.l),.rows p.x none,.cells [.ptr 0 0],.cells f.two,.cells [cA]]
theorem Rt (p:bg) (fs:jo) (f:ag):∀o∈ib p fs f,cH 6 o=true:=by
 intro o ho;have e:ib p fs f=oj fs f p++[.cells [cA]]:=rfl;rw[e]at ho;rcases ahC.1 ho with h|h
 ·exact(zF p fs f 6 (by omega) o h).1
 ·simp only[ahl,ahr,ahO]at h;subst h;rfl
def oq (s:ByteArray):List AV:=bz 75 [(2,.ptr 3 0),(3,.ptr 4 0),(4,.ptr 5 0),(5,aS s)]
theorem vT (p q:bg) (fs:jo) (f:ag) (s x a b:ByteArray) (ok:Bool):(iH prog (cK []) (jn prog (cK []) [⟨5,2,ok,bE x,[0,1,2]⟩] (eV prog [⟨26,aS s,ib q fs f,[0,1,2]⟩] (told prog [] [⟨21,0,.bq [aS a,aS b]⟩]))) 3 (ae f101 3) (oq s) (ib p fs f)).via (oe [2,3,4,5] [] 6)=
  bif !qU s then
   bif ok then bif cW prog 170 [aS aq,aS s,i64 1,.ptr 3 0,.ptr 4 0] (ib p fs f) (aS s) (ib q fs f) [0,1,2]then bif aD prog 172 [aS s] [] (.bq [aS a,aS b])then some ⟨.normal,oq a,ib q fs f,[0,1,2],true⟩else none else none
   else bif fj prog 170 [aS aq,aS s,i64 1,.ptr 3 0,.ptr 4 0] (ib p fs f) (bE x) [0,1,2]then some ⟨.panic (bE x),fD 75,[],[0,1,2],true⟩else none
  else some ⟨.exit 0,oq s,ib p fs f,[],true⟩:=by kernel_rfl
theorem YC {s:ByteArray}(h:qU s=true):s=aq:=by
 have:=jx (s:=s);have h0:s.size=0:=by
  apply ahW;intro hc;rw[this.2 (by omega)]at h;cases h
 apply ByteArray.ext;have:s.data.size=0:=h0;exact Array.eq_empty_of_size_eq_zero this
theorem GY (fs:jo) (f:ag):∀(n:Nat) (s:ByteArray) (p:bg),s.size<n->s.size<=1099511627776->match gV n f.name s p with
  |some q=>∃k W,dX prog (ae f101 3) (.exit 0) (oq aq) (ib q fs f) k (oq s) (ib p fs f) W/\∀l∈W,l∈[0,1,2]
  |none=>∃y k W,dX prog (ae f101 3) (.panic (bE y)) (fD 75) (dc [0,1,2] (ib p fs f)) k (oq s) (ib p fs f) W/\∀l∈W,l∈[0,1,2]
 |0,s,p,h,_=>absurd h (ahg _)
 |n+1,s,p,h,hs=>by
  have xN:∀{x q t a b},bA prog (jn prog (cK []) [⟨5,2,true,bE x,[0,1,2]⟩] (eV prog [⟨26,aS t,ib q fs f,[0,1,2]⟩] (told prog [] [⟨21,0,.bq [aS a,aS b]⟩]))):=cT (au _) (bx aF);unfold gV
  cases he:qU s with
  |true=>
   have e:=YC he;subst e;have hb:=vT p p fs f aq aq aq aq true;rw[he]at hb;exact⟨0,[],.out (dZ mixed (au _) xN hb rfl rfl (ag3 _) (by simp)) (by simp),by simp⟩
  |false=>
   rw[cond_false];have e:=pD p fs f (a:=aq) (b:=s) 1 (ag9 _) hs;rw[Vm]at e
   cases h1:p.v f.name aq 1 s with
   |none=>
    obtain⟨x,e⟩:=e.bad h1;have k1:fj prog 170 [aS aq,aS s,i64 1,.ptr 3 0,.ptr 4 0] (ib p fs f) (bE x) [0,1,2]=true:=by have e:=e [.cells [cA]];exact fB e
    have hb:=vT p p fs f s x aq aq false;rw[he,k1]at hb;exact⟨x,0,_,.out (dS mixed (au _) (cT (au _) (bx aF)) hb rfl (eQ _) (ag3 _) (Rt p fs f) (λl h=>h)) (by simp),λl h=>h⟩
   |some q=>
    have k1:cW prog 170 [aS aq,aS s,i64 1,.ptr 3 0,.ptr 4 0] (ib p fs f) (aS s) (ib q fs f) [0,1,2]=true:=by have e:=e.ok h1 [.cells [cA]];exact bS e
    have hb:=vT p q fs f s aq (ft s) (pX s) true;rw[he,k1,ak (GI s hs [])]at hb;have hr:=dZ mixed (au _) xN hb rfl rfl (ag3 _) (by simp);have cO:=tD (jx.1 he);have ih:=GY fs f n (ft s) q (by omega) (by omega);rw[ahH];split at ih
    ·obtain⟨k,W,r,hw⟩:=ih;exact⟨k+1,_,.next hr r,λl hl=>by
      rcases ahC.1 hl with h|h
      ·exact h
      ·exact hw l h⟩
    ·obtain⟨y,k,W,r,hw⟩:=ih;exact⟨y,k+1,_,.next hr r,λl hl=>by
      rcases ahC.1 hl with h|h
      ·exact h
      ·exact hw l h⟩
section
def rl (r:aX bN) (sc:ByteArray) (j:Nat) (i:Int):List AV:=bz 75 [(3,.ptr 4 0),(4,.ptr 5 0),(7,.ptr 7 0),(10,.ptr 9 0),(11,aS (ar sc (bf r.l j).name)),(43,r.av 4 bN.cells),(44,i64 r.l.length),(45,i64 j),(56,(bf r.l j).aO.av 7 cM.cells),(57,i64 (bf r.l j).aO.l.length),(58,i64 i)]
theorem vU (p q:bg) (fs:jo) (f:ag) (r:aX bN) (sc:ByteArray) (j:Nat) (x:ByteArray) (i:Nat) (ok:Bool):(iH prog (cK []) (jn prog (cK []) [⟨19,4,ok,bE x,[0,1,2]⟩] (eV prog [⟨66,aS (ar (ar sc (bf r.l j).name) (fA (bf r.l j).aO.l i).name),aT q fs f++[.cells (bf r.l j).cells,.cells (fA (bf r.l j).aO.l i).cells],[0,1,2]⟩] aN)) 3 (ae f101 17) (rl r sc j i) (aT p fs f++[.cells (bf r.l j).cells])).via (oe [3,4,7,10,11,43,44,45,56,57,58] [] 10)=
  bif decide ((i:Int)<((bf r.l j).aO.l.length:Int))then bif decide ((0:Int)<=(i:Int)/\(i:Int)<((bf r.l j).aO.l.length:Int))then
   bif ok then bif cW prog 170 [aS (ar sc (bf r.l j).name),aS (fA (bf r.l j).aO.l i).name,i64 9,.ptr 3 0,.ptr 4 0] (aT p fs f++[.cells (bf r.l j).cells,.cells (fA (bf r.l j).aO.l i).cells]) (aS (ar (ar sc (bf r.l j).name) (fA (bf r.l j).aO.l i).name)) (aT q fs f++[.cells (bf r.l j).cells,.cells (fA (bf r.l j).aO.l i).cells]) [0,1,2]then some ⟨.normal,rl r sc j (IntKind.wrap .i64 ((i:Int)+1)),aT q fs f++[.cells (bf r.l j).cells],[0,1,2],true⟩else none
   else bif fj prog 170 [aS (ar sc (bf r.l j).name),aS (fA (bf r.l j).aO.l i).name,i64 9,.ptr 3 0,.ptr 4 0] (aT p fs f++[.cells (bf r.l j).cells,.cells (fA (bf r.l j).aO.l i).cells]) (bE x) [0,1,2]then some ⟨.panic (bE x),fD 75,[],[0,1,2],true⟩else none else none
  else some ⟨.exit 4,rl r sc j i,aT p fs f++[.cells (bf r.l j).cells],[],true⟩:=by kernel_rfl
end
theorem GZ (p:bg) (fs:jo) (f:ag) (r:aX bN) (sc:ByteArray) (j:Nat) (hs:(ar sc (bf r.l j).name).size<=cq) (hb:(bf r.l j).sz<=bL):dj (ae f101 17) (λi=>rl r sc j i) (λq=>aT q fs f++[.cells (bf r.l j).cells]) 4 75 (λ(p:bg) (v:cM)=>p.v f.name (ar sc (bf r.l j).name) 9 v.name) (bf r.l j).aO.l p:=by
 unfold bN.sz at hb;unfold bL at hb;have hlen:=gM (r:=(bf r.l j).aO) cM.bT;refine ia (by simp) (λ_ _=>True) trivial (λ_ _=>rfl) (λi s s' hi _ gY=>⟨?_,trivial⟩) (λi s hi _ gY=> ?_) (λs _=> ?_)
 ·have e:=dw.ok (pD s fs f (a:=(ar sc (bf r.l j).name)) (b:=(fA (bf r.l j).aO.l i).name) 9 (by unfold cq at hs;omega) (by have:=fI (f:=cM.sz) (r:=(bf r.l j).aO) (bM hi);have:=cM.nm (fA (bf r.l j).aO.l i);unfold fA at*;omega)) gY;have k1:cW prog 170 [aS (ar sc (bf r.l j).name),aS (fA (bf r.l j).aO.l i).name,i64 9,.ptr 3 0,.ptr 4 0] (aT s fs f++[.cells (bf r.l j).cells,.cells (fA (bf r.l j).aO.l i).cells]) (aS (ar (ar sc (bf r.l j).name) (fA (bf r.l j).aO.l i).name)) (aT s' fs f++[.cells (bf r.l j).cells,.cells (fA (bf r.l j).aO.l i).cells]) [0,1,2]=true:=by have e1:=e (uY++[.cells (bf r.l j).cells,.cells (fA (bf r.l j).aO.l i).cells]);exact bS e1
  have hb:=vU s s' fs f r sc j aq i true;rw[ag2 (by omega:(i:Int)<((bf r.l j).aO.l.length:Int)),ag2 (by omega:(0:Int)<=(i:Int)/\(i:Int)<((bf r.l j).aO.l.length:Int)),k1,wi (x:=(i:Int)+1) (by omega) (by omega)]at hb;exact dZ mixed (au _) (cT (au _) (bx ab)) hb rfl rfl (ag3 _) (by simp)
 ·obtain⟨x,e⟩:=dw.bad (pD s fs f (a:=(ar sc (bf r.l j).name)) (b:=(fA (bf r.l j).aO.l i).name) 9 (by unfold cq at hs;omega) (by have:=fI (f:=cM.sz) (r:=(bf r.l j).aO) (bM hi);have:=cM.nm (fA (bf r.l j).aO.l i);unfold fA at*;omega)) gY;have k1:fj prog 170 [aS (ar sc (bf r.l j).name),aS (fA (bf r.l j).aO.l i).name,i64 9,.ptr 3 0,.ptr 4 0] (aT s fs f++[.cells (bf r.l j).cells,.cells (fA (bf r.l j).aO.l i).cells]) (bE x) [0,1,2]=true:=by have e1:=e (uY++[.cells (bf r.l j).cells,.cells (fA (bf r.l j).aO.l i).cells]);exact fB e1
  have hb:=vU s s fs f r sc j x i false;rw[ag2 (by omega:(i:Int)<((bf r.l j).aO.l.length:Int)),ag2 (by omega:(0:Int)<=(i:Int)/\(i:Int)<((bf r.l j).aO.l.length:Int)),k1]at hb;exact⟨x,dS mixed (au _) (cT (au _) (bx ab)) hb rfl (eQ _) (ag3 _) (rW s fs f [.cells (bf r.l j).cells] (λo ho=>by
   simp only[ahl,ahr,ahO]at ho;rcases ho with rfl
   ·exact lfo _ (DO _))) (by simp)⟩
 ·have hb:=vU s s fs f r sc j aq (bf r.l j).aO.l.length true;rw[ag8 (by omega)]at hb;exact dZ mixed (au _) (cT (au _) (bx ab)) hb rfl rfl (ag3 _) (by simp)
section
variable (fs:jo) (f:ag)
def rm (r:aX bN) (i:Int):List AV:=bz 75 [(3,.ptr 4 0),(4,.ptr 5 0),(7,.ptr 7 0),(43,r.av 4 bN.cells),(44,i64 r.l.length),(45,i64 i)]
theorem rX (p0 p1 p2:bg) (r:aX bN) (sc x:ByteArray) (Iv:sc=f.cG) (i:Nat) (fq oS:Bool):(iH prog (cK []) (nF prog [⟨17,[3,4,7,10,11,43,44,45,56,57,58],oS,.exit 4,rl r sc i (bf r.l i).aO.l.length,(aT p2 fs f++[.cells (bf r.l i).cells]),bE x,fD 75,[0,1,2]⟩] (jn prog (cK []) [⟨15,5,fq,bE x,[0,1,2]⟩] (eV prog [⟨54,aS (ar sc (bf r.l i).name),(aT p1 fs f++[.cells (bf r.l i).cells]),[0,1,2]⟩] aN))) 3 (ae f101 13) (rm r i) (aT p0 fs f)).via (oe [3,4,7,43,44,45] [] 9)=
  bif decide ((i:Int)<(r.l.length:Int))then bif decide ((0:Int)<=(i:Int)/\(i:Int)<(r.l.length:Int))then
   bif fq then bif cW prog 170 [aS sc,aS (bf r.l i).name,i64 8,.ptr 3 0,.ptr 4 0] (aT p0 fs f++[.cells (bf r.l i).cells]) (aS (ar sc (bf r.l i).name)) (aT p1 fs f++[.cells (bf r.l i).cells]) [0,1,2]then
   bif oS then bif cj prog (ae f101 17) (rl r sc i ((0:Nat):Int)) (aT p1 fs f++[.cells (bf r.l i).cells]) (.exit 4) (rl r sc i (bf r.l i).aO.l.length) (aT p2 fs f++[.cells (bf r.l i).cells]) [0,1,2]then
   some ⟨.normal,rm r (IntKind.wrap .i64 ((i:Int)+1)),aT p2 fs f,[0,1,2,0,1,2],true⟩else none
   else bif cj prog (ae f101 17) (rl r sc i ((0:Nat):Int)) (aT p1 fs f++[.cells (bf r.l i).cells]) (.panic (bE x)) (fD 75) (dc [0,1,2] (aT p1 fs f++[.cells (bf r.l i).cells])) [0,1,2]then some ⟨.panic (bE x),fD 75,[],[0,1,2,0,1,2],true⟩else none else none
   else bif fj prog 170 [aS sc,aS (bf r.l i).name,i64 8,.ptr 3 0,.ptr 4 0] (aT p0 fs f++[.cells (bf r.l i).cells]) (bE x) [0,1,2]then some ⟨.panic (bE x),fD 75,[],[0,1,2],true⟩else none else none
  else some ⟨.exit 2,rm r i,aT p0 fs f,[],true⟩:=by subst Iv;kernel_rfl
end
theorem Ru (p:bg) (fs:jo) (f:ag) (r:aX bN) (sc:ByteArray) (Iv:sc=f.cG) (hs:sc.size<=1048576) (hb:r.sz bN.sz<=bL):dj (ae f101 13) (λi=>rm r i) (λq=>aT q fs f) 2 75 (DV f.name sc) r.l p:=by
 have hlen:=gM (r:=r) bN.bT;unfold bL at hb;refine ia trivial (λ_ _=>True) trivial (λ_ _=>rfl) (λi s s' hi _ gY=>⟨?_,trivial⟩) (λi s hi _ gY=> ?_) (λs _=> ?_)
 ·have hm:(bf r.l i).sz<=r.sz bN.sz:=fI (f:=bN.sz) (r:=r) (bM hi);have Aw:=bN.nm (bf r.l i);have hj:=gH sc (bf r.l i).name;have e1:=pD s fs f (a:=sc) (b:=(bf r.l i).name) 8 (by omega) (by omega);have e2:=λq:bg=>GZ q fs f r sc i (by unfold cq;show (ar sc (bf r.l i).name).size<=_;omega) (by unfold bL;show (bf r.l i).sz<=_;omega)
  have gY:(s.v f.name sc 8 (bf r.l i).name).bind (gq (λp (m:cM)=>p.v f.name (ar sc (bf r.l i).name) 9 m.name) (bf r.l i).aO.l)=some s':=gY;obtain⟨q1,h1,h2⟩:=bn gY;have k1:cW prog 170 [aS sc,aS (bf r.l i).name,i64 8,.ptr 3 0,.ptr 4 0] (aT s fs f++[.cells (bf r.l i).cells]) (aS (ar sc (bf r.l i).name)) (aT q1 fs f++[.cells (bf r.l i).cells]) [0,1,2]=true:=by have e:=dw.ok (e1) h1 (uY++[.cells (bf r.l i).cells]);exact bS e
  have k2:cj prog (ae f101 17) (rl r sc i ((0:Nat):Int)) (aT q1 fs f++[.cells (bf r.l i).cells]) (.exit 4) (rl r sc i (bf r.l i).aO.l.length) (aT s' fs f++[.cells (bf r.l i).cells]) [0,1,2]=true:=by have e:=dj.ok (e2 q1) h2;exact bc e
  have hb:=rX fs f s q1 s' r sc aq Iv i true true;rw[ag2 (by omega:(i:Int)<(r.l.length:Int)),ag2 (by omega:(0:Int)<=(i:Int)/\(i:Int)<(r.l.length:Int)),k1,k2,wi (x:=(i:Int)+1) (by omega) (by omega)]at hb;exact(dZ mixed (au _) (eL (cT (au _) (bx ab))) hb rfl rfl (ag3 _) (by simp)).eI (by simp)
 ·have hm:(bf r.l i).sz<=r.sz bN.sz:=fI (f:=bN.sz) (r:=r) (bM hi);have Aw:=bN.nm (bf r.l i);have hj:=gH sc (bf r.l i).name;have e1:=pD s fs f (a:=sc) (b:=(bf r.l i).name) 8 (by omega) (by omega);have e2:=λq:bg=>GZ q fs f r sc i (by unfold cq;show (ar sc (bf r.l i).name).size<=_;omega) (by unfold bL;show (bf r.l i).sz<=_;omega)
  have gY:(s.v f.name sc 8 (bf r.l i).name).bind (gq (λp (m:cM)=>p.v f.name (ar sc (bf r.l i).name) 9 m.name) (bf r.l i).aO.l)=none:=gY
  cases h1:s.v f.name sc 8 (bf r.l i).name with
  |none=>
   obtain⟨x,e⟩:=dw.bad (e1) h1;have b1:fj prog 170 [aS sc,aS (bf r.l i).name,i64 8,.ptr 3 0,.ptr 4 0] (aT s fs f++[.cells (bf r.l i).cells]) (bE x) [0,1,2]=true:=by have e:=e (uY++[.cells (bf r.l i).cells]);exact fB e
   have hb:=rX fs f s s s r sc x Iv i false true;rw[ag2 (by omega:(i:Int)<(r.l.length:Int)),ag2 (by omega:(0:Int)<=(i:Int)/\(i:Int)<(r.l.length:Int)),b1]at hb;exact⟨x,dS mixed (au _) (eL (cT (au _) (bx ab))) hb rfl (eQ _) (ag3 _) (λo ho=>(fk _ _ _ 9 (by omega) o ho).1) (by simp)⟩
  |some q1=>
   rw[h1,ahH]at gY;have h2:=gY;have k1:cW prog 170 [aS sc,aS (bf r.l i).name,i64 8,.ptr 3 0,.ptr 4 0] (aT s fs f++[.cells (bf r.l i).cells]) (aS (ar sc (bf r.l i).name)) (aT q1 fs f++[.cells (bf r.l i).cells]) [0,1,2]=true:=by have e:=dw.ok (e1) h1 (uY++[.cells (bf r.l i).cells]);exact bS e
   obtain⟨x,e⟩:=dj.bad (e2 q1) h2;have b2:cj prog (ae f101 17) (rl r sc i ((0:Nat):Int)) (aT q1 fs f++[.cells (bf r.l i).cells]) (.panic (bE x)) (fD 75) (dc [0,1,2] (aT q1 fs f++[.cells (bf r.l i).cells])) [0,1,2]=true:=bc e;have hb:=rX fs f s q1 s r sc x Iv i true false;rw[ag2 (by omega:(i:Int)<(r.l.length:Int)),ag2 (by omega:(0:Int)<=(i:Int)/\(i:Int)<(r.l.length:Int)),k1,b2]at hb;exact⟨x,dS mixed (au _) (eL (cT (au _) (bx ab))) hb rfl (eQ _) (ag3 _) (λo ho=>(fk _ _ _ 9 (by omega) o ho).1) (by simp)⟩
 ·have hb:=rX fs f s s s r sc aq Iv r.l.length true true;rw[ag8 (by omega)]at hb;exact dZ mixed (au _) (eL (cT (au _) (bx ab))) hb rfl rfl (ag3 _) (by simp)
noncomputable def Rv (p0 p1 p2 p3 p4 p5:bg) (fs:jo) (f:ag) (x:ByteArray) (fq oS NR NS NT:Bool):bX:=nF prog [⟨3,[2,3,4,5],fq,.exit 0,oq aq,(ib p1 fs f),bE x,fD 75,[0,1,2]⟩,⟨13,[3,4,7,43,44,45],NS,.exit 2,rm f.aL f.aL.l.length,(aT p4 fs f),bE x,fD 75,[0,1,2]⟩] (jn prog (cK []) [⟨10,5,oS,bE x,[0,1,2]⟩,⟨11,5,NR,bE x,[0,1,2]⟩,⟨22,5,NT,bE x,[0,1,2]⟩] (eV prog [⟨35,.bq [],(aT p2 fs f),[0,1,2]⟩,⟨41,.bq [],(aT p3 fs f),[0,1,2]⟩,⟨74,.bq [],(aT p5 fs f),[0,1,2]⟩] aN))
theorem G0 {p0 p1 p2 p3 p4 p5:bg}{fs:jo}{f:ag}{x:ByteArray}{fq oS NR NS NT:Bool}:bA prog (Rv p0 p1 p2 p3 p4 p5 fs f x fq oS NR NS NT):=eL (cT (au _) (bx ab))
theorem ot (p0 p1 p2 p3 p4 p5:bg) (fs:jo) (f:ag) (x:ByteArray) (fq oS NR NS NT:Bool):(TI prog (cK []) (Rv p0 p1 p2 p3 p4 p5 fs f x fq oS NR NS NT) 3 101 [.ptr 0 0,.agg f.two] (p0.H fs)).via (pz 3)=
  bif fq then bif cj prog (ae f101 3) (oq f.cG) (ib p0 fs f) (.exit 0) (oq aq) (ib p1 fs f) [0,1,2]then
   bif oS then bif cW prog 175 [f.ay.av 11 az.one,aS f.cG,.ptr 3 0,.ptr 4 0,.ptr 5 0,.ptr 8 0,.ptr 6 0,.ptr 7 0] (aT p1 fs f) (.bq []) (aT p2 fs f) [0,1,2]then
   bif NR then bif cW prog 173 [f.aQ.av 4 bt.cells,aS f.cG,.ptr 3 0,.ptr 4 0,.ptr 5 0] (aT p2 fs f) (.bq []) (aT p3 fs f) [0,1,2]then
   bif NS then bif cj prog (ae f101 13) (rm f.aL ((0:Nat):Int)) (aT p3 fs f) (.exit 2) (rm f.aL f.aL.l.length) (aT p4 fs f) [0,1,2]then
   bif NT then bif cW prog 174 [f.exts.av 13 aP.cells,aS f.cG,.ptr 3 0,.ptr 4 0] (aT p4 fs f) (.bq []) (aT p5 fs f) [0,1,2]then
   some (false,.bq [],p5.H fs,[0,1,2,0,1,2,0,1,2,0,1,2,0,1,2])else none
   else bif fj prog 174 [f.exts.av 13 aP.cells,aS f.cG,.ptr 3 0,.ptr 4 0] (aT p4 fs f) (bE x) [0,1,2]then some (true,bE x,[],[0,1,2,0,1,2,0,1,2,0,1,2,0,1,2])else none else none
   else bif cj prog (ae f101 13) (rm f.aL ((0:Nat):Int)) (aT p3 fs f) (.panic (bE x)) (fD 75) (dc [0,1,2] (aT p3 fs f)) [0,1,2]then some (true,bE x,[],[0,1,2,0,1,2,0,1,2,0,1,2])else none else none
   else bif fj prog 173 [f.aQ.av 4 bt.cells,aS f.cG,.ptr 3 0,.ptr 4 0,.ptr 5 0] (aT p2 fs f) (bE x) [0,1,2]then some (true,bE x,[],[0,1,2,0,1,2,0,1,2])else none else none
   else bif fj prog 175 [f.ay.av 11 az.one,aS f.cG,.ptr 3 0,.ptr 4 0,.ptr 5 0,.ptr 8 0,.ptr 6 0,.ptr 7 0] (aT p1 fs f) (bE x) [0,1,2]then some (true,bE x,[],[0,1,2,0,1,2])else none else none
   else bif cj prog (ae f101 3) (oq f.cG) (ib p0 fs f) (.panic (bE x)) (fD 75) (dc [0,1,2] (ib p0 fs f)) [0,1,2]then some (true,bE x,[],[0,1,2])else none:=by kernel_rfl
theorem LC (p:bg) (fs:jo) (f:ag) (hb:f.sz<=bL) (hc:p.iA+f.sz<=cq):dw 101 [.ptr 0 0,.agg f.two] (λq=>q.H fs) p (iV p f) (.bq []):=by
 have NQ:dG 3 [.ptr 0 0,.agg f.two]=true:=by
  simp only[dG,ff];rw[eP (l8 f)];rfl
 refine dw.of (n:=3) (ag3 _) (λq=>rfl) (λq=>gD q fs 3 (ag3 _)) NQ rfl ?_;have hz:f.sz=f.name.size+f.cG.size+f.cm.sz+f.ey.sz+f.ay.sz az.sz+f.aQ.sz bt.sz+f.aL.sz bN.sz+f.exts.sz aP.sz+f.rP.size+f.opts.sz+f.dE.sz+4:=rfl;have hz2:f.ay.sz az.sz=bw az.sz f.ay.l+1:=rfl;unfold bL at hb;unfold cq at hc;have e1:=GY fs f (f.cG.size+1) f.cG p (by omega) (by omega);have e2:=λ(q:bg) (h:q.iA<=p.iA)=>Vl fs f (bw az.sz f.ay.l) q f.ay.nl f.ay.l f.cG (ag3 _) (by unfold cq;omega) (by unfold bL;omega) (by unfold cq;omega)
 have e3:=λq:bg=>DT q fs f f.aQ f.cG (by unfold cq;omega) (by unfold bL;omega)
 have e4:=λq:bg=>Ru q fs f f.aL f.cG rfl (by omega) (by unfold bL;omega)
 have e5:=λ(q:bg) (h:q.iA<=p.iA+bw az.sz f.ay.l)=>DU q fs f f.exts f.cG (by unfold cq;omega) (by unfold bL;omega) (by unfold cq;omega)
 have fin:∀{p1 p2 p3 p4 p5:bg} {x:ByteArray} {b1 b2 b3 b4 b5:Bool} {F} {W:List Nat},(TI prog (cK []) (Rv p p1 p2 p3 p4 p5 fs f x b1 b2 b3 b4 b5) 3 101 [.ptr 0 0,.agg f.two] (p.H fs)).via (pz 3)=F->F=some (true,bE x,[],W)->(∀l∈W,l∈[0,1,2])->∃full,iQ prog 101 [.ptr 0 0,.agg f.two] (bE full) (p.H fs) (dc [0,1,2] (p.H fs)) [0,1,2]:=by
  intro p1 p2 p3 p4 p5 x b1 b2 b3 b4 b5 F W h hF hW;obtain⟨⟨bb,y,H1,W1⟩,hr,hg⟩:=cv h hF;have:=kH mixed (au _) G0 hr;simp only[pz,ahe]at hg;obtain⟨rfl,rfl,_,rfl⟩:=hg;rw[if_pos rfl]at this;exact⟨_,this (eQ _) (λo ho=>(gD p fs 3 (ag3 _) o ho).1) _ hW⟩
 unfold iV
 cases h1:gV (f.cG.size+1) f.name f.cG p with
 |none=>
  rw[h1]at e1;obtain⟨x,n,W,r,hw⟩:=e1;have b1:cj prog (ae f101 3) (oq f.cG) (ib p fs f) (.panic (bE x)) (fD 75) (dc [0,1,2] (ib p fs f)) [0,1,2]=true:=bc (an.eI r.ok hw);have ht:=ot p p p p p p fs f x false true true true true;rw[b1]at ht;exact fin ht rfl (by simp)
 |some q1=>
  rw[h1]at e1;obtain⟨n,W,r,hw⟩:=e1;have k1:cj prog (ae f101 3) (oq f.cG) (ib p fs f) (.exit 0) (oq aq) (ib q1 fs f) [0,1,2]=true:=bc (an.eI r.ok hw);have c1:=pE h1;rw[ahH]
  cases h2:eM f.name f.cG f.ay.l q1 with
  |none=>
   obtain⟨x,e⟩:=dw.bad (e2 q1 c1) h2;have b2:fj prog 175 [f.ay.av 11 az.one,aS f.cG,.ptr 3 0,.ptr 4 0,.ptr 5 0,.ptr 8 0,.ptr 6 0,.ptr 7 0] (aT q1 fs f) (bE x) [0,1,2]=true:=by have e:=e ([]);exact fB e
   have ht:=ot p q1 p p p p fs f x true false true true true;rw[k1,b2]at ht;exact fin ht rfl (by simp)
  |some q2=>
   have k2:cW prog 175 [f.ay.av 11 az.one,aS f.cG,.ptr 3 0,.ptr 4 0,.ptr 5 0,.ptr 8 0,.ptr 6 0,.ptr 7 0] (aT q1 fs f) (.bq []) (aT q2 fs f) [0,1,2]=true:=by have e:=dw.ok (e2 q1 c1) h2 ([]);exact bS e
   have c2:=jf _ _ _ _ _ h2;rw[az.gA]at c2;rw[ahH]
   cases h3:gU f.name f.cG f.aQ.l q2 with
   |none=>
    obtain⟨x,e⟩:=dw.bad (e3 q2) h3;have b3:fj prog 173 [f.aQ.av 4 bt.cells,aS f.cG,.ptr 3 0,.ptr 4 0,.ptr 5 0] (aT q2 fs f) (bE x) [0,1,2]=true:=by have e:=e ([]);exact fB e
    have ht:=ot p q1 q2 p p p fs f x true true false true true;rw[k1,k2,b3]at ht;exact fin ht rfl (by simp)
   |some q3=>
    have k3:cW prog 173 [f.aQ.av 4 bt.cells,aS f.cG,.ptr 3 0,.ptr 4 0,.ptr 5 0] (aT q2 fs f) (.bq []) (aT q3 fs f) [0,1,2]=true:=by have e:=dw.ok (e3 q2) h3 ([]);exact bS e
    rw[ahH]
    cases h4:rk f.name f.cG f.aL.l q3 with
    |none=>
     obtain⟨x,e⟩:=dj.bad (e4 q3) h4;have b4:cj prog (ae f101 13) (rm f.aL ((0:Nat):Int)) (aT q3 fs f) (.panic (bE x)) (fD 75) (dc [0,1,2] (aT q3 fs f)) [0,1,2]=true:=bc e;have ht:=ot p q1 q2 q3 p p fs f x true true true false true;rw[k1,k2,k3,b4]at ht;exact fin ht rfl (by simp)
    |some q4=>
     have k4:cj prog (ae f101 13) (rm f.aL ((0:Nat):Int)) (aT q3 fs f) (.exit 2) (rm f.aL f.aL.l.length) (aT q4 fs f) [0,1,2]=true:=by have e:=dj.ok (e4 q3) h4;exact bc e
     have c3:=jA h3;have c4:q4.iA<=p.iA+bw az.sz f.ay.l:=by have:=u0 h4;omega
     rw[ahH]
     cases h5:jz f.name f.cG f.exts.l q4 with
     |none=>
      obtain⟨x,e⟩:=dw.bad (e5 q4 c4) h5;have b5:fj prog 174 [f.exts.av 13 aP.cells,aS f.cG,.ptr 3 0,.ptr 4 0] (aT q4 fs f) (bE x) [0,1,2]=true:=by have e:=e ([]);exact fB e
      have ht:=ot p q1 q2 q3 q4 p fs f x true true true true false;rw[k1,k2,k3,k4,b5]at ht;exact fin ht rfl (by simp)
     |some q5=>
      have k5:cW prog 174 [f.exts.av 13 aP.cells,aS f.cG,.ptr 3 0,.ptr 4 0] (aT q4 fs f) (.bq []) (aT q5 fs f) [0,1,2]=true:=by have e:=dw.ok (e5 q4 c4) h5 ([]);exact bS e
      have ht:=ot p q1 q2 q3 q4 q5 fs f aq true true true true true;rw[k1,k2,k3,k4,k5]at ht;obtain⟨⟨bb,y,H1,W1⟩,hr,hg⟩:=cv ht rfl;have:=kH mixed (au _) G0 hr;simp only[pz,ahe]at hg;obtain⟨rfl,rfl,e,rfl⟩:=hg;rw[if_neg (by simp)]at this;exact(kg this e (gD q5 fs 3 (ag3 _)) rfl).eI (by simp)
section
variable (f:ag) (nl:Bool) (l:List az) (a d k:Int)
def km:aa:=[.cells f.two,.cells [.fn (.func 160) [] [.ptr 1 0]]]
def DW (i:Int):List AV:=bz 33 [(1,i64 a),(2,.ptr 1 0),(6,i64 d),(15,fL nl l),(16,i64 l.length),(17,i64 i)]
theorem zJ (i:Nat):(db prog (cK []) (told prog [] [⟨29,2,i64 k⟩]) [] 3 (ae f160 5) (DW nl l a d i) (km f)).via (cz [1,2,6,15,16,17] [] 2)=
  bif decide ((i:Int)<(l.length:Int))then bif decide ((0:Int)<=(i:Int)/\(i:Int)<(l.length:Int))then
   bif decide (d>64)then some ⟨.exit 0,DW nl l a d i,km f,[],true⟩else
   bif aD prog 160 [je (aA l i),i64 (IntKind.wrap .i64 (a+1)),.ptr 1 0] (km f) (i64 k)then some ⟨.normal,DW nl l a (uR d k) (IntKind.wrap .i64 ((i:Int)+1)),km f,[],true⟩else none else none
  else some ⟨.exit 0,DW nl l a d i,km f,[],true⟩:=by kernel_rfl
theorem G1 (i:Int):(eb prog (cK []) (cJ prog [⟨5,[1,2,6,15,16,17],.exit 0,DW nl l a d i,km f,[]⟩] aN) [] 3 160 [fL nl l,i64 a,.ptr 1 0] (km f)).via id=
  bif ((l.length:Int)==0)then some (i64 a,km f,[])else
  bif cj prog (ae f160 5) (DW nl l a (IntKind.wrap .i64 (a+1)) ((0:Nat):Int)) (km f) (.exit 0) (DW nl l a d i) (km f) []then some (i64 d,km f,[])else none:=by kernel_rfl
theorem Vn:(eb prog (cK []) (told prog [] [⟨9,2,i64 k⟩]) [] 3 98 [.agg f.two] []).via ch=
  bif aD prog 160 [fL f.ay.nl f.ay.l,i64 0,.ptr 1 0] (km f) (i64 k)then bif decide (k<=64)then some (i64 k)else some (i64 100)else none:=by kernel_rfl
theorem Vo:(eb prog (cK []) (told prog [] [⟨4,0,i64 k⟩]) [] 3 97 [.agg f.two] []).via ch=
  bif aD prog 98 [.agg f.two] [] (i64 k)then some (.sc (.bool (decide (k>64))))else none:=by kernel_rfl
end
def aa4 (f:ag) (nl:Bool) (l:List az) (a:Int):Prop:=∃n:Int,(0<=n/\n<=65)/\bZ prog 160 [fL nl l,i64 a,.ptr 1 0] (i64 n) (km f) (km f) []
theorem wU (f:ag):∀(k:Nat) (nl:Bool) (l:List az) (a:Int),0<=a->a<=64->(64-a).toNat<=k->l.length<=dg->(∀m∈l,m.sm)->aa4 f nl l a
 |k,nl,l,a,h0,h1,hk,hl,hm=>by
  unfold dg at hl;have TG:IntKind.wrap .i64 (a+1)=a+1:=wi (by omega) (by omega);by_cases hz:l.length=0
  ·have hb:=G1 f nl l a 0 0;have:((l.length:Int)==0)=true:=by simp[hz]
   rw[this]at hb;exact⟨a,⟨by omega,by omega⟩,gQ mixed (au _) (ba ab) (pq hb rfl)⟩
  ·have Iu:=iE (P:=prog) (c:=ae f160 5)
    (λm T H=>∃(i:Nat) (d:Int),i<=l.length/\m=l.length-i/\(a+1<=d/\d<=65)/\T=DW nl l a d i/\H=km f)
    (λx T H=>x= .exit 0/\H=km f/\∃(i:Nat) (d:Int),(0<=d/\d<=65)/\T=DW nl l a d i) 2 (by
    rintro m T H ⟨i,d,hi,rfl,hdd,rfl,rfl⟩;by_cases cO:i<l.length
    ·by_cases hb6:d>64
     ·have hb:=zJ f nl l a d 0 i;rw[ag2 (by omega:(i:Int)<(l.length:Int)),ag2 (by omega:(0:Int)<=(i:Int)/\(i:Int)<(l.length:Int)),ag2 hb6]at hb;exact⟨_,_,_,_,ai mixed (au _) aF hb rfl (ag3 _) (by simp),λl hl=>by simp at hl,.inr ⟨by simp,rfl,rfl,i,d,⟨by omega,by omega⟩,rfl⟩⟩
     ·have oJ:aA l i∈l:=bM cO;have Bh:=az.dD (hm _ oJ)
      match k,hk with
      |0,hk=>omega
      |k+1,hk=>
       obtain⟨n,hn,hc⟩:=wU f k (aA l i).mN (aA l i).aC (a+1) (by omega) (by omega) (by omega) Bh.aC.1 Bh.aC.2;have hb:=zJ f nl l a d n i;have hcc:bZ prog 160 [je (aA l i),i64 (a+1),.ptr 1 0] (i64 n) (km f) (km f) []:=hc.fR (.cons (mH _) (.refl _));rw[TG,ag2 (by omega:(i:Int)<(l.length:Int)),ag2 (by omega:(0:Int)<=(i:Int)/\(i:Int)<(l.length:Int)),ag8 hb6,wi (x:=(i:Int)+1) (by omega) (by omega),ak hcc]at hb;have U4:a+1<=uR d n/\uR d n<=65:=by unfold uR;split<;>omega
       exact⟨_,_,_,_,ai mixed (au _) aF hb rfl (ag3 _) (by simp),λl hl=>by simp at hl,.inl ⟨rfl,l.length-(i+1),by omega,i+1,uR d n,by omega,rfl,U4,rfl,rfl⟩⟩
    ·have hb:=zJ f nl l a d 0 i;rw[ag8 (by omega:¬(i:Int)<(l.length:Int))]at hb;exact⟨_,_,_,_,ai mixed (au _) aF hb rfl (ag3 _) (by simp),λl hl=>by simp at hl,.inr ⟨by simp,rfl,rfl,i,d,⟨by omega,by omega⟩,rfl⟩⟩)
   obtain⟨x,T',H',W,dC,hW,rfl,rfl,i,d,hdd,rfl⟩:=Iu _ _ _ ⟨0,a+1,ag9 _,rfl,⟨by omega,by omega⟩,rfl,rfl⟩;have dC:=dC.wr (Wr':=[]) (λl hl cO=>by have:=hW l hl;have h2:(km f).length=2:=rfl;omega);have hb:=G1 f nl l a d i;have hz':((l.length:Int)==0)=false:=beq_eq_false_iff_ne.2 (by omega);rw[hz',TG,bc dC]at hb;exact⟨d,hdd,gQ mixed (au _) (ba ab) (pq hb rfl)⟩
theorem G2 (f:ag) (h:f.sz<=bL):∃n:Int,∀H,bZ prog 98 [.agg f.two] (i64 n) H H []:=by
 have hs:=ag.dD h;obtain⟨n,hn,hc⟩:=wU f 64 f.ay.nl f.ay.l 0 (by omega) (by omega) (by omega) hs.2.2.2.2.1.1 hs.2.2.2.2.1.2;have hb:=Vn f n;rw[ak hc]at hb;have lf:∀x∈[AV.agg f.two],LF x:=ao (gJ (l8 f)) bC;by_cases h64:n<=64
 ·rw[ag2 h64]at hb;exact⟨n,λH=>bG mixed (au _) aF hb rfl (.refl _) (.sc _) lf H⟩
 ·rw[ag8 h64]at hb;exact⟨100,λH=>bG mixed (au _) aF hb rfl (.refl _) (.sc _) lf H⟩
open Classical in
noncomputable def LD (f:ag):Int:=if h:∃n:Int,∀H,bZ prog 98 [.agg f.two] (i64 n) H H []then h.choose else 0
theorem NU (f:ag) (h:f.sz<=bL) (H:aa):bZ prog 98 [.agg f.two] (i64 (LD f)) H H []:=by
 have hk:=G2 f h;unfold LD;rw[dif_pos hk];exact hk.choose_spec H
noncomputable def pY (f:ag):Bool:=decide (LD f>64)
theorem B1 (f:ag) (h:f.sz<=bL) (H:aa):bZ prog 97 [.agg f.two] (.sc (.bool (pY f))) H H []:=by
 have hb:=Vo f (LD f);rw[ak (NU f h [])]at hb;exact bG mixed (au _) aF hb rfl (.refl _) (.sc _) (ao (gJ (l8 f)) bC) H
section
variable (r:aX ag)
def xw (x i j:Int):List AV:=bz 19 [(0,r.av 11 ag.two),(1,.fn (.func 97) [] []),(4,i64 x),(6,r.av 11 ag.two),(7,i64 r.l.length),(8,i64 i)]
theorem zK (i:Nat) (b:Bool):(iH prog (cK []) (told prog [] [⟨16,0,.sc (.bool b)⟩]) 3 (ae f159 2) (xw r 0 i 0) []).via (cz [0,1,4,6,7,8] [] 0)=
  bif decide ((i:Int)<(r.l.length:Int))then bif decide ((0:Int)<=(i:Int)/\(i:Int)<(r.l.length:Int))then bif aD prog 97 [.agg (aU r.l i).two] [] (.sc (.bool b))then
   bif b then some ⟨.ret,xw r i i 0,[],[],true⟩else some ⟨.normal,xw r 0 (IntKind.wrap .i64 ((i:Int)+1)) 0,[],[],true⟩else none else none
  else some ⟨.exit 0,xw r 0 i 0,[],[],true⟩:=by kernel_rfl
theorem Rw (i:Int):(eb prog (cK []) (cJ prog [⟨2,[0,1,4,6,7,8],.exit 0,xw r 0 i 0,[],[]⟩] aN) [] 3 159 [r.av 11 ag.two,.fn (.func 97) [] []] []).via ch=
  bif cj prog (ae f159 2) (xw r 0 ((0:Nat):Int) 0) [] (.exit 0) (xw r 0 i 0) [] []then some (i64 (-1))else none:=by kernel_rfl
theorem NV (i:Int):(eb prog (cK []) (cJ prog [⟨2,[0,1,4,6,7,8],.ret,xw r i i 0,[],[]⟩] aN) [] 3 159 [r.av 11 ag.two,.fn (.func 97) [] []] []).via ch=
  bif cj prog (ae f159 2) (xw r 0 ((0:Nat):Int) 0) [] .ret (xw r i i 0) [] []then some (i64 i)else none:=by kernel_rfl
theorem Vp (k:Int):(eb prog (cK []) (told prog [] [⟨7,0,i64 k⟩]) [] 3 96 [r.av 11 ag.two,.fn (.func 97) [] []] []).via ch=
  bif aD prog 159 [r.av 11 ag.two,.fn (.func 97) [] []] [] (i64 k)then some (.sc (.bool (decide (k≥0))))else none:=by kernel_rfl
end
theorem Vq (r:aX ag) (hr:bw ag.sz r.l<=bL) (H:aa):bZ prog 96 [r.av 11 ag.two,.fn (.func 97) [] []] (.sc (.bool (r.l.any pY))) H H []:=by
 have lf:∀a∈[r.av 11 ag.two,AV.fn (.func 97) [] []],LF a:=ao bQ (ao (wL _) bC);have hlen:=cy (f:=ag.sz) (l:=r.l) (λx _=>x.bT);have ga:∀i,i<r.l.length->(aU r.l i).sz<=bL:=λi hi=>ahx (cf (f:=ag.sz) (bM hi)) hr
 unfold bL at hr;have hl:=iS (P:=prog) (c:=ae f159 2) (λi=>xw r 0 i 0) (λi=>xw r i i 0) (λi=>pY (aU r.l i)) (.exit 0) (by simp) r.l.length (λi hi hc=>by
  have hb:=zK r i (pY (aU r.l i));rw[ag2 (by omega:(i:Int)<(r.l.length:Int)),ag2 (by omega:(0:Int)<=(i:Int)/\(i:Int)<(r.l.length:Int)),ak (B1 _ (ga i hi) []),hc]at hb;exact cE mixed (au _) aF hb rfl (ag3 _) (by simp)) (λi hi hc=>by
  have hb:=zK r i (pY (aU r.l i));rw[ag2 (by omega:(i:Int)<(r.l.length:Int)),ag2 (by omega:(0:Int)<=(i:Int)/\(i:Int)<(r.l.length:Int)),ak (B1 _ (ga i hi) []),hc,wi (x:=(i:Int)+1) (by omega) (by omega)]at hb;exact cE mixed (au _) aF hb rfl (ag3 _) (by simp)) (by
  have hb:=zK r r.l.length false;rw[ag8 (by omega)]at hb;exact cE mixed (au _) aF hb rfl (ag3 _) (by simp))
 have xu:∀i (hi:i<r.l.length),aU r.l i=r.l[i]:=λi hi=>by simp[aU,ag4,hi]
 have fin:∀k:Int,(∀H,bZ prog 159 [r.av 11 ag.two,.fn (.func 97) [] []] (i64 k) H H [])->decide (k≥0)=r.l.any pY->bZ prog 96 [r.av 11 ag.two,.fn (.func 97) [] []] (.sc (.bool (r.l.any pY))) H H []:=by
  intro k hk hd;have hb:=Vp r k;rw[ak (hk []),hd]at hb;exact bG mixed (au _) aF hb rfl (.refl _) (.sc _) lf H
 rcases hl with ⟨h,fy⟩|⟨j,hj,hc,_,h⟩
 ·have ha:r.l.any pY=false:=by
   rw[List.any_eq_false];intro x hx;obtain⟨i,hi,rfl⟩:=ah0 hx;rw[←xu i hi,fy i hi];simp
  have hb:=Rw r r.l.length;rw[bc h]at hb;exact fin (-1) (λH=>bG mixed (au _) (ba ab) hb rfl (.refl _) (.sc _) lf H) (by rw[ha];rfl)
 ·have ha:r.l.any pY=true:=by
   rw[List.any_eq_true];exact⟨r.l[j],ahG hj,by rw[←xu j hj];exact hc⟩
  have hb:=NV r j;rw[bc h]at hb;exact fin j (λH=>bG mixed (au _) (ba ab) hb rfl (.refl _) (.sc _) lf H) (by rw[ha];simp)
theorem Vr {E:Env}{H H2:aa}{l b:Nat}(e:H2[l]? =H[l]?) (h:owns E H l b):owns E H2 l b:=by
 unfold owns at*;rw[e];exact h
theorem an.inH {P:Program}{c:Code}{T T1:List AV}{H H2 H1:aa}{x:bj}{W:List Nat}(h:an P c T H2 x T1 H1 W)
  (conv:∀(E:Env) (w0 w:World) (tmps:Array Value),Good E H w0 w->eJ E T tmps->Good E H2 w0 w/\∀k b,owns E H2 k b->owns E H k b) (hlen:H2.length=H.length) (iC:∀l,l<H.length->l∉W->H2[l]? =H[l]?):an P c T H x T1 H1 W:=by
 refine⟨λn0 W0 hn hW E w0 w1 a D s6 hg ht hd=> ?_,⟨by rw[←hlen];exact h.2.1,λl hl hm=>by rw[h.2.2 l (by omega) hm,iC l hl hm]⟩⟩;obtain⟨g2,ho⟩:=conv E w0 w1 a.tmps hg ht;refine wp_mono (h.1 n0 W0 (by omega) hW E w0 w1 a D (by omega) g2 ht hd) ?_;rintro e a' w' ⟨E',ax,T2,H3,⟨rfl,rfl,rfl⟩,r,ex,g,t,d⟩;have hs:∀{l},l<n0->¬W0 l->H2[l]? =H[l]? :=λ{l} hl hw=>iC l (by omega) (λhm=>hw (hW l hm hl))
 exact⟨E',ax,_,_,⟨rfl,rfl,rfl⟩,r,⟨ex.le,ex.size,by have:=ex.len;omega,λ{l} hl hw=>by rw[ex.same hl hw,hs hl hw],λ{l b} hl hw Zo=>ex.iX hl hw (Vr (hs hl hw) Zo),λ{l} hl=>ex.lL (by omega),λ{b} hb h0=>ex.stay hb (λk hk=>h0 k (ho k b hk))⟩,g,t,d⟩
theorem an.aa5 {P:Program}{c:Code}{T T1:List AV}{H H2 H1:aa}{x:bj}{W:List Nat}(h:an P c T H2 x T1 H1 W) (hw:Yc H H2) (iC:∀l,l<H.length->l∉W->H2[l]? =H[l]?):an P c T H x T1 H1 W:=
 h.inH (λE w0 w tmps g _=>⟨g.WZ hw,λk b ho=>qN hw ho⟩) hw.1.symm iC
theorem an.Rx {P:Program}{c:Code}{T T1:List AV}{H H1:aa}{x:bj}{W:List Nat}{l:Nat}{val:ByteArray->AV}(hl:H[l]? =some (.map [])) (hv:∀s,LF (val s)) (h:an P c T (H.set l (.ez (λ_=>false) val)) x T1 H1 W) (UU:l∈W):an P c T H x T1 H1 W:=
 h.inH (λE w0 w tmps g _=>⟨(g.PE hl val hv).1,λk b ho=>((g.PE hl val hv).2 k b).1 ho⟩) (by simp) (λk _ hm=>ag7 (λe=>hm (by rw[←e];exact UU)))
theorem an.Ry {P:Program}{c:Code}{T T1:List AV}{H H1:aa}{x:bj}{W:List Nat}{l j:Nat}(hl:H[l]? =some (.map [])) (hT:T[j]? =some (.cU l)) (h:an P c T (H.set l (.rows [] none)) x T1 H1 W) (UU:l∈W):an P c T H x T1 H1 W:=
 h.inH (λE w0 w tmps g ht=>by
  have hφ:∃b,E.φ l=some b:=by
   have:=ht.2 j _ hT;generalize tmps.getD j undef=v at this
   cases this with
   |cU l b hb=>exact⟨b,hb⟩
  exact⟨(g.PC hl hφ).1,λk b ho=>((g.PC hl hφ).2 k b).1 ho⟩) (by simp) (λk _ hm=>ag7 (λe=>hm (by rw[←e];exact UU)))
theorem an.LG {P:Program}{c:Code}{T T1:List AV}{H H1 H2:aa}{x:bj}{W:List Nat}(h:an P c T H x T1 H1 W) (hw:Yc H1 H2) (hk:∀l,l<H.length->l∉W->H2[l]? =H[l]?):an P c T H x T1 H2 W:=by
 refine⟨λn0 W0 hn hW E w0 w1 a D s6 hg ht hd=>wp_mono (h.1 n0 W0 hn hW E w0 w1 a D s6 hg ht hd) ?_,⟨by rw[←hw.1];exact h.2.1,hk⟩⟩;rintro e a' w' ⟨E',ax,T2,H3,⟨rfl,rfl,rfl⟩,r,ex,g,t,d⟩;refine⟨E',ax,_,_,⟨rfl,rfl,rfl⟩,r,⟨ex.le,ex.size,by rw[←hw.1];exact ex.len,λ{l} hl hm=>hk l (by omega) (λjZ=>hm (hW l jZ hl)),λhl hm ho=>ex.iX hl hm ho,ex.lL,λ{b} hb h0=> ?_⟩,g.WZ hw,t,d⟩;obtain⟨q1,q2,q3⟩:=ex.stay hb h0;exact⟨q1,λk ho=>q2 k (qN hw ho),q3⟩
theorem NW {P:Program}{g:FuncId}{args:List AV}{x:AV}{Hs:aa}{W:List Nat}(h:iQ P g args x Hs (dc W Hs) W){H:aa}{s:List Nat}(lU:s.Nodup) (hk:s.length=Hs.length) (mP:∀(i l:Nat),s[i]? =some l->H[l]? =(Hs[i]?).map (kf (nM s H.length)))
  (dn:dG Hs.length args=true) (Ni:∀o∈Hs,cH Hs.length o=true/\gn o=true):
  iQ P g (kr (nM s H.length) args) (fK (nM s H.length) x) H (iR (nM s H.length) s (dc W Hs) H) (W.map (nM s H.length)):=
 Da (out:= .AA x) h lU hk mP dn Ni (B0 (λo ho=>(Ni o ho).2))
def pF (P:Program) (a b:Code) (T:List AV) (H:aa) (T':List AV) (H':aa) (W:List Nat):Prop:=
 (∀(E:Env) (w0 w:World) (ac:Act),Good E H w0 w->eJ E T ac.tmps->
  a.wp P (Exit.then (λa1 w1=>b.wp P (λe a' w'=>∃E',e= .normal/\Ext H.length (·∈W) E H w E' H' w'/\Good E' H' w0 w'/\eJ E' T' a'.tmps/\a'.defers=ac.defers) a1 w1) (λ_ _ _=>False)) ac w)/\cQ H H' W
theorem pF.ik {P:Program}{a b:Code}{T T1 T':List AV}{H H':aa}{W:List Nat}(h:pF P a b T1 H T' H' W) (w:Wk T T1):pF P a b T H T' H' W:=
 ⟨λE w0 w1 ac hg ht=>h.1 E w0 w1 ac hg (ht.wk w),h.2⟩
theorem eF.pair {P:Program}{a b:Code}{T T1:List AV}{H H1:aa}{D:jl}{W1:List Nat}(h:pF P a b T H T1 H1 W1):eF P (.seq a b) T H D .normal T1 H1 W1 D:=by
 refine⟨λE w0 w ac hg ht hd=> ?_,h.2⟩;refine wp_seq (wp_mono (h.1 E w0 w ac hg ht) ?_);intro e a1 w1 hp
 cases e with
 |normal=>
  refine wp_mono hp ?_;rintro e a2 w2 ⟨E1,rfl,ex,g,t,d⟩;exact⟨E1,.normal,ex,g,t,by rw[d];exact hd.mono ex.le⟩
 |_=>exact hp.elim
structure rn where
 key:Nat
 ks:List Nat
 T:List AV
 H:aa
 W:List Nat
open Classical in
noncomputable def B2 (P:Program) (a b:Code) (T:List AV) (H:aa) (T':List AV) (H':aa) (W:List Nat):Bool:=decide (pF P a b T H T' H' W)
theorem G3 {P:Program}{a b:Code}{T:List AV}{H:aa}{T':List AV}{H':aa}{W:List Nat}(h:pF P a b T H T' H' W):B2 P a b T H T' H' W=true:=by simp only[B2,decide_eq_true_eq];exact h
def YD (pr:List rn) (a:Code):Option rn:=match a with
 | .region id _ _=>pr.find? (·.key==id)
 |_=>none
noncomputable def sn (P:Program) (call:cZ) (lo:bX) (rt:nY) (pr:List rn) (n:Nat):Code->List AV->aa->jl->Tree Jc
 | .rangeFunc g ps assign body,T,H,D=>C5 P rt g ps assign body T H D
 | .seq a b,T,H,D=>match YD pr a with
  |some e=> .br (B2 P a b (lC 0 e.ks T) H e.T e.H e.W) (.leaf (.normal,e.T,e.H,e.W,D)) .bad
  |none=>(sn P call lo rt pr n a T H D).bind λr=>match r.1 with
   | .normal=>(sn P call lo rt pr n b r.2.1 r.2.2.1 r.2.2.2.2).bind λq=> .leaf (q.1,q.2.1,q.2.2.1,r.2.2.2.1++q.2.2.2.1,q.2.2.2.2)
   |_=> .leaf r
 | .block i c,T,H,D=>(sn P call lo rt pr n c T H D).bind λr=> .leaf (rI i r.1,r.2)
 | .cond c a b,T,H,D=>M4 (Js T c) T λT=>match bk T c with
  | .sc (.bool t)=> .br t (sn P call lo rt pr n a T H D) (sn P call lo rt pr n b T H D)
  |_=> .bad
 | .region id ops false,T,H,D=>match yJ P ops T H with
  |some (T',g,args)=> .leaf (.normal,T',H,[],.call g args::D)
  |none=>(iH P call lo n (.region id ops false) T H).bind λr=> .leaf (r.1,r.2.1,r.2.2.1,r.2.2.2,D)
 |c,T,H,D=>(iH P call lo n c T H).bind λr=> .leaf (r.1,r.2.1,r.2.2.1,r.2.2.2,D)
theorem Vs {P:Program}(hm:P.follows .mixedOrders=true){call:cZ}(hc:cx P call){lo:bX}(hl:bA P lo) (rt:nY) (pr:List rn) (n:Nat):∀(k:Nat) (c:Code),SizeOf.sizeOf c<k->∀(T:List AV) (H:aa) (D:jl) (x:bj) (T':List AV) (H':aa) (Wr:List Nat) (D':jl),(sn P call lo rt pr n c T H D).eR=some (x,T',H',Wr,D')->eF P c T H D x T' H' Wr D':=by
 have other:∀(c:Code) (T:List AV) (H:aa) (D:jl) (x:bj) (T':List AV) (H':aa) (Wr:List Nat) (D':jl),((iH P call lo n c T H).bind λr=>(.leaf (r.1,r.2.1,r.2.2.1,r.2.2.2,D):Tree Jc)).eR=some (x,T',H',Wr,D')->eF P c T H D x T' H' Wr D':=by
  intro c T H D x T' H' Wr D' h;obtain⟨⟨y,T1,H1,W1⟩,h1,h⟩:=aW h;have:=Tree.aE h;simp only[ahe]at this;obtain⟨rfl,rfl,rfl,rfl,rfl⟩:=this;exact .of (kT hm hc hl n c _ _ _ _ _ _ h1) _
 intro k
 induction k with
 |zero=>intro c hk;exact absurd hk (ahg _)
 |succ k ih=>
  intro c hk T H D x T' H' Wr D' h;have adn:∀(a b:Code),SizeOf.sizeOf (Code.seq a b)<k+1->((sn P call lo rt pr n a T H D).bind λr=>match r.1 with
   | .normal=>(sn P call lo rt pr n b r.2.1 r.2.2.1 r.2.2.2.2).bind λq=>(.leaf (q.1,q.2.1,q.2.2.1,r.2.2.2.1++q.2.2.2.1,q.2.2.2.2):Tree Jc)
   |_=> .leaf r).eR=some (x,T',H',Wr,D')->eF P (.seq a b) T H D x T' H' Wr D':=by
   intro a b hs h;have hsa:SizeOf.sizeOf a<k:=by simp at hs;omega
   have hsb:SizeOf.sizeOf b<k:=by simp at hs;omega
   obtain⟨⟨y,T1,H1,W1,D1⟩,h1,h⟩:=aW h;have Uv:y≠.normal->(x,T',H',Wr,D')=(y,T1,H1,W1,D1)->eF P (.seq a b) T H D x T' H' Wr D':=by
    intro gX e;cases e;exact(ih a hsa _ _ _ _ _ _ _ _ h1).XV gX
   cases y with
   |normal=>
    obtain⟨⟨z,T2,H2,W2,D2⟩,h2,h⟩:=aW h;have:=Tree.aE h;simp only[ahe]at this;obtain⟨rfl,rfl,rfl,rfl,rfl⟩:=this;exact(ih a hsa _ _ _ _ _ _ _ _ h1).seq (ih b hsb _ _ _ _ _ _ _ _ h2)
   |exit i=>exact Uv (by simp) (Tree.aE h)
   |goto i=>exact Uv (by simp) (Tree.aE h)
   |ret=>exact Uv (by simp) (Tree.aE h)
   |panic v=>exact Uv (by simp) (Tree.aE h)
  cases c with
  |seq a b=>
   unfold sn at h;split at h
   ·rename_i e he;rcases Tree.df h with ⟨hb,h⟩|⟨_,h⟩
    ·have:=Tree.aE h;simp only[ahe]at this;obtain⟨rfl,rfl,rfl,rfl,rfl⟩:=this;simp only[B2,decide_eq_true_eq]at hb;exact eF.pair (pF.ik hb (dL T 0 _))
    ·exact(Tree.aZ h).elim
   ·exact adn a b hk h
  |block i c=>
   unfold sn at h;obtain⟨⟨y,T1,H1,W1,D1⟩,h1,h⟩:=aW h;have:=Tree.aE h;simp only[ahe]at this;obtain⟨rfl,rfl,rfl,rfl,rfl⟩:=this;have Iv:SizeOf.sizeOf c<k:=by simp at hk;omega
   exact(ih c Iv _ _ _ _ _ _ _ _ h1).block
  |cond c a b=>
   unfold sn at h;have h:=nX (λb d=>qJ) h;have hsa:SizeOf.sizeOf a<k:=by simp at hk;omega
   have hsb:SizeOf.sizeOf b<k:=by simp at hk;omega
   split at h
   ·rename_i t ht;rcases Tree.df h with ⟨rfl,h⟩|⟨rfl,h⟩
    ·exact .cond ht (ih a hsa _ _ _ _ _ _ _ _ h)
    ·exact .cond ht (ih b hsb _ _ _ _ _ _ _ _ h)
   ·exact(Tree.aZ h).elim
  |region id ops draw=>
   cases draw with
   |true=>exact other _ _ _ _ _ _ _ _ _ (by unfold sn at h;exact h)
   |false=>
    unfold sn at h;split at h
    ·rename_i T2 g args hq;have:=Tree.aE h;simp only[ahe]at this;obtain⟨rfl,rfl,rfl,rfl,rfl⟩:=this;exact vy hq
    ·exact other _ _ _ _ _ _ _ _ _ h
  |rangeFunc g ps assign body=>
   unfold sn at h;exact Bz h
  |_=>exact other _ _ _ _ _ _ _ _ _ (by unfold sn at h;exact h)
noncomputable def NX (P:Program) (call:cZ) (lo:bX) (rt:nY) (pr:List rn) (pS:iD) (n:Nat) (g:FuncId) (args:List AV) (H:aa):Tree (AV×aa×List Nat):=
 match P.funcs[g]? with
 |none=> .bad
 |some fn=>match fn.body with
  |none=> .bad
  |some c=>if (fn.name=="runtime.NumGoroutine")=true then .bad else
   (sn P call lo rt pr n c (kA fn args) H []).bind λr=>match r.1 with
    | .normal| .ret=>match xh P pS n r.2.2.2.2 r.2.2.1 with
     | .ok (H2,W2)=>match ig P H2 fn r.2.1 with
      |some x=> .leaf (x,H2,below H.length (r.2.2.2.1++W2))
      |none=> .bad
     | .bad _=> .bad
    | .panic x=>match r.2.2.2.2 with
     |[.call q FC]=>match Uw P pS n q FC r.2.2.1 x with
      | .ok (H2,W2)=>match ig P H2 fn r.2.1 with
       |some y=> .leaf (y,H2,below H.length (r.2.2.2.1++W2))
       |none=> .bad
      | .bad _=> .bad
     |_=> .bad
    |_=> .bad
theorem Vt {P:Program}(hm:P.follows .mixedOrders=true){call:cZ}(hc:cx P call){lo:bX}(hl:bA P lo){rt:nY}{pr:List rn}{pS:iD}(hce:ke P pS){n:Nat}{g:FuncId}{args:List AV}{H:aa}{r:AV×aa×List Nat}(h:(NX P call lo rt pr pS n g args H).eR=some r):bZ P g args r.1 H r.2.1 r.2.2:=by
 unfold NX at h;split at h
 ·exact(Tree.aZ h).elim
 ·rename_i fn mX;split at h
  ·exact(Tree.aZ h).elim
  ·rename_i c gO;split at h
   ·exact(Tree.aZ h).elim
   ·rename_i gj;obtain⟨⟨y,T,H1,W1,D⟩,h1,h⟩:=aW h;have oP:=Vs hm hc hl rt pr n _ c (ahP _) _ _ _ _ _ _ _ _ h1;have fin:(y= .normal∨y= .ret)->(match xh P pS n D H1 with
      | .ok (H2,W2)=>match ig P H2 fn T with
       |some x=>(.leaf (x,H2,below H.length (W1++W2)):Tree (AV×aa×List Nat))
       |none=> .bad
      | .bad _=> .bad).eR=some r->bZ P g args r.1 H r.2.1 r.2.2:=by
     intro hy h;split at h
     ·rename_i H2 W2 hq;split at h
      ·rename_i x hz;rw[Tree.aE h];exact wE hm hce mX (by simpa using gj) gO oP hy hq hz
      ·exact(Tree.aZ h).elim
     ·exact(Tree.aZ h).elim
    cases y with
    |normal=>exact fin (.inl rfl) h
    |ret=>exact fin (.inr rfl) h
    |exit i=>exact(Tree.aZ h).elim
    |goto i=>exact(Tree.aZ h).elim
    |panic x=>
     simp only at h;split at h
     ·rename_i q FC;split at h
      ·rename_i H2 W2 hq;split at h
       ·rename_i z hz;rw[Tree.aE h];exact C7 hm hce mX (by simpa using gj) gO oP hq hz
       ·exact(Tree.aZ h).elim
      ·exact(Tree.aZ h).elim
     ·exact(Tree.aZ h).elim
theorem an.adp {P:Program}{c:Code}{T T':List AV}{H H':aa}{x:AV}{W W':List Nat}(h:an P c T H (.panic x) T' H' W') (hx:LF x) (hH:∀o∈H,cH H.length o=true) (hW:∀l∈W',l<H.length->l∈W) (kp:List Nat) (hT:dG H.length (lC 0 kp T')=true):an P c T H (.panic x) (lC 0 kp T') (dc W H) W:=by
 have h1:an P c T H (.panic x) T' H' W:=h.wr hW;have h2:=(an.Rm W H' h1 (λl hl=> .inr hl)).eB (dL T' 0 kp);have e:=zz h1.2;rw[←e];refine h2.Xg (ag3 _) hT (λo ho=> ?_) (qP hx);rw[e]at ho;exact zA hH o ho
def zL (ks kl:List Nat) (n m:Nat) (kp:List Nat) (r:gm):Tidy:=match r.1 with
 | .panic x=>⟨.panic x,lC 0 kp r.2.1,[],below n r.2.2.2,dG m (lC 0 kp r.2.1)⟩
 |_=>cz ks kl n r
section
variable {P:Program}{call:cZ}{lo:bX}
theorem wV (hm:P.follows .mixedOrders=true) (hc:cx P call){k n m:Nat}{c:Code}{T T1:List AV}{H H1:aa}{ks kl kp:List Nat}{x:bj}{W1:List Nat}{F:Option Tidy}(hl:bA P lo) (h:(iH P call lo k c T H).via (zL ks kl n m kp)=F)
  (hF:F=some ⟨x,T1,H1,W1,true⟩) (hx:aa2 x=false) (hn:H.length<=n) (jI:∀l∈kl,H.length<=l):an P c T H x T1 H1 W1:=by
 obtain⟨⟨y,T2,H2,W2⟩,hr,hg⟩:=cv h hF;have dC:=kT hm hc hl k c _ _ _ _ _ _ hr;unfold zL at hg;split at hg
 ·simp only[Tidy.mk.injEq]at hg;obtain⟨rfl,_⟩:=hg;cases hx
 ·simp only[cz,Tidy.mk.injEq,ahp]at hg;obtain⟨rfl,rfl,rfl,rfl,⟨h1,h2⟩,h3⟩:=hg;exact(((dC.kill kl _ jI).eB (dL _ _ _)).trim hn h1 (by simpa using h2) h3).wr (λl hl cO=>dt (by omega) hl)
theorem DX (hm:P.follows .mixedOrders=true) (hc:cx P call){k n m:Nat}{c:Code}{T T1:List AV}{H:aa}{ks kl kp:List Nat}{x:AV}{W1 W:List Nat}{F:Option Tidy}(hl:bA P lo) (h:(iH P call lo k c T H).via (zL ks kl n m kp)=F)
  (hF:F=some ⟨.panic x,T1,[],W1,true⟩) (hx:LF x) (hn:H.length<=n) (hlen:H.length=m) (hH:∀o∈H,cH H.length o=true) (hW:∀l∈W1,l∈W):an P c T H (.panic x) T1 (dc W H) W:=by
 obtain⟨⟨y,T2,H2,W2⟩,hr,hg⟩:=cv h hF;have dC:=kT hm hc hl k c _ _ _ _ _ _ hr;unfold zL at hg;split at hg
 ·rename_i z hz;simp only at hz;subst hz;simp only[Tidy.mk.injEq,bj.panic.injEq]at hg;obtain⟨rfl,rfl,_,rfl,hT⟩:=hg;exact dC.adp hx hH (λl hl cO=>hW l (dt (by omega) hl)) kp (by rw[hlen];exact hT)
 ·rename_i gX;simp only[cz,Tidy.mk.injEq]at hg;exact absurd hg.1 (gX _)
end
end Go.Proofs.YtiipaliigpkfhaaGreat.Ab
