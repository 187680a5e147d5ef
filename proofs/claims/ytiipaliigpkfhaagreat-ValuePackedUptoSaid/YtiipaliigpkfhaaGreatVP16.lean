/- Lemmas 16. -/
import Derived.Test.YtiipaliigpkfhaaGreatVP12
import Derived.Test.YtiipaliigpkfhaaGreatVP15
set_option maxRecDepth 100000
namespace Go.Proofs.YtiipaliigpkfhaaGreat.Ab
open Go Go.RowKit Go.Proofs Go.Proofs.Tryz
def lO (q:Nat->ByteArray):Nat->List AV:=λi=>[aS (q i)]
def pM (r:aX ag) (out queue done:AV):List AV:=bz 84 [(0,eY r),(6,out),(7,queue),(8,done)]
def Mb (r:aX ag) (out queue done:AV) (k:Nat) (j:Int):List AV:=bz 84 [(0,eY r),(6,out),(7,queue),(8,done),(10,i64 k),(53,(aU r.l k).ey.av),(54,i64 (aU r.l k).ey.l.length),(55,i64 j)]
theorem Wc (r:aX ag) (o:bD):(db prog (cK []) aN [] 3 (ae f111 7) (pM r o.av aR aR) []).via (cz [0,6,7,8] [] 0)=some (⟨(.exit 0),(bz 84 [(0,(eY r)),(6,(o.av)),(7,(aR)),(8,(aR))]),[],[],true⟩):=by kernel_rfl
theorem HK (r:aX ag) (o:bD) (n g d k j:Nat) (q dq:Nat->ByteArray):(db prog (cK []) aN [] 3 (ae f111 16) (Mb r o.av (.aY false 1 n (lO q) (.off 0 g)) (.aY false 1 d (lO dq) (.tok 1)) k j) [.cu g,.tail d 1]).via (cz [0,6,7,8,10,53,54,55] [] 2)=bif (decide ((j:Int)<((aU r.l k).ey.l.length:Int)))then bif (decide (0<=(j:Int)/\(j:Int)<((aU r.l k).ey.l.length:Int)))then bif (bif (decide ((aU r.l k).ey.l.getD (j:Int).toNat (0:Int)≥0))then(decide (0<=(k:Int)/\(k:Int)<(r.l.length:Int)))else true)then bif (bif (decide ((aU r.l k).ey.l.getD (j:Int).toNat (0:Int)≥0))then(decide ((aU r.l k).ey.l.getD (j:Int).toNat 0<(↑(r.l.getD (k:Int).toNat default).cm.l.length:Int)))else false)then bif (decide (0<=(k:Int)/\(k:Int)<(r.l.length:Int)))then bif (decide (0<=(aU r.l k).ey.l.getD (j:Int).toNat (0:Int)/\(aU r.l k).ey.l.getD (j:Int).toNat 0<(↑(r.l.getD (k:Int).toNat default).cm.l.length:Int)))then bif (decide (g=g/\(0:Nat)<(1:Nat)/\(n+(1:Nat))*prog.types[(9:Nat)].bytes<=(2:Nat) ^ (46:Nat)/\n+(1:Nat)<(2:Nat) ^ (62:Nat)))then some (⟨.normal,(bz 84 [(0,(eY r)),(6,(o.av)),(7,(.aY false 1 (n+(1:Nat)) (bI (n) (lO q) (rowOf 1 [(aS ((r.l.getD (k:Int).toNat default).cm.l.getD ((aU r.l k).ey.l.getD (j:Int).toNat (0:Int)).toNat aq))])) (.off 0 (g+(1:Nat))))),(8,(.aY false 1 (d) (lO dq) (.tok 1))),(10,(i64 ((k:Int)))),(53,(.aY ((aU r.l k).ey.nl) 1 ((aU r.l k).ey.l.length) (λi=>[AV.sc (Value.int IntKind.i64 ((aU r.l k).ey.l.getD i (0:Int)))]) .dA)),(54,(i64 (((aU r.l k).ey.l.length:Int)))),(55,(i64 (IntKind.i64.wrap ((j:Int)+(1:Int)))))]),[(.cu (g+(1:Nat))),(.tail (d) 1)],[0],true⟩)else none else none else none else some (⟨.normal,(bz 84 [(0,(eY r)),(6,(o.av)),(7,(.aY false 1 (n) (lO q) (.off 0 (g)))),(8,(.aY false 1 (d) (lO dq) (.tok 1))),(10,(i64 ((k:Int)))),(53,(.aY ((aU r.l k).ey.nl) 1 ((aU r.l k).ey.l.length) (λi=>[AV.sc (Value.int IntKind.i64 ((aU r.l k).ey.l.getD i (0:Int)))]) .dA)),(54,(i64 (((aU r.l k).ey.l.length:Int)))),(55,(i64 (IntKind.i64.wrap ((j:Int)+(1:Int)))))]),[(.cu (g)),(.tail (d) 1)],[],true⟩)else none else none else some (⟨(.exit 2),(bz 84 [(0,(eY r)),(6,(o.av)),(7,(.aY false 1 (n) (lO q) (.off 0 (g)))),(8,(.aY false 1 (d) (lO dq) (.tok 1))),(10,(i64 ((k:Int)))),(53,(.aY ((aU r.l k).ey.nl) 1 ((aU r.l k).ey.l.length) (λi=>[AV.sc (Value.int IntKind.i64 ((aU r.l k).ey.l.getD i (0:Int)))]) .dA)),(54,(i64 (((aU r.l k).ey.l.length:Int)))),(55,(i64 ((j:Int))))]),[(.cu (g)),(.tail (d) 1)],[],true⟩):=by kernel_rfl
theorem S6 (r:aX ag) (o o1:bD) (n n2 g:Nat) (k:Int) (q q2 Iw:Nat->ByteArray):(db prog (cK []) (cJ prog [⟨16,[0,6,7,8,10,53,54,55],.exit 2,pM r o1.av (.aY false 1 n2 (lO q2) (.off 0 g)) (.aY false 1 1 (lO Iw) (.tok 1)),[.cu g,.tail 1 1],[0,1]⟩] (told prog [] [⟨36,0,cY false⟩,⟨43,0,o1.av⟩,⟨46,0,i64 k⟩])) [] 3 (ae f111 7) (pM r o.av (.aY false 1 n (lO q) (.tok 0)) aR) [.tail n 1]).via (cz [0,6,7,8] [] 2)=bif (decide ((n:Int)>0))then bif (decide ((0:Int)<=0/\0<(n:Int)))then bif (decide (n=n/\(1:Nat)<=n))then bif (aD prog 23 [(aR),(aS (q (Int.toNat (0:Int))))] [] (.sc (.bool false)))then bif (aD prog 22 [(o.av),(aS (q (Int.toNat (0:Int))))] [] (o1.av))then bif (aD prog 185 [(eY r),(aS (q (Int.toNat (0:Int))))] [] (i64 (k)))then bif (decide (k≥0))then bif (decide ((0:Int)<=k/\k<(r.l.length:Int)))then bif (cj prog (ae f111 16) (bz 84 [(0,(eY r)),(6,(o1.av)),(7,(.aY false 1 (n-(1:Nat)) (λi=>lO q (i+(1:Nat))) (.off 0 (n+(1:Nat))))),(8,(.aY false 1 1 (bI 0 (λx=>[]) (rowOf 1 [(aS (q (Int.toNat (0:Int))))])) (.tok 1))),(10,(i64 (k))),(53,((r.l.getD (Int.toNat k) default).ey.av)),(54,(i64 (((r.l.getD k.toNat default).ey.l.length:Int)))),(55,(.sc (.int .i64 0)))]) [(.cu (n+(1:Nat))),(.tail 1 1)] (.exit 2) (bz 84 [(0,(eY r)),(6,(o1.av)),(7,(.aY false 1 (n2) (lO q2) (.off 0 (g)))),(8,(.aY false 1 1 (lO Iw) (.tok 1)))]) [(.cu (g)),(.tail 1 1)] [0,1])then some (⟨.normal,(bz 84 [(0,(eY r)),(6,(o1.av)),(7,(.aY false 1 (n2) (lO q2) (.off 0 (g)))),(8,(.aY false 1 1 (lO Iw) (.tok 1)))]),[(.cu (g)),(.tail 1 1)],[0,0,1],true⟩)else none else none else some (⟨.normal,(bz 84 [(0,(eY r)),(6,(o1.av)),(7,(.aY false 1 (n-(1:Nat)) (λi=>lO q (i+(1:Nat))) (.off 0 (n+(1:Nat))))),(8,(.aY false 1 1 (bI 0 (λx=>[]) (rowOf 1 [(aS (q (Int.toNat (0:Int))))])) (.tok 1)))]),[(.cu (n+(1:Nat))),(.tail 1 1)],[0],true⟩)else none else none else none else none else none else some (⟨(.exit 0),(bz 84 [(0,(eY r)),(6,(o.av)),(7,(.aY false 1 (n) (lO q) (.tok 0))),(8,(aR))]),[(.tail (n) 1)],[],true⟩):=by kernel_rfl
theorem HL (r:aX ag) (o o1:bD) (n d n2 g g2:Nat) (k:Int) (q q2 dq Iw:Nat->ByteArray) (c:Bool):(db prog (cK []) (cJ prog [⟨16,[0,6,7,8,10,53,54,55],.exit 2,pM r o1.av (.aY false 1 n2 (lO q2) (.off 0 g2)) (.aY false 1 (d+1) (lO Iw) (.tok 1)),[.cu g2,.tail (d+1) 1],[0,1]⟩] (told prog [] [⟨36,2,cY c⟩,⟨43,0,o1.av⟩,⟨46,0,i64 k⟩])) [] 3 (ae f111 7) (pM r o.av (.aY false 1 n (lO q) (.off 0 g)) (.aY false 1 d (lO dq) (.tok 1))) [.cu g,.tail d 1]).via (cz [0,6,7,8] [] 2)=bif (decide ((n:Int)>0))then bif (decide ((0:Int)<=0/\0<(n:Int)))then bif (decide ((1:Nat)<=n))then bif (aD prog 23 [(.aY false 1 (d) (lO dq) (.tok 1)),(aS (q (Int.toNat (0:Int))))] [(.cu (g)),(.tail (d) 1)] (cY (c)))then bif (c)then some (⟨.normal,(bz 84 [(0,(eY r)),(6,(o.av)),(7,(.aY false 1 (n-(1:Nat)) (λi=>lO q (i+(1:Nat))) (.off 0 (g)))),(8,(.aY false 1 (d) (lO dq) (.tok 1)))]),[(.cu (g)),(.tail (d) 1)],[],true⟩)else bif (decide ((d+(1:Nat))*prog.types[(9:Nat)].bytes<=(2:Nat) ^ (46:Nat)/\d+(1:Nat)<(2:Nat) ^ (62:Nat)))then bif (decide (d=d))then bif (aD prog 22 [(o.av),(aS (q (Int.toNat (0:Int))))] [] (o1.av))then bif (aD prog 185 [(eY r),(aS (q (Int.toNat (0:Int))))] [] (i64 (k)))then bif (decide (k≥0))then bif (decide ((0:Int)<=k/\k<(r.l.length:Int)))then bif (cj prog (ae f111 16) (bz 84 [(0,(eY r)),(6,(o1.av)),(7,(.aY false 1 (n-(1:Nat)) (λi=>lO q (i+(1:Nat))) (.off 0 (g)))),(8,(.aY false 1 (d+(1:Nat)) (bI (d) (lO dq) (rowOf 1 [(aS (q (Int.toNat (0:Int))))])) (.tok 1))),(10,(i64 (k))),(53,((r.l.getD (Int.toNat k) default).ey.av)),(54,(i64 (((r.l.getD k.toNat default).ey.l.length:Int)))),(55,(.sc (.int .i64 0)))]) [(.cu (g)),(.tail (d+(1:Nat)) 1)] (.exit 2) (bz 84 [(0,(eY r)),(6,(o1.av)),(7,(.aY false 1 (n2) (lO q2) (.off 0 (g2)))),(8,(.aY false 1 (d+(1:Nat)) (lO Iw) (.tok 1)))]) [(.cu (g2)),(.tail (d+(1:Nat)) 1)] [0,1])then some (⟨.normal,(bz 84 [(0,(eY r)),(6,(o1.av)),(7,(.aY false 1 (n2) (lO q2) (.off 0 (g2)))),(8,(.aY false 1 (d+(1:Nat)) (lO Iw) (.tok 1)))]),[(.cu (g2)),(.tail (d+(1:Nat)) 1)],[1,0,1],true⟩)else none else none else some (⟨.normal,(bz 84 [(0,(eY r)),(6,(o1.av)),(7,(.aY false 1 (n-(1:Nat)) (λi=>lO q (i+(1:Nat))) (.off 0 (g)))),(8,(.aY false 1 (d+(1:Nat)) (bI (d) (lO dq) (rowOf 1 [(aS (q (Int.toNat (0:Int))))])) (.tok 1)))]),[(.cu (g)),(.tail (d+(1:Nat)) 1)],[1],true⟩)else none else none else none else none else none else none else none else some (⟨(.exit 0),(bz 84 [(0,(eY r)),(6,(o.av)),(7,(.aY false 1 (n) (lO q) (.off 0 (g)))),(8,(.aY false 1 (d) (lO dq) (.tok 1)))]),[(.cu (g)),(.tail (d) 1)],[],true⟩):=by kernel_rfl
theorem HM (r:aX ag) (p:ByteArray) (o:bD) (k:Int) (HH:aa) (WW:List Nat):(eb prog (cK []) (cJ prog [⟨7,[0,6,7,8],.exit 0,bz 84 [(6,o.av)],HH,WW⟩] (told prog [] [⟨15,0,i64 k⟩])) [] 3 111 [eY r,aS p] []).via (ch)=bif (aD prog 185 [(eY r),(aS (p))] [] (i64 (k)))then bif (decide (k<0))then some ((aR))else bif (decide ((0:Int)<=k/\k<(r.l.length:Int)))then bif (decide ((r.l.getD k.toNat default).cm.l.length=(0:Nat)))then bif (cj prog (ae f111 7) (bz 84 [(0,(eY r)),(6,(.aY false 1 1 (rowOf 1 [(aS (p))]) .tight)),(7,(aR)),(8,(aR))]) [] (.exit 0) (bz 84 [(6,(o.av))]) (HH) (WW))then some ((o.av))else none else bif (decide (((0:Nat)+(r.l.getD k.toNat default).cm.l.length)*prog.types[(9:Nat)].bytes<=(2:Nat) ^ (46:Nat)/\(0:Nat)+(r.l.getD k.toNat default).cm.l.length<(2:Nat) ^ (62:Nat)))then bif (cj prog (ae f111 7) (bz 84 [(0,(eY r)),(6,(.aY false 1 1 (rowOf 1 [(aS (p))]) .tight)),(7,(.aY false 1 ((0:Nat)+(r.l.getD k.toNat default).cm.l.length) (bI 0 (λx=>[]) (λi=>[AV.sc (Value.string ((r.l.getD k.toNat default).cm.l.getD i aq))])) (.tok 0))),(8,(aR))]) [(.tail ((0:Nat)+(r.l.getD k.toNat default).cm.l.length) 1)] (.exit 0) (bz 84 [(6,(o.av))]) (HH) (WW))then some ((o.av))else none else none else none else none:=by kernel_rfl
theorem Ek {n:Nat}{el:Nat->List AV}{own:Own}{Q:List ByteArray}(hn:n=Q.length) (h:∀i,i<n->el i=[aS (Q.getD i aq)]):ev (.aY false 1 n el own) (.aY false 1 Q.length (lO (λi=>Q.getD i aq)) own):=by
 subst hn;exact ev.aY (λi hi=>h i hi)
def qO (Q:List ByteArray) (g:Nat):AV:= .aY false 1 Q.length (lO (λi=>Q.getD i aq)) (.off 0 g)
def qT (Q:List ByteArray) (t:Nat):AV:= .aY false 1 Q.length (lO (λi=>Q.getD i aq)) (.tok t)
theorem El {D:List ByteArray}{p:ByteArray}{own:Own}:ev (.aY false 1 (D.length+1) (bI D.length (lO (λi=>D.getD i aq)) (rowOf 1 [aS p])) own) (.aY false 1 (D++[p]).length (lO (λi=>(D++[p]).getD i aq)) own):=
 Ek (by simp) (λi hi=>by
  unfold bI;by_cases h:i<D.length
  ·rw[if_pos h];simp[lO,ag4,List.getElem?_append,h]
  ·have:i=D.length:=by omega
   subst this;rw[if_neg h,ahX];simp[rowOf,ag4])
theorem Cq {p:ByteArray}{own:Own}:ev (.aY false 1 1 (bI 0 (λ_=>[]) (rowOf 1 [aS p])) own) (.aY false 1 [p].length (lO (λi=>[p].getD i aq)) own):=
 Ek rfl (λi hi=>by
  have:i=0:=by omega
  subst this;rfl)
theorem Ai {p:ByteArray}{Q:List ByteArray}{own:Own}:ev (.aY false 1 ((p::Q).length-1) (λi=>lO (λi=>(p::Q).getD i aq) (i+1)) own) (.aY false 1 Q.length (lO (λi=>Q.getD i aq)) own):=
 Ek (by simp) (λi hi=>by simp[lO])
theorem Wd {D:List ByteArray}{own:Own}:ev (.aY false 1 D.length (lO (λi=>D.getD i aq)) own) (bD.mk false D).av:=by
 unfold bD.av;exact ev.row (λi hi=>rfl)
def jB (r:aX ag):List ByteArray:=r.l.flatMap (λf=>f.cm.l)
theorem HN {r:aX ag}{k i:Nat}(hk:k<r.l.length) (hi:i<(aU r.l k).cm.l.length):(aU r.l k).cm.l.getD i aq∈jB r:=by
 unfold jB;rw[List.mem_flatMap];refine⟨aU r.l k,bM hk,?_⟩;rw[ag4,ahc hi];exact ahG hi
theorem S7 (b:bD):b.l.length<b.sz:=by
 unfold bD.sz;have:=cy (f:=λs:ByteArray=>s.size+1) (l:=b.l) (λx _=>by omega);omega
theorem S8 (b:nZ):b.l.length<=b.sz:=by
 unfold nZ.sz;omega
theorem Cr (f:ag):f.cm.l.length<=f.sz/\f.ey.l.length<=f.sz:=by
 have h1:=S7 f.cm;have h2:=S8 f.ey;unfold ag.sz;omega
theorem Ou (r:aX ag):(jB r).length<=bw ag.sz r.l:=by
 unfold jB
 induction r.l with
 |nil=>simp
 |cons f l ih=>
  rw[List.flatMap_cons,ahB,eh];have:=(Cr f).1;omega
theorem Aj (r:aX ag) (o:bD) (D Q:List ByteArray) (g k:Nat) (hk:k<r.l.length) (hr:r.l.length<=1000000000) (hp:(aU r.l k).ey.l.length<=1000000000) (hq:Q.length<=2000000000000):
  ∃Q2 g2,Q2.length<=Q.length+(aU r.l k).ey.l.length/\(∀x∈Q2,x∈Q∨x∈jB r)/\an prog (.loop (ae f111 16)) (Mb r o.av (qO Q g) (qT D 1) k ((0:Nat):Int)) [.cu g,.tail D.length 1] (.exit 2) (pM r o.av (qO Q2 g2) (qT D 1)) [.cu g2,.tail D.length 1] [0,1]:=by
 have hl:=iE (P:=prog) (c:=ae f111 16) (λm T H=>∃(j:Nat) (Q':List ByteArray) (g':Nat),j<=(aU r.l k).ey.l.length/\m=(aU r.l k).ey.l.length-j/\Q'.length<=Q.length+j/\(∀x∈Q',x∈Q∨x∈jB r)/\T=Mb r o.av (qO Q' g') (qT D 1) k (j:Nat)/\H=[.cu g',.tail D.length 1])
  (λx T H=>∃(Q2:List ByteArray) (g2:Nat),x= .exit 2/\Q2.length<=Q.length+(aU r.l k).ey.l.length/\(∀x∈Q2,x∈Q∨x∈jB r)/\T=pM r o.av (qO Q2 g2) (qT D 1)/\H=[.cu g2,.tail D.length 1]) 0 (by
  rintro m T H ⟨j,Q',g',hj,rfl,hl,oJ,rfl,rfl⟩;by_cases cO:j<(aU r.l k).ey.l.length
  ·have ew:IntKind.i64.wrap ((j:Int)+(1:Int))=((j+1:Nat):Int):=wi (x:=(j:Int)+1) (by omega) (by omega);have hb:=ah (ah (ah (HK r o Q'.length g' D.length k j (λi=>Q'.getD i aq) (λi=>D.getD i aq)) (bl (by omega))) (bl (by omega))) (LN (λ_=>bl (by omega)));rw[ew]at hb;cases hc:(bif (decide ((aU r.l k).ey.l.getD (j:Int).toNat (0:Int)≥(0:Int)))then(decide ((aU r.l k).ey.l.getD (j:Int).toNat (0:Int)<((r.l.getD (k:Int).toNat default).cm.l.length:Int)))else false)with
   |true=>
    have h1:=VK hc;have h2:(aU r.l k).ey.l.getD (j:Int).toNat (0:Int)<((aU r.l k).cm.l.length:Int):=by
     rw[bl h1]at hc;exact aht hc
    generalize hv:(aU r.l k).ey.l.getD (j:Int).toNat (0:Int)=v at hb hc h1 h2;have hb:=ah (ah (ah (ah hb hc) (bl (by omega))) (bl ⟨h1,h2⟩)) (bl ⟨rfl,by omega,(aht (pL (Q'.length+1) (by omega))).1,(aht (pL (Q'.length+1) (by omega))).2⟩);refine⟨_,_,_,_,an.eB (ai mixed (au _) ab hb rfl (ag3 _) (by simp)) (Wk.tm (l':=[(0,eY r),(6,o.av),(7,qO (Q'++[(aU r.l k).cm.l.getD v.toNat aq]) (g'+1)),(8,qT D 1),(10,i64 k),(53,(aU r.l k).ey.av),(54,i64 (aU r.l k).ey.l.length),(55,i64 ((j+1:Nat):Int))]) (.cons (.refl _) (.cons (.refl _) (.cons El (.cons (.refl _) (.cons (.refl _) (.cons (.refl _) (.cons (.refl _) (.cons (.refl _) .nil))))))))),λ_ _=>ag9 _,.inl ⟨rfl,(aU r.l k).ey.l.length-(j+1),by omega,j+1,Q'++[(aU r.l k).cm.l.getD v.toNat aq],g'+1,by omega,rfl,by simp;omega,λx hx=> ?_,rfl,rfl⟩⟩;rcases ahC.1 hx with h|h
    ·exact oJ x h
    ·simp only[aiy]at h;subst h;exact .inr (HN hk (by omega))
   |false=>
    have hb:=bO hb hc;exact⟨_,_,_,_,ai mixed (au _) ab hb rfl (ag3 _) (by simp),λ_ _=>ag9 _,.inl ⟨rfl,(aU r.l k).ey.l.length-(j+1),by omega,j+1,Q',g',by omega,rfl,by omega,oJ,rfl,rfl⟩⟩
  ·have hb:=bO (HK r o Q'.length g' D.length k j (λi=>Q'.getD i aq) (λi=>D.getD i aq)) (da (by omega));exact⟨_,_,_,_,an.eB (ai mixed (au _) ab hb rfl (ag3 _) (by simp)) (T'':=pM r o.av (qO Q' g') (qT D 1)) (by
    have e1:pM r o.av (qO Q' g') (qT D 1)=lC 0 [0,6,7,8] (Mb r o.av (qO Q' g') (qT D 1) k j):=rfl;rw[e1];exact dL _ _ _),λ_ _=>ag9 _,.inr ⟨by simp,Q',g',rfl,by omega,oJ,rfl,rfl⟩⟩)
 obtain⟨x,T',H',W,dC,_,Q2,g2,rfl,h1,h2,rfl,rfl⟩:=hl _ _ _ ⟨0,Q,g,ag9 _,rfl,by omega,λx hx=> .inl hx,rfl,rfl⟩;exact⟨Q2,g2,h1,h2,dC.wr (λl _ hl=>by simp at hl ⊢;omega)⟩
def sW (U D:List ByteArray):Nat:=(U.filter (λu=> !Ey D u)).length
theorem HO (U D:List ByteArray):sW U D<=U.length:=List.length_filter_le _ _
theorem Ak {U D:List ByteArray}{p:ByteArray}(hp:p∈U) (hD:Ey D p=false):sW U (D++[p])<sW U D:=by
 unfold sW
 induction U with
 |nil=>simp at hp
 |cons u U ih=>
  have mono:∀x,(!Ey (D++[p]) x)=true->(!Ey D x)=true:=λx h=>by
   unfold Ey at h ⊢;rw[List.any_append]at h;simp only[Bool.not_or,ahp]at h;exact h.1
  have le:∀V:List ByteArray,(V.filter (λu=> !Ey (D++[p]) u)).length<=(V.filter (λu=> !Ey D u)).length:=λV=>by
   induction V with
   |nil=>simp
   |cons v V ih=>
    simp only[List.filter_cons];split
    ·rename_i h;rw[if_pos (mono v h)];simp only[ahv];omega
    ·split
     ·simp only[ahv];omega
     ·exact ih
  have self:Ey (D++[p]) p=true:=by unfold Ey;rw[List.any_append];simp
  simp only[List.filter_cons];rcases ahl.1 hp with rfl|h
  ·rw[self,hD];simp only[Bool.not_true,ahA,if_false,ais,if_true,ahv];have:=le U;omega
  ·have:=ih h;split
   ·rename_i h2;rw[if_pos (mono u h2)];simp only[ahv];omega
   ·split
    ·simp only[ahv];omega
    ·exact this
theorem We (p:ByteArray):Ey [] p=false:=rfl
theorem Y3 (D:List ByteArray) (p:ByteArray) (hD:D.length<=1099511627776) (t:Nat) (H:aa):bZ prog 23 [.aY false 1 D.length (lO (λi=>D.getD i aq)) (.tok t),aS p] (cY (Ey D p)) H H []:=
 (HJ ⟨false,D⟩ p hD H).fR (.cons Wd (.refl _))
theorem Wg (p:ByteArray) (H:aa):bZ prog 23 [aR,aS p] (cY false) H H []:=
 (HJ ⟨true,[]⟩ p (by simp) H).fR (.cons fc (.refl _))
structure Vis (r:aX ag) (M0:Nat) (m:Nat) (o:bD) (Q D:List ByteArray):Prop where
 Wh:∀x∈Q,x∈jB r
 adR:sW (jB r) D*1048578+Q.length=m
 le:m<=M0
 done:D.length+sW (jB r) D<=1048576
 out:o.l.length<=D.length+1
def Ov (r:aX ag) (o:bD) (Q:List ByteArray) (g:Nat) (D:List ByteArray):List AV:=pM r o.av (qO Q g) (qT D 1)
section
variable {r:aX ag}(hr:bw ag.sz r.l<=1048576)
include hr
theorem Al:r.l.length<=1048576/\(jB r).length<=1048576/\∀k,k<r.l.length->(aU r.l k).cm.l.length<=1048576/\(aU r.l k).ey.l.length<=1048576:=by
 have h1:=cy (f:=ag.sz) (l:=r.l) (λx _=>x.bT);have h2:=Ou r;refine⟨by omega,by omega,λk hk=> ?_⟩;have h3:=cf (f:=ag.sz) (bM (l:=r.l) hk);have h4:=Cr (aU r.l k);unfold aU at h4 ⊢;omega
theorem HP {M0 m:Nat}{o:bD}{p:ByteArray}{Q D:List ByteArray}{g:Nat}(hM:M0<=1100000000000) (v:Vis r M0 m o (p::Q) D):∃m' o' Q' g' D' W,m'<m/\Vis r M0 m' o' Q' D'/\an prog (ae f111 7) (Ov r o (p::Q) g D) [.cu g,.tail D.length 1] .normal (Ov r o' Q' g' D') [.cu g',.tail D'.length 1] W:=by
 obtain⟨l1,l2,l3⟩:=Al hr;have hp:p∈jB r:=v.Wh p (by simp);have hlen:(p::Q).length=Q.length+1:=rfl;have rH:=v.adR;have hle:=v.le;have hdn:=v.done;have CD:=v.out;have hlk:=HO (jB r) D;have head:∀(o1:bD) (n2 g2:Nat) (k:Int) (q2 Iw:Nat->ByteArray),_:=λo1 n2 g2 k q2 Iw=>ah (ah (ah (ah (HL r o o1 (p::Q).length D.length n2 g g2 k (λi=>(p::Q).getD i aq) q2 (λi=>D.getD i aq) Iw (Ey D p)) (bl (by omega))) (bl (by omega))) (bl (by omega))) (ak (Y3 D p (by omega) 1 _))
 cases hc:Ey D p with
 |true=>
  have hb:=ah (head ⟨true,[]⟩ 0 0 0 (λ_=>aq) (λ_=>aq)) hc;refine⟨m-1,o,Q,g,D,_,by omega,⟨λx hx=>v.Wh x (ahn _ hx),by omega,by omega,hdn,CD⟩,an.eB (ai mixed (au _) (ba aF) hb rfl (ag3 _) (by simp)) ?_⟩;exact Wk.tm (.cons (.refl _) (.cons (.refl _) (.cons Ai (.cons (.refl _) .nil))))
 |false=>
  have hsn:=Ak hp hc;obtain⟨o1,XP,IZ⟩:=Cp o p (by omega);obtain⟨k,hk,wx⟩:=rz r p (by omega);have hD1:(D++[p]).length=D.length+1:=by simp
  have body:∀(n2 g2:Nat) (q2 Iw:Nat->ByteArray),_:=λn2 g2 q2 Iw=>ah (ah (ah (ah (bO (head o1 n2 g2 k q2 Iw) hc) (pL (D.length+1) (by omega))) (bl rfl)) (ak (IZ []))) (ak (wx []))
  by_cases h0:0<=k
  ·obtain⟨k',rfl⟩:∃k':Nat,k=k':=⟨k.toNat,by omega⟩
   have ix:k'<r.l.length:=by omega
   have h3:=l3 k' ix;obtain⟨Q2,g2,TB,ue,mP⟩:=Aj r o1 (D++[p]) Q g k' ix (by omega) (by omega) (by omega);have AO:=mP.ik (T:=bz 84 [(0,eY r),(6,o1.av),(7,.aY false 1 ((p::Q).length-1) (λi=>lO (λi=>(p::Q).getD i aq) (i+1)) (.off 0 g)),(8,.aY false 1 (D.length+1) (bI D.length (lO (λi=>D.getD i aq)) (rowOf 1 [aS p])) (.tok 1)),(10,i64 k'),(53,(aU r.l k').ey.av),(54,i64 (aU r.l k').ey.l.length),(55,i64 ((0:Nat):Int))]) (Wk.tm (.cons (.refl _) (.cons (.refl _) (.cons Ai (.cons El (.cons (.refl _) (.cons (.refl _) (.cons (.refl _) (.cons (.refl _) .nil)))))))));unfold qO qT at AO;rw[hD1]at AO;have hb:=ah (ah (ah (body Q2.length g2 (λi=>Q2.getD i aq) (λi=>(D++[p]).getD i aq)) (bl h0)) (bl (by omega))) (bc AO);refine⟨sW (jB r) (D++[p])*1048578+Q2.length,o1,Q2,g2,D++[p],[1,0,1],by omega,⟨λx hx=>(ue x hx).elim (λh=>v.Wh x (ahn _ h)) id,rfl,by omega,by omega,by omega⟩,?_⟩;unfold Ov qO qT;rw[hD1];exact ai mixed (au _) (ba aF) hb rfl (ag3 _) (by simp)
  ·have hb:=bO (body 0 0 (λ_=>aq) (λ_=>aq)) (da h0);refine⟨sW (jB r) (D++[p])*1048578+Q.length,o1,Q,g,D++[p],[1],by omega,⟨λx hx=>v.Wh x (ahn _ hx),rfl,by omega,by omega,by omega⟩,?_⟩;rw[hD1];exact an.eB (ai mixed (au _) (ba aF) hb rfl (ag3 _) (by simp)) (Wk.tm (.cons (.refl _) (.cons (.refl _) (.cons Ai (.cons El .nil)))))
theorem HQ {o:bD}{p:ByteArray}{Q:List ByteArray}(ho:o.l.length<=1) (hQ:∀x∈p::Q,x∈jB r) (hl:(p::Q).length<=1048576):∃m' o' Q' g' D' W,Vis r 1100000000000 m' o' Q' D'/\an prog (ae f111 7) (pM r o.av (qT (p::Q) 0) aR) [.tail (p::Q).length 1] .normal (Ov r o' Q' g' D') [.cu g',.tail D'.length 1] W:=by
 obtain⟨l1,l2,l3⟩:=Al hr;have hp:p∈jB r:=hQ p (by simp);have hlen:(p::Q).length=Q.length+1:=rfl;have hlk:=HO (jB r) [];have hsn:=Ak hp (We p);rw[List.nil_append]at hsn;obtain⟨o1,XP,IZ⟩:=Cp o p (by omega);obtain⟨k,hk,wx⟩:=rz r p (by omega);have body:∀(n2 g2:Nat) (q2 Iw:Nat->ByteArray),_:=λn2 g2 q2 Iw=>ah (ah (ah (ah (ah (ah (S6 r o o1 (p::Q).length n2 g2 k (λi=>(p::Q).getD i aq) q2 Iw) (bl (by omega))) (bl (by omega))) (bl ⟨rfl,by omega⟩)) (ak (Wg p []))) (ak (IZ []))) (ak (wx []))
 by_cases h0:0<=k
 ·obtain⟨k',rfl⟩:∃k':Nat,k=k':=⟨k.toNat,by omega⟩
  have ix:k'<r.l.length:=by omega
  have h3:=l3 k' ix;obtain⟨Q2,g2,TB,ue,mP⟩:=Aj r o1 [p] Q ((p::Q).length+1) k' ix (by omega) (by omega) (by omega);have AO:=mP.ik (T:=bz 84 [(0,eY r),(6,o1.av),(7,.aY false 1 ((p::Q).length-1) (λi=>lO (λi=>(p::Q).getD i aq) (i+1)) (.off 0 ((p::Q).length+1))),(8,.aY false 1 1 (bI 0 (λ_=>[]) (rowOf 1 [aS p])) (.tok 1)),(10,i64 k'),(53,(aU r.l k').ey.av),(54,i64 (aU r.l k').ey.l.length),(55,i64 ((0:Nat):Int))]) (Wk.tm (.cons (.refl _) (.cons (.refl _) (.cons Ai (.cons Cq (.cons (.refl _) (.cons (.refl _) (.cons (.refl _) (.cons (.refl _) .nil)))))))));have hb:=ah (ah (ah (body Q2.length g2 (λi=>Q2.getD i aq) (λi=>[p].getD i aq)) (bl h0)) (bl (by omega))) (bc AO);refine⟨sW (jB r) [p]*1048578+Q2.length,o1,Q2,g2,[p],[0,0,1],⟨λx hx=>(ue x hx).elim (λh=>hQ x (ahn _ h)) id,rfl,by omega,by simp;omega,by simp;omega⟩,?_⟩;exact ai mixed (au _) (ba aF) hb rfl (by simp) (by simp)
 ·have hb:=bO (body 0 0 (λ_=>aq) (λ_=>aq)) (da h0);refine⟨sW (jB r) [p]*1048578+Q.length,o1,Q,(p::Q).length+1,[p],[0],⟨λx hx=>hQ x (ahn _ hx),rfl,by omega,by simp;omega,by simp;omega⟩,an.eB (ai mixed (au _) (ba aF) hb rfl (by simp) (by simp)) (Wk.tm (.cons (.refl _) (.cons (.refl _) (.cons Ai (.cons Cq .nil)))))⟩
theorem Kg {o:bD}{L:List ByteArray}(ho:o.l.length<=1) (hL:∀x∈L,x∈jB r) (hn:L≠[]) (hl:L.length<=1048576):∃(o':bD) (HH:aa),o'.l.length<=1048577/\an prog (.loop (ae f111 7)) (pM r o.av (qT L 0) aR) [.tail L.length 1] (.exit 0) (bz 84 [(6,o'.av)]) HH [0]:=by
 have Iu:=iE (P:=prog) (c:=ae f111 7) (λm T H=>(m=1100000000001/\T=pM r o.av (qT L 0) aR/\H=[.tail L.length 1])∨∃o' Q g D,Vis r 1100000000000 m o' Q D/\T=Ov r o' Q g D/\H=[.cu g,.tail D.length 1])
  (λx T H=>∃o':bD,o'.l.length<=1048577/\x= .exit 0/\T=bz 84 [(6,o'.av)]) 0 (by
  rintro m T H (⟨rfl,rfl,rfl⟩|⟨o',Q,g,D,v,rfl,rfl⟩)
  ·cases L with
   |nil=>exact absurd rfl hn
   |cons p Q=>
    obtain⟨m',o',Q',g',D',W,v,h⟩:=HQ hr ho hL hl;have:=v.le;exact⟨_,_,_,_,h,λ_ _=>ag9 _,.inl ⟨rfl,m',by omega,.inr ⟨o',Q',g',D',v,rfl,rfl⟩⟩⟩
  ·cases Q with
   |cons p Q=>
    obtain⟨m',o2,Q',g',D',W,cO,v',h⟩:=HP hr (g:=g) (ag3 _) v;exact⟨_,_,_,_,h,λ_ _=>ag9 _,.inl ⟨rfl,m',cO,.inr ⟨o2,Q',g',D',v',rfl,rfl⟩⟩⟩
   |nil=>
    have hb:=bO (HL r o' ⟨true,[]⟩ 0 D.length 0 g 0 0 (λi=>([]:List ByteArray).getD i aq) (λ_=>aq) (λi=>D.getD i aq) (λ_=>aq) false) (da (by omega));have hdn:=v.done;have CD:=v.out;exact⟨_,_,_,_,an.eB (ai mixed (au _) (ba aF) hb rfl (ag3 _) (by simp)) (T'':=bz 84 [(6,o'.av)]) (by
     have e1:bz 84 [(6,o'.av)]=lC 0 [6] (Ov r o' [] g D):=rfl;rw[e1];exact dL _ _ _),λ_ _=>ag9 _,.inr ⟨by simp,o',by omega,rfl,rfl⟩⟩)
 obtain⟨x,T',H',W,dC,_,o',h1,rfl,rfl⟩:=Iu _ _ _ (.inl ⟨rfl,rfl,rfl⟩);exact⟨o',H',h1,dC.wr (λl _ hl=>by simp at hl ⊢;omega)⟩
theorem HR (p:ByteArray):∃o:bD,o.l.length<=1048577/\∀H,bZ prog 111 [eY r,aS p] o.av H H []:=by
 obtain⟨l1,l2,l3⟩:=Al hr;obtain⟨k,hk,wx⟩:=rz r p (by omega);have lf:∀a∈[eY r,aS p],LF a:=ao bQ (u6 (.sc _));by_cases h0:k<0
 ·have hb:=ah (ah (HM r p ⟨true,[]⟩ k [] []) (ak (wx []))) (bl h0);exact⟨⟨true,[]⟩,by simp,λH=>bG mixed (au _) (ba aF) hb rfl fc bQ lf H⟩
 ·obtain⟨k',rfl⟩:∃k':Nat,k=k':=⟨k.toNat,by omega⟩
  have ix:k'<r.l.length:=by omega
  have h3:=l3 k' ix;have wt:ev (.aY false 1 1 (rowOf 1 [aS p]) .tight) (bD.mk false [p]).av:=by
   unfold bD.av;exact ev.row (λi hi=>by
    have:i=0:=by omega
    subst this;rfl)
  have head:∀(o:bD) (HH:aa) (WW:List Nat),_:=λo HH WW=>ah (bO (ah (HM r p o k' HH WW) (ak (wx []))) (da h0)) (bl (by omega))
  by_cases hd:(aU r.l k').cm.l.length=0
  ·have hz:an prog (.loop (ae f111 7)) (pM r (bD.mk false [p]).av aR aR) [] (.exit 0) (bz 84 [(6,(bD.mk false [p]).av)]) [] []:=by
    have h1:=ai mixed (au _) ab (Wc r ⟨false,[p]⟩) rfl (ag3 _) (by simp);have h2:an prog (ae f111 7) (pM r (bD.mk false [p]).av aR aR) [] (.exit 0) (bz 84 [(6,(bD.mk false [p]).av)]) [] []:=h1.eB (by
     have e1:bz 84 [(6,(bD.mk false [p]).av)]=lC 0 [6] (pM r (bD.mk false [p]).av aR aR):=rfl;rw[e1];exact dL _ _ _)
    exact(dX.out h2 (by simp)).ok
   have hz2:=hz.ik (T:=pM r (.aY false 1 1 (rowOf 1 [aS p]) .tight) aR aR) (Wk.tm (.cons (.refl _) (.cons wt (.cons (.refl _) (.cons (.refl _) .nil)))));have hb:=ah (ah (head ⟨false,[p]⟩ [] []) (bl hd)) (bc hz2);exact⟨⟨false,[p]⟩,by simp,λH=>bG mixed (au _) (ba aF) hb rfl (.refl _) bQ lf H⟩
  ·obtain⟨o',HH,r5,G9⟩:=Kg hr (o:=⟨false,[p]⟩) (L:=(aU r.l k').cm.l) (by simp) (λx hx=>by
    obtain⟨i,hi,rfl⟩:=ah0 hx;have:=HN ix hi;rwa [ag4,ahc hi]at this) (by intro e;rw[e]at hd;simp at hd) h3.1
   have e0:0+(aU r.l k').cm.l.length=(aU r.l k').cm.l.length:=ahF _;have h2:=G9.ik (T:=pM r (.aY false 1 1 (rowOf 1 [aS p]) .tight) (.aY false 1 (0+(aU r.l k').cm.l.length) (bI 0 (λ_=>[]) (λi=>[aS ((aU r.l k').cm.l.getD i aq)])) (.tok 0)) aR) (Wk.tm (.cons (.refl _) (.cons wt (.cons (Ek e0 (λi hi=>by simp[bI])) (.cons (.refl _) .nil)))));have h2:an prog (.loop (ae f111 7)) (pM r (.aY false 1 1 (rowOf 1 [aS p]) .tight) (.aY false 1 (0+(aU r.l k').cm.l.length) (bI 0 (λ_=>[]) (λi=>[aS ((aU r.l k').cm.l.getD i aq)])) (.tok 0)) aR) [.tail (0+(aU r.l k').cm.l.length) 1] (.exit 0) (bz 84 [(6,o'.av)]) HH [0]:=by
    rw[e0]at h2 ⊢;exact h2
   have hb:=ah (ah (bO (head o' HH [0]) (da hd)) (pL _ (by show 0+(aU r.l k').cm.l.length<=_;omega))) (bc h2);exact⟨o',r5,λH=>bG mixed (au _) (ba aF) hb rfl (.refl _) bQ lf H⟩
end
def qe (p:aJ) (f:ag) (seen:bD):List AV:=p.av::f.two++[seen.av]
def tJ (p:AV):List AV:=[p,aS aq,aS aq,aR,aR,aR,aR,aR,aR,aS aq,aR,aR,aR]
def Ow (r:aX ag) (e i:Int):List AV:=bz 133 [(0,r.av 11 ag.two),(2,aS aq),(3,i64 0),(4,i64 e),(20,r.av 11 ag.two),(21,i64 r.l.length),(22,i64 i)]
def HS (r:aX ag) (i:Int):List AV:=bz 133 [(0,r.av 11 ag.two),(7,.ptr 0 0),(32,r.av 11 ag.two),(33,i64 r.l.length),(34,i64 i)]
def Ox (r:aX ag) (i:Int):List AV:=bz 133 [(7,.ptr 0 0),(12,eY r),(70,r.av 11 ag.two),(71,i64 r.l.length),(72,i64 i)]
def Y4 (r:aX ag) (i:Int):List AV:=bz 133 [(7,.ptr 0 0),(12,eY r),(14,.ptr 2 0),(70,r.av 11 ag.two),(71,i64 r.l.length),(72,i64 i)]
def Wi (r:aX ag) (f:ag) (i j:Int):List AV:=bz 133 [(7,.ptr 0 0),(12,eY r),(14,.ptr 2 0),(70,r.av 11 ag.two),(71,i64 r.l.length),(72,i64 i),(88,f.ay.av 11 az.one),(89,i64 f.ay.l.length),(90,i64 j)]
def S9:List AV:=bz 133 [(7,.ptr 0 0)]
theorem Am (r:aX ag) (i:Nat) (k:Int):(db prog (cK []) (told prog [] [⟨27,0,i64 k⟩]) [] 3 (ae f51 4) (Ow r 0 i) []).via (cz [0,2,3,4,20,21,22] [] 0)=bif (decide ((i:Int)<(r.l.length:Int)))then bif (decide (0<=(i:Int)/\(i:Int)<(r.l.length:Int)))then bif (aD prog 108 [(.agg ((r.l.getD i default).two))] [] (i64 (k)))then bif (decide (k>64))then some (⟨.ret,(bz 133 [(0,(r.av 11 ag.two)),(2,(.sc (.string aq))),(3,(.sc (.int .i64 0))),(4,(.sc (.int .i64 2))),(20,(r.av 11 ag.two)),(21,(i64 ((r.l.length:Int)))),(22,(i64 ((i:Int))))]),[],[],true⟩)else some (⟨.normal,(bz 133 [(0,(r.av 11 ag.two)),(2,(.sc (.string aq))),(3,(.sc (.int .i64 0))),(4,(.sc (.int .i64 0))),(20,(r.av 11 ag.two)),(21,(i64 ((r.l.length:Int)))),(22,(i64 (IntKind.i64.wrap ((i:Int)+(1:Int)))))]),[],[],true⟩)else none else none else some (⟨(.exit 0),(bz 133 [(0,(r.av 11 ag.two)),(2,(.sc (.string aq))),(3,(.sc (.int .i64 0))),(4,(.sc (.int .i64 0))),(20,(r.av 11 ag.two)),(21,(i64 ((r.l.length:Int)))),(22,(i64 ((i:Int))))]),[],[],true⟩):=by kernel_rfl
theorem HT (r:aX ag) (S:hU) (Y:bu) (i:Nat):(db prog (cC [109] [] []) aN [] 3 (ae f51 11) (HS r i) (.cells (dH (tJ gB) S aR)::Y::[])).via (mS [0,7,32,33,34] 0)=bif (decide ((i:Int)<(r.l.length:Int)))then bif (kI 109 [(r.av 11 ag.two),(i64 ((i:Int)))] (tJ gB) (aR) (Y))then some ((.some ⟨.normal,(bz 133 [(0,(r.av 11 ag.two)),(7,(.ptr 0 0)),(32,(r.av 11 ag.two)),(33,(i64 ((r.l.length:Int)))),(34,(i64 (IntKind.i64.wrap ((i:Int)+(1:Int)))))]),(tJ gB),(aR),(Y),[],true⟩))else none else some ((.some ⟨(.exit 2),(bz 133 [(0,(r.av 11 ag.two)),(7,(.ptr 0 0)),(32,(r.av 11 ag.two)),(33,(i64 ((r.l.length:Int)))),(34,(i64 ((i:Int))))]),(tJ gB),(aR),(Y),[],true⟩)):=by kernel_rfl
theorem HU (p:aJ) (f:ag) (seen:bD) (S:hU) (X X1:AV) (Y Y1:bu) (r:aX ag) (i j:Nat):(db prog (cX [(112,X1,Y1)] [] []) aN [] 3 (ae f51 27) (Wi r f i j) (.cells (dH (qe p f seen) S X)::Y::[.cells f.two])).via (D9 [7,12,14,70,71,72,88,89,90] 1)=bif (decide ((j:Int)<(f.ay.l.length:Int)))then bif (decide (0<=(j:Int)/\(j:Int)<(f.ay.l.length:Int)))then bif (qa 112 [(.agg ((f.ay.l.getD j default).one)),(.agg (fz)),(.sc (.bool false)),(aS (f.cG))] (qe p f seen) (X) (Y) (X1) (Y1))then some ((.some ⟨.normal,(bz 133 [(7,(.ptr 0 0)),(12,(eY r)),(14,(.ptr 2 0)),(70,(r.av 11 ag.two)),(71,(i64 ((r.l.length:Int)))),(72,(i64 ((i:Int)))),(88,(f.ay.av 11 az.one)),(89,(i64 ((f.ay.l.length:Int)))),(90,(i64 (IntKind.i64.wrap ((j:Int)+(1:Int)))))]),(qe p f seen),(X1),(Y1),[(.cells (f.two))],true⟩))else none else none else some ((.some ⟨(.exit 6),(bz 133 [(7,(.ptr 0 0)),(12,(eY r)),(14,(.ptr 2 0)),(70,(r.av 11 ag.two)),(71,(i64 ((r.l.length:Int)))),(72,(i64 ((i:Int)))),(88,(f.ay.av 11 az.one)),(89,(i64 ((f.ay.l.length:Int)))),(90,(i64 ((j:Int))))]),(qe p f seen),(X),(Y),[(.cells (f.two))],true⟩)):=by kernel_rfl
theorem HW (p:aJ) (b1 b2 b3 b4 b5 b6 b7 b8 b9 dP dT dU:AV) (S:hU) (X X1 X2:AV) (Y Y1 Y2:bu) (r:aX ag) (i:Nat) (o:bD):(db prog (cX [(115,X2,Y2)] [113,114] []) (zX [⟨27,[7,12,14,70,71,72,88,89,90],.exit 6,Y4 r i,X1,Y1⟩] (told prog [] [⟨82,0,o.av⟩])) [] 3 (ae f51 23) (Ox r i) (.cells (dH [p.av,b1,b2,b3,b4,b5,b6,b7,b8,b9,dP,dT,dU] S X)::Y::[])).via (D9 [7,12,70,71,72] 0)=bif (decide ((i:Int)<(r.l.length:Int)))then bif (decide (0<=(i:Int)/\(i:Int)<(r.l.length:Int)))then bif (aD prog 111 [(eY r),(aS ((r.l.getD i default).name))] [] (.aY (o.nl) 1 (o.l.length) (λi=>[AV.sc (Value.string (o.l.getD i aq))]) .dA))then bif (sS (ae f51 27) (bz 133 [(7,(.ptr 0 0)),(12,(eY r)),(14,(.ptr 2 0)),(70,(r.av 11 ag.two)),(71,(i64 ((r.l.length:Int)))),(72,(i64 ((i:Int)))),(88,((r.l.getD i default).ay.av 11 az.one)),(89,(i64 (((r.l.getD i default).ay.l.length:Int)))),(90,(.sc (.int .i64 0)))]) (.exit 6) (bz 133 [(7,(.ptr 0 0)),(12,(eY r)),(14,(.ptr 2 0)),(70,(r.av 11 ag.two)),(71,(i64 ((r.l.length:Int)))),(72,(i64 ((i:Int))))]) [(p.av),(aS ((r.l.getD i default).name)),(aS ((r.l.getD i default).cG)),(.aY ((r.l.getD i default).cm.nl) 1 ((r.l.getD i default).cm.l.length) (λjg=>[AV.sc (Value.string ((r.l.getD i default).cm.l.getD jg aq))]) .dA),(.aY ((r.l.getD i default).ey.nl) 1 ((r.l.getD i default).ey.l.length) (λjg=>[AV.sc (Value.int IntKind.i64 ((r.l.getD i default).ey.l.getD jg (0:Int)))]) .dA),((r.l.getD i default).ay.av 11 az.one),((r.l.getD i default).aQ.av 4 bt.cells),((r.l.getD i default).aL.av 4 bN.cells),((r.l.getD i default).exts.av 13 aP.cells),(aS ((r.l.getD i default).rP)),(.aY ((r.l.getD i default).opts.nl) 1 ((r.l.getD i default).opts.l.length) (λjg=>(List.map dy (r.l.getD i default).opts.l).getD jg []) .dA),(.aY ((r.l.getD i default).dE.nl) 1 ((r.l.getD i default).dE.l.length) (λjg=>(List.map dy (r.l.getD i default).dE.l).getD jg []) .dA),(.aY (o.nl) 1 (o.l.length) (λi=>[AV.sc (Value.string (o.l.getD i aq))]) .dA)] (X) (Y) (X1) (Y1) [(.cells ((r.l.getD i default).two))])then bif (kI 113 [((r.l.getD i default).aQ.av 4 bt.cells),(aS ((r.l.getD i default).cG))] [(p.av),(aS ((r.l.getD i default).name)),(aS ((r.l.getD i default).cG)),(.aY ((r.l.getD i default).cm.nl) 1 ((r.l.getD i default).cm.l.length) (λjg=>[AV.sc (Value.string ((r.l.getD i default).cm.l.getD jg aq))]) .dA),(.aY ((r.l.getD i default).ey.nl) 1 ((r.l.getD i default).ey.l.length) (λjg=>[AV.sc (Value.int IntKind.i64 ((r.l.getD i default).ey.l.getD jg (0:Int)))]) .dA),((r.l.getD i default).ay.av 11 az.one),((r.l.getD i default).aQ.av 4 bt.cells),((r.l.getD i default).aL.av 4 bN.cells),((r.l.getD i default).exts.av 13 aP.cells),(aS ((r.l.getD i default).rP)),(.aY ((r.l.getD i default).opts.nl) 1 ((r.l.getD i default).opts.l.length) (λjg=>(List.map dy (r.l.getD i default).opts.l).getD jg []) .dA),(.aY ((r.l.getD i default).dE.nl) 1 ((r.l.getD i default).dE.l.length) (λjg=>(List.map dy (r.l.getD i default).dE.l).getD jg []) .dA),(.aY (o.nl) 1 (o.l.length) (λi=>[AV.sc (Value.string (o.l.getD i aq))]) .dA)] (X1) (Y1))then bif (kI 114 [((r.l.getD i default).aL.av 4 bN.cells),(aS ((r.l.getD i default).cG))] [(p.av),(aS ((r.l.getD i default).name)),(aS ((r.l.getD i default).cG)),(.aY ((r.l.getD i default).cm.nl) 1 ((r.l.getD i default).cm.l.length) (λjg=>[AV.sc (Value.string ((r.l.getD i default).cm.l.getD jg aq))]) .dA),(.aY ((r.l.getD i default).ey.nl) 1 ((r.l.getD i default).ey.l.length) (λjg=>[AV.sc (Value.int IntKind.i64 ((r.l.getD i default).ey.l.getD jg (0:Int)))]) .dA),((r.l.getD i default).ay.av 11 az.one),((r.l.getD i default).aQ.av 4 bt.cells),((r.l.getD i default).aL.av 4 bN.cells),((r.l.getD i default).exts.av 13 aP.cells),(aS ((r.l.getD i default).rP)),(.aY ((r.l.getD i default).opts.nl) 1 ((r.l.getD i default).opts.l.length) (λjg=>(List.map dy (r.l.getD i default).opts.l).getD jg []) .dA),(.aY ((r.l.getD i default).dE.nl) 1 ((r.l.getD i default).dE.l.length) (λjg=>(List.map dy (r.l.getD i default).dE.l).getD jg []) .dA),(.aY (o.nl) 1 (o.l.length) (λi=>[AV.sc (Value.string (o.l.getD i aq))]) .dA)] (X1) (Y1))then bif (qa 115 [((r.l.getD i default).exts.av 13 aP.cells),(aS ((r.l.getD i default).cG))] [(p.av),(aS ((r.l.getD i default).name)),(aS ((r.l.getD i default).cG)),(.aY ((r.l.getD i default).cm.nl) 1 ((r.l.getD i default).cm.l.length) (λjg=>[AV.sc (Value.string ((r.l.getD i default).cm.l.getD jg aq))]) .dA),(.aY ((r.l.getD i default).ey.nl) 1 ((r.l.getD i default).ey.l.length) (λjg=>[AV.sc (Value.int IntKind.i64 ((r.l.getD i default).ey.l.getD jg (0:Int)))]) .dA),((r.l.getD i default).ay.av 11 az.one),((r.l.getD i default).aQ.av 4 bt.cells),((r.l.getD i default).aL.av 4 bN.cells),((r.l.getD i default).exts.av 13 aP.cells),(aS ((r.l.getD i default).rP)),(.aY ((r.l.getD i default).opts.nl) 1 ((r.l.getD i default).opts.l.length) (λjg=>(List.map dy (r.l.getD i default).opts.l).getD jg []) .dA),(.aY ((r.l.getD i default).dE.nl) 1 ((r.l.getD i default).dE.l.length) (λjg=>(List.map dy (r.l.getD i default).dE.l).getD jg []) .dA),(.aY (o.nl) 1 (o.l.length) (λi=>[AV.sc (Value.string (o.l.getD i aq))]) .dA)] (X1) (Y1) (X2) (Y2))then some ((.some ⟨.normal,(bz 133 [(7,(.ptr 0 0)),(12,(eY r)),(70,(r.av 11 ag.two)),(71,(i64 ((r.l.length:Int)))),(72,(i64 (IntKind.i64.wrap ((i:Int)+(1:Int)))))]),[(p.av),(aS ((r.l.getD i default).name)),(aS ((r.l.getD i default).cG)),(.aY ((r.l.getD i default).cm.nl) 1 ((r.l.getD i default).cm.l.length) (λjg=>[AV.sc (Value.string ((r.l.getD i default).cm.l.getD jg aq))]) .dA),(.aY ((r.l.getD i default).ey.nl) 1 ((r.l.getD i default).ey.l.length) (λjg=>[AV.sc (Value.int IntKind.i64 ((r.l.getD i default).ey.l.getD jg (0:Int)))]) .dA),((r.l.getD i default).ay.av 11 az.one),((r.l.getD i default).aQ.av 4 bt.cells),((r.l.getD i default).aL.av 4 bN.cells),((r.l.getD i default).exts.av 13 aP.cells),(aS ((r.l.getD i default).rP)),(.aY ((r.l.getD i default).opts.nl) 1 ((r.l.getD i default).opts.l.length) (λjg=>(List.map dy (r.l.getD i default).opts.l).getD jg []) .dA),(.aY ((r.l.getD i default).dE.nl) 1 ((r.l.getD i default).dE.l.length) (λjg=>(List.map dy (r.l.getD i default).dE.l).getD jg []) .dA),(.aY (o.nl) 1 (o.l.length) (λi=>[AV.sc (Value.string (o.l.getD i aq))]) .dA)],(X2),(Y2),[],true⟩))else none else none else none else none else none else none else some ((.some ⟨(.exit 4),(bz 133 [(7,(.ptr 0 0)),(12,(eY r)),(70,(r.av 11 ag.two)),(71,(i64 ((r.l.length:Int)))),(72,(i64 ((i:Int))))]),[(p.av),(b1),(b2),(b3),(b4),(b5),(b6),(b7),(b8),(b9),(dP),(dT),(dU)],(X),(Y),[],true⟩)):=by kernel_rfl
theorem HX (r:aX ag) (i:Nat):(eb prog (cK []) (cJ prog [⟨4,[0,2,3,4,20,21,22],.ret,Ow r 2 i,[],[]⟩] aN) [] 3 51 [r.av 11 ag.two] []).via (ch)=bif (decide ((r.l.length:Int)>1000))then some ((.bq [(.sc (.string aq)),(.sc (.int .i64 0)),(.sc (.int .i64 2))]))else bif (cj prog (ae f51 4) (bz 133 [(0,(r.av 11 ag.two)),(2,(.sc (.string aq))),(3,(.sc (.int .i64 0))),(4,(.sc (.int .i64 0))),(20,(r.av 11 ag.two)),(21,(i64 ((r.l.length:Int)))),(22,(.sc (.int .i64 0)))]) [] .ret (bz 133 [(0,(r.av 11 ag.two)),(2,(.sc (.string aq))),(3,(.sc (.int .i64 0))),(4,(.sc (.int .i64 2))),(20,(r.av 11 ag.two)),(21,(i64 ((r.l.length:Int)))),(22,(i64 ((i:Int))))]) [] [])then some ((.bq [(.sc (.string aq)),(.sc (.int .i64 0)),(.sc (.int .i64 2))]))else none:=by kernel_rfl
theorem Ta (r:aX ag) (S1:hU) (s:ByteArray) (e:Int):(eb prog (cK []) (cJ prog [⟨4,[0,2,3,4,20,21,22],.exit 0,Ow r 0 r.l.length,[],[]⟩,⟨11,[0,7,32,33,34],.exit 2,HS r r.l.length,[.cells (dH (tJ gB) S1 aR),.cN],[0]⟩,⟨23,[7,12,70,71,72],.exit 4,S9,[.cells (dH (tJ gB) S1 aR),.cN],[0,1]⟩] (told prog [] [⟨57,0,.bq [gB,aS s,i64 e]⟩,⟨69,0,eY r⟩])) [] 3 51 [r.av 11 ag.two] []).via (ch)=bif (decide ((r.l.length:Int)>1000))then some ((.bq [(.sc (.string aq)),(.sc (.int .i64 0)),(.sc (.int .i64 2))]))else bif (cj prog (ae f51 4) (bz 133 [(0,(r.av 11 ag.two)),(2,(.sc (.string aq))),(3,(.sc (.int .i64 0))),(4,(.sc (.int .i64 0))),(20,(r.av 11 ag.two)),(21,(i64 ((r.l.length:Int)))),(22,(.sc (.int .i64 0)))]) [] (.exit 0) (bz 133 [(0,(r.av 11 ag.two)),(2,(.sc (.string aq))),(3,(.sc (.int .i64 0))),(4,(.sc (.int .i64 0))),(20,(r.av 11 ag.two)),(21,(i64 ((r.l.length:Int)))),(22,(i64 ((r.l.length:Int))))]) [] [])then bif (cj prog (ae f51 11) (bz 133 [(0,(r.av 11 ag.two)),(7,(.ptr 0 0)),(32,(r.av 11 ag.two)),(33,(i64 ((r.l.length:Int)))),(34,(.sc (.int .i64 0)))]) [(.cells [(.sc (.pointer .none)),(.sc (.string aq)),(.sc (.string aq)),(aR),(aR),(aR),(aR),(aR),(aR),(.sc (.string aq)),(aR),(aR),(aR),(aR),(.sc (.int .i64 0)),(.sc (.string aq)),(.sc (.int .i64 0))])] (.exit 2) (bz 133 [(0,(r.av 11 ag.two)),(7,(.ptr 0 0)),(32,(r.av 11 ag.two)),(33,(i64 ((r.l.length:Int)))),(34,(i64 ((r.l.length:Int))))]) [(.cells [(.sc (.pointer .none)),(.sc (.string aq)),(.sc (.string aq)),(aR),(aR),(aR),(aR),(aR),(aR),(.sc (.string aq)),(aR),(aR),(aR),(aR),(i64 (S1.deep)),(aS (S1.name)),(i64 (S1.broken))]),.cN] [0])then bif (S1.broken !=0)then some ((.bq [(aS (S1.name)),(i64 (S1.broken)),(.sc (.int .i64 160))]))else bif (aD prog 52 [(r.av 11 ag.two)] [] (.bq [(.sc (.pointer .none)),(aS (s)),(i64 (e))]))then bif (e !=0)then some ((.bq [(aS (s)),(.sc (.int .i64 4)),(.sc (.int .i64 160))]))else bif (aD prog 110 [(r.av 11 ag.two)] [] (eY r))then bif (cj prog (ae f51 23) (bz 133 [(7,(.ptr 0 0)),(12,(eY r)),(70,(r.av 11 ag.two)),(71,(i64 ((r.l.length:Int)))),(72,(.sc (.int .i64 0)))]) [(.cells [(.sc (.pointer .none)),(.sc (.string aq)),(.sc (.string aq)),(aR),(aR),(aR),(aR),(aR),(aR),(.sc (.string aq)),(aR),(aR),(aR),(aR),(i64 (S1.deep)),(aS (S1.name)),(i64 (S1.broken))]),.cN] (.exit 4) (bz 133 [(7,(.ptr 0 0))]) [(.cells [(.sc (.pointer .none)),(.sc (.string aq)),(.sc (.string aq)),(aR),(aR),(aR),(aR),(aR),(aR),(.sc (.string aq)),(aR),(aR),(aR),(aR),(i64 (S1.deep)),(aS (S1.name)),(i64 (S1.broken))]),.cN] [0,1])then bif (S1.broken !=0)then some ((.bq [(aS (S1.name)),(i64 (S1.broken)),(.sc (.int .i64 160))]))else some ((.bq [(.sc (.string aq)),(.sc (.int .i64 0)),(.sc (.int .i64 0))]))else none else none else none else none else none:=by kernel_rfl
theorem Tb (r:aX ag) (p:aJ) (S1 S2:hU) (b0 b1 b2 b3 b4 b5 b6 b7 b8 b9 dP dT dU X:AV) (Y:bu):(eb prog (cK []) (cJ prog [⟨4,[0,2,3,4,20,21,22],.exit 0,Ow r 0 r.l.length,[],[]⟩,⟨11,[0,7,32,33,34],.exit 2,HS r r.l.length,[.cells (dH (tJ gB) S1 aR),.cN],[0]⟩,⟨23,[7,12,70,71,72],.exit 4,S9,[.cells (dH [b0,b1,b2,b3,b4,b5,b6,b7,b8,b9,dP,dT,dU] S2 X),Y],[0,1]⟩] (told prog [] [⟨57,0,.bq [p.av,aS aq,i64 0]⟩,⟨69,0,eY r⟩])) [] 3 51 [r.av 11 ag.two] []).via (ch)=bif (decide ((r.l.length:Int)>1000))then some ((.bq [(.sc (.string aq)),(.sc (.int .i64 0)),(.sc (.int .i64 2))]))else bif (cj prog (ae f51 4) (bz 133 [(0,(r.av 11 ag.two)),(2,(.sc (.string aq))),(3,(.sc (.int .i64 0))),(4,(.sc (.int .i64 0))),(20,(r.av 11 ag.two)),(21,(i64 ((r.l.length:Int)))),(22,(.sc (.int .i64 0)))]) [] (.exit 0) (bz 133 [(0,(r.av 11 ag.two)),(2,(.sc (.string aq))),(3,(.sc (.int .i64 0))),(4,(.sc (.int .i64 0))),(20,(r.av 11 ag.two)),(21,(i64 ((r.l.length:Int)))),(22,(i64 ((r.l.length:Int))))]) [] [])then bif (cj prog (ae f51 11) (bz 133 [(0,(r.av 11 ag.two)),(7,(.ptr 0 0)),(32,(r.av 11 ag.two)),(33,(i64 ((r.l.length:Int)))),(34,(.sc (.int .i64 0)))]) [(.cells [(.sc (.pointer .none)),(.sc (.string aq)),(.sc (.string aq)),(aR),(aR),(aR),(aR),(aR),(aR),(.sc (.string aq)),(aR),(aR),(aR),(aR),(.sc (.int .i64 0)),(.sc (.string aq)),(.sc (.int .i64 0))])] (.exit 2) (bz 133 [(0,(r.av 11 ag.two)),(7,(.ptr 0 0)),(32,(r.av 11 ag.two)),(33,(i64 ((r.l.length:Int)))),(34,(i64 ((r.l.length:Int))))]) [(.cells [(.sc (.pointer .none)),(.sc (.string aq)),(.sc (.string aq)),(aR),(aR),(aR),(aR),(aR),(aR),(.sc (.string aq)),(aR),(aR),(aR),(aR),(i64 (S1.deep)),(aS (S1.name)),(i64 (S1.broken))]),.cN] [0])then bif (S1.broken !=0)then some ((.bq [(aS (S1.name)),(i64 (S1.broken)),(.sc (.int .i64 160))]))else bif (aD prog 52 [(r.av 11 ag.two)] [] (.bq [(p.av),(.sc (.string aq)),(.sc (.int .i64 0))]))then bif (aD prog 110 [(r.av 11 ag.two)] [] (eY r))then bif (cj prog (ae f51 23) (bz 133 [(7,(.ptr 0 0)),(12,(eY r)),(70,(r.av 11 ag.two)),(71,(i64 ((r.l.length:Int)))),(72,(.sc (.int .i64 0)))]) [(.cells [(p.av),(.sc (.string aq)),(.sc (.string aq)),(aR),(aR),(aR),(aR),(aR),(aR),(.sc (.string aq)),(aR),(aR),(aR),(aR),(i64 (S1.deep)),(aS (S1.name)),(i64 (S1.broken))]),.cN] (.exit 4) (bz 133 [(7,(.ptr 0 0))]) [(.cells [(b0),(b1),(b2),(b3),(b4),(b5),(b6),(b7),(b8),(b9),(dP),(dT),(dU),(X),(i64 (S2.deep)),(aS (S2.name)),(i64 (S2.broken))]),(Y)] [0,1])then bif (S2.broken !=0)then some ((.bq [(aS (S2.name)),(i64 (S2.broken)),(.sc (.int .i64 160))]))else some ((.bq [(.sc (.string aq)),(.sc (.int .i64 0)),(.sc (.int .i64 0))]))else none else none else none else none else none:=by kernel_rfl
theorem vf {call:cZ}{lo:bX}{nj:List Nat}(hc:cx prog call){k n:Nat}{c:Code}{T T1:List AV}{pre Y5:List AV}{S:hU}{X X1:AV}{Y Y1:bu}{J J1:aa}{ks:List Nat}{x:bj}{F:Option (Option wW)}(hl:bA prog lo)
  (h:(db prog call lo nj k c T (.cells (dH pre S X)::Y::J)).via (D9 ks n)=F) (hF:F=some (some ⟨x,T1,Y5,X1,Y1,J1,true⟩)) (hk:gi Y5 X1 Y1) (hn:J.length=n):∃S',an prog c T (.cells (dH pre S X)::Y::J) x T1 (.cells (dH Y5 S' X1)::Y1::J1) [0,1]:=by
 obtain⟨⟨y,T2,H2,W2⟩,hr,hg⟩:=cv h hF;have dC:=lX mixed hc hl nj k c _ _ _ _ _ _ hr;unfold D9 at hg;simp only at hg;split at hg
 ·rename_i oy X' S' Y' J' pQ;simp only[ag6,wW.mk.injEq,ahp]at hg;obtain⟨rfl,rfl,rfl,rfl,rfl,rfl,⟨⟨h1,h2⟩,h3⟩,h4⟩:=hg;have e:=iG pQ;subst e;refine⟨S',?_⟩;have hlen:(.cells (dH pre S X)::Y::J:aa).length=n+2:=by simp[hn]
  exact((dC.eB (dL _ _ ks)).trim (n:=n+2) (by omega) h1 (λo ho=>by
   simp only[ah5,ahl]at ho;rcases ho with rfl|rfl|ho
   ·exact hk.ZA (by omega) S'
   ·exact(hk.lone.lb _).1
   ·exact ahq.1 h2 o ho) h4).wr (Wr':=[0,1]) (λl hl cO=>by
    have:=ahq.1 h3 l (dt (by omega) hl);simp at this ⊢;omega)
 ·cases hg
theorem nr:ag.cells=ag.two:=funext ag.jW
theorem Em (p:aJ) (f:ag) (seen:bD):aV p f seen=qe p f seen:=by unfold aV qe;rw[f.jW]
theorem Xo {x:AV}(h:LF x):gi (tJ x) aR .cN:=by
 refine⟨rfl,λa ha=> ?_,.row _ _ _ _ _,rfl,.cN⟩;simp only[tJ,ahl,ahr,ahO]at ha;rcases ha with rfl|rfl|rfl|rfl|rfl|rfl|rfl|rfl|rfl|rfl|rfl|rfl|rfl
 ·exact h
 all_goals first|exact .sc _|(unfold aR;exact .aY _ _ _ _ _ (by simp))
theorem Mc (p:aJ) (f:ag) (seen:bD) (l:ko):gi (qe p f seen) (fM l) (fN l):=Em p f seen▸nk p f seen l
theorem Kh {r:aX ag}(hr:r.sm ag.sm):fb (ae f51 11) (HS r ((0:Nat):Int)) (.exit 2) (HS r r.l.length) (tJ gB) aR .cN []:=by
 have hk:gi (tJ gB) aR .cN:=Xo (.sc _);have hn:=hr.1;unfold dg at hn;exact ir (λi=>HS r i) (.exit 2) (by simp) r.l.length (λi hi S=>by
  have hf:=Y0 hk hr hi;rw[nr]at hf;have hb:=ah (ah (HT r S .cN i) (bl (by omega))) (fh hf);have ew:IntKind.i64.wrap ((i:Int)+(1:Int))=((i+1:Nat):Int):=wi (x:=(i:Int)+1) (by omega) (by omega);rw[ew]at hb;exact dm (cS _ _ _) ab hk hb rfl rfl) (λS=>dm (cS _ _ _) ab hk (bO (HT r S .cN _) (da (by omega))) rfl rfl)
theorem Y6 {p:aJ}{f:ag}{seen:bD}(hp:p.sm) (hs:seen.l.length<=lim) (hf:f.sz<=bL) (r:aX ag) (i:Nat) (l:ko) (hl:l.length+f.sz<=16777215):
  Ch (ae f51 27) (Wi r f i ((0:Nat):Int)) (.exit 6) (Y4 r i) (qe p f seen) (fM l) (fN l) (fM (l++cI f.ay.l)) (fN (l++cI f.ay.l)) [.cells f.two]:=by
 have Bh:=ag.dD hf;have hn:=Bh.2.2.2.2.1.1;unfold dg at hn;have ga:f.cG.size+bw az.sz f.ay.l<=f.sz:=by unfold ag.sz aX.sz;omega
 have e0:l++cI (f.ay.l.take 0)=l:=by simp[cI]
 have eN:l++cI (f.ay.l.take f.ay.l.length)=l++cI f.ay.l:=by rw[ahR]
 unfold bL at hf;intro S;have key:=Ea (c:=ae f51 27) (λj=>Wi r f i j) (λj S=> .cells (dH (qe p f seen) S (fM (l++cI (f.ay.l.take j))))::fN (l++cI (f.ay.l.take j))::[.cells f.two]) (.exit 6) (by simp) f.ay.l.length (λj hj S=>by
  have hx:(f.ay.l.getD j default).sz<=bw az.sz f.ay.l:=cf (f:=az.sz) (bM hj);have TB:(cI (f.ay.l.take (j+1))).length<=bw az.sz f.ay.l:=by
   have h1:=mM (f.ay.l.take (j+1));rw[az.gA]at h1;have:=dM az.sz f.ay.l (j+1);omega
  rw[np f.ay.l hj,ahB]at TB;have hm:=Cn (p:=p) (f:=f) (seen:=seen) hp hs _ (f.ay.l.getD j default) (ag3 _) (by unfold bL;omega) AS yd (λi=>(az.mE AS.aC).getD i []) false f.cG (l++cI (f.ay.l.take j)) (by omega) (by rw[ahB];omega);rw[Em]at hm;have hr:zW 112 [.agg (f.ay.l.getD j default).one,.agg fz,cY false,aS f.cG] (qe p f seen) (fM (l++cI (f.ay.l.take j))) (fN (l++cI (f.ay.l.take j))) (fM (l++cI (f.ay.l.take j)++gg (f.ay.l.getD j default))) (fN (l++cI (f.ay.l.take j)++gg (f.ay.l.getD j default))):=λS=>by
   obtain⟨S',h⟩:=hm S;exact⟨S',λJ=>(h J).fR (.cons (.refl _) (.cons (.agg (az.xS _)) (.cons (.agg nh) (.refl _))))⟩
  have ew:IntKind.i64.wrap ((j:Int)+(1:Int))=((j+1:Nat):Int):=wi (x:=(j:Int)+1) (by omega) (by omega);rw[np f.ay.l hj,←aio];have hk:=Mc p f seen (l++cI (f.ay.l.take j)++gg (f.ay.l.getD j default));generalize l++cI (f.ay.l.take j)=l1 at hr hk ⊢;have hb:=ah (ah (ah (HU p f seen S (fM l1) (fM (l1++gg (f.ay.l.getD j default))) (fN l1) (fN (l1++gg (f.ay.l.getD j default))) r i j) (bl (by omega))) (bl (by omega))) (ly hr);rw[ew]at hb;exact vf (vb _ _ _) ab hb rfl hk rfl) (λS=>by
  have hk:=Mc p f seen (l++cI (f.ay.l.take f.ay.l.length));generalize l++cI (f.ay.l.take f.ay.l.length)=l1 at hk ⊢;exact vf (vb _ _ _) ab (bO (HU p f seen S (fM l1) aR (fN l1) .cN r i _) (da (by omega))) rfl hk rfl) S
 simp only[e0,eN]at key;obtain⟨S',hc⟩:=key;refine⟨S',an.eB hc ?_⟩;have e1:Y4 r i=lC 0 [7,12,14,70,71,72] (Wi r f i f.ay.l.length):=rfl;rw[e1];exact dL _ 0 _
def An (l:ko) (f:ag):ko:=lz (l++cI f.ay.l) f.exts.l
def qf (r:aX ag) (i:Nat):ko:=(r.l.take i).foldl An []
theorem HY (l:ko) (f:ag):(An l f).length<=l.length+f.sz:=by
 unfold An;rw[zZ,ahB];have h1:=mM f.ay.l;rw[az.gA]at h1;have h2:=cy (f:=aP.sz) (l:=f.exts.l) (λx _=>aP.bT x);unfold ag.sz aX.sz;omega
theorem Oy (l:List ag) (l0:ko):(l.foldl An l0).length<=l0.length+bw ag.sz l:=by
 induction l generalizing l0 with
 |nil=>simp[bw]
 |cons f r ih=>
  rw[ah7,eh];have:=ih (An l0 f);have:=HY l0 f;omega
def Y7 (p:aJ) (r:aX ag) (seen:Nat->bD):Nat->List AV
 |0=>tJ p.av
 |i+1=>qe p (aU r.l i) (seen i)
theorem En (p:aJ) (r:aX ag) (seen:Nat->bD) (i:Nat):∃b1 b2 b3 b4 b5 b6 b7 b8 b9 dP dT dU,Y7 p r seen i=[p.av,b1,b2,b3,b4,b5,b6,b7,b8,b9,dP,dT,dU]:=by
 cases i with
 |zero=>exact⟨_,_,_,_,_,_,_,_,_,_,_,_,rfl⟩
 |succ i=>exact⟨_,_,_,_,_,_,_,_,_,_,_,_,rfl⟩
section
variable {r:aX ag}(hr:bw ag.sz r.l<=1048576){p:aJ}(hp:p.sm)
include hr hp
theorem Wj {o:bD}(ho:o.l.length<=1048577){i:Nat}(hi:i<r.l.length) (Md:∀H,bZ prog 111 [eY r,aS (aU r.l i).name] o.av H H []){pre:List AV}(Tc:∃b1 b2 b3 b4 b5 b6 b7 b8 b9 dP dT dU,pre=[p.av,b1,b2,b3,b4,b5,b6,b7,b8,b9,dP,dT,dU]) (l:ko) (hl:l.length<=bw ag.sz (r.l.take i)) (S:hU):
  ∃S',an prog (ae f51 23) (Ox r i) (.cells (dH pre S (fM l))::fN l::[]) .normal (Ox r ((i+1:Nat):Int)) (.cells (dH (qe p (aU r.l i) o) S' (fM (An l (aU r.l i))))::fN (An l (aU r.l i))::[]) [0,1]:=by
 obtain⟨b1,b2,b3,b4,b5,b6,b7,b8,b9,dP,dT,dU,rfl⟩:=Tc;have Zn:=cy (f:=ag.sz) (l:=r.l) (λx _=>x.bT);have hfz:(aU r.l i).sz<=bw ag.sz r.l:=cf (f:=ag.sz) (bM hi);have htk:=dM ag.sz r.l i;have Bh:=ag.dD (d:=aU r.l i) (by unfold bL;omega);have hos:o.l.length<=lim:=by unfold lim;omega
 obtain⟨_,hpk,_,_,rH,ZC,Jh,hex,_⟩:=Bh;have adT:=hpk;have abA:=hex.1;unfold dg at adT abA;obtain⟨l1,TV⟩:∃l1,l1=l++cI (aU r.l i).ay.l:=⟨_,rfl⟩
 have agm:l1.length<=l.length+(aU r.l i).sz:=by
  rw[TV,ahB];have h1:=mM (aU r.l i).ay.l;rw[az.gA]at h1;unfold ag.sz aX.sz;omega
 have hxl:l1.length+(aU r.l i).exts.l.length<=l.length+(aU r.l i).sz:=by
  have:=HY l (aU r.l i);unfold An at this;rw[zZ,←TV]at this;exact this
 have hM:=Y6 (p:=p) (f:=aU r.l i) (seen:=o) hp hos (by unfold bL;omega) r i l (by omega);rw[←TV]at hM;have hE:=LW (sc:=(aU r.l i).cG) (nk p (aU r.l i) o l1) ZC (by omega);have hS:=Ka (sc:=(aU r.l i).cG) (nk p (aU r.l i) o l1) hp hos Jh (by omega);have hX:=u9 (p:=p) (f:=aU r.l i) (seen:=o) (sc:=(aU r.l i).cG) hp hos l1 (r:=(aU r.l i).exts) (by omega) hex (by omega);rw[Em]at hE hS hX;have ew:IntKind.i64.wrap ((i:Int)+(1:Int))=((i+1:Nat):Int):=wi (x:=(i:Int)+1) (by omega) (by omega);have hb:=ah (ah (ah (ah (ah (ah (ah (HW p b1 b2 b3 b4 b5 b6 b7 b8 b9 dP dT dU S (fM l) (fM l1) (fM (lz l1 (aU r.l i).exts.l)) (fN l) (fN l1) (fN (lz l1 (aU r.l i).exts.l)) r i o) (bl (by omega))) (bl (by omega))) (ak (Md []))) (oA hM)) (fh hE)) (fh hS)) (ly hX);rw[ew]at hb;have e2:An l (aU r.l i)=lz l1 (aU r.l i).exts.l:=by unfold An;rw[TV]
 rw[e2];exact vf (vb _ _ _) (kK aF) hb rfl (Mc _ _ _ _) rfl
theorem Y8 (S:hU):∃(pre:List AV) (X:AV) (Y:bu) (S':hU),pre.length=13/\an prog (.loop (ae f51 23)) (Ox r ((0:Nat):Int)) [.cells (dH (tJ p.av) S aR),.cN] (.exit 4) S9 [.cells (dH pre S' X),Y] [0,1]:=by
 obtain⟨seen,Md⟩:=aip (λi:Nat=>HR hr (aU r.l i).name);have Zn:=cy (f:=ag.sz) (l:=r.l) (λx _=>x.bT);have key:=Ea (c:=ae f51 23) (λi=>Ox r i) (λi S=> .cells (dH (Y7 p r seen i) S (fM (qf r i)))::fN (qf r i)::[]) (.exit 4) (by simp) r.l.length (λi hi S=>by
  have h:=Wj hr hp (Md i).1 hi (Md i).2 (En p r seen i) (qf r i) (by have:=Oy (r.l.take i) [];unfold qf;simpa using this) S;have e:qf r (i+1)=An (qf r i) (aU r.l i):=gv _ _ _ _ hi;rw[e];exact h) (λS=>by
  obtain⟨b1,b2,b3,b4,b5,b6,b7,b8,b9,dP,dT,dU,Tc⟩:=En p r seen r.l.length;have hk:gi (Y7 p r seen r.l.length) (fM (qf r r.l.length)) (fN (qf r r.l.length)):=by
   generalize hn:r.l.length=n
   cases n with
   |zero=>
    have e1:qf r 0=[]:=rfl;rw[e1,mL,oC];exact Xo (.dO _)
   |succ n=>exact Mc _ _ _ _
  have hb:=bO (HW p b1 b2 b3 b4 b5 b6 b7 b8 b9 dP dT dU S (fM (qf r r.l.length)) aR aR (fN (qf r r.l.length)) .cN .cN r r.l.length ⟨true,[]⟩) (da (by omega));simp only[←Tc]at hb;rw[Tc]at hk ⊢;rw[Tc]at hb;exact vf (vb _ _ _) (kK aF) hb rfl hk rfl) S
 obtain⟨S',hc⟩:=key;have e1:qf r 0=[]:=rfl;simp only[e1,mL,oC]at hc;refine⟨_,_,_,S',?_,an.eB hc (T'':=S9) (by
  have e1:S9=lC 0 [7] (Ox r r.l.length):=rfl;rw[e1];exact dL _ 0 _)⟩
 obtain⟨b1,b2,b3,b4,b5,b6,b7,b8,b9,dP,dT,dU,Tc⟩:=En p r seen r.l.length;rw[Tc];rfl
end
theorem Oz {r:aX ag}(hr:bw ag.sz r.l<=1048576):∃(s:ByteArray) (a b:Int),∀H,bZ prog 51 [r.av 11 ag.cells] (.bq [aS s,i64 a,i64 b]) H H []:=by
 rw[nr];have lf:∀a∈[r.av 11 ag.two],LF a:=ao bQ bC;have Zn:=cy (f:=ag.sz) (l:=r.l) (λx _=>x.bT);have ga:∀i,i<r.l.length->(aU r.l i).sz<=bL:=λi hi=>ahx (cf (f:=ag.sz) (bM hi)) hr
 have Bh:r.sm ag.sm:=⟨by unfold dg;omega,λf hf=>ag.dD (ahx (cf (f:=ag.sz) hf) hr)⟩
 have OS:∀s a b,LF (.bq [aS s,i64 a,i64 b]):=λs a b=> .bq _ (ao (.sc _) (ao (.sc _) (ao (.sc _) bC)))
 by_cases Me:(r.l.length:Int)>1000
 ·exact⟨_,_,_,λH=>fu (ba ab) (ah (HX r 0) (bl Me)) (OS _ _ _) lf H⟩
 have hl:=iS (P:=prog) (c:=ae f51 4) (λi=>Ow r 0 (i:Nat)) (λi=>Ow r 2 (i:Nat)) (λi=>decide (uS (aU r.l i)>64)) (.exit 0) (by simp) r.l.length (λi hi hc=>by
  have hd:=rU (aU r.l i) (ga i hi) [];rw[(aU r.l i).jW]at hd;have hb:=ah (ah (ah (ah (Am r i (uS (aU r.l i))) (bl (by omega))) (bl (by omega))) (ak hd)) hc;exact ai mixed (au _) aF hb rfl (ag3 _) (by simp)) (λi hi hc=>by
  have hd:=rU (aU r.l i) (ga i hi) [];rw[(aU r.l i).jW]at hd;have hb:=bO (ah (ah (ah (Am r i (uS (aU r.l i))) (bl (by omega))) (bl (by omega))) (ak hd)) hc;have ew:IntKind.i64.wrap ((i:Int)+(1:Int))=((i+1:Nat):Int):=wi (x:=(i:Int)+1) (by omega) (by omega);rw[ew]at hb;exact ai mixed (au _) aF hb rfl (ag3 _) (by simp)) (by
  exact ai mixed (au _) aF (bO (Am r r.l.length 0) (da (by omega))) rfl (ag3 _) (by simp))
 rcases hl.symm with ⟨j,hj,_,_,Mf⟩|⟨Mf,_⟩
 ·exact⟨_,_,_,λH=>fu (ba ab) (ah (bO (HX r j) (da Me)) (bc Mf)) (OS _ _ _) lf H⟩
 obtain⟨⟨d,nm,br⟩,hfl⟩:=Kh Bh ⟨0,aq,0⟩;have abG:an prog (.loop (ae f51 11)) (HS r ((0:Nat):Int)) [.cells (dH (tJ gB) ⟨0,aq,0⟩ aR)] (.exit 2) (HS r r.l.length) [.cells (dH (tJ gB) ⟨d,nm,br⟩ aR),.cN] [0]:=an.U5 hfl;have te:bZ prog 52 [r.av 11 ag.two] (DI r) [] [] []:=by
  have:=Lv r hr [];rwa [nr]at this
 have ZX:bZ prog 110 [r.av 11 ag.two] (eY r) [] [] []:=by
  have:=Ot r (by omega) [];rwa [nr]at this
 have bad:∀(s:ByteArray) (e:Int),e≠0->DI r= .bq [gB,aS s,i64 e]->∃(s:ByteArray) (a b:Int),∀H,bZ prog 51 [r.av 11 ag.two] (.bq [aS s,i64 a,i64 b]) H H []:=λs e he hn=>by
  rw[hn]at te;have hb:=ah (ah (bO (Ta r ⟨d,nm,br⟩ s e) (da Me)) (bc Mf)) (bc abG);rcases lK hb with hb|hb
  ·exact⟨_,_,_,λH=>fu (ba aF) hb (OS _ _ _) lf H⟩
  ·have hb:=ah (ah hb (ak te)) (by simpa using he);exact⟨_,_,_,λH=>fu (ba aF) hb (OS _ _ _) lf H⟩
 unfold DI at bad te
 cases h1:r.l.any rV with
 |true=>exact bad aq 2 (by decide) (by rw[h1];rfl)
 |false=>
  cases h2:(gC r).e !=0 with
  |true=>exact bad _ _ (by simpa using h2) (by rw[h1,h2];rfl)
  |false=>
   rw[h1,h2]at te;obtain⟨pre,X,Y,⟨d2,nm2,br2⟩,Tc,hg⟩:=Y8 hr (V6 r hr) ⟨d,nm,br⟩;obtain⟨b0,b1,b2,b3,b4,b5,b6,b7,b8,b9,dP,dT,dU,rfl⟩:=wX Tc;have hb:=ah (ah (bO (Tb r (gC r).done ⟨d,nm,br⟩ ⟨d2,nm2,br2⟩ b0 b1 b2 b3 b4 b5 b6 b7 b8 b9 dP dT dU X Y) (da Me)) (bc Mf)) (bc abG);rcases lK hb with hb|hb
   ·exact⟨_,_,_,λH=>fu (ba aF) hb (OS _ _ _) lf H⟩
   ·have hb:=ah (ah (ah hb (ak te)) (ak ZX)) (bc hg);rcases lK hb with hb|hb
    ·exact⟨_,_,_,λH=>fu (ba aF) hb (OS _ _ _) lf H⟩
    ·exact⟨_,_,_,λH=>fu (ba aF) hb (OS _ _ _) lf H⟩
def sq (s:dh):ByteArray×Int×ByteArray:=(s.full,s.kind,s.home)
structure oD (h:ByteArray) (P:bg) (Q:aJ):Prop where
 e:Q.e=0
 home:Q.home=h
 tags:P.l.reverse.map sq=Q.s.l.map sq
 nodup:(P.l.map (·.full)).Nodup
 kinds:∀s∈P.l,s.kind≠0
theorem Ki (a b:ByteArray):(a==b)=true↔a=b:=by
 rcases a with ⟨a⟩
 rcases b with ⟨b⟩
 show (a==b)=true↔_;simp
theorem Mg (a:ByteArray):(a==a)=true:=(Ki a a).2 rfl
theorem Ao {l:List dh}{t:ByteArray}:eC l t=true↔∃s∈l,s.full=t:=by
 unfold eC;rw[List.any_eq_true];constructor
 ·rintro⟨s,hs,h⟩;exact⟨s,hs,((Ki _ _).1 h).symm⟩
 ·rintro⟨s,hs,h⟩;exact⟨s,hs,by rw[h];exact Mg _⟩
theorem Mh {l:List dh}{t:ByteArray}(h:eC l t=true):fE l t∈l/\(fE l t).full=t:=by
 unfold fE;cases hf:l.find? (λd=>t==d.full)with
 |none=>
  obtain⟨s,hs,e⟩:=Ao.1 h;have:=List.find?_eq_none.1 hf s hs;simp only[e]at this;exact absurd (Mg t) this
 |some s=>
  have h1:=List.mem_of_find?_eq_some hf;have h2:=List.find?_some hf;exact⟨h1,((Ki _ _).1 h2).symm⟩
theorem Ap:∀{l:List dh},(l.map (·.full)).Nodup->∀{a b:dh},a∈l->b∈l->a.full=b.full->a=b
 |[],_,a,b,ha,_,_=>by simp at ha
 |x::r,hn,a,b,ha,hb,e=>by
  rw[ahJ,List.nodup_cons]at hn;rcases ahl.1 ha with rfl|ha'<;>rcases ahl.1 hb with rfl|iw
  ·rfl
  ·exact absurd (ahQ.2 ⟨b,iw,e.symm⟩) hn.1
  ·exact absurd (ahQ.2 ⟨a,ha',e⟩) hn.1
  ·exact Ap hn.2 ha' iw e
theorem Kj {Q:aJ}{t:ByteArray}(h:∀q∈Q.s.l,q.full≠t):cw Q t= -1:=by
 unfold cw;have:Q.s.l.findIdx? (λx=>x.full.toList==t.toList)=none:=by
  rw[aih];intro x hx;have:=h x hx;have h1:¬x.full.toList=t.toList:=λe=>this (toList_inj e)
  simpa using h1
 rw[this]
theorem Kk {Q:aJ}{t:ByteArray}(h:∃q∈Q.s.l,q.full=t):0<=cw Q t/\Q.s.l.getD (cw Q t).toNat default∈Q.s.l/\(Q.s.l.getD (cw Q t).toNat default).full=t:=by
 unfold cw;cases hf:Q.s.l.findIdx? (λx=>x.full.toList==t.toList)with
 |none=>
  rw[aih]at hf;obtain⟨q,hq,e⟩:=h;have:=hf q hq;rw[e]at this;simp at this
 |some j=>
  obtain⟨hj,h1,_⟩:=ah4.1 hf;simp only[Int.toNat_natCast];have e:Q.s.l.getD j default=Q.s.l[j]:=by simp[ag4,hj]
  rw[e];exact⟨by omega,ahG hj,toList_inj (by simpa using h1)⟩
section
variable {h:ByteArray}{P:bg}{Q:aJ}
theorem oD.Td (S:oD h P Q){q:dh}(hq:q∈Q.s.l):∃s∈P.l,sq s=sq q:=by
 have:sq q∈Q.s.l.map sq:=ahQ.2 ⟨q,hq,rfl⟩;rw[←S.tags]at this;obtain⟨s,hs,e⟩:=ahQ.1 this;exact⟨s,List.mem_reverse.1 hs,e⟩
theorem oD.adU (S:oD h P Q){s:dh}(hs:s∈P.l):∃q∈Q.s.l,sq q=sq s:=by
 have:sq s∈P.l.reverse.map sq:=ahQ.2 ⟨s,List.mem_reverse.2 hs,rfl⟩;rw[S.tags]at this;obtain⟨q,hq,e⟩:=ahQ.1 this;exact⟨q,hq,e⟩
theorem rA {a b:dh}(e:sq a=sq b):a.full=b.full/\a.kind=b.kind/\a.home=b.home:=by
 unfold sq at e;simp only[ahe]at e;exact e
theorem oD.has (S:oD h P Q){t:ByteArray}(hh:eC P.l t=true):0<=cw Q t/\(Q.s.l.getD (cw Q t).toNat default).kind=(fE P.l t).kind/\(Q.s.l.getD (cw Q t).toNat default).home=(fE P.l t).home:=by
 obtain⟨g1,g2⟩:=Mh hh;obtain⟨q,hq,e⟩:=S.adU g1;obtain⟨f1,f2,f3⟩:=Kk (Q:=Q) (t:=t) ⟨q,hq,(rA e).1.trans g2⟩;obtain⟨s,hs,e2⟩:=S.Td f2;have:s=fE P.l t:=Ap S.nodup hs g1 (((rA e2).1.trans f3).trans g2.symm);subst this;exact⟨f1,(rA e2).2.1.symm,(rA e2).2.2.symm⟩
theorem oD.abH (S:oD h P Q){t:ByteArray}(hh:eC P.l t=false):cw Q t= -1:=by
 refine Kj (λq hq e=> ?_);obtain⟨s,hs,e2⟩:=S.Td hq;have:=Ao.2 ⟨s,hs,(rA e2).1.trans e⟩;rw[hh]at this;cases this
theorem oD.add (S:oD h P Q){s q:dh}{P':bg}(hp:P.add s=some P') (hf:s.full=q.full) (hk:s.kind=q.kind) (h0:s.kind≠0) (hh:s.home=h):oD h P' (Q.add q):=by
 unfold bg.add at hp;unfold aJ.add;have e0:(Q.e !=0)=false:=by rw[S.e];rfl
 rw[e0]
 cases hx:eC P.l s.full with
 |true=>
  rw[hx]at hp;obtain⟨a1,a2,a3⟩:=S.has hx
  cases hg:(fE P.l s.full).kind !=1 with
  |true=>rw[hg]at hp;cases hp
  |false=>
   rw[hg]at hp
   cases hs:s.kind !=1 with
   |true=>rw[hs]at hp;cases hp
   |false=>
    rw[hs]at hp;simp only[cond_true,cond_false,ag6]at hp;subst hp;have k1:(fE P.l s.full).kind=1:=by simpa using hg
    have k2:s.kind=1:=by simpa using hs
    have:gR Q q=true:=by
     unfold gR;rw[←hf,←hk,k2,a2,k1,ag2 a1];rfl
    rw[this];exact S
 |false=>
  rw[hx]at hp;simp only[cond_false,ag6]at hp;subst hp;have hn:=S.abH hx;rw[hf]at hn;have h1:gR Q q=false:=by
   unfold gR;rw[hn];rfl
  have h2:decide (cw Q q.full≥0)=false:=by rw[hn];rfl
  rw[h1,h2];refine⟨S.e,S.home,?_,?_,?_⟩
  ·show (s::P.l).reverse.map sq=(Q.s.l++[q.at Q.home]).map sq;rw[List.reverse_cons,List.map_append,List.map_append,S.tags];congr 1;simp only[ahJ,aia,sq,dh.at,S.home,hf,hk,hh]
  ·rw[ahJ,List.nodup_cons];refine⟨λhm=> ?_,S.nodup⟩;obtain⟨y,hy,e⟩:=ahQ.1 hm;have:=Ao.2 ⟨y,hy,e⟩;rw[hx]at this;cases this
  ·intro y hy;rcases ahl.1 hy with rfl|hy
   ·exact h0
   ·exact S.kinds y hy
theorem oD.v (S:oD h P Q){sc n:ByteArray}{k:Int}{P':bg}(hp:P.v h sc k n=some P') (hk:k≠0){q:dh}(hf:q.full=ar sc n) (hq:q.kind=k):oD h P' (Q.add q):=
 S.add hp hf.symm hq.symm hk rfl
end
theorem lA {α:Type}{h:ByteArray}(c:α->α) (f:bg->α->Option bg) (g:aJ->α->aJ):∀(l:List α) (P:bg) (Q:aJ) (P':bg),gq f (l.map c) P=some P'->oD h P Q->(∀x∈l,∀P Q P',f P (c x)=some P'->oD h P Q->oD h P' (g Q x))->oD h P' (l.foldl g Q)
 |[],P,Q,P',hr,S,_=>by
  simp only[aia,gq,ag6]at hr;subst hr;exact S
 |x::r,P,Q,P',hr,S,hs=>by
  rw[ahJ]at hr;obtain⟨P1,h1,h2⟩:=bn (show (f P (c x)).bind (gq f (r.map c))=some P' from hr);rw[ah7];exact lA c f g r P1 (g Q x) P' h2 (hs x (ahD ..) P Q P1 h1 S) (λy hy=>hs y (ahn _ hy))
theorem Te {h sc:ByteArray}{P P':bg}{Q:aJ}{e:bt}(hp:oh h sc P (tU e)=some P') (S:oD h P Q):oD h P' (jE sc Q e):=by
 unfold oh at hp;obtain⟨P1,h1,h2⟩:=bn hp;have S1:oD h P1 (Q.add (nC (ar sc e.name) e)):=S.add h1 rfl rfl (show (3:Int)≠0 by decide) rfl;exact lA id _ _ e.aM.l _ _ _ h2 S1 (λx _ P Q P' hx S=>S.v hx (by decide) rfl rfl)
theorem Cs {h sc:ByteArray}{P P':bg}{Q:aJ}{l:List bt}(hp:gU h sc (l.map tU) P=some P') (S:oD h P Q):oD h P' (bK sc l Q):=
 lA tU _ _ l _ _ _ hp S (λx _ P Q P' hx S=>Te hx S)
theorem HZ {h sc:ByteArray}{P P':bg}{Q:aJ}{l:List aP}(hp:jz h sc (l.map id) P=some P') (S:oD h P Q):oD h P' (dN sc l Q):=
 lA id _ _ l _ _ _ hp S (λx _ P Q P' hx S=>by
  unfold pB at hx;cases ha:P.add ((mG (ar sc (id x).name) 6 (id x)).at h)with
  |none=>rw[ha]at hx;cases hx
  |some P1=>
   rw[ha]at hx;simp only[ahs,ag6]at hx;subst hx;have:=S.add (q:=mG (ar sc x.name) 6 x) ha rfl rfl (show (6:Int)≠0 by decide) rfl;exact⟨this.e,this.home,this.tags,this.nodup,this.kinds⟩)
mutual
theorem Wm:∀(h sc:ByteArray) (P:bg) (Q:aJ) (m:az) (P':bg),gE h sc P (sN m)=some P'->oD h P Q->oD h P' (im sc Q m)
 |h,sc,P,Q,.mk name af mN aC aQ bB exts aI bp bY opts dE,P',hp,S=>by
  simp only[sN,gE]at hp;obtain⟨P1,h1,hp⟩:=bn hp;obtain⟨P2,h2,hp⟩:=bn hp;obtain⟨P3,h3,hp⟩:=bn hp;obtain⟨P4,h4,hp⟩:=bn hp;obtain⟨P5,h5,hp⟩:=bn hp;simp only[im];have S1:oD h P1 (Q.add (gI (ar sc name) (.mk name af mN aC aQ bB exts aI bp bY opts dE))):=S.add h1 rfl rfl (show (2:Int)≠0 by decide) rfl;have S2:=lA id _ (λp (f:aP)=>p.add (mG (ar (ar sc name) f.name) 5 f)) af.l _ _ _ h2 S1 (λx _ P Q P' hx S=>S.v hx (by decide) rfl rfl);have S3:=lA id _ (λp (f:cF)=>p.add (gS (ar (ar sc name) f.name) 7)) aI.l _ _ _ h3 S2 (λx _ P Q P' hx S=>S.v hx (by decide) rfl rfl);have S4:=Aq h (ar sc name) P3 _ aC P4 h4 S3;exact HZ hp (Cs h5 S4)
theorem Aq:∀(h sc:ByteArray) (P:bg) (Q:aJ) (l:List az) (P':bg),eM h sc (DP l) P=some P'->oD h P Q->oD h P' (bF sc Q l)
 |h,sc,P,Q,[],P',hp,S=>by
  simp only[DP,eM,ag6]at hp;subst hp;simpa only[bF]using S
 |h,sc,P,Q,m::r,P',hp,S=>by
  simp only[DP,eM]at hp;obtain⟨P1,h1,hp⟩:=bn hp;simp only[bF];exact Aq h sc P1 _ r P' hp (Wm h sc P Q m P1 h1 S)
end
theorem Wn (s:ByteArray):ar aq s=s:=by
 unfold ar qU;simp
theorem H5:∀(n:Nat) (h s:ByteArray) (P:bg) (Q:aJ) (P':bg),gV n h s P=some P'->oD h P Q->oD h P' (fg n s Q)
 |0,h,s,P,Q,P',hp,S=>by
  simp only[gV,ag6]at hp;subst hp;exact S
 |n+1,h,s,P,Q,P',hp,S=>by
  unfold gV at hp;unfold fg
  cases he:qU s with
  |true=>
   rw[he]at hp;simp only[cond_true,ag6]at hp;subst hp;exact S
  |false=>
   rw[he]at hp;obtain⟨P1,h1,h2⟩:=bn hp;exact H5 n h (ft s) P1 _ P' h2 (S.v h1 (by decide) (Wn s).symm rfl)
theorem Tf {h sc:ByteArray}{P P':bg}{Q:aJ}{l:List bN}(hp:rk h sc (l.map xX) P=some P') (S:oD h P Q):oD h P' (dp sc l Q):=
 lA xX _ _ l _ _ _ hp S (λx _ P Q P' hx S=>by
  unfold DV at hx;obtain⟨P1,h1,h2⟩:=bn hx;have S1:=S.v (q:=gS (ar sc x.name) 8) h1 (by decide) rfl rfl;exact lA id _ _ x.aO.l _ _ _ h2 S1 (λy _ P Q P' hy S=>S.v hy (by decide) rfl rfl))
theorem Tg {h:ByteArray}{P P':bg}{Q:aJ}{f:ag}(hp:iV P (rj f)=some P') (S:oD h P Q):oD f.name P' (jF Q f):=by
 unfold iV at hp;obtain⟨P1,h1,hp⟩:=bn hp;obtain⟨P2,h2,hp⟩:=bn hp;obtain⟨P3,h3,hp⟩:=bn hp;obtain⟨P4,h4,hp⟩:=bn hp;unfold jF;have S0:oD f.name P (Q.atHome f.name):=⟨S.e,rfl,S.tags,S.nodup,S.kinds⟩
 have S1:=H5 _ _ _ _ _ _ h1 S0;have S2:=Aq f.name f.cG P1 _ f.ay.l P2 (by rw[zw];exact h2) S1;have S3:=Cs (l:=f.aQ.l) h3 S2;have S4:=Tf (l:=f.aL.l) h4 S3;exact HZ (l:=f.exts.l) hp S4
theorem Ct:∀(l:List ag) (h:ByteArray) (P:bg) (Q:aJ) (P':bg),gw l P=some P'->oD h P Q->∃h',oD h' P' (eW l Q)
 |[],h,P,Q,P',hp,S=>by
  simp only[gw,gq,ag6]at hp;subst hp;exact⟨h,S⟩
 |f::r,h,P,Q,P',hp,S=>by
  obtain⟨P1,h1,h2⟩:=bn (show (iV P (rj f)).bind (gq (λp f=>iV p (rj f)) r)=some P' from hp);exact Ct r f.name P1 _ P' h2 (Tg h1 S)
theorem Wo {r:aX ag}{P:bg}(hp:pH r.l=some P):∃h,oD h P (gC r):=by
 unfold pH at hp
 cases hd:r.l.any pY with
 |true=>rw[hd]at hp;cases hp
 |false=>
  rw[hd]at hp;cases ha:gw r.l ⟨[],[]⟩with
  |none=>rw[ha]at hp;cases hp
  |some P1=>
   rw[ha]at hp;simp only[cond_false,ahs,ag6]at hp;subst hp;obtain⟨h,S⟩:=Ct r.l aq ⟨[],[]⟩ (fS r) P1 ha ⟨rfl,rfl,rfl,List.nodup_nil,λs hs=>by simp at hs⟩;exact⟨h,S.e,S.home,S.tags,S.nodup,S.kinds⟩
def sX (l:List ag) (t:ByteArray):ByteArray:=((l.find? (λf=>f.name.toList==t.toList)).getD uD).rP
def p3T:ByteArray:=⟨#[112,114,111,116,111,51]⟩
noncomputable def kW (P:bg) (l:List ag) (full:ByteArray):Bool:=bif eC P.l full then(sX l (fE P.l full).home).toList==p3T.toList else false
def ma (Q:aJ) (full:ByteArray):Bool:=bif decide (cw Q full<0)then false else(((fileOf Q (Q.s.l.getD (cw Q full).toNat default).home).getD uD).rP.toList==p3T.toList)
theorem H6 {h:ByteArray}{P:bg}{r:aX ag}(S:oD h P (gC r)) (hf:(gC r).f=r) (full:ByteArray):kW P r.l full=ma (gC r).done full:=by
 unfold kW ma;have ef:cw (gC r).done full=cw (gC r) full:=rfl;rw[ef]
 cases hx:eC P.l full with
 |false=>
  have:=S.abH hx;rw[this];rfl
 |true=>
  obtain⟨a1,a2,a3⟩:=S.has hx;rw[ag8 (by omega)];simp only[cond_true,cond_false];have e2:((gC r).done.s.l.getD (cw (gC r) full).toNat default).home=(fE P.l full).home:=a3;rw[e2];unfold sX fileOf;have e3:(gC r).done.f.l=r.l:=by show (gC r).f.l=r.l;rw[hf]
  rw[e3]
def xB (r:AV×aa×List Nat):AV×aa×Bool:=(r.1,r.2.1.take 3,r.2.2.all (λl=>decide (3<=l)))
def T64 (l:List ag) (t v:ByteArray) (i:Int):List AV:=bz 23 [(1,aS t),(4,aS v),(10,(gZ l).av),(11,i64 l.length),(12,i64 i)]
def T29 (p:aJ) (t:ByteArray) (e:Int) (b w:Bool) (l:List ep) (i:Int):List AV:=bz 57 [(0,p.av),(1,aS t),(9,i64 e),(10,cY b),(11,cY w),(30,dd pV l),(31,i64 l.length),(32,i64 i)]
theorem abK (k:Int):(eb prog (cK []) aN [] 3 68 [i64 k] []).via (ch)=bif (bif (k==9)then true else(bif (k==12)then true else(bif (k==11)then true else(k==10))))then some ((.sc (.bool false)))else some ((cY (bif (decide (k≥1))then(decide (k<=18))else false))):=by kernel_rfl
theorem abL (k:Int):(eb prog (cK []) aN [] 3 48 [i64 k] []).via (ch)=some ((cY (bif (bif (decide (k≥1))then(decide (k<=8))else false)then true else(bif (decide (k≥13))then(decide (k<=18))else false)))):=by kernel_rfl
theorem Wp (p:aJ) (t:ByteArray) (k:Int) (f:ag) (b:Bool):(eb prog (cK []) (told prog [] [⟨10,0,i64 k⟩,⟨23,0,.bq [.agg f.two,cY b]⟩]) [] 3 27 [p.av,aS t] []).via (ch)=bif (aD prog 66 [(p.av),(aS (t))] [] (i64 (k)))then bif (decide (k<0))then some ((.sc (.bool false)))else bif (decide ((0:Int)<=k/\k<(p.s.l.length:Int)))then bif (aD prog 67 [(p.av),(aS ((p.s.l.getD k.toNat default).home))] [] (.bq [(.agg [(aS (f.name)),(aS (f.cG)),(.aY (f.cm.nl) 1 (f.cm.l.length) (λi=>[AV.sc (Value.string (f.cm.l.getD i aq))]) .dA),(.aY (f.ey.nl) 1 (f.ey.l.length) (λi=>[AV.sc (Value.int IntKind.i64 (f.ey.l.getD i (0:Int)))]) .dA),(.aY (f.ay.nl) 11 (f.ay.l.length) (λi=>(f.ay.l.getD i default).one) .dA),(.aY (f.aQ.nl) 4 (f.aQ.l.length) (λi=>(f.aQ.l.getD i default).cells) .dA),(.aY (f.aL.nl) 4 (f.aL.l.length) (λi=>(f.aL.l.getD i default).cells) .dA),(.aY (f.exts.nl) 13 (f.exts.l.length) (λi=>(f.exts.l.getD i default).cells) .dA),(aS (f.rP)),(.aY (f.opts.nl) 1 (f.opts.l.length) (λi=>(List.map dy f.opts.l).getD i []) .dA),(.aY (f.dE.nl) 1 (f.dE.l.length) (λi=>(List.map dy f.dE.l).getD i []) .dA)]),(cY (b))]))then some ((cY (f.rP.toList==(⟨#[(112:UInt8),(114:UInt8),(111:UInt8),(116:UInt8),(111:UInt8),(51:UInt8)]⟩:ByteArray).toList)))else none else none else none:=by kernel_rfl
theorem Y9 (P:bg) (l:List ag) (t:ByteArray):(eb prog (cK []) aN [] 3 63 [.ptr 0 0,aS t] (P.H (gZ l))).via (xB)=bif (eC P.l t)then some (((i64 ((fE P.l t).kind)),((P.H (gZ l)),true)))else some (((.sc (.int .i64 0)),((P.H (gZ l)),true))):=by kernel_rfl
theorem Za (P:bg) (l:List ag) (t:ByteArray):(eb prog (cK []) aN [] 3 65 [.ptr 0 0,aS t] (P.H (gZ l))).via (xB)=bif (eC P.l t)then some (((aS ((fE P.l t).home)),((P.H (gZ l)),true)))else some (((.sc (.string aq)),((P.H (gZ l)),true))):=by kernel_rfl
theorem Eo (P:bg) (l:List ag) (t:ByteArray) (i:Nat):(db prog (cK []) aN [] 3 (ae f64 2) (T64 l t aq i) (P.H (gZ l))).via (cz [1,4,10,11,12] [] 3)=bif (decide ((i:Int)<(l.length:Int)))then bif (decide (0<=(i:Int)/\(i:Int)<((gZ l).n:Int)))then bif ((rj (aU l i)).name.toList==t.toList)then some (⟨.ret,(bz 23 [(1,(aS (t))),(4,(aS ((rj (aU l i)).rP))),(10,((gZ l).av)),(11,(i64 ((l.length:Int)))),(12,(i64 ((i:Int))))]),(P.H (gZ l)),[],true⟩)else some (⟨.normal,(bz 23 [(1,(aS (t))),(4,(.sc (.string aq))),(10,((gZ l).av)),(11,(i64 ((l.length:Int)))),(12,(i64 (IntKind.i64.wrap ((i:Int)+(1:Int)))))]),(P.H (gZ l)),[],true⟩)else none else some (⟨(.exit 0),(bz 23 [(1,(aS (t))),(4,(.sc (.string aq))),(10,((gZ l).av)),(11,(i64 ((l.length:Int)))),(12,(i64 ((i:Int))))]),(P.H (gZ l)),[],true⟩):=by kernel_rfl
theorem Wq (P:bg) (l:List ag) (t:ByteArray) (i:Nat):(eb prog (cK []) (cJ prog [⟨2,[1,4,10,11,12],.exit 0,T64 l t aq i,P.H (gZ l),[]⟩] aN) [] 3 64 [.ptr 0 0,aS t] (P.H (gZ l))).via (xB)=bif (cj prog (ae f64 2) (bz 23 [(1,(aS (t))),(4,(.sc (.string aq))),(10,((gZ l).av)),(11,(i64 (((gZ l).n:Int)))),(12,(.sc (.int .i64 0)))]) (P.H (gZ l)) (.exit 0) (bz 23 [(1,(aS (t))),(4,(.sc (.string aq))),(10,((gZ l).av)),(11,(i64 ((l.length:Int)))),(12,(i64 ((i:Int))))]) (P.H (gZ l)) [])then some (((.sc (.string aq)),((P.H (gZ l)),true)))else none:=by kernel_rfl
theorem Th (P:bg) (l:List ag) (t v:ByteArray) (i:Nat):(eb prog (cK []) (cJ prog [⟨2,[1,4,10,11,12],.ret,T64 l t v i,P.H (gZ l),[]⟩] aN) [] 3 64 [.ptr 0 0,aS t] (P.H (gZ l))).via (xB)=bif (cj prog (ae f64 2) (bz 23 [(1,(aS (t))),(4,(.sc (.string aq))),(10,((gZ l).av)),(11,(i64 (((gZ l).n:Int)))),(12,(.sc (.int .i64 0)))]) (P.H (gZ l)) .ret (bz 23 [(1,(aS (t))),(4,(aS (v))),(10,((gZ l).av)),(11,(i64 ((l.length:Int)))),(12,(i64 ((i:Int))))]) (P.H (gZ l)) [])then some (((aS (v)),((P.H (gZ l)),true)))else none:=by kernel_rfl
theorem Ws (P:bg) (l:List ag) (t h y:ByteArray) (k:Int):(eb prog (cK []) (told prog [] [⟨7,3,i64 k⟩,⟨13,3,aS h⟩,⟨14,3,aS y⟩]) [] 3 26 [.ptr 0 0,aS t] (P.H (gZ l))).via (xB)=bif (aD prog 63 [(.ptr 0 0),(aS (t))] (P.H (gZ l)) (i64 (k)))then bif (bif (k !=0)then(aD prog 65 [(.ptr 0 0),(aS (t))] (P.H (gZ l)) (aS (h)))else true)then bif (bif (k !=0)then(aD prog 64 [(.ptr 0 0),(aS (h))] (P.H (gZ l)) (aS (y)))else true)then some (((cY (bif (k !=0)then(y.toList==(⟨#[(112:UInt8),(114:UInt8),(111:UInt8),(116:UInt8),(111:UInt8),(51:UInt8)]⟩:ByteArray).toList)else false)),((P.H (gZ l)),true)))else none else none else none:=by kernel_rfl
theorem Mi (p:aJ) (d:aP) (t:ByteArray) (e:Int) (b w:Bool) (l:List ep) (i:Nat):(db prog (cK []) aN [] 3 (ae f29 6) (T29 p t e b w l i) [.cells d.cells]).via (cz [0,1,9,10,11,30,31,32] [] 1)=bif (decide ((i:Int)<(l.length:Int)))then bif (decide (0<=(i:Int)/\(i:Int)<(l.length:Int)))then some (⟨.normal,(bz 57 [(0,(p.av)),(1,(aS (t))),(9,(i64 (e))),(10,(cY (bif (bif (bif (e==0)then((l.getD i qn).num==2)else false)then((l.getD i qn).kd==0)else false)then((l.getD i qn).nn !=0)else(b)))),(11,(cY (bif (bif (bif (e==0)then((l.getD i qn).num==2)else false)then((l.getD i qn).kd==0)else false)then true else(w)))),(30,(dd pV l)),(31,(i64 ((l.length:Int)))),(32,(i64 (IntKind.i64.wrap ((i:Int)+(1:Int)))))]),[(.cells (d.cells))],[],true⟩)else none else some (⟨(.exit 0),(bz 57 [(0,(p.av)),(1,(aS (t))),(9,(i64 (e))),(10,(cY (b))),(11,(cY (w))),(30,(dd pV l)),(31,(i64 ((l.length:Int)))),(32,(i64 ((i:Int))))]),[(.cells (d.cells))],[],true⟩):=by kernel_rfl
theorem Wt (p:aJ) (d:aP) (t:ByteArray) (e:Int) (z:Nat) (b w nb c:Bool) (l:List ep) (i:Int):(eb prog (cK []) (cJ prog [⟨6,[0,1,9,10,11,30,31,32],.exit 0,T29 p t e b w l i,[.cells d.cells],[]⟩] (told prog [] [⟨20,0,cY nb⟩,⟨26,0,.bq [dd pV l,i64 z,i64 e]⟩,⟨56,0,cY c⟩])) [] 3 29 [p.av,aS t,.agg d.cells] []).via (ch)=bif (bif (d.label !=3)then true else(aD prog 48 [(i64 (d.mg))] [] (cY (nb))))then bif (bif (d.label !=3)then true else(!nb))then some ((.sc (.bool false)))else bif (aD prog 42 [(.aY (d.opts.nl) 1 (d.opts.l.length) (λi=>(List.map dy d.opts.l).getD i []) .dA)] [] (.bq [(dd pV l),(i64 ((z:Int))),(i64 (e))]))then bif (cj prog (ae f29 6) (bz 57 [(0,(p.av)),(1,(aS (t))),(9,(i64 (e))),(10,(.sc (.bool false))),(11,(.sc (.bool false))),(30,(dd pV l)),(31,(i64 ((l.length:Int)))),(32,(.sc (.int .i64 0)))]) [(.cells (d.cells))] (.exit 0) (bz 57 [(0,(p.av)),(1,(aS (t))),(9,(i64 (e))),(10,(cY (b))),(11,(cY (w))),(30,(dd pV l)),(31,(i64 ((l.length:Int)))),(32,(i64 (i)))]) [(.cells (d.cells))] [])then bif (w)then some ((cY (b)))else bif (aD prog 27 [(p.av),(aS (t))] [] (cY (c)))then some ((cY (c)))else none else none else none else none:=by kernel_rfl
def A9 (k:Int):Bool:=bif (bif decide (k≥1)then decide (k<=8)else false)then true else(bif decide (k≥13)then decide (k<=18)else false)
theorem OA (k:Int) (H:aa):bZ prog 48 [i64 k] (cY (A9 k)) H H []:=
 gh mixed (au _) ab (abL k) rfl (u6 (.sc _)) H
theorem Cu (k:Int) (H:aa):bZ prog 68 [i64 k] (cY (A9 k)) H H []:=by
 have hb:=abK k;by_cases h:k=9∨k=12∨k=11∨k=10
 ·have e:A9 k=false:=by rcases h with rfl|rfl|rfl|rfl<;>rfl
  rw[e];refine gh mixed (au _) ab (ah hb ?_) rfl (u6 (.sc _)) H;rcases h with rfl|rfl|rfl|rfl<;>rfl
 ·have e:A9 k=(bif decide (k≥1)then decide (k<=18)else false):=by
   unfold A9;by_cases h1:k≥1<;>by_cases h8:k<=8<;>by_cases Tc:k≥13<;>by_cases h18:k<=18<;>simp only[h1,h8,Tc,h18,decide_true,decide_false,cond_true,cond_false]<;>first|rfl|(exfalso;omega)
  rw[e];refine gh mixed (au _) ab (bO hb ?_) rfl (u6 (.sc _)) H;have h9:(k==(9:Int))=false:=by simpa using (λe=>h (.inl e))
  have h12:(k==(12:Int))=false:=by simpa using (λe=>h (.inr (.inl e)))
  have Xb:(k==(11:Int))=false:=by simpa using (λe=>h (.inr (.inr (.inl e))))
  have KU:(k==(10:Int))=false:=by simpa using (λe=>h (.inr (.inr (.inr e))))
  rw[h9,h12,Xb,KU];rfl
theorem H7 (p:aJ) (t:ByteArray) (hs:p.s.l.length<=4398046511104) (hf:p.f.l.length<=4398046511104) (H:aa):bZ prog 27 [p.av,aS t] (cY (ma p t)) H H []:=by
 have lf:∀a∈[p.av,aS t],LF a:=ao (.dO _) (ao (.sc _) bC);have hb:∀(f:ag) (b:Bool),(eb prog (cK []) (told prog [] [⟨10,0,i64 (cw p t)⟩,⟨23,0,.bq [.agg f.two,cY b]⟩]) [] 3 27 [p.av,aS t] []).via (ch)=bif aD prog 66 [p.av,aS t] [] (i64 (cw p t))then bif decide (cw p t<(0:Int))then some (cY false)else bif decide ((0:Int)<=cw p t/\cw p t<(p.s.l.length:Int))then bif aD prog 67 [p.av,aS (p.s.l.getD (cw p t).toNat default).home] [] (.bq [.agg f.two,cY b])then some (cY (f.rP.toList==p3T.toList))else none else none else none:=λf b=>Wp p t (cw p t) f b
 have cO:=uE p t;by_cases h0:cw p t<0
 ·have e:ma p t=false:=by unfold ma;rw[ag2 h0];rfl
  rw[e];exact gh mixed (au _) aF (ah (ah (hb uD true) (ak (zh p t hs []))) (bl h0)) rfl lf H
 ·have e:ma p t=(((fileOf p (p.s.l.getD (cw p t).toNat default).home).getD uD).rP.toList==p3T.toList):=by unfold ma;rw[ag8 h0];rfl
  rw[e];have hfc:=F0 p (p.s.l.getD (cw p t).toNat default).home hf [];rw[nr]at hfc;exact gh mixed (au _) aF (ah (ah (bO (ah (hb _ _) (ak (zh p t hs []))) (da h0)) (bl (by omega))) (ak hfc)) rfl lf H
theorem Ar {P:bg}{fs:jo}{lo:bX}{g:FuncId}{args:List AV}{x:AV}{F:Option (AV×aa×Bool)}{nj:List Nat}{n:Nat}(hl:bA prog lo) (h:(eb prog (cK []) lo nj n g args (P.H fs)).via xB=F) (hF:F=some (x,P.H fs,true)) (hx:ff 3 x=true):bZ prog g args x (P.H fs) (P.H fs) []:=by
 obtain⟨r1,YR,hg⟩:=cv h hF;have dC:=gQ mixed (au _) hl YR;simp only[xB,ahe]at hg;obtain⟨rfl,e,hw⟩:=hg;refine(kg dC e (gD P fs 3 (ag3 _)) hx).wr (λl hl cO=> ?_);have h3:=aht (ahq.1 hw l hl);have h4:l<3:=cO;omega
section
variable (P:bg) (l:List ag)
theorem Kl (t:ByteArray):bZ prog 63 [.ptr 0 0,aS t] (i64 (bif eC P.l t then(fE P.l t).kind else 0)) (P.H (gZ l)) (P.H (gZ l)) []:=by
 have hb:=Y9 P l t
 cases h:eC P.l t with
 |true=>exact Ar ab (ah hb h) rfl rfl
 |false=>exact Ar ab (bO hb h) rfl rfl
theorem Km (t:ByteArray):bZ prog 65 [.ptr 0 0,aS t] (aS (bif eC P.l t then(fE P.l t).home else aq)) (P.H (gZ l)) (P.H (gZ l)) []:=by
 have hb:=Za P l t
 cases h:eC P.l t with
 |true=>exact Ar ab (ah hb h) rfl rfl
 |false=>exact Ar ab (bO hb h) rfl rfl
theorem H8 {l:List ag}{i:Nat}(hi:i<l.length):aU l i=l[i]:=by
 unfold aU;simp[ag4,hi]
theorem Ep (t:ByteArray) (hn:l.length<=4398046511104):bZ prog 64 [.ptr 0 0,aS t] (aS (sX l t)) (P.H (gZ l)) (P.H (gZ l)) []:=by
 have hd:∀i:Nat,i<l.length->decide ((0:Int)<=(i:Int)/\(i:Int)<((gZ l).n:Int))=true:=λi hi=>bl ⟨by omega,by show (i:Int)<(l.length:Int);omega⟩
 have hl:=qY (P:=prog) (c:=ae f64 2) (λi=>T64 l t aq i) (λi=>T64 l t (rj (aU l i)).rP i) (P.H (gZ l)) (λ_=>P.H (gZ l)) [] (λi=>(rj (aU l i)).name.toList==t.toList) (.exit 0) (by simp) l.length (λi hi hc=>by
  have hb:=ah (ah (ah (Eo P l t i) (bl (by omega))) (hd i hi)) hc;exact ai mixed (au _) ab hb rfl (ag3 _) (by simp)) (λi hi hc=>by
  have hb:=bO (ah (ah (Eo P l t i) (bl (by omega))) (hd i hi)) hc;rw[wi (x:=(i:Int)+1) (by omega) (by omega)]at hb;exact ai mixed (au _) ab hb rfl (ag3 _) (by simp)) (by
  have hb:=bO (Eo P l t l.length) (da (by omega));exact ai mixed (au _) ab hb rfl (ag3 _) (by simp))
 have hg:∀i (hi:i<l.length),((rj (aU l i)).name.toList==t.toList)=((l[i]).name.toList==t.toList):=λi hi=>by
  rw[H8 hi];rfl
 rcases hl with ⟨h,fy⟩|⟨j,hj,hc,fy,h⟩
 ·have hb:=ah (Wq P l t l.length) (bc h);have he:sX l t=aq:=by
   unfold sX;have:l.find? (λf=>f.name.toList==t.toList)=none:=by
    rw[List.find?_eq_none];intro x hx;obtain⟨i,hi,rfl⟩:=ah0 hx;have:=fy i hi;rw[hg i hi]at this;simp[this]
   rw[this];rfl
  rw[he];exact Ar (ba ab) hb rfl rfl
 ·have hb:=ah (Th P l t (rj (aU l j)).rP j) (bc h);have he:sX l t=(rj (aU l j)).rP:=by
   unfold sX;have:l.find? (λf=>f.name.toList==t.toList)=some l[j]:=by
    rw[List.find?_eq_some_iff_getElem];refine⟨?_,j,hj,rfl,λi hi=> ?_⟩
    ·rw[←hg j hj];exact hc
    ·have:=fy i hi;rw[hg i (by omega)]at this;simp[this]
   rw[this,H8 hj];rfl
  rw[he];exact Ar (ba ab) hb rfl rfl
theorem H9 (t:ByteArray) (hn:l.length<=4398046511104) (hk:∀s∈P.l,s.kind≠0):bZ prog 26 [.ptr 0 0,aS t] (cY (kW P l t)) (P.H (gZ l)) (P.H (gZ l)) []:=by
 have hb:=Ws P l t (bif eC P.l t then(fE P.l t).home else aq) (sX l (bif eC P.l t then(fE P.l t).home else aq)) (bif eC P.l t then(fE P.l t).kind else 0);have hb:=ah hb (ak (Kl P l t));have h1:∀c:Bool,(bif c then(aD prog 65 [(.ptr 0 0),(.sc (.string (t)))] (P.H (gZ l)) (.sc (.string (bif eC P.l t then(fE P.l t).home else aq))))else true)=true:=λc=>by
  cases c with
  |true=>exact ak (Km P l t)
  |false=>rfl
 have h2:∀(c:Bool) (h:ByteArray),(bif c then(aD prog 64 [(.ptr 0 0),(.sc (.string h))] (P.H (gZ l)) (.sc (.string (sX l h))))else true)=true:=λc h=>by
  cases c with
  |true=>exact ak (Ep P l h hn)
  |false=>rfl
 have hb:=ah (ah hb (h1 _)) (h2 _ _);have e:(bif ((bif eC P.l t then(fE P.l t).kind else 0)!=(0:Int))then(sX l (bif eC P.l t then(fE P.l t).home else aq)).toList==p3T.toList else false)=kW P l t:=by
  unfold kW
  cases h:eC P.l t with
  |true=>
   have:((fE P.l t).kind !=(0:Int))=true:=by
    have:=hk _ (Mh h).1;simpa using this
   simp only[cond_true];rw[this];rfl
  |false=>rfl
 have hb:=hb.trans (congrArg (λb:Bool=>some (cY b,P.H (gZ l),true)) e);exact Ar aF hb rfl rfl
end
def Kn (e:Int) (r:ep):Bool:=bif (bif (e==(0:Int))then(r.num==(2:Int))else false)then(r.kd==(0:Int))else false
def Xp (e:Int) (b:Bool) (r:ep):Bool:=bif Kn e r then r.nn !=(0:Int)else b
def Wu (e:Int) (w:Bool) (r:ep):Bool:=bif Kn e r then true else w
def Ia (o:Option Bool) (r:ep):Option Bool:=bif Kn 0 r then some (r.nn !=(0:Int))else o
theorem Mj:∀(l:List ep) (b w:Bool),l.foldl Ia (bif w then some b else none)=bif l.foldl (Wu 0) w then some (l.foldl (Xp 0) b)else none
 |[],b,w=>rfl
 |r::l,b,w=>by
  rw[ah7,ah7,ah7,←Mj l];congr 1;unfold Ia Wu Xp;cases Kn 0 r<;>rfl
def Cv (d:aP) (l:List ep) (c:Bool):Bool:=bif (bif (d.label !=(3:Int))then true else !(A9 d.mg))then false else(l.foldl Ia none).getD c
theorem Zb (b:jh) (hb:b.l.length<=16777216) (dC:b.nl=true->b.l.length=0):∃(l:List ep) (z:Nat) (e:Int),l.length<=b.l.length/\(e≠0->l=[])/\(∀H,bZ prog 42 [b.av] (.bq [dd pV l,i64 z,i64 e]) H H [])/\∀H,bZ prog 69 [b.av] (.bq [dd sJ l,i64 z,i64 e]) H H []:=by
 obtain⟨l,z,e,h⟩:=Dk hb (LP b) b.l.length 0 (ag9 _) (by omega);have hl:=h.len;by_cases he:e=0
 ·subst he;refine⟨l,0,0,by omega,λh=>absurd rfl h,λH=> ?_,λH=> ?_⟩
  ·have:=(rR hb h (nl:=b.nl) H).fR (.cons (rZ b) .nil);unfold ku at this;rw[if_pos rfl]at this;exact this
  ·have:=(BL dC hb h H).fR (.cons (rZ b) .nil);unfold ku at this;rw[if_pos rfl]at this;exact this
 ·refine⟨[],z,e,ag9 _,λ_=>rfl,λH=> ?_,λH=> ?_⟩
  ·have:=(rR hb h (nl:=b.nl) H).fR (.cons (rZ b) .nil);unfold ku at this;rw[if_neg he]at this;exact this.eB (.bq (.cons (ev.aY (λi hi=>absurd hi (ahg _))) (.refl _)))
  ·have:=(BL dC hb h H).fR (.cons (rZ b) .nil);unfold ku at this;rw[if_neg he]at this;exact this.eB (.bq (.cons (ev.aY (λi hi=>absurd hi (ahg _))) (.refl _)))
theorem tK {β:Type}(f:β->ep->β) (b:β) (l:List ep) (i:Nat) (hi:i<l.length):(l.take (i+1)).foldl f b=f ((l.take i).foldl f b) (l.getD i qn):=by
 rw[List.take_succ_eq_append_getElem hi,List.foldl_append];simp[ag4,hi]
theorem Ko (p:aJ) (t:ByteArray) (d:aP) (l:List ep) (z:Nat) (e:Int) (hs:p.s.l.length<=4398046511104) (hf:p.f.l.length<=4398046511104) (hl:l.length<=16777216) (he:e≠0->l=[]) (hr:∀H,bZ prog 42 [d.opts.av] (.bq [dd pV l,i64 z,i64 e]) H H []) (H:aa):
  bZ prog 29 [p.av,aS t,.agg d.cells] (cY (Cv d l (ma p t))) H H []:=by
 have lf:∀a∈[p.av,aS t,.agg d.cells],LF a:=ao (.dO _) (ao (.sc _) (ao (.agg _ (Dx d)) bC));have Iu:=dR (P:=prog) (c:=ae f29 6) (λi=>T29 p t e ((l.take i).foldl (Xp e) false) ((l.take i).foldl (Wu e) false) l i) (λ_=>[.cells d.cells]) [] (.exit 0) (by simp) l.length (λi hi=>by
  have hb:=ah (ah (Mi p d t e ((l.take i).foldl (Xp e) false) ((l.take i).foldl (Wu e) false) l i) (bl (by omega))) (bl (by omega));rw[wi (x:=(i:Int)+1) (by omega) (by omega)]at hb;rw[tK (Xp e) false l i hi,tK (Wu e) false l i hi];exact ai mixed (au _) ab hb rfl (ag3 _) (by simp)) (by
  have hb:=bO (Mi p d t e ((l.take l.length).foldl (Xp e) false) ((l.take l.length).foldl (Wu e) false) l l.length) (da (by omega));exact ai mixed (au _) ab hb rfl (ag3 _) (by simp))
 simp only[ahR]at Iu;have hb:=Wt p d t e z (l.foldl (Xp e) false) (l.foldl (Wu e) false) (A9 d.mg) (ma p t) l l.length;have h1:(bif (d.label !=(3:Int))then true else(aD prog 48 [(.sc (.int .i64 (d.mg)))] [] (.sc (.bool (A9 d.mg)))))=true:=by
  cases d.label !=(3:Int)with
  |true=>rfl
  |false=>exact ak (OA d.mg [])
 have hb:=ah hb h1;unfold Cv;cases hc:(bif (d.label !=(3:Int))then true else !(A9 d.mg))with
 |true=>exact gh mixed (au _) (ba aF) (ah hb hc) rfl lf H
 |false=>
  have hb:=ah (ah (bO hb hc) (ak (hr []))) (bc Iu);have e2:l.foldl Ia none=bif l.foldl (Wu e) false then some (l.foldl (Xp e) false)else none:=by
   by_cases h0:e=0
   ·subst h0;exact Mj l false false
   ·rw[he h0];rfl
  rw[e2]
  cases hw:l.foldl (Wu e) false with
  |true=>exact gh mixed (au _) (ba aF) (ah hb hw) rfl lf H
  |false=>exact gh mixed (au _) (ba aF) (ah (bO hb hw) (ak (H7 p t hs hf []))) rfl lf H
def OB (nl:Bool) (l:List az) (a d e i:Int):List AV:=bz 59 [(1,i64 a),(2,i64 d),(6,i64 e),(11,fL nl l),(12,i64 l.length),(13,i64 i)]
def T50 (r:aX ag) (b:Bool) (i:Int):List AV:=bz 18 [(2,cY b),(8,r.av 11 ag.two),(9,i64 r.l.length),(10,i64 i)]
def HV (P:bg) (l:List ag) (d:aP):aa:=[.cells d.cells,.cells [.cU 2,.cU 3,(gZ l).av],.ez (eC P.l) (nG P.l),.rows P.x none]
theorem Ib (nl:Bool) (l:List az) (a d k:Int) (i:Nat):((db prog (cK []) (told prog [] [⟨56,0,i64 k⟩]) [] 3 (ae f180 4) (OB nl l a d 0 i) [])).via ((cz [1,2,6,11,12,13] [] 0))=bif (decide ((i:Int)<(l.length:Int)))then bif (decide (0<=(i:Int)/\(i:Int)<(l.length:Int)))then bif (bif (decide (IntKind.i64.wrap (a+(1:Int))>100))then true else(decide (IntKind.i64.wrap (IntKind.i64.wrap (IntKind.i64.wrap (IntKind.i64.wrap (IntKind.i64.wrap (IntKind.i64.wrap (((l.getD i default).af.l.length:Int)+((l.getD i default).exts.l.length:Int))+((l.getD i default).aQ.l.length:Int))+((l.getD i default).aI.l.length:Int))+((l.getD i default).bB.l.length:Int))+((l.getD i default).bp.l.length:Int))+((l.getD i default).bY.l.length:Int))>100)))then some (⟨.ret,(bz 59 [(1,(i64 (IntKind.i64.wrap (a+(1:Int))))),(2,(i64 (d))),(6,(.sc (.int .i64 1000))),(11,(fL nl l)),(12,(i64 ((l.length:Int)))),(13,(i64 ((i:Int))))]),[],[],true⟩)else bif (aD prog 180 [(.aY ((l.getD i default).mN) 11 ((l.getD i default).aC.length) (λjg=>(az.mE (l.getD i default).aC).getD jg []) .dA),(i64 (IntKind.i64.wrap (a+(1:Int)))),(i64 (IntKind.i64.wrap (d+(1:Int))))] [] (i64 (k)))then some (⟨.normal,(bz 59 [(1,(i64 (k))),(2,(i64 (d))),(6,(.sc (.int .i64 0))),(11,(fL nl l)),(12,(i64 ((l.length:Int)))),(13,(i64 (IntKind.i64.wrap ((i:Int)+(1:Int)))))]),[],[],true⟩)else none else none else some (⟨(.exit 0),(bz 59 [(1,(i64 (a))),(2,(i64 (d))),(6,(.sc (.int .i64 0))),(11,(fL nl l)),(12,(i64 ((l.length:Int)))),(13,(i64 ((i:Int))))]),[],[],true⟩):=by kernel_rfl
theorem Ic (nl:Bool) (l:List az) (a b d i:Int):(eb prog (cK []) (cJ prog [⟨4,[1,2,6,11,12,13],.exit 0,OB nl l b d 0 i,[],[]⟩] aN) [] 3 180 [fL nl l,i64 a,i64 d] []).via (ch)=bif (decide (d>70))then some ((.sc (.int .i64 1000)))else bif (cj prog (ae f180 4) (bz 59 [(1,(i64 (a))),(2,(i64 (d))),(6,(.sc (.int .i64 0))),(11,(fL nl l)),(12,(i64 ((l.length:Int)))),(13,(.sc (.int .i64 0)))]) [] (.exit 0) (bz 59 [(1,(i64 (b))),(2,(i64 (d))),(6,(.sc (.int .i64 0))),(11,(fL nl l)),(12,(i64 ((l.length:Int)))),(13,(i64 (i)))]) [] [])then some ((i64 (b)))else none:=by kernel_rfl
theorem OC (nl:Bool) (l:List az) (a b d i:Int):(eb prog (cK []) (cJ prog [⟨4,[1,2,6,11,12,13],.ret,OB nl l b d 1000 i,[],[]⟩] aN) [] 3 180 [fL nl l,i64 a,i64 d] []).via (ch)=bif (decide (d>70))then some ((.sc (.int .i64 1000)))else bif (cj prog (ae f180 4) (bz 59 [(1,(i64 (a))),(2,(i64 (d))),(6,(.sc (.int .i64 0))),(11,(fL nl l)),(12,(i64 ((l.length:Int)))),(13,(.sc (.int .i64 0)))]) [] .ret (bz 59 [(1,(i64 (b))),(2,(i64 (d))),(6,(.sc (.int .i64 1000))),(11,(fL nl l)),(12,(i64 ((l.length:Int)))),(13,(i64 (i)))]) [] [])then some ((.sc (.int .i64 1000)))else none:=by kernel_rfl
theorem Zc (f:ag) (k:Int):(eb prog (cK []) (told prog [] [⟨34,0,i64 k⟩]) [] 3 107 [.agg f.two] []).via (ch)=bif (bif (bif (bif (bif (bif (decide ((f.cm.l.length:Int)<=20))then(decide ((f.ey.l.length:Int)<=20))else false)then(decide ((f.aQ.l.length:Int)<=20))else false)then(decide ((f.aL.l.length:Int)<=20))else false)then(decide ((f.exts.l.length:Int)<=40))else false)then(aD prog 180 [(.aY (f.ay.nl) 11 (f.ay.l.length) (λi=>(f.ay.l.getD i default).one) .dA),(.sc (.int .i64 0)),(.sc (.int .i64 0))] [] (i64 (k)))else true)then some ((cY (bif (bif (bif (bif (bif (decide ((f.cm.l.length:Int)<=20))then(decide ((f.ey.l.length:Int)<=20))else false)then(decide ((f.aQ.l.length:Int)<=20))else false)then(decide ((f.aL.l.length:Int)<=20))else false)then(decide ((f.exts.l.length:Int)<=40))else false)then(decide (k<=100))else false)))else none:=by kernel_rfl
theorem Ml (r:aX ag) (i:Nat) (c:Bool):((db prog (cK []) (told prog [] [⟨15,0,cY c⟩]) [] 3 (ae f50 4) (T50 r false i) [])).via ((cz [2,8,9,10] [] 0))=bif (decide ((i:Int)<(r.l.length:Int)))then bif (decide (0<=(i:Int)/\(i:Int)<(r.l.length:Int)))then bif (aD prog 107 [(.agg [(aS ((r.l.getD i default).name)),(aS ((r.l.getD i default).cG)),(.aY ((r.l.getD i default).cm.nl) 1 ((r.l.getD i default).cm.l.length) (λjg=>[AV.sc (Value.string ((r.l.getD i default).cm.l.getD jg aq))]) .dA),(.aY ((r.l.getD i default).ey.nl) 1 ((r.l.getD i default).ey.l.length) (λjg=>[AV.sc (Value.int IntKind.i64 ((r.l.getD i default).ey.l.getD jg (0:Int)))]) .dA),(.aY ((r.l.getD i default).ay.nl) 11 ((r.l.getD i default).ay.l.length) (λjg=>((r.l.getD i default).ay.l.getD jg default).one) .dA),(.aY ((r.l.getD i default).aQ.nl) 4 ((r.l.getD i default).aQ.l.length) (λjg=>((r.l.getD i default).aQ.l.getD jg default).cells) .dA),(.aY ((r.l.getD i default).aL.nl) 4 ((r.l.getD i default).aL.l.length) (λjg=>((r.l.getD i default).aL.l.getD jg default).cells) .dA),(.aY ((r.l.getD i default).exts.nl) 13 ((r.l.getD i default).exts.l.length) (λjg=>((r.l.getD i default).exts.l.getD jg default).cells) .dA),(aS ((r.l.getD i default).rP)),(.aY ((r.l.getD i default).opts.nl) 1 ((r.l.getD i default).opts.l.length) (λjg=>(List.map dy (r.l.getD i default).opts.l).getD jg []) .dA),(.aY ((r.l.getD i default).dE.nl) 1 ((r.l.getD i default).dE.l.length) (λjg=>(List.map dy (r.l.getD i default).dE.l).getD jg []) .dA)])] [] (cY (c)))then bif (!c)then some (⟨.ret,(bz 18 [(2,(.sc (.bool false))),(8,(r.av 11 ag.two)),(9,(i64 ((r.l.length:Int)))),(10,(i64 ((i:Int))))]),[],[],true⟩)else some (⟨.normal,(bz 18 [(2,(.sc (.bool false))),(8,(r.av 11 ag.two)),(9,(i64 ((r.l.length:Int)))),(10,(i64 (IntKind.i64.wrap ((i:Int)+(1:Int)))))]),[],[],true⟩)else none else none else some (⟨(.exit 0),(bz 18 [(2,(.sc (.bool false))),(8,(r.av 11 ag.two)),(9,(i64 ((r.l.length:Int)))),(10,(i64 ((i:Int))))]),[],[],true⟩):=by kernel_rfl
theorem Mm (r:aX ag) (i:Int):(eb prog (cK []) (cJ prog [⟨4,[2,8,9,10],.exit 0,T50 r false i,[],[]⟩] aN) [] 3 50 [r.av 11 ag.two] []).via (ch)=bif (decide ((r.l.length:Int)>10))then some ((.sc (.bool false)))else bif (cj prog (ae f50 4) (bz 18 [(2,(.sc (.bool false))),(8,(r.av 11 ag.two)),(9,(i64 ((r.l.length:Int)))),(10,(.sc (.int .i64 0)))]) [] (.exit 0) (bz 18 [(2,(.sc (.bool false))),(8,(r.av 11 ag.two)),(9,(i64 ((r.l.length:Int)))),(10,(i64 (i)))]) [] [])then some ((.sc (.bool true)))else none:=by kernel_rfl
theorem Ti (r:aX ag) (i:Int):(eb prog (cK []) (cJ prog [⟨4,[2,8,9,10],.ret,T50 r false i,[],[]⟩] aN) [] 3 50 [r.av 11 ag.two] []).via (ch)=bif (decide ((r.l.length:Int)>10))then some ((.sc (.bool false)))else bif (cj prog (ae f50 4) (bz 18 [(2,(.sc (.bool false))),(8,(r.av 11 ag.two)),(9,(i64 ((r.l.length:Int)))),(10,(.sc (.int .i64 0)))]) [] .ret (bz 18 [(2,(.sc (.bool false))),(8,(r.av 11 ag.two)),(9,(i64 ((r.l.length:Int)))),(10,(i64 (i)))]) [] [])then some ((.sc (.bool false)))else none:=by kernel_rfl
theorem Ie (r:aX ag) (b:Bool) (t1 t2 t3:ByteArray) (a1 k1 k2 k3:Int):(eb prog (cK []) (told prog [] [⟨15,0,cY b⟩,⟨19,0,.bq [aS t1,i64 a1,i64 k1]⟩,⟨25,0,.bq [gB,aS t2,i64 k2]⟩,⟨31,0,.bq [gB,aS t3,i64 k3]⟩]) [] 3 18 [r.av 11 ag.two] []).via (ch)=bif (aD prog 50 [(r.av 11 ag.two)] [] (cY (b)))then bif (!b)then some ((.bq [(.sc (.pointer .none)),(.sc (.pointer .none)),(.sc (.bool false))]))else bif (aD prog 51 [(r.av 11 ag.two)] [] (.bq [(aS (t1)),(i64 (a1)),(i64 (k1))]))then bif (aD prog 52 [(r.av 11 ag.two)] [] (.bq [(.sc (.pointer .none)),(aS (t2)),(i64 (k2))]))then bif (aD prog 44 [(r.av 11 ag.two)] [] (.bq [(.sc (.pointer .none)),(aS (t3)),(i64 (k3))]))then some ((.bq [(.sc (.pointer .none)),(.sc (.pointer .none)),(cY (bif (bif (k1==0)then false else false)then false else false))]))else none else none else none else none:=by kernel_rfl
theorem Tj (r:aX ag) (b:Bool) (q:aJ) (t1 t2 t3:ByteArray) (a1 k1 k2 k3:Int):(eb prog (cK []) (told prog [] [⟨15,0,cY b⟩,⟨19,0,.bq [aS t1,i64 a1,i64 k1]⟩,⟨25,0,.bq [q.av,aS t2,i64 k2]⟩,⟨31,0,.bq [gB,aS t3,i64 k3]⟩]) [] 3 18 [r.av 11 ag.two] []).via (ch)=bif (aD prog 50 [(r.av 11 ag.two)] [] (cY (b)))then bif (!b)then some ((.bq [(.sc (.pointer .none)),(.sc (.pointer .none)),(.sc (.bool false))]))else bif (aD prog 51 [(r.av 11 ag.two)] [] (.bq [(aS (t1)),(i64 (a1)),(i64 (k1))]))then bif (aD prog 52 [(r.av 11 ag.two)] [] (.bq [(q.av),(aS (t2)),(i64 (k2))]))then bif (aD prog 44 [(r.av 11 ag.two)] [] (.bq [(.sc (.pointer .none)),(aS (t3)),(i64 (k3))]))then some ((.bq [(.sc (.pointer .none)),(q.av),(cY (bif (bif (k1==0)then false else false)then true else false))]))else none else none else none else none:=by kernel_rfl
theorem Tl (r:aX ag) (P:bg) (t1 t2:ByteArray) (a1 k1 k2:Int):(eb prog (cK []) (eV prog [⟨31,.bq [.ptr 0 0,aS aq,i64 0],P.H (gZ r.l),[]⟩] (told prog [] [⟨15,0,cY true⟩,⟨19,0,.bq [aS t1,i64 a1,i64 k1]⟩,⟨25,0,.bq [gB,aS t2,i64 k2]⟩])) [] 3 18 [r.av 11 ag.two] []).via ((λr:AV×aa×List Nat=>(r.1,r.2.1)))=bif (aD prog 50 [(r.av 11 ag.two)] [] (.sc (.bool true)))then bif (aD prog 51 [(r.av 11 ag.two)] [] (.bq [(aS (t1)),(i64 (a1)),(i64 (k1))]))then bif (aD prog 52 [(r.av 11 ag.two)] [] (.bq [(.sc (.pointer .none)),(aS (t2)),(i64 (k2))]))then bif (cW prog 44 [(r.av 11 ag.two)] [] (.bq [(.ptr 0 0),(.sc (.string aq)),(.sc (.int .i64 0))]) (P.H (gZ r.l)) [])then some (((.bq [(.ptr 0 0),(.sc (.pointer .none)),(cY (bif (bif (k1==0)then true else false)then false else false))]),(P.H (gZ r.l))))else none else none else none else none:=by kernel_rfl
theorem Wv (r:aX ag) (P:bg) (q:aJ) (t1 t2:ByteArray) (a1 k1 k2:Int):(eb prog (cK []) (eV prog [⟨31,.bq [.ptr 0 0,aS aq,i64 0],P.H (gZ r.l),[]⟩] (told prog [] [⟨15,0,cY true⟩,⟨19,0,.bq [aS t1,i64 a1,i64 k1]⟩,⟨25,0,.bq [q.av,aS t2,i64 k2]⟩])) [] 3 18 [r.av 11 ag.two] []).via ((λr:AV×aa×List Nat=>(r.1,r.2.1)))=bif (aD prog 50 [(r.av 11 ag.two)] [] (.sc (.bool true)))then bif (aD prog 51 [(r.av 11 ag.two)] [] (.bq [(aS (t1)),(i64 (a1)),(i64 (k1))]))then bif (aD prog 52 [(r.av 11 ag.two)] [] (.bq [(q.av),(aS (t2)),(i64 (k2))]))then bif (cW prog 44 [(r.av 11 ag.two)] [] (.bq [(.ptr 0 0),(.sc (.string aq)),(.sc (.int .i64 0))]) (P.H (gZ r.l)) [])then some (((.bq [(.ptr 0 0),(q.av),(cY (bif (bif (k1==0)then true else false)then true else false))]),(P.H (gZ r.l))))else none else none else none else none:=by kernel_rfl
theorem Ww (r:aX ag) (P:bg) (l:List ag) (q:aJ) (full:ByteArray) (d:aP) (c1 c2:Bool):(eb prog (cK []) (eV prog [⟨14,.bq [.ptr 1 0,q.av,cY true],HV P l d,[]⟩] (told prog [] [⟨10,0,cY true⟩,⟨35,4,cY c1⟩,⟨39,0,cY c2⟩])) [] 3 6 [r.av 11 ag.two,aS full,.agg d.cells] []).via (ch)=bif (aD prog 14 [] [] (.sc (.bool true)))then bif (cW prog 18 [(r.av 11 ag.two)] [(.cells [(aS (d.name)),(i64 (d.cc)),(i64 (d.label)),(i64 (d.mg)),(aS (d.eA)),(aS (d.cp)),(aS (d.pg)),(cY (d.has)),(i64 (d.lN)),(aS (d.json)),(cY (d.optional)),(.aY (d.opts.nl) 1 (d.opts.l.length) (λi=>(List.map dy d.opts.l).getD i []) .dA),(.aY (d.dE.nl) 1 (d.dE.l.length) (λi=>(List.map dy d.dE.l).getD i []) .dA)])] (.bq [(.ptr 1 0),(q.av),(.sc (.bool true))]) (HV P l d) [])then bif (decide ((full.size:Int)>500))then some ((.sc (.bool true)))else bif (decide ((d.opts.l.length:Int)>500))then some ((.sc (.bool true)))else bif (aD prog 28 [(.ptr 1 0),(aS (full)),(.agg [(aS (d.name)),(i64 (d.cc)),(i64 (d.label)),(i64 (d.mg)),(aS (d.eA)),(aS (d.cp)),(aS (d.pg)),(cY (d.has)),(i64 (d.lN)),(aS (d.json)),(cY (d.optional)),(.aY (d.opts.nl) 1 (d.opts.l.length) (λi=>(List.map dy d.opts.l).getD i []) .dA),(.aY (d.dE.nl) 1 (d.dE.l.length) (λi=>(List.map dy d.dE.l).getD i []) .dA)])] (HV P l d) (cY (c1)))then bif (aD prog 29 [(q.av),(aS (full)),(.agg [(aS (d.name)),(i64 (d.cc)),(i64 (d.label)),(i64 (d.mg)),(aS (d.eA)),(aS (d.cp)),(aS (d.pg)),(cY (d.has)),(i64 (d.lN)),(aS (d.json)),(cY (d.optional)),(.aY (d.opts.nl) 1 (d.opts.l.length) (λi=>(List.map dy d.opts.l).getD i []) .dA),(.aY (d.dE.nl) 1 (d.dE.l.length) (λi=>(List.map dy d.dE.l).getD i []) .dA)])] [] (cY (c2)))then some ((cY (c1==c2)))else none else none else none else none:=by kernel_rfl
theorem Tm (r:aX ag) (P:bg) (l:List ag) (y:AV) (full:ByteArray) (d:aP):(eb prog (cK []) (eV prog [⟨14,.bq [.ptr 1 0,y,cY false],HV P l d,[]⟩] (told prog [] [⟨10,0,cY true⟩,⟨35,4,cY false⟩,⟨39,0,cY false⟩])) [] 3 6 [r.av 11 ag.two,aS full,.agg d.cells] []).via (ch)=bif (aD prog 14 [] [] (.sc (.bool true)))then bif (cW prog 18 [(r.av 11 ag.two)] [(.cells [(aS (d.name)),(i64 (d.cc)),(i64 (d.label)),(i64 (d.mg)),(aS (d.eA)),(aS (d.cp)),(aS (d.pg)),(cY (d.has)),(i64 (d.lN)),(aS (d.json)),(cY (d.optional)),(.aY (d.opts.nl) 1 (d.opts.l.length) (λi=>(List.map dy d.opts.l).getD i []) .dA),(.aY (d.dE.nl) 1 (d.dE.l.length) (λi=>(List.map dy d.dE.l).getD i []) .dA)])] (.bq [(.ptr 1 0),(y),(.sc (.bool false))]) (HV P l d) [])then some ((.sc (.bool true)))else none else none:=by kernel_rfl
theorem Tn (r:aX ag) (y:AV) (full:ByteArray) (d:aP):(eb prog (cK []) (eV prog [⟨14,.bq [gB,y,cY false],[.cells d.cells],[]⟩] (told prog [] [⟨10,0,cY true⟩,⟨35,1,cY false⟩,⟨39,0,cY false⟩])) [] 3 6 [r.av 11 ag.two,aS full,.agg d.cells] []).via (ch)=bif (aD prog 14 [] [] (.sc (.bool true)))then bif (cW prog 18 [(r.av 11 ag.two)] [(.cells [(aS (d.name)),(i64 (d.cc)),(i64 (d.label)),(i64 (d.mg)),(aS (d.eA)),(aS (d.cp)),(aS (d.pg)),(cY (d.has)),(i64 (d.lN)),(aS (d.json)),(cY (d.optional)),(.aY (d.opts.nl) 1 (d.opts.l.length) (λi=>(List.map dy d.opts.l).getD i []) .dA),(.aY (d.dE.nl) 1 (d.dE.l.length) (λi=>(List.map dy d.dE.l).getD i []) .dA)])] (.bq [(.sc (.pointer .none)),(y),(.sc (.bool false))]) [(.cells [(aS (d.name)),(i64 (d.cc)),(i64 (d.label)),(i64 (d.mg)),(aS (d.eA)),(aS (d.cp)),(aS (d.pg)),(cY (d.has)),(i64 (d.lN)),(aS (d.json)),(cY (d.optional)),(.aY (d.opts.nl) 1 (d.opts.l.length) (λi=>(List.map dy d.opts.l).getD i []) .dA),(.aY (d.dE.nl) 1 (d.dE.l.length) (λi=>(List.map dy d.dE.l).getD i []) .dA)])] [])then some ((.sc (.bool true)))else none else none:=by kernel_rfl
end Go.Proofs.YtiipaliigpkfhaaGreat.Ab
