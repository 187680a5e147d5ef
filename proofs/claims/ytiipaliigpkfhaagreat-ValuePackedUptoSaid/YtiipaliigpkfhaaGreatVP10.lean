/- Lemmas 10. -/
import Derived.Test.YtiipaliigpkfhaaGreatVP6
import Derived.Test.YtiipaliigpkfhaaGreatVP8
import Derived.Test.YtiipaliigpkfhaaGreatVP9
set_option maxRecDepth 100000
namespace Go.Proofs.YtiipaliigpkfhaaGreat.Ab
open Go Go.RowKit Go.Proofs Go.Proofs.Tryz
def xW (sz:Nat) (el:Nat->List AV):Nat->AV
 |0=>aR
 |i+1=> .aY false sz (i+1) el (.tok 1)
def wK (sz:Nat):Nat->aa
 |0=>[]
 |i+1=>[.dead,.tail (i+1) sz]
theorem row_one {sz:Nat}{c:List AV}(hc:c.length=sz):rowOf sz c 0=c:=by simp[rowOf,←hc]
theorem lp {sz:Nat}{c:List AV}{el:Nat->List AV}(h:el 0=c) (hc:c.length=sz):ev (.aY false sz 1 (bI 0 (λ_=>[]) (rowOf sz c)) (.tok 1)) (.aY false sz 1 el (.tok 1)):=
 ev.aY (λi hi=>by
  have:i=0:=by omega
  subst this;rw[h];exact row_one hc)
theorem lq {sz n:Nat}{c:List AV}{el:Nat->List AV}(h:el n=c) (hc:c.length=sz):ev (.aY false sz (n+1) (bI n el (rowOf sz c)) (.tok 1)) (.aY false sz (n+1) el (.tok 1)):=
 ev.aY (λi hi=>by
  unfold bI;by_cases XE:i<n
  ·rw[if_pos XE]
  ·have:i=n:=by omega
   subst this;rw[if_neg XE,h,ahX];exact row_one hc)
theorem Q7 {sz n:Nat}{el Io:Nat->List AV}(h:∀i,i<n->el i=Io i):ev (xW sz el n) (.aY (n==0) sz n Io .dA):=by
 match n,h with
 |0,_=>exact fc
 |n+1,h=>exact ev.row h
theorem gJ {cs:List AV}(h:∀x∈cs,LF x):LF (.agg cs):= .agg _ h
theorem wL (f:FuncId):LF (.fn (.func f) [] []):= .fn _ _ _ (λx hx=>by simp at hx) (λx hx=>by simp at hx)
theorem bQ {nl:Bool}{sz n:Nat}{el:Nat->List AV}:LF (.aY nl sz n el .dA):= .aY _ _ _ _ _ (by simp)
def aX.cl {α:Type}(r:aX α) (c:α->α):aX α:=⟨r.l.isEmpty,r.l.map c⟩
theorem aX.zt {α:Type} [Inhabited α] (r:aX α) (c:α->α) (sz:Nat) (f:α->List AV):ev (xW sz (λi=>f (c (r.l.getD i default))) r.l.length) ((r.cl c).av sz f):=by
 have e:(r.cl c).av sz f= .aY (r.l.length==0) sz r.l.length (λi=>f ((r.l.map c).getD i default)) .dA:=by
  unfold aX.av aX.cl;have:r.l.isEmpty=(r.l.length==0):=by cases r.l<;>rfl
  rw[this,air]
 rw[e];exact Q7 (λi hi=>by simp[ag4,hi])
theorem AU (b:jh):(eb prog (cK []) aN [] 3 127 [b.av] []).via ch=
  bif b.nl then some aR else bif decide (b.l.length=0)then some (.aY false 1 0 (rowOf 1 []) .tight)else bif decide ((0+b.l.length)*1<=70368744177664/\0+b.l.length<4611686018427387904)then some (.aY false 1 (0+b.l.length) (bI 0 (rowOf 1 []) (λi=>(b.l.map dy).getD i [])) (.tok 0))else none:=by kernel_rfl
theorem dF (b:jh) (h:b.l.length<=1099511627776) (hn:b.nl=true->b.l.length=0) (H:aa):bZ prog 127 [b.av] (b.av) H H []:=by
 have lf:∀a∈[b.av],LF a:=ao bQ bC;have hb:=AU b;obtain⟨nl,l⟩:=b
 cases nl with
 |true=>
  have:l=[]:=aid (hn rfl);subst this;exact bG mixed (au _) ab hb rfl fc bQ lf H
 |false=>
  cases l with
  |nil=>exact bG mixed (au _) ab hb rfl (ev.row (λi hi=>absurd hi (ahg _))) bQ lf H
  |cons x r=>
   dsimp only at h ⊢;simp only at hb;rw[ag8 (by simp),ag2 (by constructor<;>omega)]at hb;refine bG mixed (au _) ab hb rfl ?_ bQ lf H;rw[ahF];exact ev.row (λi hi=>by simp[bI])
theorem AW (b:bD):(eb prog (cK []) aN [] 3 161 [b.av] []).via ch=
  bif b.nl then some aR else bif decide (b.l.length=0)then some (.aY false 1 0 (rowOf 1 []) .tight)else bif decide ((0+b.l.length)*16<=70368744177664/\0+b.l.length<4611686018427387904)then some (.aY false 1 (0+b.l.length) (bI 0 (rowOf 1 []) (λi=>[.sc (.string (b.l.getD i ⟨#[]⟩))])) (.tok 0))else none:=by kernel_rfl
theorem uT (b:bD) (h:b.l.length<=1099511627776) (hn:b.nl=true->b.l.length=0) (H:aa):bZ prog 161 [b.av] (b.av) H H []:=by
 have lf:∀a∈[b.av],LF a:=ao bQ bC;have hb:=AW b;obtain⟨nl,l⟩:=b
 cases nl with
 |true=>
  have:l=[]:=aid (hn rfl);subst this;exact bG mixed (au _) ab hb rfl fc bQ lf H
 |false=>
  cases l with
  |nil=>exact bG mixed (au _) ab hb rfl (ev.row (λi hi=>absurd hi (ahg _))) bQ lf H
  |cons x r=>
   dsimp only at h ⊢;simp only at hb;rw[ag8 (by simp),ag2 (by constructor<;>omega)]at hb;refine bG mixed (au _) ab hb rfl ?_ bQ lf H;rw[ahF];exact ev.row (λi hi=>by simp[bI])
theorem AX (b:nZ):(eb prog (cK []) aN [] 3 162 [b.av] []).via ch=
  bif b.nl then some aR else bif decide (b.l.length=0)then some (.aY false 1 0 (rowOf 1 []) .tight)else bif decide ((0+b.l.length)*8<=70368744177664/\0+b.l.length<4611686018427387904)then some (.aY false 1 (0+b.l.length) (bI 0 (rowOf 1 []) (λi=>[.sc (.int .i64 (b.l.getD i 0))])) (.tok 0))else none:=by kernel_rfl
theorem DJ (b:nZ) (h:b.l.length<=1099511627776) (hn:b.nl=true->b.l.length=0) (H:aa):bZ prog 162 [b.av] (b.av) H H []:=by
 have lf:∀a∈[b.av],LF a:=ao bQ bC;have hb:=AX b;obtain⟨nl,l⟩:=b
 cases nl with
 |true=>
  have:l=[]:=aid (hn rfl);subst this;exact bG mixed (au _) ab hb rfl fc bQ lf H
 |false=>
  cases l with
  |nil=>exact bG mixed (au _) ab hb rfl (ev.row (λi hi=>absurd hi (ahg _))) bQ lf H
  |cons x r=>
   dsimp only at h ⊢;simp only at hb;rw[ag8 (by simp),ag2 (by constructor<;>omega)]at hb;refine bG mixed (au _) ab hb rfl ?_ bQ lf H;rw[ahF];exact ev.row (λi hi=>by simp[bI])
theorem AY (b:aX dY):(eb prog (cK []) aN [] 3 234 [b.av 2 dY.cells] []).via ch=
  bif b.nl then some aR else bif decide (b.l.length=0)then some (.aY false 2 0 (rowOf 2 []) .tight)else bif decide ((0+b.l.length)*16<=70368744177664/\0+b.l.length<4611686018427387904)then some (.aY false 2 (0+b.l.length) (bI 0 (rowOf 2 []) (λi=>(b.l.getD i default).cells)) (.tok 0))else none:=by kernel_rfl
theorem uU (b:aX dY) (h:b.l.length<=1099511627776) (hn:b.nl=true->b.l.length=0) (H:aa):bZ prog 234 [b.av 2 dY.cells] (b.av 2 dY.cells) H H []:=by
 have lf:∀a∈[b.av 2 dY.cells],LF a:=ao bQ bC;have hb:=AY b;obtain⟨nl,l⟩:=b
 cases nl with
 |true=>
  have:l=[]:=aid (hn rfl);subst this;exact bG mixed (au _) ab hb rfl fc bQ lf H
 |false=>
  cases l with
  |nil=>exact bG mixed (au _) ab hb rfl (ev.row (λi hi=>absurd hi (ahg _))) bQ lf H
  |cons x r=>
   dsimp only at h ⊢;simp only at hb;rw[ag8 (by simp),ag2 (by constructor<;>omega)]at hb;refine bG mixed (au _) ab hb rfl ?_ bQ lf H;rw[ahF];exact ev.row (λi hi=>by simp[bI])
def aP.DK (d:aP):Prop:=(d.opts.nl=true->d.opts.l.length=0)/\(d.dE.nl=true->d.dE.l.length=0)
def cF.DK (d:cF):Prop:=(d.opts.nl=true->d.opts.l.length=0)/\(d.dE.nl=true->d.dE.l.length=0)
def eT.DK (d:eT):Prop:=(d.opts.nl=true->d.opts.l.length=0)/\(d.dE.nl=true->d.dE.l.length=0)
def cM.DK (d:cM):Prop:=(d.opts.nl=true->d.opts.l.length=0)/\(d.dE.nl=true->d.dE.l.length=0)
theorem iF (b:jh):LF b.av:=bQ
theorem Gf (d:aP):(eb prog (cK []) (told prog [] [⟨5,0,d.opts.av⟩,⟨8,0,d.dE.av⟩]) [] 3 57 [.agg d.cells] []).via ch=
  bif aD prog 127 [d.opts.av] [] d.opts.av then bif aD prog 127 [d.dE.av] [] d.dE.av then some (.agg d.cells)else none else none:=by kernel_rfl
theorem uV (d:aP):∀x∈d.cells,LF x:=ao (.sc _) (ao (.sc _) (ao (.sc _) (ao (.sc _) (ao (.sc _) (ao (.sc _) (ao (.sc _) (ao (.sc _) (ao (.sc _) (ao (.sc _) (ao (.sc _) (ao (iF _) (ao (iF _) (bC)))))))))))))
theorem tE (d:aP) (h:d.sz<=bL) (hn:d.DK) (H:aa):bZ prog 57 [.agg d.cells] (.agg d.cells) H H []:=by
 have hb:=Gf d;unfold aP.sz jh.sz bL at h;rw[ak (dF d.opts (by omega) hn.1 []),ak (dF d.dE (by omega) hn.2 [])]at hb;exact bG mixed (au _) aF hb rfl (.refl _) (gJ (uV d)) (ao (gJ (uV d)) bC) H
theorem DL (d:cF):(eb prog (cK []) (told prog [] [⟨5,0,d.opts.av⟩,⟨8,0,d.dE.av⟩]) [] 3 236 [.agg d.cells] []).via ch=
  bif aD prog 127 [d.opts.av] [] d.opts.av then bif aD prog 127 [d.dE.av] [] d.dE.av then some (.agg d.cells)else none else none:=by kernel_rfl
theorem Lw (d:cF):∀x∈d.cells,LF x:=ao (.sc _) (ao (iF _) (ao (iF _) (bC)))
theorem Gg (d:cF) (h:d.sz<=bL) (hn:d.DK) (H:aa):bZ prog 236 [.agg d.cells] (.agg d.cells) H H []:=by
 have hb:=DL d;unfold cF.sz jh.sz bL at h;rw[ak (dF d.opts (by omega) hn.1 []),ak (dF d.dE (by omega) hn.2 [])]at hb;exact bG mixed (au _) aF hb rfl (.refl _) (gJ (Lw d)) (ao (gJ (Lw d)) bC) H
theorem DM (d:eT):(eb prog (cK []) (told prog [] [⟨5,0,d.opts.av⟩,⟨8,0,d.dE.av⟩]) [] 3 238 [.agg d.cells] []).via ch=
  bif aD prog 127 [d.opts.av] [] d.opts.av then bif aD prog 127 [d.dE.av] [] d.dE.av then some (.agg d.cells)else none else none:=by kernel_rfl
theorem Q8 (d:eT):∀x∈d.cells,LF x:=ao (.sc _) (ao (.sc _) (ao (iF _) (ao (iF _) (bC))))
theorem Gh (d:eT) (h:d.sz<=bL) (hn:d.DK) (H:aa):bZ prog 238 [.agg d.cells] (.agg d.cells) H H []:=by
 have hb:=DM d;unfold eT.sz jh.sz bL at h;rw[ak (dF d.opts (by omega) hn.1 []),ak (dF d.dE (by omega) hn.2 [])]at hb;exact bG mixed (au _) aF hb rfl (.refl _) (gJ (Q8 d)) (ao (gJ (Q8 d)) bC) H
theorem DN (d:cM):(eb prog (cK []) (told prog [] [⟨5,0,d.opts.av⟩,⟨8,0,d.dE.av⟩]) [] 3 240 [.agg d.cells] []).via ch=
  bif aD prog 127 [d.opts.av] [] d.opts.av then bif aD prog 127 [d.dE.av] [] d.dE.av then some (.agg d.cells)else none else none:=by kernel_rfl
theorem Lx (d:cM):∀x∈d.cells,LF x:=ao (.sc _) (ao (.sc _) (ao (.sc _) (ao (.sc _) (ao (.sc _) (ao (iF _) (ao (iF _) (bC)))))))
theorem Gi (d:cM) (h:d.sz<=bL) (hn:d.DK) (H:aa):bZ prog 240 [.agg d.cells] (.agg d.cells) H H []:=by
 have hb:=DN d;unfold cM.sz jh.sz bL at h;rw[ak (dF d.opts (by omega) hn.1 []),ak (dF d.dE (by omega) hn.2 [])]at hb;exact bG mixed (au _) aF hb rfl (.refl _) (gJ (Lx d)) (ao (gJ (Lx d)) bC) H
section
def sd (r:aX aP) (x:AV) (i:Int):List AV:=bz 22 [(1,.fn (.func 57) [] []),(5,x),(8,r.av 13 aP.cells),(9,i64 r.l.length),(10,i64 i)]
theorem Gj (r:aX aP) (c:aP) (i:Nat):(db prog (cK []) (told prog [] [⟨17,0,.agg (aP.cells c)⟩]) [] 3 (ae f169 3) (sd r aR i) []).via (cz [1,5,8,9,10] [0] 2)=
  bif decide ((i:Int)<(r.l.length:Int))then bif decide ((0:Int)<=(i:Int)/\(i:Int)<(r.l.length:Int))then bif aD prog 57 [.agg (aP.cells (r.l.getD i default))] [] (.agg (aP.cells c))then
   some ⟨.normal,sd r (.aY false 13 1 (bI 0 (λ_=>[]) (rowOf 13 (aP.cells c))) (.tok 1)) (IntKind.wrap .i64 ((i:Int)+1)),[.dead,.tail 1 13],[0],true⟩else none else none
  else some ⟨.exit 0,sd r aR i,[],[],true⟩:=by kernel_rfl
theorem Gk (r:aX aP) (n:Nat) (el:Nat->List AV) (c:aP) (i:Nat):(db prog (cK []) (told prog [] [⟨17,0,.agg (aP.cells c)⟩]) [] 3 (ae f169 3) (sd r (.aY false 13 n el (.tok 1)) i) [.dead,.tail n 13]).via (cz [1,5,8,9,10] [2] 2)=
  bif decide ((i:Int)<(r.l.length:Int))then bif decide ((0:Int)<=(i:Int)/\(i:Int)<(r.l.length:Int))then bif aD prog 57 [.agg (aP.cells (r.l.getD i default))] [] (.agg (aP.cells c))then bif decide ((n+1)*176<=70368744177664/\n+1<4611686018427387904)then bif decide (n=n)then
   some ⟨.normal,sd r (.aY false 13 (n+1) (bI n el (rowOf 13 (aP.cells c))) (.tok 1)) (IntKind.wrap .i64 ((i:Int)+1)),[.dead,.tail (n+1) 13],[1],true⟩else none else none else none else none
  else some ⟨.exit 0,sd r (.aY false 13 n el (.tok 1)) i,[.dead,.tail n 13],[],true⟩:=by kernel_rfl
theorem Q9 (r:aX aP) (x:AV) (H:aa):(eb prog (cK []) (cJ prog [⟨3,[1,5,8,9,10],.exit 0,sd r x r.l.length,H,[]⟩] aN) [] 3 169 [r.av 13 aP.cells,.fn (.func 57) [] []] []).via ch=
  bif cj prog (ae f169 3) (sd r aR ((0:Nat):Int)) [] (.exit 0) (sd r x r.l.length) H []then some x else none:=by kernel_rfl
end
theorem ri (r:aX aP) (h:r.l.length<=bL) (hc:∀x∈r.l,∀H,bZ prog 57 [.agg (aP.cells x)] (.agg (aP.cells (id x))) H H []) (H:aa):
  bZ prog 169 [r.av 13 aP.cells,.fn (.func 57) [] []] ((r.cl id).av 13 aP.cells) H H []:=by
 have lf:∀a∈[r.av 13 aP.cells,AV.fn (.func 57) [] []],LF a:=ao bQ (ao (wL _) bC);unfold bL at h;have hl:=dR (P:=prog) (c:=ae f169 3) (λi=>sd r (xW 13 (λi=>aP.cells (id (r.l.getD i default))) i) i) (λi=>wK 13 i) [0,1] (.exit 0) (by simp) r.l.length (λi hi=>by
  have hk:=hc _ (bM hi) []
  match i,hi,hk with
  |0,hi,hk=>
   have hb:=Gj r (id (r.l.getD 0 default)) 0;rw[ag2 (by omega:((0:Nat):Int)<(r.l.length:Int)),ag2 (by omega:(0:Int)<=((0:Nat):Int)/\((0:Nat):Int)<(r.l.length:Int)),ak hk,wi (x:=((0:Nat):Int)+1) (by omega) (by omega)]at hb;have:=(ai mixed (au _) aF hb rfl (ag9 _) (by simp)).eI (W':=[0,1]) (by simp);exact this.eB (Wk.tm (.cons (.refl _) (.cons (lp rfl rfl) (.cons (.refl _) (.cons (.refl _) (.cons (.refl _) .nil))))))
  |i+1,hi,hk=>
   have hb:=Gk r (i+1) (λi=>aP.cells (id (r.l.getD i default))) (id (r.l.getD (i+1) default)) (i+1);rw[ag2 (by omega:((i+1:Nat):Int)<(r.l.length:Int)),ag2 (by omega:(0:Int)<=((i+1:Nat):Int)/\((i+1:Nat):Int)<(r.l.length:Int)),ak hk,ag2 (by constructor<;>omega:(i+1+1)*176<=70368744177664/\i+1+1<4611686018427387904),ag2 (rfl:i+1=i+1),wi (x:=((i+1:Nat):Int)+1) (by omega) (by omega)]at hb;have:=(ai mixed (au _) aF hb rfl (ag3 _) (by simp)).eI (W':=[0,1]) (by simp);exact this.eB (Wk.tm (.cons (.refl _) (.cons (lq rfl rfl) (.cons (.refl _) (.cons (.refl _) (.cons (.refl _) .nil)))))))
  (by
  match hn:r.l.length with
  |0=>
   show an prog (ae f169 3) (sd r aR ((0:Nat):Int)) [] (.exit 0) (sd r aR ((0:Nat):Int)) [] [];have hb:=Gj r (id default) 0;rw[ag8 (by omega)]at hb;exact ai mixed (au _) aF hb rfl (ag9 _) (by simp)
  |n+1=>
   show an prog (ae f169 3) (sd r (.aY false 13 (n+1) (λi=>aP.cells (id (r.l.getD i default))) (.tok 1)) ((n+1:Nat):Int)) [.dead,.tail (n+1) 13] (.exit 0) (sd r (.aY false 13 (n+1) (λi=>aP.cells (id (r.l.getD i default))) (.tok 1)) ((n+1:Nat):Int)) [.dead,.tail (n+1) 13] [];have hb:=Gk r (n+1) (λi=>aP.cells (id (r.l.getD i default))) (id default) (n+1);rw[ag8 (by omega)]at hb;exact ai mixed (au _) aF hb rfl (ag3 _) (by simp))
 have hl:an prog (.loop (ae f169 3)) (sd r aR ((0:Nat):Int)) [] (.exit 0) (sd r (xW 13 (λi=>aP.cells (id (r.l.getD i default))) r.l.length) r.l.length) (wK 13 r.l.length) []:=an.wr (Wr':=[]) hl (λl _ hl=>absurd hl (ahg _));have hb:=Q9 r (xW 13 (λi=>aP.cells (id (r.l.getD i default))) r.l.length) (wK 13 r.l.length);rw[bc hl]at hb;exact bG mixed (au _) (ba ab) hb rfl (r.zt id 13 aP.cells) bQ lf H
section
def se (r:aX cF) (x:AV) (i:Int):List AV:=bz 22 [(1,.fn (.func 236) [] []),(5,x),(8,r.av 3 cF.cells),(9,i64 r.l.length),(10,i64 i)]
theorem Gl (r:aX cF) (c:cF) (i:Nat):(db prog (cK []) (told prog [] [⟨17,0,.agg (cF.cells c)⟩]) [] 3 (ae f235 3) (se r aR i) []).via (cz [1,5,8,9,10] [0] 2)=
  bif decide ((i:Int)<(r.l.length:Int))then bif decide ((0:Int)<=(i:Int)/\(i:Int)<(r.l.length:Int))then bif aD prog 236 [.agg (cF.cells (r.l.getD i default))] [] (.agg (cF.cells c))then
   some ⟨.normal,se r (.aY false 3 1 (bI 0 (λ_=>[]) (rowOf 3 (cF.cells c))) (.tok 1)) (IntKind.wrap .i64 ((i:Int)+1)),[.dead,.tail 1 3],[0],true⟩else none else none
  else some ⟨.exit 0,se r aR i,[],[],true⟩:=by kernel_rfl
theorem Gm (r:aX cF) (n:Nat) (el:Nat->List AV) (c:cF) (i:Nat):(db prog (cK []) (told prog [] [⟨17,0,.agg (cF.cells c)⟩]) [] 3 (ae f235 3) (se r (.aY false 3 n el (.tok 1)) i) [.dead,.tail n 3]).via (cz [1,5,8,9,10] [2] 2)=
  bif decide ((i:Int)<(r.l.length:Int))then bif decide ((0:Int)<=(i:Int)/\(i:Int)<(r.l.length:Int))then bif aD prog 236 [.agg (cF.cells (r.l.getD i default))] [] (.agg (cF.cells c))then bif decide ((n+1)*64<=70368744177664/\n+1<4611686018427387904)then bif decide (n=n)then
   some ⟨.normal,se r (.aY false 3 (n+1) (bI n el (rowOf 3 (cF.cells c))) (.tok 1)) (IntKind.wrap .i64 ((i:Int)+1)),[.dead,.tail (n+1) 3],[1],true⟩else none else none else none else none
  else some ⟨.exit 0,se r (.aY false 3 n el (.tok 1)) i,[.dead,.tail n 3],[],true⟩:=by kernel_rfl
theorem Ra (r:aX cF) (x:AV) (H:aa):(eb prog (cK []) (cJ prog [⟨3,[1,5,8,9,10],.exit 0,se r x r.l.length,H,[]⟩] aN) [] 3 235 [r.av 3 cF.cells,.fn (.func 236) [] []] []).via ch=
  bif cj prog (ae f235 3) (se r aR ((0:Nat):Int)) [] (.exit 0) (se r x r.l.length) H []then some x else none:=by kernel_rfl
end
theorem Gn (r:aX cF) (h:r.l.length<=bL) (hc:∀x∈r.l,∀H,bZ prog 236 [.agg (cF.cells x)] (.agg (cF.cells (id x))) H H []) (H:aa):
  bZ prog 235 [r.av 3 cF.cells,.fn (.func 236) [] []] ((r.cl id).av 3 cF.cells) H H []:=by
 have lf:∀a∈[r.av 3 cF.cells,AV.fn (.func 236) [] []],LF a:=ao bQ (ao (wL _) bC);unfold bL at h;have hl:=dR (P:=prog) (c:=ae f235 3) (λi=>se r (xW 3 (λi=>cF.cells (id (r.l.getD i default))) i) i) (λi=>wK 3 i) [0,1] (.exit 0) (by simp) r.l.length (λi hi=>by
  have hk:=hc _ (bM hi) []
  match i,hi,hk with
  |0,hi,hk=>
   have hb:=Gl r (id (r.l.getD 0 default)) 0;rw[ag2 (by omega:((0:Nat):Int)<(r.l.length:Int)),ag2 (by omega:(0:Int)<=((0:Nat):Int)/\((0:Nat):Int)<(r.l.length:Int)),ak hk,wi (x:=((0:Nat):Int)+1) (by omega) (by omega)]at hb;have:=(ai mixed (au _) aF hb rfl (ag9 _) (by simp)).eI (W':=[0,1]) (by simp);exact this.eB (Wk.tm (.cons (.refl _) (.cons (lp rfl rfl) (.cons (.refl _) (.cons (.refl _) (.cons (.refl _) .nil))))))
  |i+1,hi,hk=>
   have hb:=Gm r (i+1) (λi=>cF.cells (id (r.l.getD i default))) (id (r.l.getD (i+1) default)) (i+1);rw[ag2 (by omega:((i+1:Nat):Int)<(r.l.length:Int)),ag2 (by omega:(0:Int)<=((i+1:Nat):Int)/\((i+1:Nat):Int)<(r.l.length:Int)),ak hk,ag2 (by constructor<;>omega:(i+1+1)*64<=70368744177664/\i+1+1<4611686018427387904),ag2 (rfl:i+1=i+1),wi (x:=((i+1:Nat):Int)+1) (by omega) (by omega)]at hb;have:=(ai mixed (au _) aF hb rfl (ag3 _) (by simp)).eI (W':=[0,1]) (by simp);exact this.eB (Wk.tm (.cons (.refl _) (.cons (lq rfl rfl) (.cons (.refl _) (.cons (.refl _) (.cons (.refl _) .nil)))))))
  (by
  match hn:r.l.length with
  |0=>
   show an prog (ae f235 3) (se r aR ((0:Nat):Int)) [] (.exit 0) (se r aR ((0:Nat):Int)) [] [];have hb:=Gl r (id default) 0;rw[ag8 (by omega)]at hb;exact ai mixed (au _) aF hb rfl (ag9 _) (by simp)
  |n+1=>
   show an prog (ae f235 3) (se r (.aY false 3 (n+1) (λi=>cF.cells (id (r.l.getD i default))) (.tok 1)) ((n+1:Nat):Int)) [.dead,.tail (n+1) 3] (.exit 0) (se r (.aY false 3 (n+1) (λi=>cF.cells (id (r.l.getD i default))) (.tok 1)) ((n+1:Nat):Int)) [.dead,.tail (n+1) 3] [];have hb:=Gm r (n+1) (λi=>cF.cells (id (r.l.getD i default))) (id default) (n+1);rw[ag8 (by omega)]at hb;exact ai mixed (au _) aF hb rfl (ag3 _) (by simp))
 have hl:an prog (.loop (ae f235 3)) (se r aR ((0:Nat):Int)) [] (.exit 0) (se r (xW 3 (λi=>cF.cells (id (r.l.getD i default))) r.l.length) r.l.length) (wK 3 r.l.length) []:=an.wr (Wr':=[]) hl (λl _ hl=>absurd hl (ahg _));have hb:=Ra r (xW 3 (λi=>cF.cells (id (r.l.getD i default))) r.l.length) (wK 3 r.l.length);rw[bc hl]at hb;exact bG mixed (au _) (ba ab) hb rfl (r.zt id 3 cF.cells) bQ lf H
section
def sg (r:aX eT) (x:AV) (i:Int):List AV:=bz 22 [(1,.fn (.func 238) [] []),(5,x),(8,r.av 4 eT.cells),(9,i64 r.l.length),(10,i64 i)]
theorem Gp (r:aX eT) (c:eT) (i:Nat):(db prog (cK []) (told prog [] [⟨17,0,.agg (eT.cells c)⟩]) [] 3 (ae f237 3) (sg r aR i) []).via (cz [1,5,8,9,10] [0] 2)=
  bif decide ((i:Int)<(r.l.length:Int))then bif decide ((0:Int)<=(i:Int)/\(i:Int)<(r.l.length:Int))then bif aD prog 238 [.agg (eT.cells (r.l.getD i default))] [] (.agg (eT.cells c))then
   some ⟨.normal,sg r (.aY false 4 1 (bI 0 (λ_=>[]) (rowOf 4 (eT.cells c))) (.tok 1)) (IntKind.wrap .i64 ((i:Int)+1)),[.dead,.tail 1 4],[0],true⟩else none else none
  else some ⟨.exit 0,sg r aR i,[],[],true⟩:=by kernel_rfl
theorem Gq (r:aX eT) (n:Nat) (el:Nat->List AV) (c:eT) (i:Nat):(db prog (cK []) (told prog [] [⟨17,0,.agg (eT.cells c)⟩]) [] 3 (ae f237 3) (sg r (.aY false 4 n el (.tok 1)) i) [.dead,.tail n 4]).via (cz [1,5,8,9,10] [2] 2)=
  bif decide ((i:Int)<(r.l.length:Int))then bif decide ((0:Int)<=(i:Int)/\(i:Int)<(r.l.length:Int))then bif aD prog 238 [.agg (eT.cells (r.l.getD i default))] [] (.agg (eT.cells c))then bif decide ((n+1)*72<=70368744177664/\n+1<4611686018427387904)then bif decide (n=n)then
   some ⟨.normal,sg r (.aY false 4 (n+1) (bI n el (rowOf 4 (eT.cells c))) (.tok 1)) (IntKind.wrap .i64 ((i:Int)+1)),[.dead,.tail (n+1) 4],[1],true⟩else none else none else none else none
  else some ⟨.exit 0,sg r (.aY false 4 n el (.tok 1)) i,[.dead,.tail n 4],[],true⟩:=by kernel_rfl
theorem Rb (r:aX eT) (x:AV) (H:aa):(eb prog (cK []) (cJ prog [⟨3,[1,5,8,9,10],.exit 0,sg r x r.l.length,H,[]⟩] aN) [] 3 237 [r.av 4 eT.cells,.fn (.func 238) [] []] []).via ch=
  bif cj prog (ae f237 3) (sg r aR ((0:Nat):Int)) [] (.exit 0) (sg r x r.l.length) H []then some x else none:=by kernel_rfl
end
theorem Gr (r:aX eT) (h:r.l.length<=bL) (hc:∀x∈r.l,∀H,bZ prog 238 [.agg (eT.cells x)] (.agg (eT.cells (id x))) H H []) (H:aa):
  bZ prog 237 [r.av 4 eT.cells,.fn (.func 238) [] []] ((r.cl id).av 4 eT.cells) H H []:=by
 have lf:∀a∈[r.av 4 eT.cells,AV.fn (.func 238) [] []],LF a:=ao bQ (ao (wL _) bC);unfold bL at h;have hl:=dR (P:=prog) (c:=ae f237 3) (λi=>sg r (xW 4 (λi=>eT.cells (id (r.l.getD i default))) i) i) (λi=>wK 4 i) [0,1] (.exit 0) (by simp) r.l.length (λi hi=>by
  have hk:=hc _ (bM hi) []
  match i,hi,hk with
  |0,hi,hk=>
   have hb:=Gp r (id (r.l.getD 0 default)) 0;rw[ag2 (by omega:((0:Nat):Int)<(r.l.length:Int)),ag2 (by omega:(0:Int)<=((0:Nat):Int)/\((0:Nat):Int)<(r.l.length:Int)),ak hk,wi (x:=((0:Nat):Int)+1) (by omega) (by omega)]at hb;have:=(ai mixed (au _) aF hb rfl (ag9 _) (by simp)).eI (W':=[0,1]) (by simp);exact this.eB (Wk.tm (.cons (.refl _) (.cons (lp rfl rfl) (.cons (.refl _) (.cons (.refl _) (.cons (.refl _) .nil))))))
  |i+1,hi,hk=>
   have hb:=Gq r (i+1) (λi=>eT.cells (id (r.l.getD i default))) (id (r.l.getD (i+1) default)) (i+1);rw[ag2 (by omega:((i+1:Nat):Int)<(r.l.length:Int)),ag2 (by omega:(0:Int)<=((i+1:Nat):Int)/\((i+1:Nat):Int)<(r.l.length:Int)),ak hk,ag2 (by constructor<;>omega:(i+1+1)*72<=70368744177664/\i+1+1<4611686018427387904),ag2 (rfl:i+1=i+1),wi (x:=((i+1:Nat):Int)+1) (by omega) (by omega)]at hb;have:=(ai mixed (au _) aF hb rfl (ag3 _) (by simp)).eI (W':=[0,1]) (by simp);exact this.eB (Wk.tm (.cons (.refl _) (.cons (lq rfl rfl) (.cons (.refl _) (.cons (.refl _) (.cons (.refl _) .nil)))))))
  (by
  match hn:r.l.length with
  |0=>
   show an prog (ae f237 3) (sg r aR ((0:Nat):Int)) [] (.exit 0) (sg r aR ((0:Nat):Int)) [] [];have hb:=Gp r (id default) 0;rw[ag8 (by omega)]at hb;exact ai mixed (au _) aF hb rfl (ag9 _) (by simp)
  |n+1=>
   show an prog (ae f237 3) (sg r (.aY false 4 (n+1) (λi=>eT.cells (id (r.l.getD i default))) (.tok 1)) ((n+1:Nat):Int)) [.dead,.tail (n+1) 4] (.exit 0) (sg r (.aY false 4 (n+1) (λi=>eT.cells (id (r.l.getD i default))) (.tok 1)) ((n+1:Nat):Int)) [.dead,.tail (n+1) 4] [];have hb:=Gq r (n+1) (λi=>eT.cells (id (r.l.getD i default))) (id default) (n+1);rw[ag8 (by omega)]at hb;exact ai mixed (au _) aF hb rfl (ag3 _) (by simp))
 have hl:an prog (.loop (ae f237 3)) (sg r aR ((0:Nat):Int)) [] (.exit 0) (sg r (xW 4 (λi=>eT.cells (id (r.l.getD i default))) r.l.length) r.l.length) (wK 4 r.l.length) []:=an.wr (Wr':=[]) hl (λl _ hl=>absurd hl (ahg _));have hb:=Rb r (xW 4 (λi=>eT.cells (id (r.l.getD i default))) r.l.length) (wK 4 r.l.length);rw[bc hl]at hb;exact bG mixed (au _) (ba ab) hb rfl (r.zt id 4 eT.cells) bQ lf H
section
def sh (r:aX cM) (x:AV) (i:Int):List AV:=bz 22 [(1,.fn (.func 240) [] []),(5,x),(8,r.av 7 cM.cells),(9,i64 r.l.length),(10,i64 i)]
theorem Gs (r:aX cM) (c:cM) (i:Nat):(db prog (cK []) (told prog [] [⟨17,0,.agg (cM.cells c)⟩]) [] 3 (ae f239 3) (sh r aR i) []).via (cz [1,5,8,9,10] [0] 2)=
  bif decide ((i:Int)<(r.l.length:Int))then bif decide ((0:Int)<=(i:Int)/\(i:Int)<(r.l.length:Int))then bif aD prog 240 [.agg (cM.cells (r.l.getD i default))] [] (.agg (cM.cells c))then
   some ⟨.normal,sh r (.aY false 7 1 (bI 0 (λ_=>[]) (rowOf 7 (cM.cells c))) (.tok 1)) (IntKind.wrap .i64 ((i:Int)+1)),[.dead,.tail 1 7],[0],true⟩else none else none
  else some ⟨.exit 0,sh r aR i,[],[],true⟩:=by kernel_rfl
theorem Gt (r:aX cM) (n:Nat) (el:Nat->List AV) (c:cM) (i:Nat):(db prog (cK []) (told prog [] [⟨17,0,.agg (cM.cells c)⟩]) [] 3 (ae f239 3) (sh r (.aY false 7 n el (.tok 1)) i) [.dead,.tail n 7]).via (cz [1,5,8,9,10] [2] 2)=
  bif decide ((i:Int)<(r.l.length:Int))then bif decide ((0:Int)<=(i:Int)/\(i:Int)<(r.l.length:Int))then bif aD prog 240 [.agg (cM.cells (r.l.getD i default))] [] (.agg (cM.cells c))then bif decide ((n+1)*104<=70368744177664/\n+1<4611686018427387904)then bif decide (n=n)then
   some ⟨.normal,sh r (.aY false 7 (n+1) (bI n el (rowOf 7 (cM.cells c))) (.tok 1)) (IntKind.wrap .i64 ((i:Int)+1)),[.dead,.tail (n+1) 7],[1],true⟩else none else none else none else none
  else some ⟨.exit 0,sh r (.aY false 7 n el (.tok 1)) i,[.dead,.tail n 7],[],true⟩:=by kernel_rfl
theorem Rc (r:aX cM) (x:AV) (H:aa):(eb prog (cK []) (cJ prog [⟨3,[1,5,8,9,10],.exit 0,sh r x r.l.length,H,[]⟩] aN) [] 3 239 [r.av 7 cM.cells,.fn (.func 240) [] []] []).via ch=
  bif cj prog (ae f239 3) (sh r aR ((0:Nat):Int)) [] (.exit 0) (sh r x r.l.length) H []then some x else none:=by kernel_rfl
end
theorem Gu (r:aX cM) (h:r.l.length<=bL) (hc:∀x∈r.l,∀H,bZ prog 240 [.agg (cM.cells x)] (.agg (cM.cells (id x))) H H []) (H:aa):
  bZ prog 239 [r.av 7 cM.cells,.fn (.func 240) [] []] ((r.cl id).av 7 cM.cells) H H []:=by
 have lf:∀a∈[r.av 7 cM.cells,AV.fn (.func 240) [] []],LF a:=ao bQ (ao (wL _) bC);unfold bL at h;have hl:=dR (P:=prog) (c:=ae f239 3) (λi=>sh r (xW 7 (λi=>cM.cells (id (r.l.getD i default))) i) i) (λi=>wK 7 i) [0,1] (.exit 0) (by simp) r.l.length (λi hi=>by
  have hk:=hc _ (bM hi) []
  match i,hi,hk with
  |0,hi,hk=>
   have hb:=Gs r (id (r.l.getD 0 default)) 0;rw[ag2 (by omega:((0:Nat):Int)<(r.l.length:Int)),ag2 (by omega:(0:Int)<=((0:Nat):Int)/\((0:Nat):Int)<(r.l.length:Int)),ak hk,wi (x:=((0:Nat):Int)+1) (by omega) (by omega)]at hb;have:=(ai mixed (au _) aF hb rfl (ag9 _) (by simp)).eI (W':=[0,1]) (by simp);exact this.eB (Wk.tm (.cons (.refl _) (.cons (lp rfl rfl) (.cons (.refl _) (.cons (.refl _) (.cons (.refl _) .nil))))))
  |i+1,hi,hk=>
   have hb:=Gt r (i+1) (λi=>cM.cells (id (r.l.getD i default))) (id (r.l.getD (i+1) default)) (i+1);rw[ag2 (by omega:((i+1:Nat):Int)<(r.l.length:Int)),ag2 (by omega:(0:Int)<=((i+1:Nat):Int)/\((i+1:Nat):Int)<(r.l.length:Int)),ak hk,ag2 (by constructor<;>omega:(i+1+1)*104<=70368744177664/\i+1+1<4611686018427387904),ag2 (rfl:i+1=i+1),wi (x:=((i+1:Nat):Int)+1) (by omega) (by omega)]at hb;have:=(ai mixed (au _) aF hb rfl (ag3 _) (by simp)).eI (W':=[0,1]) (by simp);exact this.eB (Wk.tm (.cons (.refl _) (.cons (lq rfl rfl) (.cons (.refl _) (.cons (.refl _) (.cons (.refl _) .nil)))))))
  (by
  match hn:r.l.length with
  |0=>
   show an prog (ae f239 3) (sh r aR ((0:Nat):Int)) [] (.exit 0) (sh r aR ((0:Nat):Int)) [] [];have hb:=Gs r (id default) 0;rw[ag8 (by omega)]at hb;exact ai mixed (au _) aF hb rfl (ag9 _) (by simp)
  |n+1=>
   show an prog (ae f239 3) (sh r (.aY false 7 (n+1) (λi=>cM.cells (id (r.l.getD i default))) (.tok 1)) ((n+1:Nat):Int)) [.dead,.tail (n+1) 7] (.exit 0) (sh r (.aY false 7 (n+1) (λi=>cM.cells (id (r.l.getD i default))) (.tok 1)) ((n+1:Nat):Int)) [.dead,.tail (n+1) 7] [];have hb:=Gt r (n+1) (λi=>cM.cells (id (r.l.getD i default))) (id default) (n+1);rw[ag8 (by omega)]at hb;exact ai mixed (au _) aF hb rfl (ag3 _) (by simp))
 have hl:an prog (.loop (ae f239 3)) (sh r aR ((0:Nat):Int)) [] (.exit 0) (sh r (xW 7 (λi=>cM.cells (id (r.l.getD i default))) r.l.length) r.l.length) (wK 7 r.l.length) []:=an.wr (Wr':=[]) hl (λl _ hl=>absurd hl (ahg _));have hb:=Rc r (xW 7 (λi=>cM.cells (id (r.l.getD i default))) r.l.length) (wK 7 r.l.length);rw[bc hl]at hb;exact bG mixed (au _) (ba ab) hb rfl (r.zt id 7 cM.cells) bQ lf H
def tU (e:bt):bt:={ e with aM:=e.aM.cl id}
def xX (s:bN):bN:={ s with aO:=s.aO.cl id}
def bt.DK (d:bt):Prop:=(∀y∈d.aM.l,eT.DK y)/\(d.opts.nl=true->d.opts.l.length=0)/\(d.dE.nl=true->d.dE.l.length=0)
def bN.DK (d:bN):Prop:=(∀y∈d.aO.l,cM.DK y)/\(d.opts.nl=true->d.opts.l.length=0)/\(d.dE.nl=true->d.dE.l.length=0)
theorem Gv (d:bt):(eb prog (cK []) (told prog [] [⟨5,0,d.opts.av⟩,⟨8,0,d.dE.av⟩,⟨13,0,(d.aM.cl id).av 4 eT.cells⟩]) [] 3 166 [.agg d.cells] []).via ch=
  bif aD prog 127 [d.opts.av] [] d.opts.av then bif aD prog 127 [d.dE.av] [] d.dE.av then bif aD prog 237 [d.aM.av 4 eT.cells,.fn (.func 238) [] []] [] ((d.aM.cl id).av 4 eT.cells)then some (.agg (tU d).cells)else none else none else none:=by kernel_rfl
theorem xY (d:bt):∀x∈d.cells,LF x:=ao (.sc _) (ao bQ (ao (iF _) (ao (iF _) bC)))
theorem zu (d:bt) (h:d.sz<=bL) (hn:d.DK) (H:aa):bZ prog 166 [.agg d.cells] (.agg (tU d).cells) H H []:=by
 have hb:=Gv d;unfold bt.sz aX.sz jh.sz bL at h;have hlen:=cy (f:=eT.sz) (l:=d.aM.l) (λx _=>x.bT);rw[ak (dF d.opts (by omega) hn.2.1 []),ak (dF d.dE (by omega) hn.2.2 []),ak (Gr d.aM (by unfold bL;omega) (λx hx H=>Gh x (by have:=cf (f:=eT.sz) hx;unfold bL;omega) (hn.1 x hx) H) [])]at hb;exact bG mixed (au _) aF hb rfl (.refl _) (gJ (xY _)) (ao (gJ (xY d)) bC) H
theorem Gw (d:bN):(eb prog (cK []) (told prog [] [⟨5,0,d.opts.av⟩,⟨8,0,d.dE.av⟩,⟨13,0,(d.aO.cl id).av 7 cM.cells⟩]) [] 3 168 [.agg d.cells] []).via ch=
  bif aD prog 127 [d.opts.av] [] d.opts.av then bif aD prog 127 [d.dE.av] [] d.dE.av then bif aD prog 239 [d.aO.av 7 cM.cells,.fn (.func 240) [] []] [] ((d.aO.cl id).av 7 cM.cells)then some (.agg (xX d).cells)else none else none else none:=by kernel_rfl
theorem DO (d:bN):∀x∈d.cells,LF x:=ao (.sc _) (ao bQ (ao (iF _) (ao (iF _) bC)))
theorem JU (d:bN) (h:d.sz<=bL) (hn:d.DK) (H:aa):bZ prog 168 [.agg d.cells] (.agg (xX d).cells) H H []:=by
 have hb:=Gw d;unfold bN.sz aX.sz jh.sz bL at h;have hlen:=cy (f:=cM.sz) (l:=d.aO.l) (λx _=>x.bT);rw[ak (dF d.opts (by omega) hn.2.1 []),ak (dF d.dE (by omega) hn.2.2 []),ak (Gu d.aO (by unfold bL;omega) (λx hx H=>Gi x (by have:=cf (f:=cM.sz) hx;unfold bL;omega) (hn.1 x hx) H) [])]at hb;exact bG mixed (au _) aF hb rfl (.refl _) (gJ (DO _)) (ao (gJ (DO d)) bC) H
section
def sj (r:aX bt) (x:AV) (i:Int):List AV:=bz 22 [(1,.fn (.func 166) [] []),(5,x),(8,r.av 4 bt.cells),(9,i64 r.l.length),(10,i64 i)]
theorem Gx (r:aX bt) (c:bt) (i:Nat):(db prog (cK []) (told prog [] [⟨17,0,.agg (bt.cells c)⟩]) [] 3 (ae f165 3) (sj r aR i) []).via (cz [1,5,8,9,10] [0] 2)=
  bif decide ((i:Int)<(r.l.length:Int))then bif decide ((0:Int)<=(i:Int)/\(i:Int)<(r.l.length:Int))then bif aD prog 166 [.agg (bt.cells (r.l.getD i default))] [] (.agg (bt.cells c))then
   some ⟨.normal,sj r (.aY false 4 1 (bI 0 (λ_=>[]) (rowOf 4 (bt.cells c))) (.tok 1)) (IntKind.wrap .i64 ((i:Int)+1)),[.dead,.tail 1 4],[0],true⟩else none else none
  else some ⟨.exit 0,sj r aR i,[],[],true⟩:=by kernel_rfl
theorem Gy (r:aX bt) (n:Nat) (el:Nat->List AV) (c:bt) (i:Nat):(db prog (cK []) (told prog [] [⟨17,0,.agg (bt.cells c)⟩]) [] 3 (ae f165 3) (sj r (.aY false 4 n el (.tok 1)) i) [.dead,.tail n 4]).via (cz [1,5,8,9,10] [2] 2)=
  bif decide ((i:Int)<(r.l.length:Int))then bif decide ((0:Int)<=(i:Int)/\(i:Int)<(r.l.length:Int))then bif aD prog 166 [.agg (bt.cells (r.l.getD i default))] [] (.agg (bt.cells c))then bif decide ((n+1)*88<=70368744177664/\n+1<4611686018427387904)then bif decide (n=n)then
   some ⟨.normal,sj r (.aY false 4 (n+1) (bI n el (rowOf 4 (bt.cells c))) (.tok 1)) (IntKind.wrap .i64 ((i:Int)+1)),[.dead,.tail (n+1) 4],[1],true⟩else none else none else none else none
  else some ⟨.exit 0,sj r (.aY false 4 n el (.tok 1)) i,[.dead,.tail n 4],[],true⟩:=by kernel_rfl
theorem Re (r:aX bt) (x:AV) (H:aa):(eb prog (cK []) (cJ prog [⟨3,[1,5,8,9,10],.exit 0,sj r x r.l.length,H,[]⟩] aN) [] 3 165 [r.av 4 bt.cells,.fn (.func 166) [] []] []).via ch=
  bif cj prog (ae f165 3) (sj r aR ((0:Nat):Int)) [] (.exit 0) (sj r x r.l.length) H []then some x else none:=by kernel_rfl
end
theorem wM (r:aX bt) (h:r.l.length<=bL) (hc:∀x∈r.l,∀H,bZ prog 166 [.agg (bt.cells x)] (.agg (bt.cells (tU x))) H H []) (H:aa):
  bZ prog 165 [r.av 4 bt.cells,.fn (.func 166) [] []] ((r.cl tU).av 4 bt.cells) H H []:=by
 have lf:∀a∈[r.av 4 bt.cells,AV.fn (.func 166) [] []],LF a:=ao bQ (ao (wL _) bC);unfold bL at h;have hl:=dR (P:=prog) (c:=ae f165 3) (λi=>sj r (xW 4 (λi=>bt.cells (tU (r.l.getD i default))) i) i) (λi=>wK 4 i) [0,1] (.exit 0) (by simp) r.l.length (λi hi=>by
  have hk:=hc _ (bM hi) []
  match i,hi,hk with
  |0,hi,hk=>
   have hb:=Gx r (tU (r.l.getD 0 default)) 0;rw[ag2 (by omega:((0:Nat):Int)<(r.l.length:Int)),ag2 (by omega:(0:Int)<=((0:Nat):Int)/\((0:Nat):Int)<(r.l.length:Int)),ak hk,wi (x:=((0:Nat):Int)+1) (by omega) (by omega)]at hb;have:=(ai mixed (au _) aF hb rfl (ag9 _) (by simp)).eI (W':=[0,1]) (by simp);exact this.eB (Wk.tm (.cons (.refl _) (.cons (lp rfl rfl) (.cons (.refl _) (.cons (.refl _) (.cons (.refl _) .nil))))))
  |i+1,hi,hk=>
   have hb:=Gy r (i+1) (λi=>bt.cells (tU (r.l.getD i default))) (tU (r.l.getD (i+1) default)) (i+1);rw[ag2 (by omega:((i+1:Nat):Int)<(r.l.length:Int)),ag2 (by omega:(0:Int)<=((i+1:Nat):Int)/\((i+1:Nat):Int)<(r.l.length:Int)),ak hk,ag2 (by constructor<;>omega:(i+1+1)*88<=70368744177664/\i+1+1<4611686018427387904),ag2 (rfl:i+1=i+1),wi (x:=((i+1:Nat):Int)+1) (by omega) (by omega)]at hb;have:=(ai mixed (au _) aF hb rfl (ag3 _) (by simp)).eI (W':=[0,1]) (by simp);exact this.eB (Wk.tm (.cons (.refl _) (.cons (lq rfl rfl) (.cons (.refl _) (.cons (.refl _) (.cons (.refl _) .nil)))))))
  (by
  match hn:r.l.length with
  |0=>
   show an prog (ae f165 3) (sj r aR ((0:Nat):Int)) [] (.exit 0) (sj r aR ((0:Nat):Int)) [] [];have hb:=Gx r (tU default) 0;rw[ag8 (by omega)]at hb;exact ai mixed (au _) aF hb rfl (ag9 _) (by simp)
  |n+1=>
   show an prog (ae f165 3) (sj r (.aY false 4 (n+1) (λi=>bt.cells (tU (r.l.getD i default))) (.tok 1)) ((n+1:Nat):Int)) [.dead,.tail (n+1) 4] (.exit 0) (sj r (.aY false 4 (n+1) (λi=>bt.cells (tU (r.l.getD i default))) (.tok 1)) ((n+1:Nat):Int)) [.dead,.tail (n+1) 4] [];have hb:=Gy r (n+1) (λi=>bt.cells (tU (r.l.getD i default))) (tU default) (n+1);rw[ag8 (by omega)]at hb;exact ai mixed (au _) aF hb rfl (ag3 _) (by simp))
 have hl:an prog (.loop (ae f165 3)) (sj r aR ((0:Nat):Int)) [] (.exit 0) (sj r (xW 4 (λi=>bt.cells (tU (r.l.getD i default))) r.l.length) r.l.length) (wK 4 r.l.length) []:=an.wr (Wr':=[]) hl (λl _ hl=>absurd hl (ahg _));have hb:=Re r (xW 4 (λi=>bt.cells (tU (r.l.getD i default))) r.l.length) (wK 4 r.l.length);rw[bc hl]at hb;exact bG mixed (au _) (ba ab) hb rfl (r.zt tU 4 bt.cells) bQ lf H
section
def sk (r:aX bN) (x:AV) (i:Int):List AV:=bz 22 [(1,.fn (.func 168) [] []),(5,x),(8,r.av 4 bN.cells),(9,i64 r.l.length),(10,i64 i)]
theorem Gz (r:aX bN) (c:bN) (i:Nat):(db prog (cK []) (told prog [] [⟨17,0,.agg (bN.cells c)⟩]) [] 3 (ae f167 3) (sk r aR i) []).via (cz [1,5,8,9,10] [0] 2)=
  bif decide ((i:Int)<(r.l.length:Int))then bif decide ((0:Int)<=(i:Int)/\(i:Int)<(r.l.length:Int))then bif aD prog 168 [.agg (bN.cells (r.l.getD i default))] [] (.agg (bN.cells c))then
   some ⟨.normal,sk r (.aY false 4 1 (bI 0 (λ_=>[]) (rowOf 4 (bN.cells c))) (.tok 1)) (IntKind.wrap .i64 ((i:Int)+1)),[.dead,.tail 1 4],[0],true⟩else none else none
  else some ⟨.exit 0,sk r aR i,[],[],true⟩:=by kernel_rfl
theorem GA (r:aX bN) (n:Nat) (el:Nat->List AV) (c:bN) (i:Nat):(db prog (cK []) (told prog [] [⟨17,0,.agg (bN.cells c)⟩]) [] 3 (ae f167 3) (sk r (.aY false 4 n el (.tok 1)) i) [.dead,.tail n 4]).via (cz [1,5,8,9,10] [2] 2)=
  bif decide ((i:Int)<(r.l.length:Int))then bif decide ((0:Int)<=(i:Int)/\(i:Int)<(r.l.length:Int))then bif aD prog 168 [.agg (bN.cells (r.l.getD i default))] [] (.agg (bN.cells c))then bif decide ((n+1)*88<=70368744177664/\n+1<4611686018427387904)then bif decide (n=n)then
   some ⟨.normal,sk r (.aY false 4 (n+1) (bI n el (rowOf 4 (bN.cells c))) (.tok 1)) (IntKind.wrap .i64 ((i:Int)+1)),[.dead,.tail (n+1) 4],[1],true⟩else none else none else none else none
  else some ⟨.exit 0,sk r (.aY false 4 n el (.tok 1)) i,[.dead,.tail n 4],[],true⟩:=by kernel_rfl
theorem Rf (r:aX bN) (x:AV) (H:aa):(eb prog (cK []) (cJ prog [⟨3,[1,5,8,9,10],.exit 0,sk r x r.l.length,H,[]⟩] aN) [] 3 167 [r.av 4 bN.cells,.fn (.func 168) [] []] []).via ch=
  bif cj prog (ae f167 3) (sk r aR ((0:Nat):Int)) [] (.exit 0) (sk r x r.l.length) H []then some x else none:=by kernel_rfl
end
theorem GB (r:aX bN) (h:r.l.length<=bL) (hc:∀x∈r.l,∀H,bZ prog 168 [.agg (bN.cells x)] (.agg (bN.cells (xX x))) H H []) (H:aa):
  bZ prog 167 [r.av 4 bN.cells,.fn (.func 168) [] []] ((r.cl xX).av 4 bN.cells) H H []:=by
 have lf:∀a∈[r.av 4 bN.cells,AV.fn (.func 168) [] []],LF a:=ao bQ (ao (wL _) bC);unfold bL at h;have hl:=dR (P:=prog) (c:=ae f167 3) (λi=>sk r (xW 4 (λi=>bN.cells (xX (r.l.getD i default))) i) i) (λi=>wK 4 i) [0,1] (.exit 0) (by simp) r.l.length (λi hi=>by
  have hk:=hc _ (bM hi) []
  match i,hi,hk with
  |0,hi,hk=>
   have hb:=Gz r (xX (r.l.getD 0 default)) 0;rw[ag2 (by omega:((0:Nat):Int)<(r.l.length:Int)),ag2 (by omega:(0:Int)<=((0:Nat):Int)/\((0:Nat):Int)<(r.l.length:Int)),ak hk,wi (x:=((0:Nat):Int)+1) (by omega) (by omega)]at hb;have:=(ai mixed (au _) aF hb rfl (ag9 _) (by simp)).eI (W':=[0,1]) (by simp);exact this.eB (Wk.tm (.cons (.refl _) (.cons (lp rfl rfl) (.cons (.refl _) (.cons (.refl _) (.cons (.refl _) .nil))))))
  |i+1,hi,hk=>
   have hb:=GA r (i+1) (λi=>bN.cells (xX (r.l.getD i default))) (xX (r.l.getD (i+1) default)) (i+1);rw[ag2 (by omega:((i+1:Nat):Int)<(r.l.length:Int)),ag2 (by omega:(0:Int)<=((i+1:Nat):Int)/\((i+1:Nat):Int)<(r.l.length:Int)),ak hk,ag2 (by constructor<;>omega:(i+1+1)*88<=70368744177664/\i+1+1<4611686018427387904),ag2 (rfl:i+1=i+1),wi (x:=((i+1:Nat):Int)+1) (by omega) (by omega)]at hb;have:=(ai mixed (au _) aF hb rfl (ag3 _) (by simp)).eI (W':=[0,1]) (by simp);exact this.eB (Wk.tm (.cons (.refl _) (.cons (lq rfl rfl) (.cons (.refl _) (.cons (.refl _) (.cons (.refl _) .nil)))))))
  (by
  match hn:r.l.length with
  |0=>
   show an prog (ae f167 3) (sk r aR ((0:Nat):Int)) [] (.exit 0) (sk r aR ((0:Nat):Int)) [] [];have hb:=Gz r (xX default) 0;rw[ag8 (by omega)]at hb;exact ai mixed (au _) aF hb rfl (ag9 _) (by simp)
  |n+1=>
   show an prog (ae f167 3) (sk r (.aY false 4 (n+1) (λi=>bN.cells (xX (r.l.getD i default))) (.tok 1)) ((n+1:Nat):Int)) [.dead,.tail (n+1) 4] (.exit 0) (sk r (.aY false 4 (n+1) (λi=>bN.cells (xX (r.l.getD i default))) (.tok 1)) ((n+1:Nat):Int)) [.dead,.tail (n+1) 4] [];have hb:=GA r (n+1) (λi=>bN.cells (xX (r.l.getD i default))) (xX default) (n+1);rw[ag8 (by omega)]at hb;exact ai mixed (au _) aF hb rfl (ag3 _) (by simp))
 have hl:an prog (.loop (ae f167 3)) (sk r aR ((0:Nat):Int)) [] (.exit 0) (sk r (xW 4 (λi=>bN.cells (xX (r.l.getD i default))) r.l.length) r.l.length) (wK 4 r.l.length) []:=an.wr (Wr':=[]) hl (λl _ hl=>absurd hl (ahg _));have hb:=Rf r (xW 4 (λi=>bN.cells (xX (r.l.getD i default))) r.l.length) (wK 4 r.l.length);rw[bc hl]at hb;exact bG mixed (au _) (ba ab) hb rfl (r.zt xX 4 bN.cells) bQ lf H
mutual
def sN:az->az
 | .mk name af mN aC aQ bB exts aI bp bY opts dE=> .mk name (af.cl id) aC.isEmpty (DP aC) (aQ.cl tU) bB (exts.cl id) (aI.cl id) bp bY opts dE
def DP:List az->List az
 |[]=>[]
 |m::r=>sN m::DP r
end
theorem zw:∀l,DP l=l.map sN
 |[]=>rfl
 |m::r=>by rw[DP,zw r];rfl
section
def sl (r:aX az) (x:AV) (i:Int):List AV:=bz 22 [(1,.fn (.func 164) [] []),(5,x),(8,r.av 11 az.one),(9,i64 r.l.length),(10,i64 i)]
theorem GC (r:aX az) (c:az) (i:Nat):(db prog (cK []) (told prog [] [⟨17,0,.agg (az.one c)⟩]) [] 3 (ae f163 3) (sl r aR i) []).via (cz [1,5,8,9,10] [0] 2)=
  bif decide ((i:Int)<(r.l.length:Int))then bif decide ((0:Int)<=(i:Int)/\(i:Int)<(r.l.length:Int))then bif aD prog 164 [.agg (az.one (r.l.getD i default))] [] (.agg (az.one c))then
   some ⟨.normal,sl r (.aY false 11 1 (bI 0 (λ_=>[]) (rowOf 11 (az.one c))) (.tok 1)) (IntKind.wrap .i64 ((i:Int)+1)),[.dead,.tail 1 11],[0],true⟩else none else none
  else some ⟨.exit 0,sl r aR i,[],[],true⟩:=by kernel_rfl
theorem GD (r:aX az) (n:Nat) (el:Nat->List AV) (c:az) (i:Nat):(db prog (cK []) (told prog [] [⟨17,0,.agg (az.one c)⟩]) [] 3 (ae f163 3) (sl r (.aY false 11 n el (.tok 1)) i) [.dead,.tail n 11]).via (cz [1,5,8,9,10] [2] 2)=
  bif decide ((i:Int)<(r.l.length:Int))then bif decide ((0:Int)<=(i:Int)/\(i:Int)<(r.l.length:Int))then bif aD prog 164 [.agg (az.one (r.l.getD i default))] [] (.agg (az.one c))then bif decide ((n+1)*256<=70368744177664/\n+1<4611686018427387904)then bif decide (n=n)then
   some ⟨.normal,sl r (.aY false 11 (n+1) (bI n el (rowOf 11 (az.one c))) (.tok 1)) (IntKind.wrap .i64 ((i:Int)+1)),[.dead,.tail (n+1) 11],[1],true⟩else none else none else none else none
  else some ⟨.exit 0,sl r (.aY false 11 n el (.tok 1)) i,[.dead,.tail n 11],[],true⟩:=by kernel_rfl
theorem Rg (r:aX az) (x:AV) (H:aa):(eb prog (cK []) (cJ prog [⟨3,[1,5,8,9,10],.exit 0,sl r x r.l.length,H,[]⟩] aN) [] 3 163 [r.av 11 az.one,.fn (.func 164) [] []] []).via ch=
  bif cj prog (ae f163 3) (sl r aR ((0:Nat):Int)) [] (.exit 0) (sl r x r.l.length) H []then some x else none:=by kernel_rfl
end
theorem wN (r:aX az) (h:r.l.length<=bL) (hc:∀x∈r.l,∀H,bZ prog 164 [.agg (az.one x)] (.agg (az.one (sN x))) H H []) (H:aa):
  bZ prog 163 [r.av 11 az.one,.fn (.func 164) [] []] ((r.cl sN).av 11 az.one) H H []:=by
 have lf:∀a∈[r.av 11 az.one,AV.fn (.func 164) [] []],LF a:=ao bQ (ao (wL _) bC);unfold bL at h;have hl:=dR (P:=prog) (c:=ae f163 3) (λi=>sl r (xW 11 (λi=>az.one (sN (r.l.getD i default))) i) i) (λi=>wK 11 i) [0,1] (.exit 0) (by simp) r.l.length (λi hi=>by
  have hk:=hc _ (bM hi) []
  match i,hi,hk with
  |0,hi,hk=>
   have hb:=GC r (sN (r.l.getD 0 default)) 0;rw[ag2 (by omega:((0:Nat):Int)<(r.l.length:Int)),ag2 (by omega:(0:Int)<=((0:Nat):Int)/\((0:Nat):Int)<(r.l.length:Int)),ak hk,wi (x:=((0:Nat):Int)+1) (by omega) (by omega)]at hb;have:=(ai mixed (au _) aF hb rfl (ag9 _) (by simp)).eI (W':=[0,1]) (by simp);exact this.eB (Wk.tm (.cons (.refl _) (.cons (lp rfl rfl) (.cons (.refl _) (.cons (.refl _) (.cons (.refl _) .nil))))))
  |i+1,hi,hk=>
   have hb:=GD r (i+1) (λi=>az.one (sN (r.l.getD i default))) (sN (r.l.getD (i+1) default)) (i+1);rw[ag2 (by omega:((i+1:Nat):Int)<(r.l.length:Int)),ag2 (by omega:(0:Int)<=((i+1:Nat):Int)/\((i+1:Nat):Int)<(r.l.length:Int)),ak hk,ag2 (by constructor<;>omega:(i+1+1)*256<=70368744177664/\i+1+1<4611686018427387904),ag2 (rfl:i+1=i+1),wi (x:=((i+1:Nat):Int)+1) (by omega) (by omega)]at hb;have:=(ai mixed (au _) aF hb rfl (ag3 _) (by simp)).eI (W':=[0,1]) (by simp);exact this.eB (Wk.tm (.cons (.refl _) (.cons (lq rfl rfl) (.cons (.refl _) (.cons (.refl _) (.cons (.refl _) .nil)))))))
  (by
  match hn:r.l.length with
  |0=>
   show an prog (ae f163 3) (sl r aR ((0:Nat):Int)) [] (.exit 0) (sl r aR ((0:Nat):Int)) [] [];have hb:=GC r (sN default) 0;rw[ag8 (by omega)]at hb;exact ai mixed (au _) aF hb rfl (ag9 _) (by simp)
  |n+1=>
   show an prog (ae f163 3) (sl r (.aY false 11 (n+1) (λi=>az.one (sN (r.l.getD i default))) (.tok 1)) ((n+1:Nat):Int)) [.dead,.tail (n+1) 11] (.exit 0) (sl r (.aY false 11 (n+1) (λi=>az.one (sN (r.l.getD i default))) (.tok 1)) ((n+1:Nat):Int)) [.dead,.tail (n+1) 11] [];have hb:=GD r (n+1) (λi=>az.one (sN (r.l.getD i default))) (sN default) (n+1);rw[ag8 (by omega)]at hb;exact ai mixed (au _) aF hb rfl (ag3 _) (by simp))
 have hl:an prog (.loop (ae f163 3)) (sl r aR ((0:Nat):Int)) [] (.exit 0) (sl r (xW 11 (λi=>az.one (sN (r.l.getD i default))) r.l.length) r.l.length) (wK 11 r.l.length) []:=an.wr (Wr':=[]) hl (λl _ hl=>absurd hl (ahg _));have hb:=Rg r (xW 11 (λi=>az.one (sN (r.l.getD i default))) r.l.length) (wK 11 r.l.length);rw[bc hl]at hb;exact bG mixed (au _) (ba ab) hb rfl (r.zt sN 11 az.one) bQ lf H
theorem aP.kj {d:aP}(h:d.ok):d.DK:=⟨h.2.2.2.2.1,h.2.2.2.2.2⟩
theorem eT.kj {d:eT}(h:d.ok):d.DK:=⟨h.2.1,h.2.2⟩
theorem cF.kj {d:cF}(h:d.ok):d.DK:=h
theorem cM.kj {d:cM}(h:d.ok):d.DK:=h
theorem bt.kj {d:bt}(h:d.ok):d.DK:=⟨λy hy=>eT.kj (h.2.1 y hy),h.2.2⟩
theorem bN.kj {d:bN}(h:d.ok):d.DK:=⟨λy hy=>cM.kj (h.2.1 y hy),h.2.2⟩
theorem az.Ly:∀{l:List az},az.xN l->∀y∈l,az.ok y
 |[],_,y,hy=>by simp at hy
 |x::r,h,y,hy=>by
  simp only[az.xN]at h;rcases ahl.1 hy with rfl|hy
  ·exact h.1
  ·exact az.Ly h.2 y hy
def BZ (m:az):aX az:=⟨m.mN,m.aC⟩
def U8 (m:az):List AV:=[.sc (.string m.name),(m.af.cl id).av 13 aP.cells,((BZ m).cl sN).av 11 az.one,(m.aQ.cl tU).av 4 bt.cells,m.bB.av 2 dY.cells,(m.exts.cl id).av 13 aP.cells,(m.aI.cl id).av 3 cF.cells,m.bp.av 2 dY.cells,m.bY.av,m.opts.av,m.dE.av]
theorem U9 (m:az):Wk (U8 m) (sN m).one:=by
 refine Wk.trans ?_ (Lu (sN m))
 cases m with
 |mk name af mN aC aQ bB exts aI bp bY opts dE=>
  have e:(sN (.mk name af mN aC aQ bB exts aI bp bY opts dE)).two=U8 (.mk name af mN aC aQ bB exts aI bp bY opts dE):=by
   simp only[sN,az.two,U8,az.flat,az.name,az.af,az.mN,az.aC,az.aQ,az.bB,az.exts,az.aI,az.bp,az.bY,az.opts,az.dE,BZ,aX.cl,aX.av,zw]
  rw[e];exact .refl _
theorem GF (m:az):(eb prog (cK []) (told prog [] [⟨5,0,m.opts.av⟩,⟨8,0,m.dE.av⟩,⟨13,0,(m.af.cl id).av 13 aP.cells⟩,⟨16,0,(m.exts.cl id).av 13 aP.cells⟩,⟨21,0,(m.aQ.cl tU).av 4 bt.cells⟩,⟨24,0,((BZ m).cl sN).av 11 az.one⟩,⟨29,0,m.bB.av 2 dY.cells⟩,⟨32,0,m.bp.av 2 dY.cells⟩,⟨35,0,m.bY.av⟩,⟨41,0,(m.aI.cl id).av 3 cF.cells⟩]) [] 3 164 [.agg m.two] []).via ch=
  bif aD prog 127 [m.opts.av] [] m.opts.av then bif aD prog 127 [m.dE.av] [] m.dE.av then
  bif aD prog 169 [m.af.av 13 aP.cells,.fn (.func 57) [] []] [] ((m.af.cl id).av 13 aP.cells)then bif aD prog 169 [m.exts.av 13 aP.cells,.fn (.func 57) [] []] [] ((m.exts.cl id).av 13 aP.cells)then
  bif aD prog 165 [m.aQ.av 4 bt.cells,.fn (.func 166) [] []] [] ((m.aQ.cl tU).av 4 bt.cells)then bif aD prog 163 [(BZ m).av 11 az.one,.fn (.func 164) [] []] [] (((BZ m).cl sN).av 11 az.one)then
  bif aD prog 234 [m.bB.av 2 dY.cells] [] (m.bB.av 2 dY.cells)then bif aD prog 234 [m.bp.av 2 dY.cells] [] (m.bp.av 2 dY.cells)then bif aD prog 161 [m.bY.av] [] m.bY.av then
  bif aD prog 235 [m.aI.av 3 cF.cells,.fn (.func 236) [] []] [] ((m.aI.cl id).av 3 cF.cells)then some (.agg (U8 m))else none else none else none else none else none else none else none else none else none else none:=by kernel_rfl
theorem JV (m:az):∀x∈m.one,LF x:=Dw m
theorem Va (m:az):∀x∈m.two,LF x:=ao (.sc _) (ao bQ (ao bQ (ao bQ (ao bQ (ao bQ (ao bQ (ao bQ (ao bQ (ao bQ (ao bQ bC))))))))))
theorem gM {α:Type}{r:aX α}{f:α->Nat}(hp:∀x,1<=f x):r.l.length<=r.sz f:=by
 have:=cy (f:=f) (l:=r.l) (λx _=>hp x);unfold aX.sz;omega
theorem fI {α:Type}{r:aX α}{f:α->Nat}{x:α}(h:x∈r.l):f x<=r.sz f:=by
 have:=cf (f:=f) h;unfold aX.sz;omega
theorem GG (r:bD):r.l.length<=r.sz:=by
 have:=cy (f:=λs:ByteArray=>s.size+1) (l:=r.l) (λx _=>by omega);unfold bD.sz;omega
theorem zx:∀(n:Nat) (m:az),m.sz<=n->m.sz<=bL->m.ok->∀H,bZ prog 164 [.agg m.one] (.agg (sN m).one) H H []
 |0,m,h,_,_=>absurd m.bT (by omega)
 |n+1,m,h,hb,hk=>by
  intro H;have ht:=GF m;have hs:=m.wI;have w9:(m.af.nl=true->m.af.l.length=0)/\(∀y∈m.af.l,aP.ok y)/\(m.mN=true->m.aC.length=0)/\az.xN m.aC/\(m.aQ.nl=true->m.aQ.l.length=0)/\(∀y∈m.aQ.l,bt.ok y)/\(m.bB.nl=true->m.bB.l.length=0)/\(∀y∈m.bB.l,dY.ok y)/\(m.exts.nl=true->m.exts.l.length=0)/\(∀y∈m.exts.l,aP.ok y)/\(m.aI.nl=true->m.aI.l.length=0)/\(∀y∈m.aI.l,cF.ok y)/\(m.bp.nl=true->m.bp.l.length=0)/\(∀y∈m.bp.l,dY.ok y)/\(m.bY.nl=true->m.bY.l.length=0)/\(m.opts.nl=true->m.opts.l.length=0)/\(m.dE.nl=true->m.dE.l.length=0):=by
   cases m;simp only[az.ok]at hk;exact hk
  obtain⟨_,k2,_,k4,_,k6,k7,_,_,k10,_,k12,k13,_,k15,k16,k17⟩:=w9;unfold bL at hb;have e1:=gM (r:=m.af) aP.bT;have e2:=gM (r:=m.exts) aP.bT;have e3:=gM (r:=m.aQ) bt.bT;have e4:=gM (r:=m.aI) cF.bT;have e5:=gM (r:=m.bB) dY.bT;have e6:=gM (r:=m.bp) dY.bT;have e7:=GG m.bY;have e8:m.opts.l.length<=m.opts.sz:=by unfold jh.sz;omega
  have e9:m.dE.l.length<=m.dE.sz:=by unfold jh.sz;omega
  have Zt:=cy (f:=az.sz) (l:=m.aC) (λx _=>x.bT);rw[ak (dF m.opts (by omega) k16 []),ak (dF m.dE (by omega) k17 []),
   ak (ri m.af (by unfold bL;omega) (λx hx H=>tE x (by have:=fI (f:=aP.sz) hx;unfold bL;omega) (aP.kj (k2 x hx)) H) []),
   ak (ri m.exts (by unfold bL;omega) (λx hx H=>tE x (by have:=fI (f:=aP.sz) hx;unfold bL;omega) (aP.kj (k10 x hx)) H) []),
   ak (wM m.aQ (by unfold bL;omega) (λx hx H=>zu x (by have:=fI (f:=bt.sz) hx;unfold bL;omega) (bt.kj (k6 x hx)) H) []),
   ak (wN (BZ m) (by show m.aC.length<=bL;unfold bL;omega) (λx hx H=>by
    have Au:x∈m.aC:=hx;have:=cf (f:=az.sz) Au;exact zx n x (by omega) (by unfold bL;omega) (az.Ly k4 x Au) H) []),
   ak (uU m.bB (by omega) k7 []),ak (uU m.bp (by omega) k13 []),ak (uT m.bY (by omega) k15 []),
   ak (Gn m.aI (by unfold bL;omega) (λx hx H=>Gg x (by have:=fI (f:=cF.sz) hx;unfold bL;omega) (cF.kj (k12 x hx)) H) [])]at ht
  have key:=bG mixed (au _) aF ht rfl (ev.agg (U9 m)) (gJ (JV _)) (ao (gJ (Va m)) bC) H;exact key.fR (.cons (ev.agg m.xS) .nil)
def rj (f:ag):ag:={ f with ay:=f.ay.cl sN,aQ:=f.aQ.cl tU,aL:=f.aL.cl xX,exts:=f.exts.cl id}
theorem Rh (f:ag):(eb prog (cK []) (told prog [] [⟨5,0,f.opts.av⟩,⟨8,0,f.dE.av⟩,⟨13,0,f.cm.av⟩,⟨16,0,f.ey.av⟩,⟨21,0,(f.ay.cl sN).av 11 az.one⟩,⟨24,0,(f.aQ.cl tU).av 4 bt.cells⟩,⟨29,0,(f.aL.cl xX).av 4 bN.cells⟩,⟨32,0,(f.exts.cl id).av 13 aP.cells⟩]) [] 3 100 [.agg f.two] []).via ch=
  bif aD prog 127 [f.opts.av] [] f.opts.av then bif aD prog 127 [f.dE.av] [] f.dE.av then bif aD prog 161 [f.cm.av] [] f.cm.av then bif aD prog 162 [f.ey.av] [] f.ey.av then
  bif aD prog 163 [f.ay.av 11 az.one,.fn (.func 164) [] []] [] ((f.ay.cl sN).av 11 az.one)then bif aD prog 165 [f.aQ.av 4 bt.cells,.fn (.func 166) [] []] [] ((f.aQ.cl tU).av 4 bt.cells)then
  bif aD prog 167 [f.aL.av 4 bN.cells,.fn (.func 168) [] []] [] ((f.aL.cl xX).av 4 bN.cells)then bif aD prog 169 [f.exts.av 13 aP.cells,.fn (.func 57) [] []] [] ((f.exts.cl id).av 13 aP.cells)then
   some (.agg (rj f).two)else none else none else none else none else none else none else none else none:=by kernel_rfl
theorem l8 (f:ag):∀x∈f.two,LF x:=ao (.sc _) (ao (.sc _) (ao bQ (ao bQ (ao bQ (ao bQ (ao bQ (ao bQ (ao (.sc _) (ao bQ (ao bQ bC))))))))))
theorem Vb (f:ag) (hb:f.sz<=bL) (hk:f.ok) (H:aa):bZ prog 100 [.agg f.two] (.agg (rj f).two) H H []:=by
 have ht:=Rh f;obtain⟨k0,k1,_,k3,_,k5,_,k7,_,k9,k10,k11⟩:=hk;have hp:f.ey.l.length<=f.ey.sz:=by unfold nZ.sz;omega
 unfold ag.sz bL at hb;have e1:=gM (r:=f.ay) az.bT;have e2:=gM (r:=f.exts) aP.bT;have e3:=gM (r:=f.aQ) bt.bT;have e4:=gM (r:=f.aL) bN.bT;have e7:=GG f.cm;have e8:f.opts.l.length<=f.opts.sz:=by unfold jh.sz;omega
 have e9:f.dE.l.length<=f.dE.sz:=by unfold jh.sz;omega
 rw[ak (dF f.opts (by omega) k10 []),ak (dF f.dE (by omega) k11 []),ak (uT f.cm (by omega) k0 []),ak (DJ f.ey (by omega) k1 []),
  ak (wN f.ay (by unfold bL;omega) (λx hx H=>by
   have:=fI (f:=az.sz) hx;exact zx x.sz x (ag3 _) (by unfold bL;omega) (k3 x hx) H) []),
  ak (wM f.aQ (by unfold bL;omega) (λx hx H=>zu x (by have:=fI (f:=bt.sz) hx;unfold bL;omega) (bt.kj (k5 x hx)) H) []),
  ak (GB f.aL (by unfold bL;omega) (λx hx H=>JU x (by have:=fI (f:=bN.sz) hx;unfold bL;omega) (bN.kj (k7 x hx)) H) []),
  ak (ri f.exts (by unfold bL;omega) (λx hx H=>tE x (by have:=fI (f:=aP.sz) hx;unfold bL;omega) (aP.kj (k9 x hx)) H) [])]at ht
 exact bG mixed (au _) aF ht rfl (.refl _) (gJ (l8 _)) (ao (gJ (l8 f)) bC) H
theorem JW (a b:ByteArray):(eb prog (cK []) aN [] 3 241 [aS a,aS b] []).via ch=
  bif qU a then some (aS b)else bif decide (a.size+dot.size<=4611686018427387904)then bif decide ((a++dot).size+b.size<=4611686018427387904)then some (aS (a++dot++b))else none else none:=by kernel_rfl
theorem NL {a b:ByteArray}(ha:a.size<=1099511627776) (hb:b.size<=1099511627776) (H:aa):bZ prog 241 [aS a,aS b] (aS (ar a b)) H H []:=by
 have ht:=JW a b;have hd:dot.size=1:=rfl;rw[qV,hd,ag2 (by omega:a.size+1<=4611686018427387904),ag2 (by omega:a.size+1+b.size<=4611686018427387904)]at ht;have e:(bif qU a then some (aS b)else bif true then bif true then some (aS (a++dot++b))else none else none)=some (aS (ar a b)):=by
  unfold ar;cases qU a<;>rfl
 rw[e]at ht;exact bG mixed (au _) ab ht rfl (.refl _) (.sc _) (ao (.sc _) (ao (.sc _) bC)) H
section
variable (s:ByteArray)
def xv (r i:Int):List AV:=bz 19 [(0,aS s),(1,.sc (.int .u8 46)),(4,i64 r),(5,i64 i)]
theorem zy (i:Int):(db prog (cK []) aN [] 3 (ae f276 2) (xv s 0 i) []).via (cz [0,1,4,5] [] 0)=
  bif decide (i≥0)then bif decide (0<=i/\i<(s.size:Int))then
   bif (cr s i.toNat==46)then some ⟨.ret,xv s i i,[],[],true⟩
   else some ⟨.normal,xv s 0 (IntKind.wrap .i64 (i-1)),[],[],true⟩else none
  else some ⟨.exit 0,xv s 0 i,[],[],true⟩:=by kernel_rfl
theorem Ri (i:Int):(eb prog (cK []) (cJ prog [⟨2,[0,1,4,5],.exit 0,xv s 0 i,[],[]⟩] aN) [] 3 276 [aS s,.sc (.int .u8 46)] []).via ch=
  bif cj prog (ae f276 2) (xv s 0 (IntKind.wrap .i64 ((s.size:Int)-1))) [] (.exit 0) (xv s 0 i) [] []then some (i64 (-1))else none:=by kernel_rfl
theorem NM (i:Int):(eb prog (cK []) (cJ prog [⟨2,[0,1,4,5],.ret,xv s i i,[],[]⟩] aN) [] 3 276 [aS s,.sc (.int .u8 46)] []).via ch=
  bif cj prog (ae f276 2) (xv s 0 (IntKind.wrap .i64 ((s.size:Int)-1))) [] .ret (xv s i i) [] []then some (i64 i)else none:=by kernel_rfl
theorem Rj (i:Int):(eb prog (cK []) (told prog [] [⟨7,0,i64 i⟩]) [] 3 242 [aS s,.sc (.int .u8 46)] []).via ch=
  bif aD prog 276 [aS s,.sc (.int .u8 46)] [] (i64 i)then some (i64 i)else none:=by kernel_rfl
def NN (i:Int):Int:=if 0>i then 0 else i
theorem Rk (i:Int):(eb prog (cK []) (told prog [] [⟨6,0,i64 i⟩]) [] 3 172 [aS s] []).via ch=
  bif aD prog 242 [aS s,.sc (.int .u8 46)] [] (i64 i)then
  bif decide ((0:Int)<=0/\(0:Int)<=NN i/\NN i<=(s.size:Int))then bif decide ((0:Int)<=IntKind.wrap .i64 (i+1)/\IntKind.wrap .i64 (i+1)<=(s.size:Int)/\(s.size:Int)<=(s.size:Int))then
   some (.bq [aS (s.extract 0 (NN i).toNat),aS (s.extract (IntKind.wrap .i64 (i+1)).toNat s.size)])else none else none else none:=by kernel_rfl
end
def AZ (s:ByteArray):Int:=match sb s s.size with
 |some i=>(i:Int)
 |none=> -1
theorem Rl (s:ByteArray) (hs:s.size<=1099511627776) (H:aa):bZ prog 276 [aS s,.sc (.int .u8 46)] (i64 (AZ s)) H H []:=by
 have lf:∀a∈[aS s,AV.sc (.int .u8 46)],LF a:=ao (.sc _) (ao (.sc _) bC);have hl:=iS (P:=prog) (c:=ae f276 2) (λk=>xv s 0 ((s.size:Int)-1-k)) (λk=>xv s ((s.size:Int)-1-k) ((s.size:Int)-1-k)) (λk=>cr s (s.size-1-k)==46) (.exit 0) (by simp) s.size (λk hk hc=>by
  have hb:=zy s ((s.size:Int)-1-k);have e1:((s.size:Int)-1-k).toNat=s.size-1-k:=by omega
  rw[e1,hc,ag2 (by omega:(s.size:Int)-1-k≥0),ag2 (by omega:(0:Int)<=(s.size:Int)-1-k/\(s.size:Int)-1-k<(s.size:Int))]at hb;exact ai mixed (au _) ab hb rfl (ag3 _) (by simp)) (λk hk hc=>by
  have hb:=zy s ((s.size:Int)-1-k);have e1:((s.size:Int)-1-k).toNat=s.size-1-k:=by omega
  have e2:IntKind.wrap .i64 ((s.size:Int)-1-k-1)=(s.size:Int)-1-((k+1:Nat):Int):=by rw[wi (by omega) (by omega)];omega
  rw[e1,hc,e2,ag2 (by omega:(s.size:Int)-1-k≥0),ag2 (by omega:(0:Int)<=(s.size:Int)-1-k/\(s.size:Int)-1-k<(s.size:Int))]at hb;exact ai mixed (au _) ab hb rfl (ag3 _) (by simp)) (by
  have hb:=zy s ((s.size:Int)-1-(s.size:Nat));rw[ag8 (by omega)]at hb;exact ai mixed (au _) ab hb rfl (ag3 _) (by simp))
 have e0:IntKind.wrap .i64 ((s.size:Int)-1)=(s.size:Int)-1-((0:Nat):Int):=by rw[wi (by omega) (by omega)];omega
 rcases hl with ⟨h,fy⟩|⟨j,hj,hc,fy,h⟩
 ·have hd:sb s s.size=none:=vM (λj hj=>by
   have:=fy (s.size-1-j) (by omega);rw[show s.size-1-(s.size-1-j)=j by omega]at this;simpa using this)
  have hb:=Ri s ((s.size:Int)-1-(s.size:Nat));rw[e0,bc h]at hb;unfold AZ;rw[hd];exact bG mixed (au _) (ba ab) hb rfl (.refl _) (.sc _) lf H
 ·have hd:sb s s.size=some (s.size-1-j):=vN (by simpa using hc) (by omega) (λi h1 h2=>by
   have:=fy (s.size-1-i) (by omega);rw[show s.size-1-(s.size-1-i)=i by omega]at this;simpa using this)
  have hb:=NM s ((s.size:Int)-1-(j:Nat));rw[e0,bc h]at hb;unfold AZ;rw[hd];have e:((s.size-1-j:Nat):Int)=(s.size:Int)-1-(j:Nat):=by omega
  dsimp only;rw[e];exact bG mixed (au _) (ba ab) hb rfl (.refl _) (.sc _) lf H
theorem GH (s:ByteArray) (hs:s.size<=1099511627776) (H:aa):bZ prog 242 [aS s,.sc (.int .u8 46)] (i64 (AZ s)) H H []:=by
 have hb:=Rj s (AZ s);rw[ak (Rl s hs [])]at hb;exact bG mixed (au _) aF hb rfl (.refl _) (.sc _) (ao (.sc _) (ao (.sc _) bC)) H
theorem NO (s:ByteArray):s.extract 0 0=aq:=by
 apply ByteArray.ext;simp[aq]
theorem JX (s:ByteArray):s.extract 0 s.size=s:=by
 apply ByteArray.ext;simp
theorem GI (s:ByteArray) (hs:s.size<=1099511627776) (H:aa):bZ prog 172 [aS s] (.bq [aS (ft s),aS (pX s)]) H H []:=by
 have hb:=Rk s (AZ s);rw[ak (GH s hs [])]at hb;have lf2:∀a b:ByteArray,LF (.bq [aS a,aS b]):=λa b=> .bq _ (ao (.sc _) (ao (.sc _) bC))
 cases hd:sb s s.size with
 |none=>
  have e1:AZ s= -1:=by unfold AZ;rw[hd]
  have e2:NN (-1)=0:=rfl;have e3:IntKind.wrap .i64 (-1+1)=0:=wi (by omega) (by omega);rw[e1,e2,e3,ag2 (by omega),ag2 (by omega)]at hb;have e4:ft s=s.extract 0 0:=by unfold ft;rw[hd,NO]
  have e5:pX s=s.extract 0 s.size:=by unfold pX;rw[hd,JX]
  rw[e4,e5];exact bG mixed (au _) aF hb rfl (.refl _) (lf2 _ _) (ao (.sc _) bC) H
 |some i=>
  have hi:=DF hd;have e1:AZ s=(i:Int):=by unfold AZ;rw[hd]
  have e2:NN (i:Int)=(i:Int):=by unfold NN;rw[if_neg (by omega)]
  have e3:IntKind.wrap .i64 ((i:Int)+1)=(i:Int)+1:=wi (by omega) (by omega);rw[e1,e2,e3,ag2 (by omega),ag2 (by omega)]at hb;have e4:ft s=s.extract 0 (i:Int).toNat:=by unfold ft;rw[hd];rfl
  have e5:pX s=s.extract ((i:Int)+1).toNat s.size:=by unfold pX;rw[hd];rfl
  rw[e4,e5];exact bG mixed (au _) aF hb rfl (.refl _) (lf2 _ _) (ao (.sc _) bC) H
theorem gT:∀(ks:List Nat) (H:aa),(dc ks H).length=H.length
 |[],H=>rfl
 |k::ks,H=>by show (dc ks (H.set k .dead)).length=_;rw[gT ks];simp
theorem jX:∀(ks:List Nat) (H:aa) (l:Nat),l∉ks->(dc ks H)[l]? =H[l]?
 |[],H,l,_=>rfl
 |k::ks,H,l,h=>by
  show (dc ks (H.set k .dead))[l]? =_;rw[jX ks _ l (λhm=>h (ahn _ hm)),ag7 (λe=>h (by simp[e]))]
theorem mJ:∀(ks:List Nat) (H:aa) (l:Nat),l∈ks->l<H.length->(dc ks H)[l]? =some .dead
 |[],H,l,h,_=>by simp at h
 |k::ks,H,l,h,hl=>by
  show (dc ks (H.set k .dead))[l]? =_;by_cases hm:l∈ks
  ·exact mJ ks _ l hm (by simpa using hl)
  ·rw[jX ks _ l hm];have:l=k:=(ahl.1 h).resolve_right hm;subst this;exact ahd hl
theorem zz {W:List Nat}{H H':aa}(h:cQ H H' W):(dc W H').take H.length=dc W H:=by
 refine ah2 (λl=> ?_);by_cases hl:l<H.length
 ·rw[aiv hl];by_cases hm:l∈W
  ·rw[mJ W H' l hm (by have:=h.1;omega),mJ W H l hm hl]
  ·rw[jX W H' l hm,jX W H l hm,h.2 l hl hm]
 ·rw[ahu (by simp[gT];omega),ahu (by rw[gT];omega)]
theorem zA {n:Nat}{W:List Nat}{H:aa}(h:∀o∈H,cH n o=true):∀o∈dc W H,cH n o=true:=by
 intro o ho;obtain⟨i,hi⟩:=ahT ho;by_cases hm:i∈W
 ·have hl:i<H.length:=by have:=(ag5.1 hi).1;rwa [gT]at this
  rw[mJ W H i hm hl]at hi;cases hi;rfl
 ·rw[jX W H i hm]at hi;exact h o (ahf hi)
theorem B0 {W:List Nat}{H:aa}(h:∀o∈H,gn o=true):∀o∈dc W H,gn o=true:=by
 intro o ho;obtain⟨i,hi⟩:=ahT ho;by_cases hm:i∈W
 ·have hl:i<H.length:=by have:=(ag5.1 hi).1;rwa [gT]at this
  rw[mJ W H i hm hl]at hi;cases hi;rfl
 ·rw[jX W H i hm]at hi;exact h o (ahf hi)
theorem GJ {W:List Nat}{H H':aa}(h:cQ H H' W) (hl:H'.length=H.length):dc W H'=dc W H:=by
 rw[←zz h];rw[List.take_of_length_le (by rw[gT];omega)]
theorem Ext.Vc {n0:Nat}{W:Nat->Prop}{E E':Env}{H H':aa}{w w':World}(h:Ext n0 W E H w E' H' w'){l:Nat}(hl:n0<=l∨W l):Ext n0 W E H w E' (H'.set l .dead) w':=by
 refine⟨h.le,h.size,by simpa using h.len,λ{k} hk hw=> ?_,λhk hw ho=>h.iX hk hw ho,h.lL,λ{b} hb h0=> ?_⟩
 ·have:l≠k:=λe=>by
   subst e;rcases hl with hl|hl
   ·omega
   ·exact hw hl
  rw[ag7 this];exact h.same hk hw
 ·obtain⟨q1,q2,q3⟩:=h.stay hb h0;exact⟨q1,λk ho=>q2 k (jU ho).1,q3⟩
theorem an.YA {P:Program}{c:Code}{T T':List AV}{H H':aa}{x:bj}{W:List Nat}(h:an P c T H x T' H' W){l:Nat}(hl:H.length<=l∨l∈W):an P c T H x T' (H'.set l .dead) W:=by
 refine⟨λn0 W0 hn hW E w0 w a D s6 hg ht hd=> ?_,⟨by simpa using h.2.1,λk hk hm=> ?_⟩⟩
 ·refine wp_mono (h.1 n0 W0 hn hW E w0 w a D s6 hg ht hd) ?_;rintro e a' w' ⟨E',ax,T2,H2,⟨rfl,rfl,rfl⟩,r,ex,g,t,d⟩;refine⟨E',ax,_,_,⟨rfl,rfl,rfl⟩,r,ex.Vc ?_,g.rL l,t,d⟩;by_cases hln:n0<=l
  ·exact .inl hln
  ·rcases hl with hl|hl
   ·exact .inl (by omega)
   ·exact .inr (hW l hl (by omega))
 ·have:l≠k:=λe=>by
   subst e;rcases hl with hl|hl
   ·omega
   ·exact hm hl
  rw[ag7 this];exact h.2.2 k hk hm
theorem an.Rm {P:Program}{c:Code}{T T':List AV}{H:aa}{x:bj}{W:List Nat}:∀(ks:List Nat) (H':aa),an P c T H x T' H' W->(∀l∈ks,H.length<=l∨l∈W)->an P c T H x T' (dc ks H') W
 |[],_,h,_=>h
 |k::ks,H',h,hk=>an.Rm ks _ (h.YA (hk k (ahD ..))) (λl hl=>hk l (ahn _ hl))
def fD (n:Nat):List AV:=List.replicate n .any
theorem Vd (T:List AV):Wk T (fD T.length):=⟨by simp[fD],λi y hy=>by
 have hi:i<T.length:=by have:=(ag5.1 hy).1;simpa [fD]using this
 have hm:=ahf hy;unfold fD at hm;rw[ah6]at hm;rw[hm.2];exact⟨T[i],ahc hi,.any _⟩⟩
theorem an.Xg {P:Program}{c:Code}{T T':List AV}{H H':aa}{x:AV}{Wr:List Nat}{n:Nat}(h:an P c T H (.panic x) T' H' Wr) (hn:H.length<=n) (hT:dG n T'=true) (hH:∀o∈H'.take n,cH n o=true) (hx:ff n x=true):an P c T H (.panic x) T' (H'.take n) Wr:=by
 refine⟨λn0 W sx hW E w0 w1 a D s6 hg ht hd=>wp_mono (h.1 n0 W sx hW E w0 w1 a D s6 hg ht hd) ?_,?_,λl hl hm=> ?_⟩
 ·rintro e a w2 ⟨E',ax,T2,H2,⟨rfl,rfl,rfl⟩,r,ex,g,t,d⟩;refine⟨E'.cut n,.panic x,T2,_,⟨rfl,rfl,rfl⟩,?_,ex.trim hg s6 hn,g.trim hH,⟨t.1,λi y hy=>(t.2 i y hy).cut (fi hT y (ahf hy))⟩,d⟩
  cases r with
  |panic x v hv=>exact .panic x v (hv.cut hx)
 ·have:=h.2.1;simp;omega
 ·rw[ahI,if_pos (by omega)];exact h.2.2 l hl hm
theorem NP (n k:Nat):dG n (fD k)=true:=eP (λx hx=>by
 unfold fD at hx;rw[(ah6.1 hx).2];exact .any)
theorem an.AA {P:Program}{c:Code}{T T':List AV}{H H':aa}{x:AV}{W W':List Nat}(h:an P c T H (.panic x) T' H' W') (hx:LF x) (hH:∀o∈H,cH H.length o=true) (hW:∀l∈W',l<H.length->l∈W):an P c T H (.panic x) (fD T'.length) (dc W H) W:=by
 have h1:an P c T H (.panic x) T' H' W:=h.wr hW;have h2:=(an.Rm W H' h1 (λl hl=> .inr hl)).eB (Vd T');have e:=zz h1.2;rw[←e];refine h2.Xg (ag3 _) (NP _ _) (λo ho=> ?_) (qP hx);rw[e]at ho;exact zA hH o ho
structure DR where
 id:Nat
 k:Nat
 b:Bool
 x:AV
 W:List Nat
open Classical in
noncomputable def fj (P:Program) (g:FuncId) (args:List AV) (H:aa) (x:AV) (W:List Nat):Bool:=decide (iQ P g args x H (dc W H) W)
theorem fB {P:Program}{g:FuncId}{args:List AV}{H:aa}{x:AV}{W:List Nat}(h:iQ P g args x H (dc W H) W):fj P g args H x W=true:=by simp only[fj,decide_eq_true_eq];exact h
noncomputable def YB (P:Program) (call:cZ) (si:lM) (e:DR) (ops:Array Oper) (T:List AV) (H:aa):Tree gm:=
 .br e.b ((ql P call si ops ops.toList none T H).bind λq=> .leaf (.normal,q.1,q.2.1,r6 q.2.2))
 (if ja ops=true then
  (ql P call si ops (ops.toList.take e.k) none T H).bind λq=>match ops[e.k]? with
   |some o=>match dx ops q.1 o with
    |some true=>match lW o q.1 with
     |some (g,args)=> .br (fj P g args q.2.1 e.x e.W) (.leaf (.panic e.x,q.1,dc e.W q.2.1,r6 q.2.2++e.W)) .bad
     |none=> .bad
    |_=> .bad
   |none=> .bad
 else .bad)
theorem Ve {P:Program}{call:cZ}{si:lM}(hc:cx P call) (KZ:oX P si){id:Nat}{e:DR}{ops:Array Oper}{T T':List AV}{H H':aa}{y:bj}{W:List Nat}(h:(YB P call si e ops T H).eR=some (y,T',H',W)):an P (.region id ops false) T H y T' H' W:=by
 unfold YB at h;rcases Tree.df h with ⟨_,h⟩|⟨_,h⟩
 ·obtain⟨⟨T1,H1,L⟩,h1,h⟩:=aW h;cases Tree.aE h;obtain⟨h2,h3⟩:=fo hc KZ ops.toList 0 _ T _ _ _ _ (λj o hj=>by simpa using hj) h1;have e:(List.range ops.toList.length).map (0+·)=List.range ops.size:=by simp
  rw[e]at h2;exact⟨λn0 W hn hw=>vq h2 hw ⟨rfl,rfl,rfl⟩,h3⟩
 ·split at h
  ·rename_i lU;obtain⟨⟨T1,H1,L1⟩,h1,h⟩:=aW h;split at h
   ·rename_i o ho;have jI:e.k<ops.size:=(aha.1 ho).1;obtain⟨c1,k1⟩:=fo hc KZ (ops.toList.take e.k) 0 none T H _ _ _ (λj q hq=>by
     rw[ahI]at hq;split at hq
     ·simpa using hq
     ·cases hq) h1
    have e1:(List.range (ops.toList.take e.k).length).map (0+·)=List.range e.k:=by
     have:(ops.toList.take e.k).length=e.k:=by simp;omega
     rw[this];simp
    rw[e1]at c1;split at h
    ·rename_i hw;split at h
     ·rename_i g args hg;rcases Tree.df h with ⟨hb,h⟩|⟨_,h⟩
      ·have:=Tree.aE h;simp only[ahe]at this;obtain⟨rfl,rfl,rfl,rfl⟩:=this;simp only[fj,decide_eq_true_eq]at hb;exact tw (id:=id) lU c1.run k1 ho hw (yV hg hb) hb.2.2
      ·exact(Tree.aZ h).elim
     ·exact(Tree.aZ h).elim
    ·exact(Tree.aZ h).elim
   ·exact(Tree.aZ h).elim
  ·exact(Tree.aZ h).elim
noncomputable def jn (P:Program) (call:cZ) (ps:List DR) (lo:bX):bX:=
 {lo with Ex:=λid ops T H=>match ps.find? (·.id==id)with
  |some e=>some (YB P call lo.site e ops T H)
  |none=>lo.Ex id ops T H}
theorem cT {P:Program}{call:cZ}(hc:cx P call){ps:List DR}{lo:bX}(hl:bA P lo):bA P (jn P call ps lo):=by
 refine⟨hl.loop,hl.site,λid ops T H t x T' H' Wr h hr=> ?_⟩;unfold jn at h;simp only at h;split at h
 ·cases h;exact Ve hc hl.site hr
 ·exact hl.Ex _ _ _ _ _ _ _ _ _ h hr
structure Rn where
 key:Nat
 ks:List Nat
 b:Bool
 x:bj
 T:List AV
 H:aa
 px:AV
 TP:List AV
 W:List Nat
noncomputable def nF (P:Program) (xs:List Rn) (lo:bX):bX:=
 {lo with loop:=λc T H=>match (kz c).bind (λi=>xs.find? (·.key==i))with
  |some e=>some (.br e.b (.br (cj P c (lC 0 e.ks T) H e.x e.T e.H e.W) (.leaf (e.x,e.T,e.H,e.W)) .bad) (.br (cj P c (lC 0 e.ks T) H (.panic e.px) e.TP (dc e.W H) e.W) (.leaf (.panic e.px,e.TP,dc e.W H,e.W)) .bad))
  |none=>lo.loop c T H}
theorem eL {P:Program}{xs:List Rn}{lo:bX}(hl:bA P lo):bA P (nF P xs lo):=by
 refine⟨λc T H t x T' H' Wr h hr=> ?_,hl.site,hl.Ex⟩;unfold nF at h;simp only at h;split at h
 ·cases h;rcases Tree.df hr with ⟨_,hr⟩|⟨_,hr⟩
  ·rcases Tree.df hr with ⟨hb,hr⟩|⟨_,hr⟩
   ·have:=Tree.aE hr;simp only[ahe]at this;obtain⟨rfl,rfl,rfl,rfl⟩:=this;simp only[cj,decide_eq_true_eq]at hb;exact hb.ik (dL T 0 _)
   ·exact(Tree.aZ hr).elim
  ·rcases Tree.df hr with ⟨hb,hr⟩|⟨_,hr⟩
   ·have:=Tree.aE hr;simp only[ahe]at this;obtain⟨rfl,rfl,rfl,rfl⟩:=this;simp only[cj,decide_eq_true_eq]at hb;exact hb.ik (dL T 0 _)
   ·exact(Tree.aZ hr).elim
 ·exact hl.loop _ _ _ _ _ _ _ _ h hr
def aa2:bj->Bool
 | .panic _=>true
 |_=>false
def oe (ks kl:List Nat) (n:Nat) (r:gm):Tidy:=match r.1 with
 | .panic x=>⟨.panic x,fD r.2.1.length,[],below n r.2.2.2,true⟩
 |_=>cz ks kl n r
section
variable {P:Program}{call:cZ}{lo:bX}
theorem dZ (hm:P.follows .mixedOrders=true) (hc:cx P call){k n:Nat}{c:Code}{T T1:List AV}{H H1:aa}{ks kl:List Nat}{x:bj}{W1:List Nat}{F:Option Tidy}(hl:bA P lo) (h:(iH P call lo k c T H).via (oe ks kl n)=F)
  (hF:F=some ⟨x,T1,H1,W1,true⟩) (hx:aa2 x=false) (hn:H.length<=n) (jI:∀l∈kl,H.length<=l):an P c T H x T1 H1 W1:=by
 obtain⟨⟨y,T2,H2,W2⟩,hr,hg⟩:=cv h hF;have dC:=kT hm hc hl k c _ _ _ _ _ _ hr;unfold oe at hg;split at hg
 ·simp only[Tidy.mk.injEq]at hg;obtain⟨rfl,_⟩:=hg;cases hx
 ·simp only[cz,Tidy.mk.injEq,ahp]at hg;obtain⟨rfl,rfl,rfl,rfl,⟨h1,h2⟩,h3⟩:=hg;exact(((dC.kill kl _ jI).eB (dL _ _ _)).trim hn h1 (by simpa using h2) h3).wr (λl hl cO=>dt (by omega) hl)
theorem dS (hm:P.follows .mixedOrders=true) (hc:cx P call){k n:Nat}{c:Code}{T T1:List AV}{H:aa}{ks kl:List Nat}{x:AV}{W1 W:List Nat}{F:Option Tidy}(hl:bA P lo) (h:(iH P call lo k c T H).via (oe ks kl n)=F)
  (hF:F=some ⟨.panic x,T1,[],W1,true⟩) (hx:LF x) (hn:H.length<=n) (hH:∀o∈H,cH H.length o=true) (hW:∀l∈W1,l∈W):an P c T H (.panic x) T1 (dc W H) W:=by
 obtain⟨⟨y,T2,H2,W2⟩,hr,hg⟩:=cv h hF;have dC:=kT hm hc hl k c _ _ _ _ _ _ hr;unfold oe at hg;split at hg
 ·rename_i z hz;simp only at hz;subst hz;simp only[Tidy.mk.injEq,bj.panic.injEq]at hg;obtain⟨rfl,rfl,_,rfl,_⟩:=hg;exact dC.AA hx hH (λl hl cO=>hW l (dt (by omega) hl))
 ·rename_i gX;simp only[cz,Tidy.mk.injEq]at hg;exact absurd hg.1 (gX _)
noncomputable def TI (P:Program) (call:cZ) (lo:bX) (n:Nat) (g:FuncId) (args:List AV) (H:aa):Tree (Bool×AV×aa×List Nat):=
 match P.funcs[g]? with
 |none=> .bad
 |some fn=>match fn.body with
  |none=> .bad
  |some c=>if (fn.name=="runtime.NumGoroutine")=true then .bad else(iH P call lo n c (kA fn args) H).bind λr=>match r.1 with
   | .panic x=> .leaf (true,x,[],below H.length r.2.2.2)
   |_=>(M5 P fn H r).bind λq=> .leaf (false,q)
theorem kH (hm:P.follows .mixedOrders=true) (hc:cx P call) (hl:bA P lo){n:Nat}{g:FuncId}{args:List AV}{H H1:aa}{x:AV}{b:Bool}{W:List Nat}(h:(TI P call lo n g args H).eR=some (b,x,H1,W)):
  if b=true then(LF x->(∀o∈H,cH H.length o=true)->∀W',(∀l∈W,l∈W')->iQ P g args x H (dc W' H) W')else bZ P g args x H H1 W:=by
 unfold TI at h;split at h
 ·exact(Tree.aZ h).elim
 ·rename_i fn mX;split at h
  ·exact(Tree.aZ h).elim
  ·rename_i c hb;split at h
   ·exact(Tree.aZ h).elim
   ·rename_i gj;obtain⟨⟨y,T,H2,W2⟩,h1,h⟩:=aW h;have dC:=kT hm hc hl n c _ _ _ _ _ _ h1;split at h
    ·rename_i z hz;simp only at hz;subst hz;have:=Tree.aE h;simp only[ahe]at this;obtain⟨rfl,rfl,rfl,rfl⟩:=this;rw[if_pos rfl];intro hx hH W' hW;have h2:=dC.AA (W:=W') hx hH (λl hl cO=>hW l (dt cO hl));have h3:=yW mX (by simpa using gj) hb h2;refine⟨h3.1,λE w0 w vs hg hr=>(h3.2.1 E w0 w vs hg hr).mono ?_,h2.2⟩;rintro e w' ⟨E',re,ex,g⟩;exact⟨E',re,ex.weaken (ag3 _) (λl hl hm=>(List.mem_filter.1 hm).1),g⟩
    ·obtain⟨q,hq,h⟩:=aW h;have:=Tree.aE h;simp only[ahe]at this;obtain⟨rfl,rfl⟩:=this;rw[if_neg (by simp)];unfold M5 at hq;split at hq
     ·rename_i hy;simp only at hy;split at hq
      ·rename_i x hx;have:=Tree.aE hq;simp only[ahe]at this;obtain⟨rfl,rfl,rfl⟩:=this;exact jV mX (by simpa using gj) hb dC (.inl hy) hx
      ·exact(Tree.aZ hq).elim
     ·rename_i hy;simp only at hy;split at hq
      ·rename_i x hx;have:=Tree.aE hq;simp only[ahe]at this;obtain⟨rfl,rfl,rfl⟩:=this;exact jV mX (by simpa using gj) hb dC (.inr hy) hx
      ·exact(Tree.aZ hq).elim
     ·exact(Tree.aZ hq).elim
end
theorem Ro {n k:Nat}(l:Nat) (h:l<n):nM (List.range n) k l=l:=kE (by simp[h])
theorem uW {f:Nat->Nat}{n:Nat}(hf:∀l,l<n->f l=l):∀(j:Nat) (os H:aa),(∀o∈os,cH n o=true)->j+os.length<=H.length->∀l,(jm f (List.range' j os.length) os H)[l]? =if j<=l/\l<j+os.length then os[l-j]? else H[l]?
 |j,[],H,_,_,l=>by rw[if_neg (λh=>by simp at h;omega)];rfl
 |j,o::os,H,ho,hl,l=>by
  show (jm f (List.range' (j+1) os.length) os (H.set j (kf f o)))[l]? =_;rw[pf hf o (ho o (by simp)),uW hf (j+1) os _ (λx hx=>ho x (by simp[hx])) (by simp at hl ⊢;omega)];simp only[ahv]at hl ⊢;by_cases h1:l=j
  ·subst h1;rw[if_neg (by omega),if_pos (by omega),ahd (by omega),ahX];rfl
  ·rw[ag7 (by omega)];by_cases h2:j+1<=l/\l<j+1+os.length
   ·rw[if_pos h2,if_pos (by omega)];rw[show l-j=(l-(j+1))+1 by omega]
    first|done|rfl
   ·rw[if_neg h2,if_neg (by omega)]
theorem zB {P:Program}{g:FuncId}{args:List AV}{out:Mv}{Hs sI:aa}{W:List Nat}(h:kP P g/\s4 P g args out Hs sI (·∈W)/\cQ Hs sI W) (hlen:sI.length=Hs.length) (ha:dG Hs.length args=true)
  (hx:match out with| .ret x=>ff Hs.length x=true| .AA x=>ff Hs.length x=true) (h1:∀o∈Hs,cH Hs.length o=true/\gn o=true) (h2:∀o∈sI,cH Hs.length o=true/\gn o=true) (hW:∀l∈W,l<Hs.length) (J:aa):
  kP P g/\s4 P g args out (Hs++J) (sI++J) (·∈W)/\cQ (Hs++J) (sI++J) W:=by
 have hf:∀l,l<Hs.length->nM (List.range Hs.length) (Hs++J).length l=l:=λl hl=>Ro l hl
 have key:=Da h (H:=Hs++J) (s:=List.range Hs.length) List.nodup_range (by simp) (λi l hi=>by
  have sY:i<Hs.length:=by have:=(ag5.1 hi).1;simpa using this
  have:l=i:=by simp[sY]at hi;exact hi.symm
  subst this;rw[ahb sY,ahc sY];simp only[ahs];rw[pf hf _ (h1 _ (ahG sY)).1]) ha h1 (λo ho=>(h2 o ho).2)
 have e1:iR (nM (List.range Hs.length) (Hs++J).length) (List.range Hs.length) sI (Hs++J)=sI++J:=by
  unfold iR;rw[List.drop_eq_nil_of_le (by simp[hlen])];simp only[aia,ah3];refine ah2 (λl=> ?_);have:=uW hf 0 sI (Hs++J) (λo ho=>(h2 o ho).1) (by simp[hlen]) l;rw[←hlen,List.range_eq_range'];rw[←hlen,List.range_eq_range']at this;rw[this];by_cases hl:l<sI.length
  ·rw[if_pos (by omega),ahb hl];rfl
  ·rw[if_neg (by omega),ahi (by omega),ahi (by omega),hlen]
 have e2:kr (nM (List.range Hs.length) (Hs++J).length) args=args:=lg hf args ha;have e3:UC (nM (List.range Hs.length) (Hs++J).length) out=out:=by
  cases out with
  |ret x=>simp only[UC,pe hf x hx]
  |AA x=>simp only[UC,pe hf x hx]
 have e4:W.map (nM (List.range Hs.length) (Hs++J).length)=W:=by
  conv=>rhs;rw[←List.map_id W]
  exact ahV (λl hl=>hf l (hW l hl))
 rw[e1,e2,e3,e4]at key;exact key
theorem mK {P:Program}{g:FuncId}{args:List AV}{x:AV}{Hs sI:aa}{W:List Nat}(h:bZ P g args x Hs sI W) (hlen:sI.length=Hs.length) (ha:dG Hs.length args=true) (hx:ff Hs.length x=true) (h1:∀o∈Hs,cH Hs.length o=true/\gn o=true) (h2:∀o∈sI,cH Hs.length o=true/\gn o=true) (hW:∀l∈W,l<Hs.length) (J:aa):
  bZ P g args x (Hs++J) (sI++J) W:=zB (out:= .ret x) h hlen ha hx h1 h2 hW J
theorem A0 {P:Program}{g:FuncId}{args:List AV}{x:AV}{Hs:aa}{W:List Nat}(h:iQ P g args x Hs (dc W Hs) W) (ha:dG Hs.length args=true) (hx:ff Hs.length x=true) (h1:∀o∈Hs,cH Hs.length o=true/\gn o=true) (hW:∀l∈W,l<Hs.length) (J:aa):
  iQ P g args x (Hs++J) (dc W (Hs++J)) W:=by
 have:=zB (out:= .AA x) h (gT _ _) ha hx h1 (λo ho=>⟨zA (λo ho=>(h1 o ho).1) o ho,B0 (λo ho=>(h1 o ho).2) o ho⟩) hW J;have e:dc W (Hs++J)=dc W Hs++J:=by
  refine ah2 (λl=> ?_);by_cases hm:l∈W
  ·have:=hW l hm;rw[mJ W _ l hm (by simp;omega),ahb (by rw[gT];exact this),mJ W _ l hm this]
  ·rw[jX W _ l hm];by_cases hl:l<Hs.length
   ·rw[ahb hl,ahb (by rw[gT];exact hl),jX W _ l hm]
   ·rw[ahi (by omega),ahi (by rw[gT];omega),gT]
 rw[e];exact this
def gq {σ α:Type}(st:σ->α->Option σ):List α->σ->Option σ
 |[],s=>some s
 |a::r,s=>(st s a).bind (gq st r)
theorem zC {P:Program}{c:Code}{σ α:Type} [Inhabited α] {st:σ->α->Option σ}{l:List α}{s0:σ}(T:Nat->List AV) (Hs:σ->aa) (W:List Nat) (ex:bj) (hx:ex≠.normal) (TP:List AV) (Px:AV->Prop) (I:Nat->σ->Prop) (i0:I 0 s0) (hlen:∀s s',(Hs s).length=(Hs s').length)
  (ok:∀i s s',i<l.length->I i s->st s (l.getD i default)=some s'->an P c (T i) (Hs s) .normal (T (i+1)) (Hs s') W/\I (i+1) s')
  (AA:∀i s,i<l.length->I i s->st s (l.getD i default)=none->∃x,Px x/\an P c (T i) (Hs s) (.panic x) TP (dc W (Hs s)) W)
  (out:∀s,I l.length s->an P c (T l.length) (Hs s) ex (T l.length) (Hs s) []):
  match gq st l s0 with
  |some s=>I l.length s/\an P (.loop c) (T 0) (Hs s0) ex (T l.length) (Hs s) W
  |none=>∃x,Px x/\an P (.loop c) (T 0) (Hs s0) (.panic x) TP (dc W (Hs s0)) W:=by
 have key:∀d i s,l.length-i=d->i<=l.length->I i s->match gq st (l.drop i) s with
   |some s'=>I l.length s'/\∃k W',dX P c ex (T l.length) (Hs s') k (T i) (Hs s) W'/\∀x∈W',x∈W
   |none=>∃x,Px x/\∃k W',dX P c (.panic x) TP (dc W (Hs s)) k (T i) (Hs s) W'/\∀x∈W',x∈W:=by
  intro d
  induction d with
  |zero=>
   intro i s hd hi hI;have:i=l.length:=by omega
   subst this;rw[List.drop_length];exact⟨hI,0,[],.out (out s hI) hx,λx hx=>by simp at hx⟩
  |succ d ih=>
   intro i s hd hi hI;have cO:i<l.length:=by omega
   have e:l.drop i=l.getD i default::l.drop (i+1):=by
    rw[List.drop_eq_getElem_cons cO];simp[ag4,cO]
   rw[e];simp only[gq];cases hs:st s (l.getD i default)with
   |none=>
    simp only[Option.bind_none];obtain⟨x,hp,hc⟩:=AA i s cO hI hs;exact⟨x,hp,0,W,.out hc (by simp),λx h=>h⟩
   |some s1=>
    simp only[ahH];obtain⟨hc,hI1⟩:=ok i s s1 cO hI hs;have:=ih (i+1) s1 (by omega) (by omega) hI1;have hk:dc W (Hs s1)=dc W (Hs s):=GJ hc.2 (hlen _ _);rw[hk]at this;split at this
    ·rename_i s2 h2;obtain⟨q1,k,W',hr,hw⟩:=this;exact⟨q1,k+1,_,.next hc hr,λx hx=>by
      rcases ahC.1 hx with h|h
      ·exact h
      ·exact hw x h⟩
    ·rename_i h2;obtain⟨x,hp,k,W',hr,hw⟩:=this;exact⟨x,hp,k+1,_,.next hc hr,λx hx=>by
      rcases ahC.1 hx with h|h
      ·exact h
      ·exact hw x h⟩
 have:=key l.length 0 s0 (by omega) (ag9 _) i0;rw[List.drop_zero]at this;split at this
 ·rename_i s h;obtain⟨q,k,W',hr,hw⟩:=this;exact⟨q,an.eI hr.ok hw⟩
 ·rename_i h;obtain⟨x,hp,k,W',hr,hw⟩:=this;exact⟨x,hp,an.eI hr.ok hw⟩
def og (s:dh):List AV:=i64 s.kind::aS s.home::(s.m.one++(s.e.cells++s.f.cells))
def eC (l:List dh) (x:ByteArray):Bool:=l.any (λd=>x==d.full)
def fE (l:List dh) (x:ByteArray):dh:=(l.find? (λd=>x==d.full)).getD default
def nG (l:List dh) (x:ByteArray):AV:= .dO (og (fE l x))
structure bg where
 l:List dh
 x:List (ByteArray×List ByteArray)
structure jo where
 nl:Bool
 n:Nat
 el:Nat->List AV
def jo.av (f:jo):AV:= .aY f.nl 11 f.n f.el .dA
def bg.H (p:bg) (fs:jo):aa:=[.cells [.cU 1,.cU 2,fs.av],.ez (eC p.l) (nG p.l),.rows p.x none]
def bg.add (p:bg) (s:dh):Option bg:=
 bif eC p.l s.full then bif (fE p.l s.full).kind !=1 then none else bif s.kind !=1 then none else some p else some { p with l:=s::p.l}
def bE (s:ByteArray):AV:= .lD 165 (.agg [aS s])
theorem eQ (s:ByteArray):LF (bE s):= .lD _ _ (gJ (ao (.sc _) bC))
def pz (n:Nat) (r:Bool×AV×aa×List Nat):Bool×AV×aa×List Nat:=(r.1,r.2.1,r.2.2.1.take n,r.2.2.2)
theorem Rp (s:dh):∀x∈og s,LF x:=ao (.sc _) (ao (.sc _) (λx hx=>by
 rcases ahC.1 hx with h|h
 ·exact Dw _ x h
 ·rcases ahC.1 h with h|h
  ·exact xY _ x h
  ·exact uV _ x h))
theorem GK (p:bg) (fs:jo) (a b:ByteArray) (s:dh):(TI prog (cK []) (FB prog (cK []) [(6,3,.any)] (told prog [] [⟨13,0,aS (ar a b)⟩])) 3 171 [.ptr 0 0,aS a,aS b,.agg (og s)] (p.H fs)).via (pz 3)=
  bif aD prog 241 [aS a,aS b] [] (aS (ar a b))then
   bif eC p.l (ar a b)then
    bif (fE p.l (ar a b)).kind !=1 then some (true,bE (ar a b),[],[])else
    bif s.kind !=1 then some (true,bE (ar a b),[],[])else some (false,aS (ar a b),p.H fs,[])
   else bif eC p.l (ar a b)then none else some (false,aS (ar a b),[.cells [.cU 1,.cU 2,fs.av],.ez (Fq (eC p.l) (ar a b)) (CW (nG p.l) (ar a b) (.dO (og s))),.rows p.x none],[1])
  else none:=by kernel_rfl
theorem Vf (l:List dh) (s:dh):Fq (eC l) s.full=eC (s::l):=rfl
theorem Vg (l:List dh) (s:dh):CW (nG l) s.full (.dO (og s))=nG (s::l):=by
 funext x;unfold CW nG fE;rw[List.find?_cons];cases (x==s.full)<;>rfl
theorem gD (p:bg) (fs:jo) (n:Nat) (hn:3<=n):∀o∈p.H fs,cH n o=true/\gn o=true:=by
 intro o ho;simp only[bg.H,ahl,ahr,ahO]at ho;rcases ho with rfl|rfl|rfl
 ·refine⟨?_,rfl⟩;have h1:decide (1<n)=true:=ag2 (by omega);have h2:decide (2<n)=true:=ag2 (by omega);simp only[cH,dG,ff,jo.av,h1,h2,Bool.true_and,Bool.and_true];rfl
 ·exact⟨rfl,rfl⟩
 ·exact⟨rfl,rfl⟩
def dw (g:FuncId) (args:List AV) (h:bg->aa) (p:bg) (r:Option bg) (x:AV):Prop:=match r with
 |some p'=>∀J,bZ prog g args x (h p++J) (h p'++J) [0,1,2]
 |none=>∃full,∀J,iQ prog g args (bE full) (h p++J) (dc [0,1,2] (h p++J)) [0,1,2]
theorem dw.fR {g:FuncId}{args Gb:List AV}{h:bg->aa}{p:bg}{r:Option bg}{x:AV}(e:dw g Gb h p r x) (w:Wk args Gb):dw g args h p r x:=by
 unfold dw at*;split at e
 ·exact λJ=>(e J).fR w
 ·obtain⟨full,e⟩:=e;exact⟨full,λJ=>⟨(e J).1,λE w0 w1 vs hg hr=>(e J).2.1 E w0 w1 vs hg ⟨hr.1.trans w.1,λi y hy=>by
   obtain⟨z,hz,k⟩:=w.2 i y hy;exact k _ _ (hr.2 i z hz)⟩,(e J).2.2⟩⟩
theorem dw.of {g:FuncId}{args:List AV}{h:bg->aa}{p:bg}{r:Option bg}{x:AV}{n:Nat}(hn:3<=n) (hlen:∀q,(h q).length=n) (NQ:∀q,∀o∈h q,cH n o=true/\gn o=true) (ha:dG n args=true) (hx:ff n x=true)
  (e:match r with
   |some p'=>bZ prog g args x (h p) (h p') [0,1,2]
   |none=>∃full,iQ prog g args (bE full) (h p) (dc [0,1,2] (h p)) [0,1,2]):dw g args h p r x:=by
 unfold dw;split at e
 ·intro J;exact mK e (by rw[hlen,hlen]) (by rw[hlen];exact ha) (by rw[hlen];exact hx) (by rw[hlen];exact NQ p) (by rw[hlen];exact NQ _) (by rw[hlen];simp;omega) J
 ·obtain⟨full,e⟩:=e;exact⟨full,λJ=>A0 e (by rw[hlen];exact ha) (qP (eQ _)) (by rw[hlen];exact NQ p) (by rw[hlen];simp;omega) J⟩
theorem pA (p:bg) (fs:jo){a b:ByteArray}(s:dh) (hf:s.full=ar a b) (ha:a.size<=1099511627776) (hb:b.size<=1099511627776):
  dw 171 [.ptr 0 0,aS a,aS b,.agg (og s)] (λq=>q.H fs) p (p.add s) (aS s.full):=by
 have NQ:dG 3 [.ptr 0 0,aS a,aS b,.agg (og s)]=true:=by
  simp only[dG,ff];rw[eP (Rp s)];rfl
 refine dw.of (n:=3) (ag3 _) (λq=>rfl) (λq=>gD q fs 3 (ag3 _)) NQ rfl ?_;have ht:=GK p fs a b s;rw[ak (NL ha hb []),←hf]at ht;have xN:=(PY (P:=prog) (au []) (aF (ls:=[]) (cs:=[⟨13,0,aS s.full⟩])):bA prog (FB prog (cK []) [(6,3,.any)] (told prog [] [⟨13,0,aS s.full⟩])))
 have hp:∀F,F=some (true,bE s.full,[],[])->(TI prog (cK []) (FB prog (cK []) [(6,3,.any)] (told prog [] [⟨13,0,aS s.full⟩])) 3 171 [.ptr 0 0,aS a,aS b,.agg (og s)] (p.H fs)).via (pz 3)=F->∃full,iQ prog 171 [.ptr 0 0,aS a,aS b,.agg (og s)] (bE full) (p.H fs) (dc [0,1,2] (p.H fs)) [0,1,2]:=by
  intro F hF h;obtain⟨⟨bb,x,H1,W⟩,hr,hg⟩:=cv h hF;have:=kH mixed (au _) xN hr;simp only[pz,ahe]at hg;obtain⟨rfl,rfl,_,rfl⟩:=hg;rw[if_pos rfl]at this;exact⟨_,this (eQ _) (λo ho=>(gD p fs 3 (ag3 _) o ho).1) _ (by simp)⟩
 unfold bg.add
 cases h1:eC p.l s.full with
 |true=>
  rw[h1]at ht
  cases h2:(fE p.l s.full).kind !=1 with
  |true=>
   rw[h2]at ht;exact hp _ rfl ht
  |false=>
   rw[h2]at ht
   cases h3:s.kind !=1 with
   |true=>
    rw[h3]at ht;exact hp _ rfl ht
   |false=>
    rw[h3]at ht;obtain⟨⟨bb,x,H1,W⟩,hr,hg⟩:=cv ht rfl;have:=kH mixed (au _) xN hr;simp only[pz,ahe]at hg;obtain⟨rfl,rfl,e,rfl⟩:=hg;rw[if_neg (by simp)]at this;exact(kg this e (gD p fs 3 (ag3 _)) rfl).eI (by simp)
 |false=>
  rw[h1]at ht;obtain⟨⟨bb,x,H1,W⟩,hr,hg⟩:=cv ht rfl;have:=kH mixed (au _) xN hr;simp only[pz,ahe]at hg;obtain⟨rfl,rfl,e,rfl⟩:=hg;rw[if_neg (by simp)]at this;rw[Vf,Vg]at e;exact(kg this e (gD { p with l:=s::p.l} fs 3 (ag3 _)) rfl).eI (by simp)
def bg.v (home sc:ByteArray) (k:Int) (p:bg) (name:ByteArray):Option bg:=p.add ((gS (ar sc name) k).at home)
def oh (home sc:ByteArray) (p:bg) (e:bt):Option bg:=(p.add ((nC (ar sc e.name) e).at home)).bind (gq (λp (v:eT)=>p.v home sc 4 v.name) e.aM.l)
def gU (home sc:ByteArray) (l:List bt) (p:bg):Option bg:=gq (oh home sc) l p
def xZ (es:List (ByteArray×List ByteArray)) (k t:ByteArray):List (ByteArray×List ByteArray):=vB es (fH es k) k (oV es (fH es k)++[t])
def bg.ext (p:bg) (k t:ByteArray):bg:={ p with x:=xZ p.x k t}
def pB (home sc:ByteArray) (p:bg) (x:aP):Option bg:=(p.add ((mG (ar sc x.name) 6 x).at home)).map λq=>q.ext x.cp (ar sc x.name)
def jz (home sc:ByteArray) (l:List aP) (p:bg):Option bg:=gq (pB home sc) l p
mutual
def gE:ByteArray->ByteArray->bg->az->Option bg
 |home,sc,p,.mk name af mN aC aQ bB exts aI bp bY opts dE=>
  (p.add ((gI (ar sc name) (.mk name af mN aC aQ bB exts aI bp bY opts dE)).at home)).bind λp=>
  (gq (λp (v:aP)=>p.v home (ar sc name) 5 v.name) af.l p).bind λp=>
  (gq (λp (v:cF)=>p.v home (ar sc name) 7 v.name) aI.l p).bind λp=>
  (eM home (ar sc name) aC p).bind λp=>
  (gU home (ar sc name) aQ.l p).bind λp=>jz home (ar sc name) exts.l p
def eM:ByteArray->ByteArray->List az->bg->Option bg
 |home,sc,[],p=>some p
 |home,sc,m::r,p=>(gE home sc p m).bind λp=>eM home sc r p
end
theorem pC (home sc:ByteArray):∀(l:List az) (p:bg),eM home sc l p=gq (gE home sc) l p
 |[],p=>by simp only[eM,gq]
 |m::r,p=>by
  simp only[eM,gq]
  cases gE home sc p m with
  |none=>rfl
  |some q=>exact pC home sc r q
theorem zD (home sc:ByteArray) (p:bg) (m:az):gE home sc p m=(p.add ((gI (ar sc m.name) m).at home)).bind λp=>
  (gq (λp (v:aP)=>p.v home (ar sc m.name) 5 v.name) m.af.l p).bind λp=>
  (gq (λp (v:cF)=>p.v home (ar sc m.name) 7 v.name) m.aI.l p).bind λp=>
  (eM home (ar sc m.name) m.aC p).bind λp=>
  (gU home (ar sc m.name) m.aQ.l p).bind λp=>jz home (ar sc m.name) m.exts.l p:=by
 cases m;simp only[gE];rfl
def bg.iA (p:bg):Nat:=bw (λe=>e.2.length) p.x
theorem Xh {p q:bg}{s:dh}(h:p.add s=some q):q.x=p.x:=by
 unfold bg.add at h
 cases h1:eC p.l s.full with
 |true=>
  rw[h1]at h
  cases h2:(fE p.l s.full).kind !=1 with
  |true=>rw[h2]at h;cases h
  |false=>
   rw[h2]at h
   cases h3:s.kind !=1 with
   |true=>rw[h3]at h;cases h
   |false=>rw[h3]at h;cases h;rfl
 |false=>rw[h1]at h;cases h;rfl
theorem l9 {p q:bg}{s:dh}(h:p.add s=some q):q.iA=p.iA:=by unfold bg.iA;rw[Xh h]
theorem oi {α:Type}{st:bg->α->Option bg}{w:α->Nat}(h:∀p a q,st p a=some q->q.iA<=p.iA+w a):∀(l:List α) (p q:bg),gq st l p=some q->q.iA<=p.iA+bw w l
 |[],p,q,e=>by cases e;simp[bw]
 |a::r,p,q,e=>by
  simp only[gq]at e
  cases hs:st p a with
  |none=>rw[hs]at e;cases e
  |some p1=>
   rw[hs]at e;have h1:=h p a p1 hs;have h2:=oi h r p1 q e;rw[eh];omega
theorem sum_append {α:Type}(f:α->Nat) (a b:List α):bw f (a++b)=bw f a+bw f b:=by simp[bw]
theorem Rq (p:bg) (i:Nat):jJ p.x i<=p.iA:=by
 unfold jJ bg.iA
 cases h:p.x[i]? with
 |none=>simp
 |some e=>exact cf (f:=λe:ByteArray×List ByteArray=>e.2.length) (ahf h)
theorem Lz {α:Type}(f:α->Nat):∀(l:List α) (i:Nat) (x y:α),l[i]? =some y->bw f (l.set i x)+f y=bw f l+f x
 |[],i,x,y,h=>by simp at h
 |a::r,0,x,y,h=>by
  simp at h;subst h;rw[List.set_cons_zero,eh,eh];omega
 |a::r,i+1,x,y,h=>by
  rw[List.set_cons_succ,eh,eh];have:=Lz f r i x y (by simpa using h);omega
theorem Vh (p:bg) (k t:ByteArray):(p.ext k t).iA<=p.iA+1:=by
 unfold bg.iA bg.ext xZ vB;split
 ·rename_i h;have hy:p.x[fH p.x k]? =some p.x[fH p.x k]:=ahc h;have:=Lz (λe:ByteArray×List ByteArray=>e.2.length) p.x (fH p.x k) (k,oV p.x (fH p.x k)++[t]) _ hy;have e:oV p.x (fH p.x k)=(p.x[fH p.x k]).2:=by unfold oV;rw[hy]
  rw[e]at this ⊢;simp only[ahB,ahv,aiz]at this;show bw (λe:ByteArray×List ByteArray=>e.2.length) (p.x.set _ _)<=_;omega
 ·rename_i h;have e:oV p.x (fH p.x k)=[]:=by unfold oV;rw[ahu (by omega)]
  rw[e];show bw (λe:ByteArray×List ByteArray=>e.2.length) (p.x++_)<=_;rw[sum_append];simp[bw]
theorem bn {α β:Type}{o:Option α}{f:α->Option β}{b:β}(h:o.bind f=some b):∃a,o=some a/\f a=some b:=by
 cases o with
 |none=>cases h
 |some a=>exact⟨a,rfl,h⟩
theorem zE {α:Type}(l:List α):bw (λ_:α=>0) l=0:=by induction l with
 |nil=>rfl
 |cons a r ih=>rw[eh,ih]
theorem lr {α:Type}{home sc:ByteArray}{k:Int}{nm:α->ByteArray}{l:List α}{p q:bg}(h:gq (λp v=>bg.v home sc k p (nm v)) l p=some q):q.iA<=p.iA:=by
 have:=oi (w:=λ_=>0) (λp a q h=>by rw[l9 h];exact ag3 _) l p q h;rw[zE]at this;exact this
theorem DS {home sc:ByteArray}{p q:bg}{e:bt}(h:oh home sc p e=some q):q.iA<=p.iA:=by
 obtain⟨p1,h1,h2⟩:=bn h;have:=lr h2;rw[l9 h1]at this;exact this
theorem jA {home sc:ByteArray}{l:List bt}{p q:bg}(h:gU home sc l p=some q):q.iA<=p.iA:=by
 have:=oi (w:=λ_=>0) (λp a q h=>DS h) l p q h;rw[zE]at this;exact this
theorem wO {home sc:ByteArray}{p q:bg}{x:aP}(h:pB home sc p x=some q):q.iA<=p.iA+1:=by
 unfold pB at h;cases h1:p.add ((mG (ar sc x.name) 6 x).at home)with
 |none=>rw[h1]at h;cases h
 |some p1=>
  rw[h1]at h;cases h;have:=Vh p1 x.cp (ar sc x.name);rw[l9 h1]at this;exact this
theorem uX {home sc:ByteArray}{l:List aP}{p q:bg}(h:jz home sc l p=some q):q.iA<=p.iA+bw aP.sz l:=
 oi (w:=aP.sz) (λp a q h=>by have:=wO h;have:=a.bT;omega) l p q h
mutual
theorem wQ:∀(home sc:ByteArray) (p q:bg) (m:az),gE home sc p m=some q->q.iA<=p.iA+m.sz
 |home,sc,p,q,.mk name af mN aC aQ bB exts aI bp bY opts dE,h=>by
  simp only[gE]at h;obtain⟨p1,h1,h⟩:=bn h;obtain⟨p2,h2,h⟩:=bn h;obtain⟨p3,h3,h⟩:=bn h;obtain⟨p4,h4,h⟩:=bn h;obtain⟨p5,h5,h⟩:=bn h;have k1:=l9 h1;have k2:=lr h2;have k3:=lr h3;have k4:=jf home (ar sc name) p3 p4 aC h4;have k5:=jA h5;have k6:=uX h;simp only[az.sz];unfold aX.sz;omega
theorem jf:∀(home sc:ByteArray) (p q:bg) (l:List az),eM home sc l p=some q->q.iA<=p.iA+az.BP l
 |home,sc,p,q,[],h=>by simp only[eM]at h;cases h;simp[az.BP]
 |home,sc,p,q,m::r,h=>by
  simp only[eM]at h;obtain⟨p1,h1,h⟩:=bn h;have k1:=wQ home sc p p1 m h1;have k2:=jf home sc p1 q r h;simp only[az.BP];omega
end
def cA:AV:= .fn (.func 170) [] [.ptr 3 0,.ptr 4 0]
def cB:AV:= .fn (.func 173) [] [.ptr 3 0,.ptr 4 0,.ptr 5 0]
def cC5:AV:= .fn (.func 174) [] [.ptr 3 0,.ptr 4 0]
def cD:AV:= .fn (.func 175) [] [.ptr 3 0,.ptr 4 0,.ptr 5 0,.ptr 8 0,.ptr 6 0,.ptr 7 0]
def oj (fs:jo) (f:ag) (p:bg):aa:=[.cells [.cU 1,.cU 2,fs.av],.ez (eC p.l) (nG p.l),.rows p.x none,.cells [.ptr 0 0],.cells f.two]
def aT (p:bg) (fs:jo) (f:ag):aa:=[.cells [.cU 1,.cU 2,fs.av],.ez (eC p.l) (nG p.l),.rows p.x none,.cells [.ptr 0 0],.cells f.two,.cells [cA],.cells [cB],.cells [cC5],.cells [cD]]
def uY:aa:=[.cells [cA],.cells [cB],.cells [cC5],.cells [cD]]
def sO (f:ag):aa:=[.cells [.ptr 0 0],.cells f.two,.cells [cA],.cells [cB],.cells [cC5],.cells [cD]]
theorem eT.nm (d:eT):d.name.size<=d.sz:=by unfold eT.sz;omega
theorem aP.nm (d:aP):d.name.size<=d.sz:=by unfold aP.sz;omega
theorem cF.nm (d:cF):d.name.size<=d.sz:=by unfold cF.sz;omega
theorem cM.nm (d:cM):d.name.size<=d.sz:=by unfold cM.sz;omega
theorem bt.nm (d:bt):d.name.size<=d.sz:=by unfold bt.sz;omega
theorem bN.nm (d:bN):d.name.size<=d.sz:=by unfold bN.sz;omega
theorem fk (p:bg) (fs:jo) (f:ag) (n:Nat) (hn:9<=n):∀o∈aT p fs f,cH n o=true/\gn o=true:=by
 have d:∀k,k<9->decide (k<n)=true:=λk hk=>ag2 (by omega)
 intro o ho;have e:aT p fs f=p.H fs++[.cells [.ptr 0 0],.cells f.two,.cells [cA],.cells [cB],.cells [cC5],.cells [cD]]:=rfl;rw[e]at ho;rcases ahC.1 ho with h|h
 ·exact gD p fs n (by omega) o h
 ·simp only[ahl,ahr,ahO]at h;rcases h with rfl|rfl|rfl|rfl|rfl|rfl<;>refine⟨?_,rfl⟩
  ·simp only[cH,dG,ff,d 0 (by omega),Bool.true_and]
  ·exact eP (l8 f)
  all_goals simp only[cH,dG,ff,cA,cB,cC5,cD,d 3 (by omega),d 4 (by omega),d 5 (by omega),d 6 (by omega),d 7 (by omega),d 8 (by omega),Bool.true_and,Bool.and_true]
theorem zF (p:bg) (fs:jo) (f:ag) (n:Nat) (hn:5<=n):∀o∈oj fs f p,cH n o=true/\gn o=true:=by
 have d:∀k,k<5->decide (k<n)=true:=λk hk=>ag2 (by omega)
 intro o ho;have e:oj fs f p=p.H fs++[.cells [.ptr 0 0],.cells f.two]:=rfl;rw[e]at ho;rcases ahC.1 ho with h|h
 ·exact gD p fs n (by omega) o h
 ·simp only[ahl,ahr,ahO]at h;rcases h with rfl|rfl<;>refine⟨?_,rfl⟩
  ·simp only[cH,dG,ff,d 0 (by omega),Bool.true_and]
  ·exact eP (l8 f)
def LfO (o:bu):Prop:=∃cs,o= .cells cs/\∀x∈cs,LF x
theorem lfo (cs:List AV) (h:∀x∈cs,LF x):LfO (.cells cs):=⟨cs,rfl,h⟩
theorem rW (p:bg) (fs:jo) (f:ag) (J:aa) (hJ:∀o∈J,LfO o):∀o∈aT p fs f++J,cH (aT p fs f++J).length o=true:=by
 intro o ho;have hl:9<=(aT p fs f++J).length:=by rw[ahB];have:(aT p fs f).length=9:=rfl;omega
 rcases ahC.1 ho with h|h
 ·exact(fk p fs f _ hl o h).1
 ·obtain⟨cs,rfl,hc⟩:=hJ o h;exact eP hc
def hY (k:Int) (home:ByteArray) (m e f:List AV):List AV:=i64 k::aS home::(m++(e++f))
theorem zG (full:ByteArray) (k:Int) (home:ByteArray):Wk (hY k home fz fP fQ) (og ((gS full k).at home)):= .cons (.refl _) (.cons (.refl _) (nh.app (pn.app po)))
theorem GL (full:ByteArray) (e:bt) (home:ByteArray):Wk (hY 3 home fz e.cells fQ) (og ((nC full e).at home)):= .cons (.refl _) (.cons (.refl _) (nh.app ((Wk.refl _).app po)))
theorem GM (full:ByteArray) (k:Int) (f:aP) (home:ByteArray):Wk (hY k home fz fP f.cells) (og ((mG full k f).at home)):= .cons (.refl _) (.cons (.refl _) (nh.app (pn.app (.refl _))))
theorem GN (full:ByteArray) (m:az) (home:ByteArray):Wk (hY 2 home m.one fP fQ) (og ((gI full m).at home)):= .cons (.refl _) (.cons (.refl _) ((Wk.refl _).app (pn.app po)))
theorem iq {a b:ByteArray}{x:AV}{cs cs':List AV}(w:Wk cs cs'):Wk [x,aS a,aS b,.agg cs] [x,aS a,aS b,.agg cs']:= .cons (.refl _) (.cons (.refl _) (.cons (.refl _) (.cons (ev.agg w) .nil)))
theorem wS (p q:bg) (fs:jo) (f:ag) (a b full x:ByteArray) (k:Int) (ok:Bool):(TI prog (cK []) (jn prog (cK []) [⟨1,7,ok,bE x,[0,1,2]⟩] (eV prog [⟨16,aS full,oj fs f q,[0,1,2]⟩] aN)) 3 170 [aS a,aS b,i64 k,.ptr 3 0,.ptr 4 0] (oj fs f p)).via id=
  bif ok then bif cW prog 171 [.ptr 0 0,aS a,aS b,.agg (hY k f.name fz fP fQ)] (oj fs f p) (aS full) (oj fs f q) [0,1,2]then some (false,aS full,oj fs f q,[0,1,2])else none
  else bif fj prog 171 [.ptr 0 0,aS a,aS b,.agg (hY k f.name fz fP fQ)] (oj fs f p) (bE x) [0,1,2]then some (true,bE x,[],[0,1,2])else none:=by kernel_rfl
theorem ni {α:Type}{t:Tree α}{F:Option α}{r:α}(h:t.via id=F) (hF:F=some r):t.eR=some r:=by
 obtain⟨q,hq,e⟩:=cv h hF;rw[hq];exact congrArg some e
theorem pD (p:bg) (fs:jo) (f:ag){a b:ByteArray}(k:Int) (ha:a.size<=1099511627776) (hb:b.size<=1099511627776):
  dw 170 [aS a,aS b,i64 k,.ptr 3 0,.ptr 4 0] (oj fs f) p (p.v f.name a k b) (aS (ar a b)):=by
 refine dw.of (n:=5) (by omega) (λq=>rfl) (λq=>zF q fs f 5 (by omega)) rfl rfl ?_;have e:=(pA p fs (a:=a) (b:=b) ((gS (ar a b) k).at f.name) rfl ha hb).fR (iq (zG (ar a b) k f.name));unfold dw at e;have e0:p.v f.name a k b=p.add ((gS (ar a b) k).at f.name):=rfl;rw[e0];cases hs:p.add ((gS (ar a b) k).at f.name)with
 |some q=>
  rw[hs]at e;have k1:cW prog 171 [.ptr 0 0,aS a,aS b,.agg (hY k f.name fz fP fQ)] (oj fs f p) (aS (ar a b)) (oj fs f q) [0,1,2]=true:=bS (e [.cells [.ptr 0 0],.cells f.two]);have ht:=wS p q fs f a b (ar a b) aq k true;rw[k1]at ht;have:=kH mixed (au _) (cT (au _) (bx ab)) (ni ht rfl);rw[if_neg (by simp)]at this;exact this
 |none=>
  rw[hs]at e;obtain⟨y,e⟩:=e;have k1:fj prog 171 [.ptr 0 0,aS a,aS b,.agg (hY k f.name fz fP fQ)] (oj fs f p) (bE y) [0,1,2]=true:=fB (e [.cells [.ptr 0 0],.cells f.two]);have ht:=wS p p fs f a b aq y k false;rw[k1]at ht;have:=kH mixed (au _) (cT (au _) (bx ab)) (ni ht rfl);rw[if_pos rfl]at this;exact⟨y,this (eQ _) (λo ho=>(zF p fs f 5 (by omega) o ho).1) _ (λl h=>h)⟩
theorem dw.ok {g:FuncId}{args:List AV}{h:bg->aa}{p q:bg}{r:Option bg}{x:AV}(e:dw g args h p r x) (hr:r=some q):∀J,bZ prog g args x (h p++J) (h q++J) [0,1,2]:=by
 subst hr;exact e
theorem dw.bad {g:FuncId}{args:List AV}{h:bg->aa}{p:bg}{r:Option bg}{x:AV}(e:dw g args h p r x) (hr:r=none):∃full,∀J,iQ prog g args (bE full) (h p++J) (dc [0,1,2] (h p++J)) [0,1,2]:=by
 subst hr;exact e
def dj {α:Type}(c:Code) (T:Nat->List AV) (h:bg->aa) (ex nt:Nat) (st:bg->α->Option bg) (l:List α) (p:bg):Prop:=match gq st l p with
 |some q=>an prog (.loop c) (T 0) (h p) (.exit ex) (T l.length) (h q) [0,1,2]
 |none=>∃y,an prog (.loop c) (T 0) (h p) (.panic (bE y)) (fD nt) (dc [0,1,2] (h p)) [0,1,2]
theorem dj.ok {α:Type}{c:Code}{T:Nat->List AV}{h:bg->aa}{ex nt:Nat}{st:bg->α->Option bg}{l:List α}{p q:bg}(e:dj c T h ex nt st l p) (hr:gq st l p=some q):an prog (.loop c) (T 0) (h p) (.exit ex) (T l.length) (h q) [0,1,2]:=by
 unfold dj at e;rw[hr]at e;exact e
theorem dj.bad {α:Type}{c:Code}{T:Nat->List AV}{h:bg->aa}{ex nt:Nat}{st:bg->α->Option bg}{l:List α}{p:bg}(e:dj c T h ex nt st l p) (hr:gq st l p=none):∃y,an prog (.loop c) (T 0) (h p) (.panic (bE y)) (fD nt) (dc [0,1,2] (h p)) [0,1,2]:=by
 unfold dj at e;rw[hr]at e;exact e
theorem ia {α:Type} [Inhabited α] {c:Code}{T:Nat->List AV}{h:bg->aa}{ex nt:Nat}{st:bg->α->Option bg}{l:List α}{p:bg}(_:True) (I:Nat->bg->Prop) (i0:I 0 p) (hlen:∀s s',(h s).length=(h s').length)
  (ok:∀i s s',i<l.length->I i s->st s (l.getD i default)=some s'->an prog c (T i) (h s) .normal (T (i+1)) (h s') [0,1,2]/\I (i+1) s')
  (AA:∀i s,i<l.length->I i s->st s (l.getD i default)=none->∃y,an prog c (T i) (h s) (.panic (bE y)) (fD nt) (dc [0,1,2] (h s)) [0,1,2])
  (out:∀s,I l.length s->an prog c (T l.length) (h s) (.exit ex) (T l.length) (h s) []):dj c T h ex nt st l p:=by
 have key:=zC (P:=prog) (c:=c) (st:=st) (l:=l) (s0:=p) T h [0,1,2] (.exit ex) (by simp) (fD nt) (λx=>∃y,x=bE y) I i0 hlen ok
  (λi s hi hI hs=>by
   obtain⟨y,hc⟩:=AA i s hi hI hs;exact⟨_,⟨y,rfl⟩,hc⟩) out
 unfold dj
 cases h1:gq st l p with
 |some q=>rw[h1]at key;exact key.2
 |none=>
  rw[h1]at key;obtain⟨_,⟨y,rfl⟩,hc⟩:=key;exact⟨y,hc⟩
end Go.Proofs.YtiipaliigpkfhaaGreat.Ab
