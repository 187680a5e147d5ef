/- Lemmas 5. -/
import Derived.RangeFuncCalls
import Derived.Test.YtiipaliigpkfhaaGreatVP4
set_option maxRecDepth 100000
namespace Go.Proofs.YtiipaliigpkfhaaGreat.Ab
open Go Go.RowKit
section
variable {E:Env}{H:aa}{w0 w:World}
theorem Good.CY (hg:Good E H w0 w){t k b e:Nat}{arr:Array Value}{T:TypeId}(ht:t<=H.length) (eU:∀l,owns E H l b->l=t) (jO:w0.heap.size<=b) (hb:w.heap[b]? =some (.cells arr T (0,0))) (hec:e<=arr.size) (IK:arr.size<=maxLen) (hS:∀o,e<=o->E.S b o=none) (hG:∀m,k<=m->E.G t m=none):Good (E.grown b arr e t k (code e arr.size)) (ic H t (.cu k)) w0 w:=by
 have hle:E.le (E.grown b arr e t k (code e arr.size)):=jr (hG k (ag3 _));refine⟨hg.below,?_,?_,?_,?_,hg.mb⟩
 ·intro x o u h;by_cases hx:x=b
  ·subst hx;simp only[Env.grown,if_true]at h
   cases hs:E.S x o with
   |none=>
    rw[hs]at h;simp only[aiw]at h;split at h
    ·rw[gL hb];exact h
    ·cases h
   |some v=>rw[hs]at h;simp at h;subst h;exact hg.snap hs
  ·simp only[Env.grown,hx,if_false]at h;exact hg.snap h
 ·intro l o h;by_cases hl:l=t
  ·subst hl;rw[iZ ht]at h;simp only[ag6]at h;subst h;refine⟨b,code e arr.size,arr,T,by simp[Env.grown],jO,hb,⟨e,rfl,hec,IK,λo ho=> ?_⟩,λm hm=> ?_⟩
   ·simp only[Env.grown,if_true,hS o ho,aiw];rw[if_neg (by omega)]
   ·simp only[Env.grown];rw[if_neg (by omega)];exact hG m (by omega)
  ·rw[j7 ht hl]at h;refine(hg.obj h).step h hle (λ_ h=>h) (λm=> ?_) (λx o' ho _ hn=> ?_) (λ_ _=>rfl)
   ·simp[Env.grown,hl]
   ·have:x≠b:=λe=>hl (eU l (e▸ho))
    simpa [Env.grown,this]using hn
 ·have key:∀l x,owns (E.grown b arr e t k (code e arr.size)) (ic H t (.cu k)) l x->(l=t/\x=b)∨(l≠t/\owns E H l x):=by
   intro l x h;by_cases hl:l=t
   ·subst hl;unfold owns at h;rw[iZ ht]at h;obtain⟨c',tV⟩:=h;simp[Env.grown]at tV;exact .inl ⟨rfl,tV.1.symm⟩
   ·refine .inr ⟨hl,?_⟩;unfold owns at*;rw[j7 ht hl]at h
    cases ho:H[l]? with
    |none=>rw[ho]at h;exact h
    |some o=>
     rw[ho]at h
     cases o with
     |dead=>exact h
     |cells cs=>exact h
     |map es=>exact h
     |iter m=>exact h
     |mark k=>exact h
     |ez f v=>exact h
     |cN=>exact h
     |rows es pd=>
      obtain⟨y,hy,h⟩:=h;refine⟨y,hy,?_⟩;rcases h with h|⟨i,ss,c',h1,h2⟩
      ·exact .inl h
      ·exact .inr ⟨i,ss,c',h1,by simpa [Env.grown,hl]using h2⟩
     |tail n' mO=>obtain⟨c',tV⟩:=h;exact⟨c',by simpa [Env.grown,hl]using tV⟩
     |cu n'=>obtain⟨c',tV⟩:=h;exact⟨c',by simpa [Env.grown,hl]using tV⟩
  intro l l' x h h';rcases key _ _ h with ⟨h1,h2⟩|⟨h1,h2⟩<;>rcases key _ _ h' with ⟨h3,h4⟩|⟨h3,h4⟩
  ·rw[h1,h3]
  ·subst h2;exact absurd (eU _ h4) h3
  ·subst h4;exact absurd (eU _ h2) h1
  ·exact hg.sep h2 h4
 ·intro l hl;have sZ:H.length<=l/\l≠t:=by
   rw[iN ht]at hl;split at hl<;>omega
  have:=hg.fresh sZ.1;exact⟨this.1,λm=>by simp[Env.grown,sZ.2,this.2 m]⟩
theorem uo {t n b c k l x:Nat}{arr:Array Value}(ht:t<=H.length) (h:owns (E.grown b arr k t n c) (ic H t (.cu n)) l x):owns E H l x∨x=b:=by
 by_cases hl:l=t
 ·subst hl;refine .inr ?_;unfold owns at h;rw[iZ ht]at h;obtain⟨c',hc⟩:=h;simp[Env.grown]at hc;exact hc.1.symm
 ·refine .inl ?_;unfold owns at h ⊢;rw[j7 ht hl]at h
  cases ho:H[l]? with
  |none=>rw[ho]at h;exact h
  |some q=>
   rw[ho]at h
   cases q with
   |dead=>exact h
   |cells cs=>exact h
   |tail n' mO=>obtain⟨c',hc⟩:=h;exact⟨c',by simpa [Env.grown,hl]using hc⟩
   |cu n'=>obtain⟨c',hc⟩:=h;exact⟨c',by simpa [Env.grown,hl]using hc⟩
   |map es=>exact h
   |iter m=>exact h
   |mark k=>exact h
   |ez f v=>exact h
   |cN=>exact h
   |rows es pd=>
    obtain⟨y,hy,h⟩:=h;refine⟨y,hy,?_⟩;rcases h with h|⟨i,ss,c',h1,h2⟩
    ·exact .inl h
    ·exact .inr ⟨i,ss,c',h1,by simpa [Env.grown,hl]using h2⟩
theorem wC {n0:Nat}{W:Nat->Prop}{t n b c k:Nat}{arr:Array Value}(dI:owns E H t b) (ht:t<=H.length) (hW:t<n0->W t) (sx:n0<=H.length) (hG:E.G t n=none):Ext n0 W E H w (E.grown b arr k t n c) (ic H t (.cu n)) w:=
 ⟨jr hG,.refl _,by rw[iN ht];split<;>omega,λ{l} hl hw=>j7 ht (λe=>hw (e▸hW (e▸hl))),λ_ _ _=>rfl,λ_=>rfl,λ{x} hx h=>⟨rfl,λl ho=>(uo ht ho).elim (h l) (λe=>h t (e▸dI)),λo=>(by have Au:x≠b:=(λe=>h t (e▸dI));simp[Env.grown,Au])⟩⟩
theorem xi {n0:Nat}{W:Nat->Prop}{t n c k:Nat}{arr:Array Value}(g:Good E H w0 w) (ob:Obj) (ht:t<=H.length) (hW:t<n0->W t) (sx:n0<=H.length) (hG:E.G t n=none):Ext n0 W E H w (E.grown w.heap.size arr k t n c) (ic H t (.cu n)) (w.alloc ob):=
  ⟨jr hG,⟨by rw[eK];omega,ag3 _⟩,by rw[iN ht];split<;>omega,λ{l} hl hw=>j7 ht (λe=>hw (e▸hW (e▸hl))),λ_ _ ho=>Below.heap_alloc w ob _ (g.fG ho),λ_=>rfl,
   λ{x} hx h=>⟨Below.heap_alloc w ob _ hx,λl ho=>(uo ht ho).elim (h l) (λe=>by omega),λo=>(by have Au:x≠w.heap.size:=(by omega);simp[Env.grown,Au])⟩⟩
end
section
variable {P:Program}{o:Oper}{T:List AV}{H:aa}{E:Env}{w0 w:World}
theorem Good.PF (g:Good E H w0 w){t n b e sz j:Nat}(hH:H[t]? =some (.cu n)) (hG:E.G t n=some (b,code e sz)) (hj:e<=j) (v:Value):Good E H w0 (w.setCell ⟨b,j,none⟩ v):=by
 obtain⟨b',c',arr,Ty,h1,h2,h3,⟨e',h4,h5,h6,h7⟩,h8⟩:=g.obj hH;rw[hG]at h1;simp only[ag6,ahe]at h1;obtain⟨rfl,rfl⟩:=h1;obtain⟨rfl,rfl⟩:=iJ h4;have dI:owns E H t b:=by unfold owns;rw[hH];exact⟨_,hG⟩
 refine⟨g.below.setCell h2 v,?_,?_,g.sep,g.fresh,λh=>by have:=g.mb h;simpa [World.setCell]using this⟩
 ·intro x o u h;by_cases hx:x=b
  ·subst hx;have cO:o<e:=by
    rcases ail o e with h'|h'
    ·exact h'
    ·rw[h7 o h']at h;cases h
   have:=g.snap h;rw[gL h3]at this;have hb:(w.setCell ⟨x,j,none⟩ v).heap[x]? =some (.cells (arr.setIfInBounds j v) Ty (0,0)):=by simp[World.setCell,aho,h3]
   rw[gL hb,ahm (by omega)];exact this
  ·rw[fF (Below.heap_setCell w ⟨b,j,none⟩ v x hx)];exact g.snap h
 ·intro l o h;by_cases hl:l=t
  ·subst hl;rw[hH]at h;simp only[ag6]at h;subst h;refine⟨b,_,arr.setIfInBounds j v,Ty,hG,h2,?_,⟨e,by simp,by simpa using h5,by simpa using h6,h7⟩,h8⟩;simp[World.setCell,aho,h3]
  ·refine(g.obj h).step h (.refl E) (λ_ h=>h) (λ_=>rfl) (λ_ _ _ _ h=>h) (λx hx=> ?_);refine Below.heap_setCell w ⟨b,j,none⟩ v x (λe=>hl ?_);simp only at e;subst e;exact g.sep hx dI
theorem CZ {n0:Nat}{W:Nat->Prop}(g:Good E H w0 w){t n b c j:Nat}(hH:H[t]? =some (.cu n)) (hG:E.G t n=some (b,c)) (hW:t<n0->W t) (v:Value):Ext n0 W E H w E H (w.setCell ⟨b,j,none⟩ v):=by
 have dI:owns E H t b:=by unfold owns;rw[hH];exact⟨c,hG⟩
 refine⟨.refl E,⟨by simp[World.setCell],ag3 _⟩,ag3 _,λ_ _=>rfl,λ{l x} hl hw ho=> ?_,λ_=>rfl,λ{x} hx h=>⟨Below.heap_setCell w ⟨b,j,none⟩ v x (λe=>by simp only at e;subst e;exact h _ dI),h,λ_=>rfl⟩⟩;refine Below.heap_setCell w ⟨b,j,none⟩ v x (λe=> ?_);simp only at e;subst e;have:=g.sep ho dI;subst this;exact hw (hW hl)
theorem qI {t n b e sz n0:Nat}{W:Nat->Prop}{Ty:TypeId}(hH:H[t]? =some (.cu n)) (hG:E.G t n=some (b,code e sz)) (hW:t<n0->W t):∀(vs:List Value) (off i:Nat) (w:World) (arr:Array Value),
  Good E H w0 w->w.heap[b]? =some (.cells arr Ty (0,0))->(∀v∈vs,MG v)->e<=off+i->off+i+vs.length<=arr.size->
  ∃w' lF,(storeCells ⟨b,off,none⟩ vs i).run P w= .ok () w'/\Good E H w0 w'/\Ext n0 W E H w E H w'/\w'.heap[b]? =some (.cells lF Ty (0,0))/\lF.size=arr.size/\
   ∀j,lF[j]? =if off+i<=j/\j<off+i+vs.length then vs[j-(off+i)]? else arr[j]?
 |[],off,i,w,arr,g,hb,hs,hn,hl=>⟨w,arr,rfl,g,.refl _ _ _ _ _,hb,rfl,λj=>by rw[if_neg (by simp)]⟩
 |v::r,off,i,w,arr,g,hb,hs,hn,hl=>by
  simp only[ahv]at hl;have mr:(w.setCell ⟨b,off+i,none⟩ v).heap[b]? =some (.cells (arr.setIfInBounds (off+i) v) Ty (0,0)):=by simp[World.setCell,aho,hb]
  obtain⟨w',lF,dz,g',e',iw,IM,fx⟩:=qI hH hG hW r off (i+1) _ _ (g.PF hH hG (j:=off+i) hn v) mr (λx hx=>hs x (ahn _ hx)) (by omega) (by simp;omega);refine⟨w',lF,?_,g',(CZ g hH hG hW v).trans e',iw,by simpa using IM,λj=> ?_⟩
  ·unfold storeCells;rw[Sem.run_bind];have h1:(store ((⟨b,off,none⟩:Addr).add i) v).run P w= .ok () (w.setCell ⟨b,off+i,none⟩ v):=by
    rw[dV];unfold store;rw[EG (hs v ahD),gL hb,vi hb];have cO:off+i<arr.size:=by omega
    simp[cO,Sem.run]
   rw[h1];exact dz
  ·rw[fx j];by_cases hj:j=off+i
   ·subst hj;have cO:off+i<arr.size:=by omega
    rw[if_neg (by omega),if_pos (by simp)];simp[cO]
   ·by_cases h1:off+(i+1)<=j/\j<off+(i+1)+r.length
    ·rw[if_pos h1,if_pos (by simp;omega)];rw[show j-(off+i)=(j-(off+(i+1)))+1 by omega];simp
    ·rw[if_neg h1,if_neg (by simp;omega),ahm (Ne.symm hj)]
theorem yN {t k n m off b c cap:Nat}{arr:Array Value}{el el2:Nat->List AV}{us vs:List Value}(hG:E.G t k=none) (vm:cap<=maxLen) (ME:n+m<=cap)
  (hcd:c=code (off+(n+m)) (off+cap)) (hS:∀o,E.S b o≠none->E.S b o=arr[o]?)
  (hu:us.length=n*1) (hv:vs.length=m*1) (kv:∀j,j<n+m->arr[off+j]? =(us++vs)[j]?)
  (h1:∀i,i<n->(el i).length=1/\∀x,x∈el i->lQ x=true) (k1:∀i,i<n->∀j x,(el i)[j]? =some x->Rel E.data x (us.getD (i*1+j) undef))
  (h2:∀i,i<m->(el2 i).length=1/\∀x,x∈el2 i->lQ x=true) (k2:∀i,i<m->∀j x,(el2 i)[j]? =some x->Rel E.data x (vs.getD (i*1+j) undef)):
  Rel (E.grown b arr (off+(n+m)) t k c) (.aY false 1 (n+m) (bI n el el2) (.off t k)) (.slice (some ⟨b,off,none⟩) (n+m) cap):=by
 have hle:E.le (E.grown b arr (off+(n+m)) t k c):=jr hG;have one:∀i,i<n+m->∀j x,(bI n el el2 i)[j]? =some x->j=0:=λi hi j x hj=>by
  have:=(ag5.1 hj).1;unfold bI at this;split at this
  ·rw[(h1 i ‹_›).1]at this;omega
  ·rw[(h2 (i-n) (by omega)).1]at this;omega
 refine .aY 1 (n+m) _ (.off t k) b off cap (λi j=>(us++vs).getD (i*1+j) undef) vm ⟨.inr (by simp[Env.grown,hcd]),ME⟩ ME (λi hi=> ?_) (λi hi x hx=> ?_) (λi hi j x hj=> ?_) (λi hi j x hj=> ?_)
 ·unfold bI;split
  ·exact(h1 i ‹_›).1
  ·exact(h2 (i-n) (by omega)).1
 ·unfold bI at hx;split at hx
  ·exact(h1 i ‹_›).2 x hx
  ·exact(h2 (i-n) (by omega)).2 x hx
 ·have X4:=one i hi j x hj;subst X4;have cO:i<n+m:=hi;have ha:=kv _ cO;have hg:(us++vs)[i]? =some ((us++vs).getD (i*1+0) undef):=by
   have:i<(us++vs).length:=by rw[ahB,hu,hv];omega
   rw[Nat.mul_one,aik,ag4,ahc this];rfl
  rw[show off+i*1+0=off+i by omega];simp only[Env.grown,if_true];cases hs:E.S b (off+i)with
  |none=>simp only[aiw];rw[if_pos (by omega),ha,hg]
  |some u=>
   have:=hS (off+i) (by rw[hs];simp);rw[hs,ha,hg]at this;simp only[Option.some_or];exact this
 ·have X4:=one i hi j x hj;subst X4;refine Rel.mono ?_ hle.data;unfold bI at hj;by_cases mP:i<n
  ·rw[if_pos mP]at hj;have cO:i*1+0<us.length:=by omega
   rw[ag4,ahb cO,←ag4];exact k1 i mP 0 x hj
  ·rw[if_neg mP]at hj;rw[ag4,ahi (by omega),←ag4];rw[show i*1+0-us.length=(i-n)*1+0 by omega];exact k2 _ (by omega) 0 x hj
theorem Jj {ty elem:TypeId}{p:Operand}{lo:Option Operand}{nl:Bool}{n t:Nat}{el:Nat->List AV}(ho:o.op= .slice ty p lo none none)
  (hu:aB P (underlying ty)=some (.slice elem)) (hs:aB P (Go.sizeOf elem)=some 1) (hp:bk T p= .aY nl 1 n el (.tok t)) (hl:dW T lo=some (some 1)) (hH:H[t]? =some (.tail n 1)) (h1:1<=n):
  kX P o T H (.aY false 1 (n-1) (λi=>el (i+1)) (.off t (n+1))) (H.set t (.cu (n+1))) [t]:=by
 refine fV λE w0 w ρ hg ht=> ?_
 have hr:=ht p (by simp[ho,Op.operands,Call.operands]);rw[hp]at hr;have oE:t<H.length:=(ag5.1 hH).1;have jt:ic H t (.cu (n+1))=H.set t (.cu (n+1)):=by unfold ic;rw[if_pos oE]
 generalize hv:ρ p=v at hr
 cases hr with
 |fw _ _ _ h=>rcases h with h|h<;>cases h
 |gG _ _ _ _ h=>rcases h with h|h<;>cases h
 |aY _ _ _ _ b off c u hn r5 O4 hlen ZJ hS hk=>
  obtain⟨hG,rfl,_⟩:=r5;obtain⟨b',c',arr,Ty,q1,q2,q3,q4,q5,q6,q7,q8⟩:=hg.obj hH;rw[hG]at q1;simp only[ag6,ahe]at q1;obtain⟨rfl,rfl⟩:=q1;rw[Nat.mul_one]at q4;have dI:owns E H t b:=by unfold owns;rw[hH];exact⟨c,hG⟩
  have Ky:E.G t (n+1)=none:=q8 _ (by omega);have hle:E.le (E.grown b arr n t (n+1) (code n arr.size)):=jr Ky;refine⟨E.grown b arr n t (n+1) (code n arr.size),.slice (some ⟨b,if c=1 then 0 else 1,none⟩) (n-1) (c-1),w,?_,?_,?_,?_⟩
  ·simp only[execOp,ho,Instr.sliceAt,hv,Sem.run_bind,aj hu,Result.andThen_ok,Instr.slice,ahU];have hb:=j5 (P:=P) (w:=w) (n:=n) (c:=c) (λx e=>ht x (by simp[ho,Op.operands,e])) (λx e=>by cases e) hl (hi:=none) rfl O4 (by simp) (by simp;omega) (by simp);rw[ahU]at hb;rw[hb];simp only[Result.andThen_ok,aj hs,Sem.run_pure,Sem.run_bind,ahN,aif];have e1:(1:Int).toNat=1:=rfl;have e2:((n:Int)).toNat=n:=rfl;rw[e1,e2];by_cases AG:c=1
   ·simp[AG]
   ·simp[AG,dV]
  ·have:=wC (n0:=H.length) (W:=(·∈[t])) (w:=w) (k:=n) (arr:=arr) (c:=code n arr.size) dI (aim oE) (λ_=>by simp) (ag3 _) Ky;rw[jt]at this;exact this
  ·have:=hg.CY (k:=n+1) (e:=n) (aim oE) (λl hl=>hg.sep hl dI) q2 q3 (by omega) (by omega) (λo ho=>q7 o (by omega)) (λm hm=>q8 m (by omega));rw[jt]at this;exact this
  ·refine .aY 1 (n-1) _ _ b _ (c-1) (λi j=>u (i+1) j) (by omega) ⟨?_,by omega⟩ (by omega) (λi hi=>hlen _ (by omega)) (λi hi=>ZJ _ (by omega)) (λi hi j x hj=>hle.S ?_) (λi hi j x hj=>(hk _ (by omega) j x hj).mono hle.data)
   ·by_cases AG:c=1
    ·exact .inl (by omega)
    ·rw[if_neg AG];refine .inr ?_;simp only[Env.grown,and_self,if_true];rw[show 1+(n-1)=n by omega,show 1+(c-1)=arr.size by omega]
   ·rw[if_neg (by omega)];have:=hS (i+1) (by omega) j x hj;rw[show 1+i*1+j=0+(i+1)*1+j by omega];exact this
theorem Jk {ty elem:TypeId}{p:Operand}{lo:Option Operand}{nl:Bool}{n t k:Nat}{el:Nat->List AV}(ho:o.op= .slice ty p lo none none)
  (hu:aB P (underlying ty)=some (.slice elem)) (hs:aB P (Go.sizeOf elem)=some 1) (hp:bk T p= .aY nl 1 n el (.off t k)) (hl:dW T lo=some (some 1)) (h1:1<=n):
  oH P o T H (.aY false 1 (n-1) (λi=>el (i+1)) (.off t k)):=by
 refine cL λE w0 w ρ hg ht=> ?_
 have hr:=ht p (by simp[ho,Op.operands,Call.operands]);rw[hp]at hr;generalize hv:ρ p=v at hr
 cases hr with
 |fw=>omega
 |gG=>omega
 |aY _ _ _ _ b off c u hn r5 O4 hlen ZJ hS hk=>
  obtain⟨hG,_⟩:=r5;refine⟨.slice (some ⟨b,if c=1 then off else off+1,none⟩) (n-1) (c-1),?_,?_⟩
  ·simp only[execOp,ho,Instr.sliceAt,hv,Sem.run_bind,aj hu,Result.andThen_ok,Instr.slice,ahU];have hb:=j5 (P:=P) (w:=w) (n:=n) (c:=c) (λx e=>ht x (by simp[ho,Op.operands,e])) (λx e=>by cases e) hl (hi:=none) rfl O4 (by simp) (by simp;omega) (by simp);rw[ahU]at hb;rw[hb];simp only[Result.andThen_ok,aj hs,Sem.run_pure,Sem.run_bind,ahN,aif];have e1:(1:Int).toNat=1:=rfl;have e2:((n:Int)).toNat=n:=rfl;rw[e1,e2];by_cases AG:c=1
   ·simp[AG]
   ·simp[AG,dV]
  ·refine .aY 1 (n-1) _ _ b _ (c-1) (λi j=>u (i+1) j) (by omega) ⟨?_,by omega⟩ (by omega) (λi hi=>hlen _ (by omega)) (λi hi=>ZJ _ (by omega)) (λi hi j x hj=> ?_) (λi hi j x hj=>hk _ (by omega) j x hj)
   ·by_cases AG:c=1
    ·exact .inl (by omega)
    ·rw[if_neg AG];refine .inr ?_;rcases hG with h|h
     ·omega
     ·rw[h,show off+1+(n-1)=off+n by omega,show off+1+(c-1)=off+c by omega]
   ·rw[if_neg (by omega)];have:=hS (i+1) (by omega) j x hj;rw[show off+1+i*1+j=off+(i+1)*1+j by omega];exact this
theorem AM {c:Call}{p q:Operand}{bytes:Nat}(hc:xa P c p q 1 bytes){ρ:Operand->Value}(mW:Rel E (bk T q) (ρ q)) (g:Good E H w0 w){n m cap k off b t:Nat}{el el2:Nat->List AV}(ho:o.op= .call c)
  (hp:Rel E (.aY false 1 n el (.off t k)) (.slice (some ⟨b,off,none⟩) n cap)) (hv:ρ p= .slice (some ⟨b,off,none⟩) n cap) (XC:E.G t k=some (b,code (off+n) (off+cap))) (hH:H[t]? =some (.cu k)) (hq:jj 1 (bk T q)=some (m,el2)) (hm:0<m) (hk:n+m<=cap) (XG:cap<=maxLen):
  ∃E' v w',(execOp ρ o).run P w= .ok (.value v) w'/\Ext H.length (·∈[t]) E H w E' (ic H t (.cu (k+1))) w'/\Good E' (ic H t (.cu (k+1))) w0 w'/\
   Rel E' (.aY false 1 (n+m) (bI n el el2) (.off t (k+1))) v:=by
 obtain⟨jH,dn,ty,t2,elem,i,z,d,AF,hu,hs,hi,OX,hz,OY,yq,hd⟩:=hc;have yl:∀(w:World),(underlying t2).run P w= .ok d w:=aj yq;have tZ:jj 1 (.aY false 1 n el (.off t k))=some (n,el):=by simp[jj]
 obtain⟨-,us,CE,Ip,vl,EI⟩:=iB (P:=P) g hp tZ;obtain⟨mw,vs,xG,O0,Iq,Ir⟩:=iB (P:=P) g mW hq;obtain⟨b',c',arr,Ty,h1,h2,h3,⟨e,h4,h5,h6,h7⟩,h8⟩:=g.obj hH;rw[XC]at h1;simp only[ag6,ahe]at h1;obtain⟨rfl,rfl⟩:=h1;obtain⟨rfl,aai⟩:=iJ h4;have dI:owns E H t b:=by unfold owns;rw[hH];exact⟨_,XC⟩
 have oE:t<H.length:=(ag5.1 hH).1;have O2:∀v∈vs,MG v:=by
  intro v hvm;obtain⟨j,hj,rfl⟩:=ah0 hvm;rw[xG,Nat.mul_one]at hj;have xb:0<(el2 j).length:=by rw[(Iq _ hj).1];omega
  have hrel:=Ir _ hj 0 _ (ahc xb);rw[show j*1+0=j by omega]at hrel;have e2:vs.getD j undef=vs[j]:=by simp[ag4,xG,hj]
  rw[e2]at hrel;exact Kx hrel ((Iq _ hj).2 _ (ahG xb))
 obtain⟨w',lF,O3,g',e',iw,IM,fx⟩:=qI (P:=P) (n0:=H.length) (W:=(·∈[t])) hH XC (λ_=>by simp) vs (off+n) 0 w arr g h3 O2 (by omega) (by omega);have Ky:∀j,k+1<=j->E.G t j=none:=λj hj=>h8 j (by omega)
 have TZ:∀o,off+(n+m)<=o->E.S b o=none:=λo ho=>h7 o (by omega)
 have ecd:code (off+(n+m)) lF.size=code (off+(n+m)) (off+cap):=by rw[IM,←aai]
 refine⟨E.grown b lF (off+(n+m)) t (k+1) (code (off+(n+m)) lF.size),.slice (some ⟨b,off,none⟩) (n+m) cap,w',?_,?_,?_,?_⟩
 ·have dz:(Builtin.append_ c.argTypes o.type #[ρ p,ρ q]).run P w= .ok (.slice (some ⟨b,off,none⟩) (n+m) cap) w':=by
   rw[AF,hv];unfold Builtin.append_;simp only[aie,ahw,ahL,Sem.run_bind,aj hu,aj hs,Result.andThen_ok,yl,Sem.run_pure];have XB:(match d with| .int _=>true|_=>false)=false:=by
    cases d<;>first|rfl|exact absurd rfl (hd _)
   simp only[ahA,if_false,ais,if_true,Sem.run_bind,mw,Result.andThen_ok];rw[if_pos hk];simp only[Sem.run_bind,O0,Result.andThen_ok,dV,Nat.mul_one];rw[O3];simp only[Result.andThen_ok,Sem.run_pure]
  simp only[execOp,ho,resolve,jH,dn,invoke,builtin,pure_bind];rw[Sem.run_bind];have e:(#[p,q]:Array Operand).map ρ= #[ρ p,ρ q]:=by simp
  rw[e,dz];rfl
 ·exact e'.trans (wC dI (aim oE) (λ_=>by simp) (ag3 _) (Ky _ (ag3 _)))
 ·exact g'.CY (aim oE) (λl hl=>g.sep hl dI) h2 iw (by omega) (by omega) TZ Ky
 ·refine yN (us:=us) (vs:=vs) (Ky _ (ag3 _)) XG hk ecd (λo h=> ?_) CE xG (λj hj=> ?_) vl EI Iq Ir
  ·cases T5:E.S b o with
   |none=>exact absurd T5 h
   |some u=>have:=g'.snap T5;rw[gL iw]at this;exact this.symm
  ·rw[fx (off+j),aik];by_cases sv:j<n
   ·rw[if_neg (by omega),ahb (by omega)];have hold:∀j,j<n->w.cell? ⟨b,off+j,none⟩=us[j]? :=by
     intro j hj
     cases hp with
     |aY _ _ _ _ _ _ _ u s6 r5 tV sZ Xx hS' ix=>
      have EJ:=mq g sZ hS';have hlen:j<((List.range (n*1)).map λk=>u (k / 1) (k % 1)).length:=by simpa using hj
      have h0:=g.snap (EJ j _ (ahc hlen));have Xw:=gx (P:=P) (w:=w) (b:=b) (off:=off) (n*1) 0 #[] ((List.range (n*1)).map λk=>u (k / 1) (k % 1)) (by simp) (λj v hj=>by
       rw[ahF];exact g.snap (EJ j v hj))
      simp only[Builtin.firstCells,loadCells,Xw]at Ip;simp only[Result.ok.injEq,and_true]at Ip;have XD:(List.range (n*1)).map (λk=>u (k / 1) (k % 1))=us:=by simpa using Ip
      rw[h0,←XD,ahc hlen]
     |gG=>omega
    rw[←hold j sv,gL h3]
   ·rw[if_pos (by omega),ahi (by omega),CE];congr 1;omega
theorem Fs {c:Call}{p q:Operand}{sz bytes:Nat}(hc:xa P c p q sz bytes){ρ:Operand->Value}(mW:Rel E (bk T q) (ρ q)) (g:Good E H w0 w){nl:Bool}{n m k:Nat}{el el2:Nat->List AV}{own:Own}{A:Option Addr}(ho:o.op= .call c)
  (hp:Rel E (.aY nl sz n el own) (ρ p)) (hv:ρ p= .slice A n k) (hq:jj sz (bk T q)=some (m,el2)) (hk:k<n+m) (j9:(n+m)*bytes<=2 ^ 46) (hlen:n+m<2 ^ 62):
  ∃(c':Nat) (us vs:List Value) (Z:Array Value) (elem:TypeId),n+m<=c'/\us.length=n*sz/\vs.length=m*sz/\(∀i,i<m->(el2 i).length=sz/\∀x,x∈el2 i->lQ x=true)/\(∀i,i<m->∀j x,(el2 i)[j]? =some x->Rel E.data x (vs.getD (i*sz+j) undef))/\
   (∀i,i<n->(el i).length=sz/\∀x,x∈el i->lQ x=true)/\(∀i,i<n->∀j x,(el i)[j]? =some x->Rel E.data x (us.getD (i*sz+j) undef))/\Z.size=(c'-(n+m))*sz/\c'<=maxLen/\
   (execOp ρ o).run P w= .ok (.value (.slice (some ⟨w.drew.heap.size,0,none⟩) (n+m) c')) (w.drew.alloc (.cells (us.toArray++vs.toArray++Z) elem)):=by
 obtain⟨jH,dn,ty,t2,elem,i,z,d,AF,hu,hs,hi,OX,hz,OY,yq,hd⟩:=hc;have yl:∀(w:World),(underlying t2).run P w= .ok d w:=aj yq;have tZ:jj sz (.aY nl sz n el own)=some (n,el):=by simp[jj]
 obtain⟨c',AG,OZ,we⟩:=kO (P:=P) (n+m) k elem (λmu=>do
   askRoom (mu*(←typeInfo elem).bytes)
   let lL ←Builtin.firstCells sz n (.slice A n k)
   let new ←Builtin.firstCells sz m (ρ q)
   let rest:=Builtin.zeroCells (←zeroValue elem).cells (mu-(n+m))
   pure (Value.slice (some (←newRow elem (lL++new++rest))) (n+m) mu)) w (by omega)
 have g1:Good E H w0 w.drew:=g.drew;obtain⟨-,us,CE,Ip,vl,EI⟩:=iB (P:=P) g1 hp tZ;obtain⟨mw,-⟩:=iB (P:=P) g mW hq;obtain⟨-,vs,xG,O0,Iq,Ir⟩:=iB (P:=P) g1 mW hq;rw[hv]at Ip
 let arr:Array Value:=us.toArray++vs.toArray++Builtin.zeroCells z.cells (c'-(n+m))
 have ga:arr.size=c'*sz:=by
  simp only[arr,Array.size_append,aiu,j8,CE,xG,OY];rw[←aic,←aic];congr 1;omega
 refine⟨c',us,vs,Builtin.zeroCells z.cells (c'-(n+m)),elem,AG,CE,xG,Iq,Ir,vl,EI,by rw[j8,OY],OZ,?_⟩;show (execOp ρ o).run P w= .ok (.value (.slice (some ⟨w.drew.heap.size,0,none⟩) (n+m) c')) (w.drew.alloc (.cells arr elem))
 ·have dz:(Builtin.append_ c.argTypes o.type #[ρ p,ρ q]).run P w= .ok (.slice (some ⟨w.drew.heap.size,0,none⟩) (n+m) c') (w.drew.alloc (.cells arr elem)):=by
   rw[AF,hv];unfold Builtin.append_;simp only[aie,ahw,ahL,Sem.run_bind,aj hu,aj hs,Result.andThen_ok,yl,Sem.run_pure];have XB:(match d with| .int _=>true|_=>false)=false:=by
    cases d<;>first|rfl|exact absurd rfl (hd _)
   have OM:=we;simp only[ahA,if_false,ais,if_true,Sem.run_bind,mw,Result.andThen_ok];rw[if_neg (by omega:¬n+m<=k)];simp only[Sem.run_bind,aj hi,Result.andThen_ok];have O1:¬(((n+m:Nat):Int)>IntKind.i64.max/\(False∨i.bytes=0)):=by
    intro h;have:(IntKind.i64.max:Int)=9223372036854775807:=by decide
    rw[this]at h;omega
   rw[if_neg O1];simp only[Sem.run_bind,aj hi,Result.andThen_ok];have vm:¬(Builtin.nextslicecap (n+m) k*i.bytes>2 ^ 48):=by
    have h1:=s5 hk;have h2:Builtin.nextslicecap (n+m) k*i.bytes<=2*(n+m)*i.bytes:=ahY _ h1;rw[Nat.mul_assoc,OX]at h2;rw[OX];omega
   rw[if_neg vm];simp only[Sem.run_bind]at OM ⊢;rw[OM];simp only[aj hi,Result.andThen_ok];unfold askRoom;have IN:∀b:Bool,(Sem.run P (if c'*i.bytes>roomBytes then mark Mark.noRoom else pure ()) w.drew)= .ok () w.drew:=by
    intro _;split
    ·rfl
    ·rfl
   rw[IN true];simp only[Result.andThen_ok];rw[Ip];simp only[Result.andThen_ok];rw[O0];simp only[Result.andThen_ok,aj hz];simp only[newRow,newObj,Sem.run_bind,Sem.run,Sem.run_pure,Result.andThen_ok];rfl
  simp only[execOp,ho,resolve,jH,dn,invoke,builtin,pure_bind];rw[Sem.run_bind];have e:(#[p,q]:Array Operand).map ρ= #[ρ p,ρ q]:=by simp
  rw[e,dz];rfl
theorem Ft {c:Call}{p q:Operand}{bytes n m t k:Nat}{nl:Bool}{el el2:Nat->List AV}(hc:xa P c p q 1 bytes) (ho:o.op= .call c) (hp:bk T p= .aY nl 1 n el (.off t k)) (hq:jj 1 (bk T q)=some (m,el2))
  (hH:H[t]? =some (.cu k)) (hm:0<m) (j9:(n+m)*bytes<=2 ^ 46) (hlen:n+m<2 ^ 62):kX P o T H (.aY false 1 (n+m) (bI n el el2) (.off t (k+1))) (H.set t (.cu (k+1))) [t]:=by
 refine fV λE w0 w ρ hg ht=> ?_
 have hr:=ht p (by simp[ho,Op.operands,Call.operands,hc.args]);have mW:=ht q (by simp[ho,Op.operands,Call.operands,hc.args]);rw[hp]at hr;have oE:t<H.length:=(ag5.1 hH).1;have jt:ic H t (.cu (k+1))=H.set t (.cu (k+1)):=by unfold ic;rw[if_pos oE]
 generalize hv:ρ p=v at hr
 cases hr with
 |fw _ _ _ h=>rcases h with h|h<;>cases h
 |gG _ _ _ _ h=>rcases h with h|h<;>cases h
 |aY _ _ _ _ b off cap u hn r5 O4 hl h1 hS ix=>
  have xb:Rel E (.aY false 1 n el (.off t k)) (.slice (some ⟨b,off,none⟩) n cap):= .aY 1 n el _ b off cap u hn r5 O4 hl h1 hS ix;by_cases vm:n+m<=cap
  ·rcases r5.1 with h0|hG
   ·omega
   ·have:=AM hc mW hg ho xb hv hG hH hq hm vm hn;rw[jt]at this;exact this
  ·obtain⟨b',c',afn,Ty,q1,q2,q3,q4,q5⟩:=hg.obj hH;have Ky:∀j,k+1<=j->E.G t j=none:=λj hj=>q5 j (by omega)
   obtain⟨cn,us,vs,Z,elem,AG,CE,xG,Iq,Ir,vl,nz,hZ,IK,dz⟩:=Fs hc mW hg ho (hv▸xb) hv hq (by omega) j9 hlen;have g1:Good E H w0 w.drew:=hg.drew
   let arr:Array Value:=us.toArray++vs.toArray++Z
   have ga:arr.size=cn:=by
    simp only[arr,Array.size_append,aiu,CE,xG,hZ];omega
   have g2:Good E H w0 (w.drew.alloc (.cells arr elem)):=g1.push _;have hb:(w.drew.alloc (.cells arr elem)).heap[w.drew.heap.size]? =some (.cells arr elem (0,0)):=heap_alloc_new _ _;have TZ:∀o,E.S w.drew.heap.size o=none:=λo=>kx g1 o
   have eU:∀l,owns E H l w.drew.heap.size->l=t:=λl hl=>absurd (g1.fG hl) (ahZ _)
   refine⟨E.grown w.drew.heap.size arr (0+(n+m)) t (k+1) (code (0+(n+m)) arr.size),_,_,dz,?_,?_,?_⟩
   ·have:=(qA (E:=E) (H:=H) (w:=w) H.length (·∈[t])).trans (xi (n0:=H.length) (W:=(·∈[t])) g1 (.cells arr elem) (t:=t) (n:=k+1) (k:=0+(n+m)) (c:=code (0+(n+m)) arr.size) (arr:=arr) (aim oE) (λ_=>by simp) (ag3 _) (Ky _ (ag3 _)));rw[jt]at this;exact this
   ·have:=g2.CY (t:=t) (k:=k+1) (e:=0+(n+m)) (aim oE) eU g1.below.size hb (by omega) (by omega) (λo _=>TZ o) Ky;rw[jt]at this;exact this
   ·refine yN (us:=us) (vs:=vs) (Ky _ (ag3 _)) IK AG (by rw[ga,ahF,ahF]) (λo h=>absurd (TZ o) h) CE xG (λj hj=> ?_) vl nz Iq Ir;have rE:j<(us++vs).length:=by rw[ahB,CE,xG];omega
    have e:arr=(us++vs).toArray++Z:=by
     simp only[arr];congr 1;simp
    rw[ahF,e,ah1 (by simpa using rE)];simp
end
inductive Tree (α:Type) where
 |leaf (a:α)
 |bad
 |br (b:Bool) (t f:Tree α)
namespace Tree
variable {α β:Type}
def eR:Tree α->Option α
 | .leaf a=>some a
 | .bad=>none
 | .br b t f=>bif b then t.eR else f.eR
def bind:Tree α->(α->Tree β)->Tree β
 | .leaf a,k=>k a
 | .bad,_=> .bad
 | .br b t f,k=> .br b (t.bind k) (f.bind k)
def via (g:α->β):Tree α->Option β
 | .leaf a=>some (g a)
 | .bad=>none
 | .br b t f=>bif b then t.via g else f.via g
def opt (e:Option α) (d:α):Tree α:= .br e.isSome (.leaf (e.getD d)) .bad
theorem uq (t:Tree α) (k:α->Tree β):(t.bind k).eR=t.eR.bind λa=>(k a).eR:=by
 induction t with
 |leaf a=>rfl
 |bad=>rfl
 |br b t f h1 h2=>cases b<;>simp[bind,eR,h1,h2]
theorem X6 (g:α->β) (t:Tree α):t.via g=t.eR.map g:=by
 induction t with
 |leaf a=>rfl
 |bad=>rfl
 |br b t f h1 h2=>cases b<;>simp[via,eR,h1,h2]
theorem Ur {e:Option α}{d r:α}(h:(opt e d).eR=some r):e=some r:=by
 cases e with
 |none=>simp[opt,eR]at h
 |some x=>simpa [opt,eR]using h
end Tree
abbrev pR:=AV×aa×Bool×Rd×List Nat
def C0 (ops:Array Oper) (T:List AV) (o:Oper):Tree Bool:=
 match o.guard with
 |none=> .leaf true
 |some (j,want)=>match nO ops T j with
  |none=> .bad
  |some none=> .leaf false
  |some (some b)=> .br b (.leaf want) (.leaf (!want))
theorem Fu {ops:Array Oper}{T:List AV}{o:Oper}:(C0 ops T o).eR=dx ops T o:=by
 unfold C0 dx
 cases o.guard with
 |none=>rfl
 |some g=>
  obtain⟨j,want⟩:=g;dsimp only
  cases nO ops T j with
  |none=>rfl
  |some y=>
   cases y with
   |none=>rfl
   |some b=>cases b<;>cases want<;>rfl
def Us (x:AV) (H:aa):pR:=(x,H,true,I0,[])
def cr (s:ByteArray) (n:Nat):Int:=match s[n]? with
 |some b=>(b.toNat:Int)
 |none=>0
theorem Jl {P:Program}{t:TypeId}{s:ByteArray}{k:IntKind}{i:Int}(hu:aB P (underlying t)=some .string) (h0:0<=i) (h1:i<s.size):ixE P t (.string s) (.int k i)=some (.int .u8 (cr s i.toNat)):=by
 have cO:i.toNat<s.size:=by omega
 have hb:s[i.toNat]? =some s[i.toNat]:=getElem?_pos s i.toNat cO;unfold ixE Instr.index cr;rw[dQ (x:=(k,i)) rfl];simp only;rw[dQ hu];simp only[h0,if_true,hb];rfl
theorem MW {P:Program}{t:TypeId}{p q:Operand}{a b:ByteArray}(h:a.size+b.size<=4611686018427387904):XF P .add t p q (.string a) (.string b)=some (.string (a++b)):=by
 unfold XF;rw[dQ (x:=()) rfl];have h2:¬((a.size+b.size:Nat):Int)>IntKind.max .i64:=by
  have:IntKind.max .i64=9223372036854775807:=rfl;omega
 show aB P (Op.stringOp .add a b)=_;simp only[Op.stringOp];rw[if_neg h2];rfl
def PG (P:Program) (o:Oper) (T:List AV) (H:aa):Option (Tree pR):=
 match o.op with
 | .binOp .add t p q _=>match bk T p,bk T q with
  | .sc (.string a),.sc (.string b)=>some (.br (decide (a.size+b.size<=4611686018427387904)) (.leaf (Us (.sc (.string (a++b))) H)) .bad)
  |_,_=>none
 | .index t p q=>match aB P (underlying t),bk T p,bk T q with
  |some .string,.sc (.string s),.sc (.int _ i)=>some (.br (decide (0<=i/\i<(s.size:Int))) (.leaf (Us (.sc (.int .u8 (cr s i.toNat))) H)) .bad)
  |_,_,_=>none
 | .pick c a b=>match bk T c with
  | .sc (.bool t)=>some (.br t (.leaf (Us (bk T a) H)) (.leaf (Us (bk T b) H)))
  |_=>none
 | .indexAddr t p q=>match aB P (underlying t),bk T p,bk T q with
  |some (.slice e),.aY _ sz n el _,.sc (.int _ i)=>if aB P (Go.sizeOf e)=some sz then some (.br (decide (0<=i/\i<n)) (.leaf (Us (.dO (el i.toNat)) H)) .bad)else none
  |_,_,_=>none
 | .slice t p lo hi mx=>match aB P (underlying t),bk T p with
  |some (.slice e),.aY nl sz n el _=>
   match dW T lo,dW T hi,dW T mx with
   |some l,some h,some none=>
    if aB P (Go.sizeOf e)=some sz then some (.br (decide (0<=l.getD 0/\l.getD 0<=h.getD n/\h.getD n<=n)) (.leaf (Us (.aY nl sz ((h.getD n).toNat-(l.getD 0).toNat) (λi=>el (i+(l.getD 0).toNat)) .dA) H)) .bad)else none
   |some l,some (some h),some (some m)=>
    if aB P (Go.sizeOf e)=some sz then some (.br (decide (0<=l.getD 0/\l.getD 0<=h/\h=m/\m<=n)) (.leaf (Us (.aY nl sz (h.toNat-(l.getD 0).toNat) (λi=>el (i+(l.getD 0).toNat)) .tight) H)) .bad)else none
   |_,_,_=>none
  |some .string,.sc (.string s)=>
   match dW T lo,dW T hi,dW T mx with
   |some l,some h,some none=>some (.br (decide (0<=l.getD 0/\l.getD 0<=h.getD s.size/\h.getD s.size<=s.size)) (.leaf (Us (.sc (.string (s.extract (l.getD 0).toNat (h.getD s.size).toNat))) H)) .bad)
   |_,_,_=>none
  |_,_=>none
 |_=>none
theorem PH {P:Program}{o:Oper}{T:List AV}{H:aa}{t:Tree pR}{r:pR}(h:PG P o T H=some t) (hr:t.eR=some r):∃x,kZ P o T H=some x/\r=Us x H/\tc o T=I0:=by
 unfold PG at h;split at h
 ·rename_i t p q t2 ho;split at h
  ·rename_i a b hp hq;cases h;cases hd:decide (a.size+b.size<=4611686018427387904)with
   |false=>rw[hd]at hr;simp[Tree.eR]at hr
   |true=>
    rw[hd]at hr;simp only[Tree.eR,cond_true,ag6]at hr;refine⟨_,?_,hr.symm,by unfold tc sC;rw[ho];rfl⟩;unfold kZ;rw[ho];simp only[hp,hq,T9];rw[MW (aht hd)];rfl
  ·cases h
 ·rename_i t p q ho;split at h
  ·rename_i s k i hu hp hq;cases h;cases hd:decide (0<=i/\i<(s.size:Int))with
   |false=>rw[hd]at hr;simp[Tree.eR]at hr
   |true=>
    rw[hd]at hr;simp only[Tree.eR,cond_true,ag6]at hr;have:=aht hd;refine⟨_,?_,hr.symm,by unfold tc sC;rw[ho];rfl⟩;unfold kZ;rw[ho];simp only[hp,hq,IT];rw[Jl hu this.1 this.2];rfl
  ·cases h
 ·rename_i c a b ho;split at h
  ·rename_i tt hc;cases h;refine⟨if tt then bk T a else bk T b,by unfold kZ;rw[ho];simp only[hc],?_,by unfold tc sC;rw[ho];rfl⟩;cases tt<;>simp[Tree.eR]at hr<;>exact hr.symm
  ·cases h
 ·rename_i t p q ho;split at h
  ·rename_i e nl sz n el own k i hu hp hq;split at h
   ·rename_i hs;cases h;cases hd:decide (0<=i/\i<(n:Int))with
    |false=>rw[hd]at hr;simp[Tree.eR]at hr
    |true=>
     rw[hd]at hr;simp only[Tree.eR,cond_true,ag6]at hr;have:=aht hd;refine⟨_,?_,hr.symm,by unfold tc sC;rw[ho];rfl⟩;unfold kZ;rw[ho];simp only[hu,hp,hq];rw[if_pos ⟨hs,this.1,this.2⟩]
   ·cases h
  ·cases h
 ·rename_i t p lo hi mx ho;split at h
  ·rename_i e nl sz n el own hu hp;split at h
   ·rename_i l h' hl hh hm;split at h
    ·rename_i hs;cases h;cases hd:decide (0<=l.getD 0/\l.getD 0<=h'.getD n/\h'.getD n<=n)with
     |false=>rw[hd]at hr;simp[Tree.eR]at hr
     |true=>
      rw[hd]at hr;simp only[Tree.eR,cond_true,ag6]at hr;have:=aht hd;refine⟨_,?_,hr.symm,by unfold tc sC;rw[ho];rfl⟩;unfold kZ;rw[ho];simp only[hu,hp,hl,hh,hm];rw[if_pos ⟨hs,this⟩]
    ·cases h
   ·rename_i l h' m hl hh hm;split at h
    ·rename_i hs;cases h;cases hd:decide (0<=l.getD 0/\l.getD 0<=h'/\h'=m/\m<=(n:Int))with
     |false=>rw[hd]at hr;simp[Tree.eR]at hr
     |true=>
      rw[hd]at hr;simp only[Tree.eR,cond_true,ag6]at hr;have:=aht hd;refine⟨_,?_,hr.symm,by unfold tc sC;rw[ho];rfl⟩;unfold kZ;rw[ho];simp only[hu,hp,hl,hh,hm];rw[if_pos ⟨hs,this⟩]
    ·cases h
   ·cases h
  ·rename_i s hu hp;split at h
   ·rename_i l h' hl hh hm;cases h;cases hd:decide (0<=l.getD 0/\l.getD 0<=h'.getD s.size/\h'.getD s.size<=(s.size:Int))with
    |false=>rw[hd]at hr;simp[Tree.eR]at hr
    |true=>
     rw[hd]at hr;simp only[Tree.eR,cond_true,ag6]at hr;have:=aht hd;refine⟨_,?_,hr.symm,by unfold tc sC;rw[ho];rfl⟩;unfold kZ;rw[ho];simp only[hu,hp,hl,hh,hm];rw[if_pos this]
   ·cases h
  ·cases h
 ·cases h
def PI (P:Program) (o:Oper) (T:List AV) (H:aa):Option (Tree (AV×aa×List Nat)):=
 match o.op with
 | .convert src dst p=>match aB P (underlying src),aB P (underlying dst),bk T p with
  |some .string,some (.slice e),.sc (.string s)=>if IV P e=true then some (.br (decide (s.size<2 ^ 62)) (.leaf (.aY false 1 s.size (pN s) .dA,H,[])) .bad)else none
  |some (.slice e),some .string,.aY nl sz n el own=>if IV P e=true/\sz=1 then some ((Tree.opt (lG n el) []).bind λns=> .leaf (.sc (.string (yB ns)),H,[]))else none
  |_,_,_=>none
 | .call c=>match c.callee with
  | .builtin .append=>match c.args.toList,IW P c with
   |[p,q],some (sz,bytes)=>
    match bk T p,jj sz (bk T q)with
    | .aY nl mO n el own,some (m,el2)=>
     some (.br (decide (m=0)) (.leaf (.aY nl mO n el own,H,[]))
      (.br (decide ((n+m)*bytes<=2 ^ 46/\n+m<2 ^ 62))
       (match own with
       | .tok t=>match H[t]? with
        |some (.tail n' ZQ)=>if ZQ=sz/\mO=sz then .br (decide (n'=n)) (.leaf (.aY false sz (n+m) (bI n el el2) (.tok t),H.set t (.tail (n+m) sz),[t])) .bad else .bad
        |_=> .bad
       | .tight=>if mO=sz then .leaf (.aY false sz (n+m) (bI n el el2) (.tok H.length),H++[.tail (n+m) sz],[])else .br (decide (n=0)) (.leaf (.aY false sz (n+m) (bI n el el2) (.tok H.length),H++[.tail (n+m) sz],[])) .bad
       | .dA=> .br nl (if mO=sz then .leaf (.aY false sz (n+m) (bI n el el2) (.tok H.length),H++[.tail (n+m) sz],[])else .br (decide (n=0)) (.leaf (.aY false sz (n+m) (bI n el el2) (.tok H.length),H++[.tail (n+m) sz],[])) .bad) .bad
       | .off _ _=> .bad)
       .bad))
    |_,_=>none
   |_,_=>none
  |_=>none
 |_=>none
theorem Tree.df {α:Type}{b:Bool}{t f:Tree α}{r:α}(h:(Tree.br b t f).eR=some r):(b=true/\t.eR=some r)∨(b=false/\f.eR=some r):=by
 cases b with
 |true=>exact .inl ⟨rfl,h⟩
 |false=>exact .inr ⟨rfl,h⟩
theorem Tree.aE {α:Type}{a r:α}(h:(Tree.leaf a).eR=some r):r=a:=by
 simp only[Tree.eR,ag6]at h;exact h.symm
theorem Tree.aZ {α:Type}{r:α}(h:(Tree.bad:Tree α).eR=some r):False:=by
 simp[Tree.eR]at h
theorem PJ {P:Program}{o:Oper}{T:List AV}{H:aa}{t:Tree (AV×aa×List Nat)}{r:AV×aa×List Nat}(h:PI P o T H=some t) (hr:t.eR=some r):kX P o T H r.1 r.2.1 r.2.2/\cQ H r.2.1 r.2.2:=by
 have aaj:pO P o T H=some r->kX P o T H r.1 r.2.1 r.2.2/\cQ H r.2.1 r.2.2:=λh=>⟨mY h,mZ h⟩
 have acY:wy P o T H=some r->kX P o T H r.1 r.2.1 r.2.2/\cQ H r.2.1 r.2.2:=λh=>jS h
 unfold PI at h;split at h
 ·rename_i src dst p ho;split at h
  ·rename_i e s vl yq hp;split at h
   ·rename_i h8;cases h;rcases Tree.df hr with ⟨hd,hr⟩|⟨_,hr⟩
    ·obtain rfl:=Tree.aE hr;refine aaj ?_;unfold pO;rw[ho];simp only[vl,yq,hp];rw[if_pos ⟨h8,aht hd⟩]
    ·exact(Tree.aZ hr).elim
   ·cases h
  ·rename_i e nl sz n el own vl yq hp;split at h
   ·rename_i h8;cases h;rw[Tree.uq]at hr
    cases hb:(Tree.opt (lG n el) []).eR with
    |none=>rw[hb]at hr;cases hr
    |some ns=>
     rw[hb]at hr;simp only[ahH]at hr;obtain rfl:=Tree.aE hr;refine acY ?_;unfold wy;rw[ho];simp only[vl,yq,hp];rw[if_pos ⟨h8.1,.inl h8.2⟩,Tree.Ur hb]
   ·cases h
  ·cases h
 ·rename_i c ho;split at h
  ·rename_i jH;split at h
   ·rename_i p q sz bytes dn hT;split at h
    ·rename_i nl mO n el own m el2 hp hq;cases h;have hX:∀r,MI P c T H=some r->pO P o T H=some r:=λr h=>by
      unfold pO;rw[ho];simp only[jH];exact h
     refine aaj (hX _ ?_);unfold MI;simp only[dn,hT,hp,hq];rcases Tree.df hr with ⟨hd,hr⟩|⟨hd,hr⟩
     ·rw[if_pos (aht hd),Tree.aE hr]
     ·rw[if_neg (of_decide_eq_false hd)];rcases Tree.df hr with ⟨WU,hr⟩|⟨WU,hr⟩
      ·rw[if_pos (aht WU)];split at hr
       ·rename_i t;split at hr
        ·rename_i n' ZQ hH;split at hr
         ·rename_i hs;rcases Tree.df hr with ⟨WV,hr⟩|⟨WV,hr⟩
          ·simp only[hH];rw[if_pos ⟨aht WV,hs⟩,Tree.aE hr]
          ·exact(Tree.aZ hr).elim
         ·exact(Tree.aZ hr).elim
        ·exact(Tree.aZ hr).elim
       ·split at hr
        ·rename_i hs;simp only;rw[if_pos (.inr hs),Tree.aE hr]
        ·rcases Tree.df hr with ⟨WV,hr⟩|⟨WV,hr⟩
         ·simp only;rw[if_pos (.inl (aht WV)),Tree.aE hr]
         ·exact(Tree.aZ hr).elim
       ·rcases Tree.df hr with ⟨hnl,hr⟩|⟨_,hr⟩
        ·split at hr
         ·rename_i hs;simp only;rw[if_pos ⟨hnl,.inr hs⟩,Tree.aE hr]
         ·rcases Tree.df hr with ⟨WV,hr⟩|⟨WV,hr⟩
          ·simp only;rw[if_pos ⟨hnl,.inl (aht WV)⟩,Tree.aE hr]
          ·exact(Tree.aZ hr).elim
        ·exact(Tree.aZ hr).elim
       ·exact(Tree.aZ hr).elim
      ·exact(Tree.aZ hr).elim
    ·cases h
   ·cases h
  ·cases h
 ·cases h
def PK (P:Program) (nx:Option Nat) (o:Oper) (T:List AV) (H:aa):Option (Tree (AV×aa×List Nat)):=
 match nx with
 |some _=>none
 |none=>match o.op with
  | .lookup t p q ok=>match bk T p,vt (bk T q)with
   | .cU l,some k=>match H[l]?,vx P t k with
    |some (.map [e]),some (kt,d,z)=>some (.br (decide (gb P kt d k [e]=some (some 0))) (.leaf (if ok then .bq [e.2,.sc (.bool true)]else e.2,H,[]))
     (.br (decide (gb P kt d k [e]=some none)) (.leaf (if ok then .bq [dB z,.sc (.bool false)]else dB z,H,[])) .bad))
    |_,_=>none
   |_,_=>none
  |_=>none
theorem PL {P:Program}{nx:Option Nat}{o:Oper}{T:List AV}{H:aa}{t:Tree (AV×aa×List Nat)}{r:AV×aa×List Nat}(h:PK P nx o T H=some t) (hr:t.eR=some r):kX P o T H r.1 r.2.1 r.2.2/\cQ H r.2.1 r.2.2:=by
 unfold PK at h;split at h
 ·cases h
 ·split at h
  ·rename_i t p q ok ho;split at h
   ·rename_i l k hp hk;split at h
    ·rename_i e kt d z hl hT;obtain⟨et,hT⟩:=kR hT;cases h;rcases Tree.df hr with ⟨hd,hr⟩|⟨_,hr⟩
     ·rw[Tree.aE hr];exact⟨(mA ho hT hp hl hk (aht hd) (x:=e.2) rfl).a,.refl _ _⟩
     ·rcases Tree.df hr with ⟨hd,hr⟩|⟨_,hr⟩
      ·rw[Tree.aE hr];exact⟨(mA ho hT hp hl hk (aht hd) (x:=dB z) rfl).a,.refl _ _⟩
      ·exact(Tree.aZ hr).elim
    ·cases h
   ·cases h
  ·cases h
def C1:AV->Option ByteArray
 | .sc (.string s)=>some s
 |_=>none
theorem wD {x:AV}{s:ByteArray}(h:C1 x=some s):x= .sc (.string s):=by
 unfold C1 at h;split at h
 ·cases h;rfl
 ·cases h
def Jm (P:Program) (o:Oper) (T:List AV) (H:aa):Option (AV×Nat):=
 match o.op with
 | .lookup t p q false=>match bk T p,C1 (bk T q)with
  | .cU l,some s=>match H[l]?,vx P t (.string s)with
   |some (.rows es none),some (_,.string,.slice none 0 0)=>some (.fY l (fH es s) (jJ es (fH es s)),l)
   |_,_=>none
  |_,_=>none
 |_=>none
theorem MX {P:Program}{o:Oper}{T:List AV}{H H2:aa}{x:AV}{l:Nat}(h:Jm P o T H=some (x,l)) (hH:H2[l]? =H[l]?):oH P o T H2 x:=by
 unfold Jm at h;split at h
 ·rename_i t p q ho;split at h
  ·rename_i l' s hp hq;split at h
   ·rename_i es kt hl hT;cases h;obtain⟨et,hT⟩:=kR hT;exact Fh ho hT rfl hp (hH.trans hl) (wD hq)
   ·cases h
  ·cases h
 ·cases h
def Jn (P:Program) (o:Oper) (T:List AV) (H:aa):Option (Tree (AV×aa×List Nat)):=
 match o.op with
 | .call c=>match c.callee with
  | .builtin .append=>match c.args.toList,IW P c with
   |[p,q],some (1,bytes)=>match bk T p,jj 1 (bk T q)with
    | .fY l i n,some (1,el2)=>match H[l]?,el2 0 with
     |some (.rows es none),[.sc (.string s)]=>some (.br (decide (n=jJ es i/\(n+1)*bytes<=2 ^ 46/\n+1<2 ^ 62)) (.leaf (.fY l i (n+1),H.set l (.rows es (some (i,oV es i++[s]))),[l])) .bad)
     |_,_=>none
    |_,_=>none
   |_,_=>none
  |_=>none
 | .mapUpdate t p q v=>match bk T p,C1 (bk T q),bk T v with
  | .cU l,some s,.fY l' i n=>match H[l]?,vx P t (.string s)with
   |some (.rows es (some (j,ss))),some (_,.string,_)=>some (.br (decide (l'=l/\i=j/\i=fH es s/\n=ss.length)) (.leaf (.any,H.set l (.rows (vB es i s ss) none),[l])) .bad)
   |_,_=>none
  |_,_,_=>none
 |_=>none
theorem MY {P:Program}{o:Oper}{T:List AV}{H:aa}{t:Tree (AV×aa×List Nat)}{r:AV×aa×List Nat}(h:Jn P o T H=some t) (hr:t.eR=some r):kX P o T H r.1 r.2.1 r.2.2/\cQ H r.2.1 r.2.2:=by
 have PM:∀(l:Nat) (ob:bu),cQ H (H.set l ob) [l]:=λl ob=>⟨by simp,λk hk hm=>ag7 (λe=>hm (by simp[e]))⟩
 unfold Jn at h;split at h
 ·rename_i c ho;split at h
  ·rename_i jH;split at h
   ·rename_i p q bytes dn hT;split at h
    ·rename_i l i n el2 hp hq;split at h
     ·rename_i es s hl KQ;cases h;rcases Tree.df hr with ⟨hd,hr⟩|⟨_,hr⟩
      ·rw[Tree.aE hr];obtain⟨d1,d2,d3⟩:=aht hd;exact⟨Fl (xH jH dn hT) ho hp hq KQ hl d1 d2 d3,PM _ _⟩
      ·exact(Tree.aZ hr).elim
     ·cases h
    ·cases h
   ·cases h
  ·cases h
 ·rename_i t p q v ho;split at h
  ·rename_i l s l' i n hp hq hv;split at h
   ·rename_i es j ss kt z hl hT;obtain⟨et,hT⟩:=kR hT;cases h;rcases Tree.df hr with ⟨hd,hr⟩|⟨_,hr⟩
    ·rw[Tree.aE hr];obtain⟨rfl,rfl,d3,d4⟩:=aht hd;exact⟨yM ho hT hp hl (wD hq) hv d3 d4,PM _ _⟩
    ·exact(Tree.aZ hr).elim
   ·cases h
  ·cases h
 ·cases h
def Jo (P:Program) (o:Oper) (T:List AV) (H:aa):Option (Tree AV×Nat):=
 match o.op with
 | .lookup t p q false=>match bk T p,bk T q with
  | .cU l,.sc (.string s)=>match H[l]?,vx P t (.string s)with
   |some (.ez has val),some (_,.string,z)=>some (.br (has s) (.leaf (val s)) (.leaf (dB z)),l)
   |_,_=>none
  |_,_=>none
 |_=>none
theorem MZ {P:Program}{o:Oper}{T:List AV}{H H2:aa}{t:Tree AV}{x:AV}{l:Nat}(h:Jo P o T H=some (t,l)) (hx:t.eR=some x) (hH:H2[l]? =H[l]?):oH P o T H2 x:=by
 unfold Jo at h;split at h
 ·rename_i ty p q ho;split at h
  ·rename_i l' s hp hq;split at h
   ·rename_i has val kt z hl hT;cases h;obtain⟨et,hT⟩:=kR hT;refine Fp ho hT hp (hH.trans hl) hq ?_;rcases Tree.df hx with ⟨e,hx⟩|⟨e,hx⟩
    ·rw[Tree.aE hx,if_pos e]
    ·rw[Tree.aE hx,if_neg (by simp[e])]
   ·cases h
  ·cases h
 ·cases h
def Jp (P:Program) (o:Oper) (T:List AV) (H:aa):Option (Tree (AV×aa×List Nat)):=
 match o.op with
 | .mapUpdate t p q v=>match bk T p,bk T q,bk T v with
  | .cU l,.sc (.string s),.ptr k 0=>match H[l]?,vx P t (.string s),H[k]? with
   |some (.ez has val),some (_,.string,_),some (.cells cs)=>if cs.all O7=true then some (.br (has s) .bad (.leaf (.any,(H.set k .dead).set l (.ez (Fq has s) (CW val s (.dO cs))),[k,l])))else none
   |_,_,_=>none
  |_,_,_=>none
 | .range t p=>match aB P (underlying t),bk T p with
  |some (.map _ _),.cU l=>match H[l]? with
   |some (.rows _ none)=>some (.leaf (.ptr H.length 0,H++[.iter l],[]))
   |_=>none
  |_,_=>none
 |_=>none
theorem M1 {P:Program}{o:Oper}{T:List AV}{H:aa}{t:Tree (AV×aa×List Nat)}{r:AV×aa×List Nat}(h:Jp P o T H=some t) (hr:t.eR=some r):kX P o T H r.1 r.2.1 r.2.2/\cQ H r.2.1 r.2.2:=by
 unfold Jp at h;split at h
 ·rename_i ty p q v ho;split at h
  ·rename_i l s k hp hq hv;split at h
   ·rename_i has val kt z cs hl hT hk;split at h
    ·rename_i Is;obtain⟨et,hT⟩:=kR hT;cases h;rcases Tree.df hr with ⟨_,hr⟩|⟨e,hr⟩
     ·exact(Tree.aZ hr).elim
     ·rw[Tree.aE hr];refine⟨PD ho hT hp hl hq hv hk (λx hx=>IU (ahq.1 Is x hx)) e,⟨by simp,λj hj hm=> ?_⟩⟩;simp only[ahl,ahr,ahO,not_or]at hm;rw[ag7 (λe=>hm.2 e.symm),ag7 (λe=>hm.1 e.symm)]
    ·cases h
   ·cases h
  ·cases h
 ·rename_i ty p ho;split at h
  ·rename_i kt et l hu hp;split at h
   ·rename_i es hl;cases h;rw[Tree.aE hr];exact⟨Ji ho hu hp hl,.push _ _⟩
   ·cases h
  ·cases h
 ·cases h
def Jq (P:Program) (o:Oper) (T:List AV) (H:aa):Option (Tree (AV×aa×List Nat)):=
 match o.op with
 | .slice ty p (some (.const c)) none none=>match aB P (underlying ty),bk T p,dW T (some (.const c))with
  |some (.slice e),.aY nl 1 n el own,some (some 1)=>if aB P (Go.sizeOf e)=some 1 then
    match own with
    | .tok t=>match H[t]? with
     |some (.tail n' 1)=>some (.br (decide (n'=n/\1<=n)) (.leaf (.aY false 1 (n-1) (λi=>el (i+1)) (.off t (n+1)),H.set t (.cu (n+1)),[t])) .bad)
     |_=>none
    | .off t k=>some (.br (decide (1<=n)) (.leaf (.aY false 1 (n-1) (λi=>el (i+1)) (.off t k),H,[])) .bad)
    |_=>none
   else none
  |_,_,_=>none
 | .call c=>match c.callee with
  | .builtin .append=>match c.args.toList,IW P c with
   |[p,q],some (1,bytes)=>match bk T p,jj 1 (bk T q)with
    | .aY nl 1 n el (.off t k),some (m,el2)=>match H[t]? with
     |some (.cu k')=>some (.br (decide (k'=k/\0<m/\(n+m)*bytes<=2 ^ 46/\n+m<2 ^ 62)) (.leaf (.aY false 1 (n+m) (bI n el el2) (.off t (k+1)),H.set t (.cu (k+1)),[t])) .bad)
     |_=>none
    |_,_=>none
   |_,_=>none
  |_=>none
 |_=>none
theorem M3 {P:Program}{o:Oper}{T:List AV}{H:aa}{t:Tree (AV×aa×List Nat)}{r:AV×aa×List Nat}(h:Jq P o T H=some t) (hr:t.eR=some r):kX P o T H r.1 r.2.1 r.2.2/\cQ H r.2.1 r.2.2:=by
 have PM:∀(l:Nat) (ob:bu),cQ H (H.set l ob) [l]:=λl ob=>⟨by simp,λk hk hm=>ag7 (λe=>hm (by simp[e]))⟩
 unfold Jq at h;split at h
 ·rename_i ty p c ho;split at h
  ·rename_i e nl n el own hu hp hl;split at h
   ·rename_i hs;split at h
    ·rename_i t;split at h
     ·rename_i n' hH;cases h;rcases Tree.df hr with ⟨hd,hr⟩|⟨_,hr⟩
      ·rw[Tree.aE hr];obtain⟨rfl,d2⟩:=aht hd;exact⟨Jj ho hu hs hp hl hH d2,PM _ _⟩
      ·exact(Tree.aZ hr).elim
     ·cases h
    ·cases h;rcases Tree.df hr with ⟨hd,hr⟩|⟨_,hr⟩
     ·rw[Tree.aE hr];exact⟨(Jk ho hu hs hp hl (aht hd)).a,.refl _ _⟩
     ·exact(Tree.aZ hr).elim
    ·cases h
   ·cases h
  ·cases h
 ·rename_i c ho;split at h
  ·rename_i jH;split at h
   ·rename_i p q bytes dn hT;split at h
    ·rename_i nl n el t k m el2 hp hq;split at h
     ·rename_i k' hH;cases h;rcases Tree.df hr with ⟨hd,hr⟩|⟨_,hr⟩
      ·rw[Tree.aE hr];obtain⟨rfl,d1,d2,d3⟩:=aht hd;exact⟨Ft (xH jH dn hT) ho hp hq hH d1 d2 d3,PM _ _⟩
      ·exact(Tree.aZ hr).elim
     ·cases h
    ·cases h
   ·cases h
  ·cases h
 ·cases h
abbrev cZ:=FuncId->List AV->aa->Tree (AV×aa×List Nat)
abbrev lM:=Nat->FuncId->List AV->aa->Option (Tree (AV×aa×List Nat))
def AN (r:AV×aa×List Nat):Tree pR:= .leaf (r.1,r.2.1,false,I0,r.2.2)
def stepT (P:Program) (call:cZ) (si:lM) (nx:Option Nat) (o:Oper) (T:List AV) (H:aa):Tree pR:=
 match Jo P o T H with
 |some q=>q.1.bind λx=> .leaf (x,H,true,{ I0 with tb:=[q.2]},[])
 |none=>match Jp P o T H with
 |some t=>t.bind AN
 |none=>match Jq P o T H with
 |some t=>t.bind AN
 |none=>match Jm P o T H with
 |some q=> .leaf (q.1,H,true,{ I0 with tb:=[q.2]},[])
 |none=>match Jn P o T H with
 |some t=>t.bind AN
 |none=>match PK P nx o T H with
 |some t=>t.bind AN
 |none=>match CP P o T H nx with
 |some q=> .leaf (q.1,H,true,q.2,[])
 |none=>match PG P o T H with
  |some t=>t
  |none=>match PI P o T H with
   |some t=>t.bind AN
   |none=>match KP P o T H with
    |some r=> .leaf r
    |none=>match wy P o T H with
     |some r=> .leaf (r.1,r.2.1,false,rdS (CO o T),r.2.2)
     |none=>match lW o T with
      |some (g,args)=>match si (o.dst.getD 0) g args H with
       |some t=>t.bind AN
       |none=>(call g args H).bind AN
      |none=> .bad
def Jr (P:Program) (nx:Option Nat) (o:Oper) (T:List AV) (H:aa) (r:pR):Prop:=
 (∃x rd,r=(x,H,true,rd,[])/\(∀H2:aa,(∀l∈rd.tb,H2[l]? =H[l]?∨∃t k ob,rd.soft=some (l,t,k)/\(H[l]?).bind (kc P t k)=some ob/\H2[l]? =some ob)->MJ P o T H2 x rd.al)/\(nx.isSome=false->rd.al=none))∨
 (∃x H1 Wr sf,r=(x,H1,false,rdS sf,Wr)/\kX P o T H x H1 Wr/\cQ H H1 Wr/\∀l t k,sf=some (l,t,k)->∃ob,(H[l]?).bind (kc P t k)=some ob/\H1[l]? =some ob)
def oX (P:Program) (si:lM):Prop:=∀(d:Nat) (g:FuncId) (args:List AV) (H:aa) (t:Tree (AV×aa×List Nat)) (r:AV×aa×List Nat),si d g args H=some t->t.eR=some r->bZ P g args r.1 H r.2.1 r.2.2
def cx (P:Program) (call:cZ):Prop:=∀(g:FuncId) (args:List AV) (H:aa) (r:AV×aa×List Nat),(call g args H).eR=some r->bZ P g args r.1 H r.2.1 r.2.2
theorem oY {P:Program}{o:Oper}{T:List AV}{H:aa}{q:AV×aa×List Nat}{r:pR}(h:kX P o T H q.1 q.2.1 q.2.2/\cQ H q.2.1 q.2.2){nx:Option Nat}(hr:(AN q).eR=some r):Jr P nx o T H r:=by
 rw[Tree.aE hr];exact .inr ⟨_,_,_,none,rfl,h.1,h.2,λl t k e=>by cases e⟩
theorem ky {t:Tree (AV×aa×List Nat)}{r:pR}(hr:(t.bind AN).eR=some r):∃q,t.eR=some q/\(AN q).eR=some r:=by
 rw[Tree.uq]at hr
 cases hq:t.eR with
 |none=>rw[hq]at hr;cases hr
 |some q=>rw[hq]at hr;exact⟨q,rfl,hr⟩
theorem Fv {P:Program}{call:cZ}{si:lM}(hc:cx P call) (hs:oX P si){nx:Option Nat}{o:Oper}{T:List AV}{H:aa}{r:pR}(h:(stepT P call si nx o T H).eR=some r):Jr P nx o T H r:=by
 unfold stepT at h;split at h
 ·rename_i q hq;rw[Tree.uq]at h
  cases hx:q.1.eR with
  |none=>rw[hx]at h;cases h
  |some x=>
   rw[hx]at h;rw[Tree.aE h];exact .inl ⟨_,_,rfl,λH2 hH=>((MZ (t:=q.1) (l:=q.2) hq hx ((hH q.2 (by simp)).elim id (λ⟨_,_,_,e,_⟩=>by simp[I0]at e))).a.f),λ_=>rfl⟩
 split at h
 ·rename_i t ht;obtain⟨q,hq,hr⟩:=ky h;exact oY (M1 ht hq) hr
 split at h
 ·rename_i t ht;obtain⟨q,hq,hr⟩:=ky h;exact oY (M3 ht hq) hr
 split at h
 ·rename_i q hq;rw[Tree.aE h];exact .inl ⟨_,_,rfl,λH2 hH=>((MX (x:=q.1) (l:=q.2) hq ((hH q.2 (by simp)).elim id (λ⟨_,_,_,e,_⟩=>by simp[I0]at e))).a.f),λ_=>rfl⟩
 split at h
 ·rename_i t ht;obtain⟨q,hq,hr⟩:=ky h;exact oY (MY ht hq) hr
 split at h
 ·rename_i t ht;obtain⟨q,hq,hr⟩:=ky h;exact oY (PL ht hq) hr
 split at h
 ·rename_i q hq;rw[Tree.aE h];obtain⟨hf,hn⟩:=Bk (x:=q.1) (rd:=q.2) hq;exact .inl ⟨_,_,rfl,hf,λe=>by rw[hn]at e;cases e⟩
 ·split at h
  ·rename_i t ht;obtain⟨x,hx,rfl,hl⟩:=PH ht h;exact .inl ⟨x,I0,rfl,hl▸na hx,λ_=>rfl⟩
  ·split at h
   ·rename_i t ht;obtain⟨q,hq,hr⟩:=ky h;exact oY (PJ ht hq) hr
   ·split at h
    ·rename_i q hq;rw[Tree.aE h];unfold KP at hq;split at hq
     ·rename_i y hy;cases hq;exact .inl ⟨y,_,rfl,na hy,λ_=>rfl⟩
     ·split at hq
      ·rename_i y H3 Wr hx;cases hq;exact .inr ⟨_,_,_,none,rfl,mY hx,mZ hx,λl t k e=>by cases e⟩
      ·cases hq
    ·split at h
     ·rename_i q hq;rw[Tree.aE h];exact .inr ⟨_,_,_,_,rfl,(jS hq).1,(jS hq).2,yF hq⟩
     ·split at h
      ·rename_i g args hg;split at h
       ·rename_i t ht;obtain⟨q,hq,hr⟩:=ky h;have jk:=hs _ _ _ _ _ _ ht hq;exact oY ⟨th hg jk,jk.2.2⟩ hr
       ·obtain⟨q,hq,hr⟩:=ky h;have jk:=hc _ _ _ _ hq;exact oY ⟨th hg jk,jk.2.2⟩ hr
      ·exact(Tree.aZ h).elim
def ur (T:List AV) (t:Nat) (v:Bool):List AV:=T.set t (.sc (.bool v))
theorem C2 {T:List AV}{t:Nat}{b:Bool}(h:T[t]? =some (.sc (.bool b))):ur T t b=T:=by
 unfold ur;refine ah2 (λi=> ?_);by_cases hi:t=i
 ·subst hi;rw[ahd (ag5.1 h).1,h]
 ·rw[ag7 hi]
def Ut (ops:Array Oper) (T:List AV) (o:Oper):Option (Bool×Nat):=
 match o.guard with
 |none=>none
 |some (j,_)=>match (ops[j]?).bind (·.dst)with
  |none=>none
  |some d=>match T[d]? with
   |some (.sc (.bool b))=>some (b,d)
   |_=>none
theorem yO {ops:Array Oper}{T:List AV}{o:Oper}{b:Bool}{d:Nat}(h:Ut ops T o=some (b,d)):T[d]? =some (.sc (.bool b)):=by
 unfold Ut at h;split at h
 ·cases h
 ·split at h
  ·cases h
  ·split at h
   ·rename_i hd;cases h;exact hd
   ·cases h
def M4 {α:Type}(q:Option (Bool×Nat)) (T:List AV) (k:List AV->Tree α):Tree α:=
 match q with
 |some (b,d)=> .br b (k (ur T d true)) (k (ur T d false))
 |none=>k T
theorem nX {α:Type}{q:Option (Bool×Nat)}{T:List AV}{k:List AV->Tree α}{r:α}(hq:∀b d,q=some (b,d)->T[d]? =some (.sc (.bool b))) (h:(M4 q T k).eR=some r):(k T).eR=some r:=by
 unfold M4 at h;split at h
 ·rename_i b d;have:=C2 (hq b d rfl);rcases Tree.df h with ⟨rfl,h⟩|⟨rfl,h⟩
  ·rwa [this]at h
  ·rwa [this]at h
 ·exact h
def Js (T:List AV) (c:Operand):Option (Bool×Nat):=
 match c with
 | .tmp t=>match T[t]? with
  |some (.sc (.bool b))=>some (b,t)
  |_=>none
 |_=>none
theorem qJ {T:List AV}{c:Operand}{b:Bool}{d:Nat}(h:Js T c=some (b,d)):T[d]? =some (.sc (.bool b)):=by
 unfold Js at h;split at h
 ·split at h
  ·rename_i hd;cases h;exact hd
  ·cases h
 ·cases h
def ql (P:Program) (call:cZ) (si:lM) (ops:Array Oper):List Oper->Option Nat->List AV->aa->Tree (List AV×aa×Log)
 |[],_,T,H=> .leaf (T,H,[])
 |o::r,nx,T,H=>M4 (Ut ops T o) T λT=>(C0 ops T o).bind fun
  |false=>(ql P call si ops r (Bl o nx) (gK T o.dst mV) H).bind λq=> .leaf (q.1,q.2.1,e0::q.2.2)
  |true=>(stepT P call si nx o T H).bind λe=>(ql P call si ops r (Bl o nx) (gK T o.dst e.1) e.2.1).bind λq=> .leaf (q.1,q.2.1,e.2.2::q.2.2)
theorem aW {α β:Type}{t:Tree α}{k:α->Tree β}{r:β}(h:(t.bind k).eR=some r):∃a,t.eR=some a/\(k a).eR=some r:=by
 rw[Tree.uq]at h
 cases ha:t.eR with
 |none=>rw[ha]at h;cases h
 |some a=>rw[ha]at h;exact⟨a,rfl,h⟩
theorem fo {P:Program}{call:cZ}{si:lM}(hc:cx P call) (KZ:oX P si){ops:Array Oper}:∀(r:List Oper) (k:Nat) (nx:Option Nat) (T:List AV) (H:aa) (T':List AV) (H':aa) (L:Log),(∀(j:Nat) (o:Oper),r[j]? =some o->ops[k+j]? =some o)->(ql P call si ops r nx T H).eR=some (T',H',L)->
  jQ P ops nx.isSome (kc P) ((List.range r.length).map (k+·)) T H T' H' L/\cQ H H' (r6 L)
 |[],k,nx,T,H,T',H',L,_,h=>by
  have:=Tree.aE h;simp only[ahe]at this;obtain⟨rfl,rfl,rfl⟩:=this;exact⟨.nil _ _,.refl _ _⟩
 |o::r,k,nx,T,H,T',H',L,ho,h=>by
  have CQ:ops[k]? =some o:=ho 0 o rfl;have WR:∀(j:Nat) (q:Oper),r[j]? =some q->ops[k+1+j]? =some q:=λj q hq=>by
   have:=ho (j+1) q (by simpa using hq);rw[show k+1+j=k+(j+1) by omega];exact this
  have hr:(List.range (o::r).length).map (k+·)=k::(List.range r.length).map (k+1+·):=by
   rw[ahv,aib];simp only[ahJ,ain,aik];congr 1;refine ahV (λa _=> ?_);simp only[Function.comp];omega
  rw[hr];unfold ql at h;have h:=nX (λb d=>yO) h;obtain⟨w,hw,h⟩:=aW h;rw[Fu]at hw
  cases w with
  |false=>
   obtain⟨⟨T2,H2,L2⟩,hq,h⟩:=aW h;have:=Tree.aE h;simp only[ahe]at this;obtain⟨rfl,rfl,rfl⟩:=this;obtain⟨h1,h2⟩:=fo hc KZ r (k+1) _ _ _ _ _ _ WR hq;rw[oR]at h1;exact⟨.skip CQ hw h1,by simpa [r6,e0]using h2⟩
  |true=>
   obtain⟨e,he,h⟩:=aW h;obtain⟨⟨T2,H2,L2⟩,hq,h⟩:=aW h;have:=Tree.aE h;simp only[ahe]at this;obtain⟨rfl,rfl,rfl⟩:=this;obtain⟨h1,h2⟩:=fo hc KZ r (k+1) _ _ _ _ _ _ WR hq;rw[oR]at h1;rcases Fv hc KZ he with ⟨x,rd,rfl,hf,hn⟩|⟨x,H1,Wr,sf,rfl,s7,hk,Zl⟩
   ·exact⟨.float CQ hw hf hn h1,by simpa [r6]using h2⟩
   ·exact⟨.act CQ hw s7 hk Zl h1,hk.trans h2⟩
structure bX where
 loop:Code->List AV->aa->Option (Tree gm)
 site:lM
 Ex:Nat->Array Oper->List AV->aa->Option (Tree gm)
def kz:Code->Option Nat
 | .region id _ _=>some id
 | .seq a b=>match kz a with
  |some i=>some i
  |none=>kz b
 | .block _ c=>kz c
 | .cond _ a b=>match kz a with
  |some i=>some i
  |none=>kz b
 | .loop c=>kz c
 |_=>none
def Bq (f:List AV->aa->Tree gm):Nat->List AV->aa->Tree gm
 |0,_,_=> .bad
 |k+1,T,H=>(f T H).bind λr=>match r.1 with
  | .normal=>(Bq f k r.2.1 r.2.2.1).bind λq=> .leaf (q.1,q.2.1,q.2.2.1,r.2.2.2++q.2.2.2)
  |_=> .leaf r
def iP (P:Program) (call:cZ) (lo:bX) (nL:Code->List AV->aa->Tree gm) (n:Nat):Code->List AV->aa->Tree gm
 | .skip,T,H=> .leaf (.normal,T,H,[])
 | .label _,T,H=> .leaf (.normal,T,H,[])
 | .exit i,T,H=> .leaf (.exit i,T,H,[])
 | .goto i,T,H=> .leaf (.goto i,T,H,[])
 | .ret,T,H=> .leaf (.ret,T,H,[])
 | .seq a b,T,H=>(iP P call lo nL n a T H).bind λr=>match r.1 with
  | .normal=>(iP P call lo nL n b r.2.1 r.2.2.1).bind λq=> .leaf (q.1,q.2.1,q.2.2.1,r.2.2.2++q.2.2.2)
  |_=> .leaf r
 | .block i c,T,H=>(iP P call lo nL n c T H).bind λr=>match r.1 with
  | .exit j=>if j=i then .leaf (.normal,r.2)else .leaf r
  |_=> .leaf r
 | .cond c a b,T,H=>M4 (Js T c) T λT=>match bk T c with
  | .sc (.bool t)=> .br t (iP P call lo nL n a T H) (iP P call lo nL n b T H)
  |_=> .bad
 | .region id ops false,T,H=>match lo.Ex id ops T H with
  |some t=>t
  |none=>(ql P call lo.site ops ops.toList none T H).bind λq=> .leaf (.normal,q.1,q.2.1,r6 q.2.2)
 | .region id ops true,T,H=>(ql P call lo.site ops ops.toList (some H.length) T (H++cN P ops.toList)).bind λq=>if oN ops H.length (H++cN P ops.toList).length q.2.2=true then .leaf (.normal,q.1,q.2.1,r6 q.2.2)else .bad
 | .loop c,T,H=>match lo.loop c T H with
  |some t=>t
  |none=>Bq (iP P call lo nL n c) n T H
 | .rangeFunc _ _ _ _,_,_=> .bad
 | .scope c,T,H=>nL c T H
 | .refuse _,_,_=> .bad
def Fw (f:Code->List AV->aa->Tree gm) (c:Code):Nat->Code->List AV->aa->Tree gm
 |0,_,_,_=> .bad
 |k+1,d,T,H=>(f d T H).bind λr=>match r.1 with
  | .goto l=>match findLabel c l with
   |some rest=>(Fw f c k rest r.2.1 r.2.2.1).bind λq=> .leaf (q.1,q.2.1,q.2.2.1,r.2.2.2++q.2.2.2)
   |none=> .bad
  |_=> .leaf r
def iH (P:Program) (call:cZ) (lo:bX):Nat->Code->List AV->aa->Tree gm
 |0=>iP P call lo (λ_ _ _=> .bad) 0
 |n+1=>iP P call lo (λc T H=>Fw (iH P call lo n) c n c T H) (n+1)
structure bA (P:Program) (lo:bX):Prop where
 loop:∀c T H t x T' H' Wr,lo.loop c T H=some t->t.eR=some (x,T',H',Wr)->an P (.loop c) T H x T' H' Wr
 site:oX P lo.site
 Ex:∀id ops T H t x T' H' Wr,lo.Ex id ops T H=some t->t.eR=some (x,T',H',Wr)->an P (.region id ops false) T H x T' H' Wr
def aN:bX:=⟨λ_ _ _=>none,λ_ _ _ _=>none,λ_ _ _ _=>none⟩
theorem rN {P:Program}:oX P (λ_ _ _ _=>none):=λ_ _ _ _ _ _ h=>by cases h
theorem ab {P:Program}:bA P aN:=⟨λ_ _ _ _ _ _ _ _ h=>(by cases h),rN,λ_ _ _ _ _ _ _ _ _ h=>(by cases h)⟩
theorem Fx {P:Program}{c:Code}{f:List AV->aa->Tree gm}(hf:∀T H x T' H' Wr,(f T H).eR=some (x,T',H',Wr)->an P c T H x T' H' Wr) (k:Nat) (T:List AV) (H:aa) (x:bj) (T':List AV) (H':aa) (Wr:List Nat) (h:(Bq f k T H).eR=some (x,T',H',Wr)):an P (.loop c) T H x T' H' Wr:=by
 let g:List AV->aa->Ev gm:=λT H=>match (f T H).eR with
  |some r=> .ok r
  |none=> .bad []
 have hg:∀T H x T' H' Wr,g T H= .ok (x,T',H',Wr)->an P c T H x T' H' Wr:=by
  intro T H x T' H' Wr h;simp only[g]at h;split at h
  ·rename_i r hr;cases h;exact hf _ _ _ _ _ _ hr
  ·cases h
 refine Fa hg k T H x T' H' Wr ?_;have key:∀(k:Nat) (T:List AV) (H:aa) (r:gm),(Bq f k T H).eR=some r->yG g k T H= .ok r:=by
  intro k
  induction k with
  |zero=>intro T H r h;exact(Tree.aZ h).elim
  |succ k ih=>
   intro T H r h;unfold Bq at h;obtain⟨⟨y,T1,H1,W1⟩,h1,h⟩:=aW h;have Ui:g T H= .ok (y,T1,H1,W1):=by simp only[g,h1]
   unfold yG;rw[Ui]
   cases y with
   |normal=>
    obtain⟨⟨z,T2,H2,W2⟩,h2,h⟩:=aW h;rw[Tree.aE h];simp only[ih _ _ _ h2]
   |_=>rw[Tree.aE h]
 exact key k T H _ h
theorem k8 {P:Program}{call:cZ}{lo:bX}(hm:P.follows .mixedOrders=true) (hc:cx P call) (hl:bA P lo){nL:Code->List AV->aa->Tree gm}(hs:∀c T H x T' H' Wr,(nL c T H).eR=some (x,T',H',Wr)->an P (.scope c) T H x T' H' Wr) (n:Nat):∀(c:Code) (T:List AV) (H:aa) (x:bj) (T':List AV) (H':aa) (Wr:List Nat),(iP P call lo nL n c T H).eR=some (x,T',H',Wr)->an P c T H x T' H' Wr
 | .skip,T,H,x,T',H',Wr,h=>by cases Tree.aE h;exact⟨λ_ _ _ _=>yi ⟨rfl,rfl,rfl⟩,.refl _ _⟩
 | .label _,T,H,x,T',H',Wr,h=>by cases Tree.aE h;exact⟨λ_ _ _ _=>vh ⟨rfl,rfl,rfl⟩,.refl _ _⟩
 | .exit _,T,H,x,T',H',Wr,h=>by cases Tree.aE h;exact⟨λ_ _ _ _=>yj ⟨rfl,rfl,rfl⟩,.refl _ _⟩
 | .goto _,T,H,x,T',H',Wr,h=>by cases Tree.aE h;exact⟨λ_ _ _ _=>yk ⟨rfl,rfl,rfl⟩,.refl _ _⟩
 | .ret,T,H,x,T',H',Wr,h=>by cases Tree.aE h;exact⟨λ_ _ _ _=>Cy ⟨rfl,rfl,rfl⟩,.refl _ _⟩
 | .seq a b,T,H,x,T',H',Wr,h=>by
  unfold iP at h;obtain⟨⟨y,T1,H1,W1⟩,h1,h⟩:=aW h;have fq:=k8 hm hc hl hs n a _ _ _ _ _ _ h1;have other:y≠.normal->(x,T',H',Wr)=(y,T1,H1,W1)->an P (.seq a b) T H x T' H' Wr:=by
   intro gX e;cases e;refine⟨λn0 W hn hw=>rC (fq.then hn hw ?_),fq.2⟩
   cases x with
   |normal=>exact absurd rfl gX
   |exit i=>exact⟨rfl,rfl,rfl⟩
   |goto i=>exact⟨rfl,rfl,rfl⟩
   |ret=>exact⟨rfl,rfl,rfl⟩
   |panic y=>exact⟨rfl,rfl,rfl⟩
  cases y with
  |normal=>
   obtain⟨⟨z,T2,H2,W2⟩,h2,h⟩:=aW h;cases Tree.aE h;have oS:=k8 hm hc hl hs n b _ _ _ _ _ _ h2;exact⟨λn0 W hn hw=>rC (fq.then hn (λl hl=>hw l (ahk _ hl)) (oS.1 n0 W (ahx hn fq.2.1) (λl hl=>hw l (ahj _ hl)))),fq.2.trans oS.2⟩
  |exit i=>exact other (by simp) (Tree.aE h)
  |goto i=>exact other (by simp) (Tree.aE h)
  |ret=>exact other (by simp) (Tree.aE h)
  |panic v=>exact other (by simp) (Tree.aE h)
 | .block i c,T,H,x,T',H',Wr,h=>by
  unfold iP at h;obtain⟨⟨y,T1,H1,W1⟩,h1,h⟩:=aW h;have fq:=k8 hm hc hl hs n c _ _ _ _ _ _ h1;have other:(∀j,y≠.exit j)->(x,T',H',Wr)=(y,T1,H1,W1)->an P (.block i c) T H x T' H' Wr:=by
   intro gX e;cases e;refine⟨λn0 W hn hw=>iY (fq.then hn hw ?_),fq.2⟩
   cases x with
   |normal=>exact⟨rfl,rfl,rfl⟩
   |exit i=>exact absurd rfl (gX _)
   |goto i=>exact⟨rfl,rfl,rfl⟩
   |ret=>exact⟨rfl,rfl,rfl⟩
   |panic y=>exact⟨rfl,rfl,rfl⟩
  cases y with
  |exit j=>
   simp only at h;split at h
   ·rename_i hj;cases Tree.aE h;exact⟨λn0 W hn hw=>iY (fq.then hn hw (by simp[bj.inBlock,hj])),fq.2⟩
   ·rename_i hj;cases Tree.aE h;exact⟨λn0 W hn hw=>iY (fq.then hn hw (by simp[bj.inBlock,hj])),fq.2⟩
  |normal=>exact other (by simp) (Tree.aE h)
  |goto i=>exact other (by simp) (Tree.aE h)
  |ret=>exact other (by simp) (Tree.aE h)
  |panic v=>exact other (by simp) (Tree.aE h)
 | .cond c a b,T,H,x,T',H',Wr,h=>by
  unfold iP at h;have h:=nX (λb d=>qJ) h;split at h
  ·rename_i t ht;rcases Tree.df h with ⟨rfl,h⟩|⟨rfl,h⟩
   ·have fq:=k8 hm hc hl hs n a _ _ _ _ _ _ h;exact⟨λn0 W hn hw=>nR ht (fq.1 n0 W hn hw),fq.2⟩
   ·have fq:=k8 hm hc hl hs n b _ _ _ _ _ _ h;exact⟨λn0 W hn hw=>nR ht (fq.1 n0 W hn hw),fq.2⟩
  ·exact(Tree.aZ h).elim
 | .region id ops false,T,H,x,T',H',Wr,h=>by
  unfold iP at h;split at h
  ·rename_i t ht;exact hl.Ex _ _ _ _ _ _ _ _ _ ht h
  obtain⟨⟨T1,H1,L⟩,h1,h⟩:=aW h;cases Tree.aE h;obtain⟨h2,h3⟩:=fo hc hl.site ops.toList 0 _ T _ _ _ _ (λj o hj=>by simpa using hj) h1;have e:(List.range ops.toList.length).map (0+·)=List.range ops.size:=by simp
  rw[e]at h2;exact⟨λn0 W hn hw=>vq h2 hw ⟨rfl,rfl,rfl⟩,h3⟩
 | .region id ops true,T,H,x,T',H',Wr,h=>by
  unfold iP at h;obtain⟨⟨T1,H1,L⟩,h1,h⟩:=aW h;split at h
  ·rename_i hd;cases Tree.aE h;obtain⟨h2,h3⟩:=fo hc hl.site ops.toList 0 _ T _ _ _ _ (λj o hj=>by simpa using hj) h1;have e:(List.range ops.toList.length).map (0+·)=List.range ops.size:=by simp
   rw[e]at h2;exact⟨λn0 W hn hw=>mz hm (me P _) h2 hw hd ⟨rfl,rfl,rfl⟩,h3.KS⟩
  ·exact(Tree.aZ h).elim
 | .loop c,T,H,x,T',H',Wr,h=>by
  unfold iP at h;split at h
  ·rename_i t ht;exact hl.loop _ _ _ _ _ _ _ _ ht h
  ·exact Fx (λT H x T' H' Wr h=>k8 hm hc hl hs n c T H x T' H' Wr h) n T H x T' H' Wr h
 | .rangeFunc _ _ _ _,T,H,x,T',H',Wr,h=>(Tree.aZ h).elim
 | .scope c,T,H,x,T',H',Wr,h=>hs _ _ _ _ _ _ _ h
 | .refuse _,T,H,x,T',H',Wr,h=>(Tree.aZ h).elim
theorem yP {P:Program}{f:Code->List AV->aa->Tree gm}(hf:∀d T H x T' H' Wr,(f d T H).eR=some (x,T',H',Wr)->an P d T H x T' H' Wr) (c:Code):∀(k:Nat) (d:Code) (T:List AV) (H:aa) (x:bj) (T':List AV) (H':aa) (Wr:List Nat),(Fw f c k d T H).eR=some (x,T',H',Wr)->Passes P c x T' H' k d T H Wr
 |0,d,T,H,x,T',H',Wr,h=>(Tree.aZ h).elim
 |k+1,d,T,H,x,T',H',Wr,h=>by
  unfold Fw at h;obtain⟨⟨y,T1,H1,W1⟩,h1,h⟩:=aW h;have other:(∀l,y≠.goto l)->(x,T',H',Wr)=(y,T1,H1,W1)->Passes P c x T' H' (k+1) d T H Wr:=by
   intro gX e;cases e;exact .out k (hf _ _ _ _ _ _ _ h1) gX
  cases y with
  |goto l=>
   simp only at h;split at h
   ·rename_i rest hr;obtain⟨⟨z,T2,H2,W2⟩,h2,h⟩:=aW h;cases Tree.aE h;exact .next (hf _ _ _ _ _ _ _ h1) hr (yP hf c k _ _ _ _ _ _ _ h2)
   ·exact(Tree.aZ h).elim
  |normal=>exact other (by simp) (Tree.aE h)
  |exit i=>exact other (by simp) (Tree.aE h)
  |ret=>exact other (by simp) (Tree.aE h)
  |panic v=>exact other (by simp) (Tree.aE h)
theorem kT {P:Program}{call:cZ}{lo:bX}(hm:P.follows .mixedOrders=true) (hc:cx P call) (hl:bA P lo):∀(n:Nat) (c:Code) (T:List AV) (H:aa) (x:bj) (T':List AV) (H':aa) (Wr:List Nat),(iH P call lo n c T H).eR=some (x,T',H',Wr)->an P c T H x T' H' Wr
 |0=>λc T H x T' H' Wr h=>k8 hm hc hl (λ_ _ _ _ _ _ _ h=>(Tree.aZ h).elim) 0 c T H x T' H' Wr h
 |n+1=>λc T H x T' H' Wr h=>k8 hm hc hl (λc T H x T' H' Wr h=>(yP (λd T H x T' H' Wr h=>kT hm hc hl n d T H x T' H' Wr h) c n c T H x T' H' Wr h).ok) (n+1) c T H x T' H' Wr h
end Go.Proofs.YtiipaliigpkfhaaGreat.Ab
namespace Go.Proofs.YtiipaliigpkfhaaGreat.Ab
open Go Go.RowKit
abbrev ts:=FuncId->List AV->aa->Option (Tree (AV×aa×List Nat))
def qK (P:Program) (qj:ts):Prop:=∀g args H t r,qj g args H=some t->t.eR=some r->bZ P g args r.1 H r.2.1 r.2.2
def eZ:ts:=λ_ _ _=>none
theorem bV (P:Program):qK P eZ:=λ_ _ _ _ _ h=>by cases h
def M5 (P:Program) (fn:Func) (H:aa) (r:gm):Tree (AV×aa×List Nat):=
 match r.1 with
 | .normal| .ret=>match ig P r.2.2.1 fn r.2.1 with
  |some x=> .leaf (x,r.2.2.1,below H.length r.2.2.2)
  |none=> .bad
 |_=> .bad
def kA (fn:Func) (args:List AV):List AV:=args++List.replicate (fn.ntmps-args.length) .any
def PN (P:Program) (call:cZ) (lo:bX) (n:Nat) (fn:Func) (args:List AV) (H:aa):Tree (AV×aa×List Nat):=
 match fn.body with
 |none=> .bad
 |some c=>(iH P call lo n c (kA fn args) H).bind (M5 P fn H)
def mQ (P:Program) (qj:ts) (lo:FuncId->bX):Nat->cZ
 |0,_,_,_=> .bad
 |n+1,g,args,H=>match qj g args H with
  |some t=>t
  |none=>match P.funcs[g]? with
   |none=> .bad
   |some fn=>if (fn.name=="runtime.NumGoroutine")=true then .bad else PN P (mQ P qj lo n) (lo g) n fn args H
abbrev kB (P:Program) (qj:ts):Nat->cZ:=mQ P qj (λ_=>aN)
theorem jV {P:Program}{g:FuncId}{fn:Func}{c:Code}{args:List AV}{y:bj}{T:List AV}{x:AV}{H H1:aa}{W:List Nat}(mX:P.funcs[g]? =some fn) (gj:(fn.name=="runtime.NumGoroutine")=false) (gO:fn.body=some c)
  (dC:an P c (kA fn args) H y T H1 W) (hy:y= .normal∨y= .ret) (lT:ig P H1 fn T=some x):bZ P g args x H H1 (below H.length W):=by
 refine⟨⟨fn,c,mX,gj,gO⟩,?_,dC.2.1,λl hl hn=>dC.2.2 l hl (λhm=>hn (dt hl hm))⟩;intro E w0 w vs hg hr;refine calls_of_wp mX gO ?_;have ht:eJ E (kA fn args) (vs++Array.replicate (fn.ntmps-vs.size) undef):=by
  have h0:=eg hr (k:=(⟨by simp[hr.1],λi x hx=>by
   have:=ahf hx;rw[ah6]at this;rw[this.2];exact .any _⟩:ji E (List.replicate (fn.ntmps-args.length) .any) (Array.replicate (fn.ntmps-vs.size) undef)))
  exact h0
 refine wp_mono (dC.1 H.length (·∈below H.length W) (ag3 _) (λl hl hn=>dt hn hl) E w0 w ⟨_,[]⟩ [] (ag3 _) hg ht rfl) ?_;rintro e a' w' ⟨E',ax,T',H2,⟨rfl,rfl,rfl⟩,r,ex,g',t,d⟩;obtain⟨v,hv,hrel⟩:=jT g' t lT;rcases hy with rfl|rfl
 ·cases r;exact⟨d,v,hv,E',.ret _ _ hrel,ex,g'⟩
 ·cases r;exact⟨d,v,hv,E',.ret _ _ hrel,ex,g'⟩
theorem PO {P:Program}(hm:P.follows .mixedOrders=true){call:cZ}(hc:cx P call){lo:bX}{n:Nat}{g:FuncId}{fn:Func}{args:List AV}{H:aa}{r:AV×aa×List Nat}(mX:P.funcs[g]? =some fn) (gj:(fn.name=="runtime.NumGoroutine")=false)
  (hl:bA P lo) (h:(PN P call lo n fn args H).eR=some r):bZ P g args r.1 H r.2.1 r.2.2:=by
 unfold PN at h;split at h
 ·exact(Tree.aZ h).elim
 ·rename_i c hb;obtain⟨⟨y,T,H1,W⟩,h1,h⟩:=aW h;have dC:=kT hm hc hl n c _ _ _ _ _ _ h1;unfold M5 at h;split at h
  ·rename_i hy;simp only at hy;split at h
   ·rename_i x hx;rw[Tree.aE h];exact jV mX gj hb dC (.inl hy) hx
   ·exact(Tree.aZ h).elim
  ·rename_i hy;simp only at hy;split at h
   ·rename_i x hx;rw[Tree.aE h];exact jV mX gj hb dC (.inr hy) hx
   ·exact(Tree.aZ h).elim
  ·exact(Tree.aZ h).elim
theorem oZ {P:Program}(hm:P.follows .mixedOrders=true){qj:ts}(tj:qK P qj){lo:FuncId->bX}(hl:∀g,bA P (lo g)):∀n,cx P (mQ P qj lo n)
 |0=>λg args H r h=>(Tree.aZ h).elim
 |n+1=>λg args H r h=>by
  unfold mQ at h;split at h
  ·rename_i q hq;exact tj _ _ _ _ _ hq h
  ·split at h
   ·exact(Tree.aZ h).elim
   ·rename_i fn mX;split at h
    ·exact(Tree.aZ h).elim
    ·rename_i gj;exact PO hm (oZ hm tj hl n) mX (by simpa using gj) (hl g) h
theorem dv {P:Program}(hm:P.follows .mixedOrders=true){qj:ts}(tj:qK P qj) (n:Nat):cx P (kB P qj n):=oZ hm tj (λ_=>ab) n
def ch (r:AV×aa×List Nat):AV:=r.1
theorem cv {α β:Type}{t:Tree α}{g:α->β}{F:Option β}{y:β}(h:t.via g=F) (hF:F=some y):∃a,t.eR=some a/\g a=y:=by
 rw[hF,Tree.X6]at h
 cases ha:t.eR with
 |none=>rw[ha]at h;cases h
 |some a=>rw[ha]at h;exact⟨a,rfl,by simpa using h⟩
theorem yQ {P:Program}(hm:P.follows .mixedOrders=true){qj:ts}(tj:qK P qj){n:Nat}{g:FuncId}{args:List AV}{F:Option AV}{u:Value}(h:(kB P qj n g args []).via ch=F) (hF:F=some (.sc u)) (dn:∀a∈args,LF a) (H:aa):bZ P g args (.sc u) H H []:=by
 obtain⟨r,hr,hu⟩:=cv h hF;have:=dv hm tj n g args [] r hr;unfold ch at hu;rw[hu]at this;exact rK this dn H
inductive Kind where
 |bool
 |int (k:IntKind)
def Kind.val:Kind->Int->Value
 | .bool,n=> .bool (n==1)
 | .int k,n=> .int k n
def qL (P:Program) (k:Kind) (g:FuncId) (args:List AV):Prop:=∃n:Int,∀H:aa,bZ P g args (.sc (k.val n)) H H []
open Classical in
noncomputable def tu (P:Program) (k:Kind) (g:FuncId) (args:List AV):Bool:=decide (qL P k g args)
open Classical in
noncomputable def yR (P:Program) (k:Kind) (g:FuncId) (args:List AV):Int:=if h:qL P k g args then h.choose else 0
theorem Br {P:Program}{k:Kind}{g:FuncId}{args:List AV}(h:qL P k g args):tu P k g args=true:=by simp[tu,h]
theorem yS {P:Program}{k:Kind}{g:FuncId}{args:List AV}(h:tu P k g args=true) (H:aa):bZ P g args (.sc (k.val (yR P k g args))) H H []:=by
 have h':qL P k g args:=by simpa [tu]using h
 unfold yR;rw[dif_pos h'];exact h'.choose_spec H
noncomputable def Jt (P:Program) (k:Kind) (g:FuncId) (args:List AV) (H:aa):Tree (AV×aa×List Nat):= .br (tu P k g args) (.leaf (.sc (k.val (yR P k g args)),H,[])) .bad
theorem Bs {P:Program}{k:Kind}{g:FuncId}{args:List AV}{H:aa}{r:AV×aa×List Nat}(h:(Jt P k g args H).eR=some r):bZ P g args r.1 H r.2.1 r.2.2:=by
 rcases Tree.df h with ⟨hb,h⟩|⟨_,h⟩
 ·rw[Tree.aE h];exact yS hb H
 ·exact(Tree.aZ h).elim
theorem C3 {P:Program}(hm:P.follows .mixedOrders=true){qj:ts}(tj:qK P qj){lo:FuncId->bX}(hl:∀g,bA P (lo g)){n:Nat}{g:FuncId}{args:List AV}{F:Option AV}{u:Value}(h:(mQ P qj lo n g args []).via ch=F) (hF:F=some (.sc u)) (dn:∀a∈args,LF a) (H:aa):bZ P g args (.sc u) H H []:=by
 obtain⟨r,hr,hu⟩:=cv h hF;have:=oZ hm tj hl n g args [] r hr;unfold ch at hu;rw[hu]at this;exact rK this dn H
open Classical in
open Classical in
def ev (x y:AV):Prop:=∀(E:Env) (v:Value),Rel E x v->Rel E y v
def Wk (T T':List AV):Prop:=T.length=T'.length/\∀(i:Nat) (y:AV),T'[i]? =some y->∃x,T[i]? =some x/\ev x y
theorem ev.refl (x:AV):ev x x:=λ_ _ h=>h
theorem ev.any (x:AV):ev x .any:=λ_ v _=> .any v
theorem ev.trans {x y z:AV}(h:ev x y) (k:ev y z):ev x z:=λE v r=>k E v (h E v r)
theorem Wk.refl (T:List AV):Wk T T:=⟨rfl,λi y h=>⟨y,h,.refl y⟩⟩
theorem Wk.trans {T T1 T2:List AV}(h:Wk T T1) (k:Wk T1 T2):Wk T T2:=⟨h.1.trans k.1,λi z hz=>by
 obtain⟨y,hy,k1⟩:=k.2 i z hz;obtain⟨x,hx,k2⟩:=h.2 i y hy;exact⟨x,hx,k2.trans k1⟩⟩
theorem Wk.nil:Wk [] []:= .refl _
theorem Wk.cons {x y:AV}{T T':List AV}(h:ev x y) (k:Wk T T'):Wk (x::T) (y::T'):=⟨by simp[k.1],λi z hz=>by
 cases i with
 |zero=>simp at hz;subst hz;exact⟨x,rfl,h⟩
 |succ i=>simp at hz;obtain⟨w,hw,k1⟩:=k.2 i z hz;exact⟨w,by simpa using hw,k1⟩⟩
theorem ev.aY {nl:Bool}{sz n:Nat}{el Io:Nat->List AV}{own:Own}(h:∀i,i<n->el i=Io i):ev (.aY nl sz n el own) (.aY nl sz n Io own):=by
 intro E v hr
 cases hr with
 |fw sz el own ho=>exact .fw sz _ own ho
 |gG sz el own a ho=>exact .gG sz _ own a ho
 |aY sz n el own b off c u hn ho hc hl h1 hS hk=>
  exact .aY sz n Io own b off c u hn ho hc (λi hi=>h i hi▸hl i hi) (λi hi=>h i hi▸h1 i hi) (λi hi=>h i hi▸hS i hi) (λi hi=>h i hi▸hk i hi)
theorem ev.agg {cs cs':List AV}(h:Wk cs cs'):ev (.agg cs) (.agg cs'):=by
 intro E v hr
 cases hr with
 |agg cs us hs hk=>exact .agg cs' us (hs.trans h.1) (λj y hy=>by obtain⟨x,hx,k⟩:=h.2 j y hy;exact k _ _ (hk j x hx))
theorem eJ.wk {E:Env}{T T':List AV}{tmps:Array Value}(h:eJ E T tmps) (w:Wk T T'):eJ E T' tmps:=
 ⟨h.1.trans w.1,λi y hy=>by obtain⟨x,hx,k⟩:=w.2 i y hy;exact k _ _ (h.2 i x hx)⟩
section
variable {P:Program}{c:Code}{T T1 T' T'':List AV}{H H':aa}{x:bj}{Wr:List Nat}
theorem an.eB (h:an P c T H x T' H' Wr) (w:Wk T' T''):an P c T H x T'' H' Wr:=
 ⟨λn0 W hn hW E w0 w1 a D s6 hg ht hd=>wp_mono (h.1 n0 W hn hW E w0 w1 a D s6 hg ht hd) (λe a w2 ⟨E',ax,T2,H2,⟨q1,q2,q3⟩,r,ex,g,t,d⟩=>⟨E',ax,T'',H2,⟨q1,rfl,q3⟩,r,ex,g,(q2▸t).wk w,d⟩),h.2⟩
theorem an.ik (h:an P c T1 H x T' H' Wr) (w:Wk T T1):an P c T H x T' H' Wr:=
 ⟨λn0 W hn hW E w0 w1 a D s6 hg ht hd=>h.1 n0 W hn hW E w0 w1 a D s6 hg (ht.wk w) hd,h.2⟩
theorem an.wr {Wr':List Nat}(h:an P c T H x T' H' Wr) (w:∀l∈Wr,l<H.length->l∈Wr'):an P c T H x T' H' Wr':=
 ⟨λn0 W hn hW=>h.1 n0 W hn (λl hl cO=>hW l (w l hl (ahz cO hn)) cO),h.2.1,λl hl hm=>h.2.2 l hl (λjZ=>hm (w l jZ hl))⟩
end
theorem Ext.trim {n0 n:Nat}{W:Nat->Prop}{E E':Env}{H H':aa}{w0 w w':World}(g:Good E H w0 w) (h:Ext n0 W E H w E' H' w') (sx:n0<=H.length) (hn:H.length<=n):Ext n0 W E H w (E'.cut n) (H'.take n) w':=by
 have cO:∀l,(∃b,E.φ l=some b)∨(∃m x,E.G l m=some x)->l<n:=by
  intro l hl;by_cases hh:l<H.length
  ·omega
  ·have:=g.fresh (ah9 hh);rcases hl with ⟨b,hb⟩|⟨m,x,hx⟩
   ·rw[this.1]at hb;cases hb
   ·rw[this.2]at hx;cases hx
 refine⟨⟨λ{l b} hl=> ?_,λh'=>h.le.S h',λ{t m x} hl=> ?_⟩,h.size,by have:=h.len;simp;omega,λ{l} hl hw=> ?_,λhl hw ho=>h.iX hl hw ho,λ{l} hl=>by simp only[Env.cut];rw[if_pos (by omega)];exact h.lL hl,λhb h0=>⟨(h.stay hb h0).1,λl ho=>(h.stay hb h0).2.1 l (ui ho).2,(h.stay hb h0).2.2⟩⟩
 ·have:=cO l (.inl ⟨b,hl⟩);simp[Env.cut,this,h.le.φ hl]
 ·have:=cO t (.inr ⟨m,x,hl⟩);simp[Env.cut,this,h.le.G hl]
 ·rw[ahI,if_pos (by omega)];exact h.same hl hw
def jC:bj->Bool
 | .panic _=>false
 |_=>true
theorem an.trim {P:Program}{c:Code}{T T':List AV}{H H':aa}{x:bj}{Wr:List Nat}{n:Nat}(h:an P c T H x T' H' Wr) (hn:H.length<=n) (hT:dG n T'=true) (hH:∀o∈H'.take n,cH n o=true) (hx:jC x=true):an P c T H x T' (H'.take n) Wr:=by
 refine⟨λn0 W sx hW E w0 w1 a D s6 hg ht hd=>wp_mono (h.1 n0 W sx hW E w0 w1 a D s6 hg ht hd) ?_,?_,λl hl hm=> ?_⟩
 ·rintro e a w2 ⟨E',ax,T2,H2,⟨rfl,rfl,rfl⟩,r,ex,g,t,d⟩;refine⟨E'.cut n,ax,T2,_,⟨rfl,rfl,rfl⟩,?_,ex.trim hg s6 hn,g.trim hH,⟨t.1,λi y hy=>(t.2 i y hy).cut (fi hT y (ahf hy))⟩,d⟩
  cases r with
  |normal=>exact .normal
  |exit i=>exact .exit i
  |goto i=>exact .goto i
  |ret=>exact .ret
  |panic x v hv=>simp[jC]at hx
 ·have:=h.2.1;simp;omega
 ·rw[ahI,if_pos (by omega)];exact h.2.2 l hl hm
theorem an.beside {P:Program}{c:Code}{T T':List AV}{H:aa}{x:bj}(h:an P c T H x T' H []) (hT:dG H.length T=true) (hT':dG H.length T'=true) (hH:∀o∈H,cH H.length o=true) (hx:jC x=true) (J:aa):an P c T (H++J) x T' (H++J) []:=by
 refine⟨λn0 W sx hW E w0 w a D hn hg ht hd=> ?_,.refl _ _⟩;have TD:eJ (E.cut H.length) T a.tmps:=⟨ht.1,λi x hx=>(ht.2 i x hx).cut (fi hT x (ahf hx))⟩
 refine wp_mono (h.1 H.length (λ_=>False) (ag3 _) (λl hl=>by simp at hl) (E.cut H.length) w0 w a D (ag3 _) (Bn hg hH) TD hd) ?_;rintro e a' w' ⟨E',ax,T2,H2,⟨rfl,rfl,rfl⟩,r,ex,g,t,d⟩;obtain⟨E2,iK,g2,conv⟩:=wA (n0:=n0) (W:=W) hg ex g hH;refine⟨E2,ax,T2,_,⟨rfl,rfl,rfl⟩,?_,iK,g2,⟨t.1,λi y hy=>conv _ _ (t.2 i y hy) (fi hT' y (ahf hy))⟩,d⟩
 cases r with
 |normal=>exact .normal
 |exit i=>exact .exit i
 |goto i=>exact .goto i
 |ret=>exact .ret
 |panic x v hv=>simp[jC]at hx
def lC:Nat->List Nat->List AV->List AV
 |_,_,[]=>[]
 |i,ks,x::r=>(if ks.contains i then x else .any)::lC (i+1) ks r
theorem dL:∀(T:List AV) (i:Nat) (ks:List Nat),Wk T (lC i ks T)
 |[],i,ks=> .refl _
 |x::r,i,ks=> .cons (by by_cases h:ks.contains i=true<;>simp only[h,if_true,if_false,ahA];exact .refl x;exact .any x) (dL r (i+1) ks)
def bz (n:Nat) (l:List (Nat×AV)):List AV:=(List.range n).map λi=>match l.find? (·.1==i)with
 |some (_,x)=>x
 |none=> .any
inductive WkE:List (Nat×AV)->List (Nat×AV)->Prop where
 |nil:WkE [] []
 |cons {i:Nat} {x y:AV} {l l':List (Nat×AV)} (h:ev x y) (k:WkE l l'):WkE ((i,x)::l) ((i,y)::l')
theorem Wk.tm {n:Nat}{l l':List (Nat×AV)}(h:WkE l l'):Wk (bz n l) (bz n l'):=by
 have key:∀i:Nat,ev (match l.find? (·.1==i)with|some (_,x)=>x|none=> .any) (match l'.find? (·.1==i)with|some (_,x)=>x|none=> .any):=by
  intro i
  induction h with
  |nil=>exact .refl _
  | @cons k x y l l' h1 h2 ih=>
   simp only[List.find?_cons]
   cases Pd:k==i with
   |true=>exact h1
   |false=>exact ih
 refine⟨by simp[bz],λi y hy=> ?_⟩;unfold bz at hy ⊢;rw[ahy]at hy
 cases hr:(List.range n)[i]? with
 |none=>rw[hr]at hy;cases hy
 |some k=>
  rw[hr]at hy;simp only[ahs,ag6]at hy;subst hy;refine⟨_,by rw[ahy,hr];rfl,key k⟩
structure Tidy where
 x:bj
 T:List AV
 H:aa
 W:List Nat
 ok:Bool
inductive dX (P:Program) (c:Code) (x:bj) (T':List AV) (H':aa):Nat->List AV->aa->List Nat->Prop where
 |out {T:List AV} {H:aa} {W:List Nat} (h:an P c T H x T' H' W) (hx:x≠.normal):dX P c x T' H' 0 T H W
 |next {T T1:List AV} {H H1:aa} {W W':List Nat} {k:Nat} (h:an P c T H .normal T1 H1 W) (r:dX P c x T' H' k T1 H1 W'):dX P c x T' H' (k+1) T H (W++W')
theorem dX.keeps {P:Program}{c:Code}{x:bj}{T':List AV}{H':aa}{k:Nat}{T:List AV}{H:aa}{W:List Nat}(h:dX P c x T' H' k T H W):cQ H H' W:=by
 induction h with
 |out h hx=>exact h.2
 |next h r ih=>exact h.2.trans ih
theorem dX.ok {P:Program}{c:Code}{x:bj}{T':List AV}{H':aa}{k:Nat}{T:List AV}{H:aa}{Wr:List Nat}(h:dX P c x T' H' k T H Wr):an P (.loop c) T H x T' H' Wr:=by
 refine⟨λn0 W hn hW=> ?_,h.keeps⟩;refine EC (λm T2 H2=>∃W2,dX P c x T' H' m T2 H2 W2/\(∀l∈W2,l<n0->W l)/\n0<=H2.length) k ⟨Wr,h,hW,hn⟩ ?_;rintro m T2 H2 ⟨W2,hr,XU,vw⟩
 cases hr with
 |out h hx=>
  refine h.then vw XU ?_
  cases x with
  |normal=>exact absurd rfl hx
  |exit i=>exact⟨rfl,rfl,rfl⟩
  |goto i=>exact⟨rfl,rfl,rfl⟩
  |ret=>exact⟨rfl,rfl,rfl⟩
  |panic y=>exact⟨rfl,rfl,rfl⟩
 |next h r=>
  refine h.then vw (λl hl=>XU l (ahk _ hl)) ?_
  exact⟨_,ahP _,_,r,λl hl=>XU l (ahj _ hl),ahx vw h.2.1⟩
end Go.Proofs.YtiipaliigpkfhaaGreat.Ab
namespace Go.Proofs.YtiipaliigpkfhaaGreat.Ab
open Go Go.RowKit
open Classical in
open Classical in
open Classical in
structure Bt where
 key:Nat
 n0:Nat
 ks:List Nat
 x:bj
 T:List AV
structure Bu where
 site:Nat
 n0:Nat
 x:AV
open Classical in
noncomputable def aak (P:Program) (c:Code) (T:List AV) (H:aa) (x:bj) (T':List AV):Bool:=decide (an P (.loop c) T H x T' H [])
open Classical in
noncomputable def aD (P:Program) (g:FuncId) (args:List AV) (H:aa) (x:AV):Bool:=decide (bZ P g args x H H [])
theorem ak {P:Program}{g:FuncId}{args:List AV}{H:aa}{x:AV}(h:bZ P g args x H H []):aD P g args H x=true:=by simp only[aD,decide_eq_true_eq];exact h
noncomputable def Ju (P:Program) (e:Bt) (c:Code) (T:List AV) (H:aa):Tree gm:=
 if (dG (H.take e.n0).length (lC 0 e.ks T)&&dG (H.take e.n0).length e.T&&(H.take e.n0).all (cH (H.take e.n0).length)&&jC e.x)=true then
  .br (aak P c (lC 0 e.ks T) (H.take e.n0) e.x e.T) (.leaf (e.x,e.T,H,[])) .bad
 else .bad
noncomputable def Jv (P:Program) (e:Bu) (g:FuncId) (args:List AV) (H:aa):Tree (AV×aa×List Nat):=
 if (dG (H.take e.n0).length args&&ff (H.take e.n0).length e.x&&(H.take e.n0).all (cH (H.take e.n0).length))=true then
  .br (aD P g args (H.take e.n0) e.x) (.leaf (e.x,H,[])) .bad
 else .bad
noncomputable def told (P:Program) (ls:List Bt) (cs:List Bu):bX:=
  ⟨λc T H=>match kz c with
    |some i=>match ls.find? (·.key==i)with
      |some e=>some (Ju P e c T H)
      |none=>none
    |none=>none,
   λd g args H=>match cs.find? (·.site==d)with
    |some e=>some (Jv P e g args H)
    |none=>none,λ_ _ _ _=>none⟩
theorem M6 {P:Program}{e:Bt}{c:Code}{T T':List AV}{H H':aa}{x:bj}{Wr:List Nat}(h:(Ju P e c T H).eR=some (x,T',H',Wr)):an P (.loop c) T H x T' H' Wr:=by
 unfold Ju at h;split at h
 ·rename_i hk;simp only[ahp,ahq]at hk;rcases Tree.df h with ⟨hb,h⟩|⟨_,h⟩
  ·have:=Tree.aE h;simp only[ahe]at this;obtain⟨rfl,rfl,rfl,rfl⟩:=this;simp only[aak,decide_eq_true_eq]at hb;have:=hb.beside hk.1.1.1 hk.1.1.2 hk.1.2 hk.2 (H'.drop e.n0);rw[ait]at this;exact this.ik (dL T 0 e.ks)
  ·exact(Tree.aZ h).elim
 ·exact(Tree.aZ h).elim
theorem M7 {P:Program}{e:Bu}{g:FuncId}{args:List AV}{H:aa}{r:AV×aa×List Nat}(h:(Jv P e g args H).eR=some r):bZ P g args r.1 H r.2.1 r.2.2:=by
 unfold Jv at h;split at h
 ·rename_i hk;simp only[ahp,ahq]at hk;rcases Tree.df h with ⟨hb,h⟩|⟨_,h⟩
  ·rw[Tree.aE h];simp only[aD,decide_eq_true_eq]at hb;have:=mC hb hk.1.1 hk.1.2 hk.2 (H.drop e.n0);rw[ait]at this;exact this
  ·exact(Tree.aZ h).elim
 ·exact(Tree.aZ h).elim
theorem aF {P:Program}{ls:List Bt}{cs:List Bu}:bA P (told P ls cs):=by
 refine⟨λc T H t x T' H' Wr h hr=> ?_,λd g args H t r h hr=> ?_,λ_ _ _ _ _ _ _ _ _ h=>(by cases h)⟩
 ·unfold told at h;simp only at h;split at h
  ·split at h
   ·cases h;exact M6 hr
   ·cases h
  ·cases h
 ·unfold told at h;simp only at h;split at h
  ·cases h;exact M7 hr
  ·cases h
structure Fy (F:Fence):Prop where
 fn:∀f,F.fn f
 depth:F.depth=none
 rows:∀{n:Nat} {P:Program} {row:String} {args:Array Value} {w:World} {R:Value->World->Prop},Rows P row args w R->RowsIn F n P row args w R
 calls:∀{n:Nat} {P:Program} {f:FuncId} {args:Array Value} {w:World} {R:Ending->World->Prop},Calls P f args w R->CallsIn F n P f args w R
theorem Bv {n:Nat}{P:Program}{row:String}{args:Array Value}{w:World}{R:Value->World->Prop}(h:Rows P row args w R):RowsIn Fence.wide n P row args w R:=
 λc cs _=>let ⟨v,w',r,s⟩:=h c cs;⟨v,w',r,stepsIn_wide.2 s⟩
theorem vC:Fy Fence.wide:=⟨λ_=>trivial,rfl,Bv,λh=>callsIn_wide.2 h⟩
theorem yT (l:Nat):Fy (Fence.wide.inRound l):=⟨λ_=>trivial,rfl,λh=>Bv h,λ{n P f args w R} h=>CallsIn.inRound l (callsIn_wide.2 h)⟩
def ja (ops:Array Oper):Bool:=ops.toList.all λo=>match o.op with| .defer _=>false|_=>true
theorem nf {ops:Array Oper}(h:ja ops=true){i:Nat}{o:Oper}(ho:ops[i]? =some o):∀c,o.op≠.defer c:=by
 intro c e;unfold ja at h;rw[ahq]at h;have:=h o (Array.mem_toList_iff.2 (Array.mem_of_getElem? ho));rw[e]at this;cases this
theorem Eu.wpIn {F:Fence}(hF:Fy F){n:Nat}{P:Program}{o:Oper}{a:Act}{w:World}{K:Value->World->Prop}{next:Act->World->Prop}{Q:Exit->Act->World->Prop}(hd:∀c,o.op≠.defer c) (h:Eu P o a.eval w K) (hk:∀v w',K v w'->next (a.put o.dst v) w'):o.wpIn F n P a w next Q:=by
 refine⟨λf _=>hF.fn f,?_⟩;rw[Oper.semAt_eq _ _ _ hd];unfold Eu at h;split at h
 ·rename_i v w' hr;rw[hr];exact hk _ _ h
 ·rename_i w' hr;rw[hr];exact hk _ _ h
 ·rename_i f args w' hr;rw[hr,Oper.uponIn_enter];refine⟨λhs=>absurd hs (by rw[hF.depth];simp),hF.calls (h.mono ?_)⟩;intro e sr he
  cases e with
  |returned v=>exact hk _ _ he
  |panicked c=>exact he.elim
  |outgrown=>exact he.elim
 ·exact h.elim
theorem qg.xK {F:Fence}(hF:Fy F){n:Nat}{P:Program}{ops:Array Oper}(lU:ja ops=true){Q:Exit->Act->World->Prop}{is:List Nat}{T T':List AV}{H H':aa}{W:List Nat}(h:qg P ops is T H T' H' W) (rest:List Nat):
  ∀{n0:Nat} {E:Env} {w0 w:World} {a:Act},n0<=H.length->Good E H w0 w->eJ E T a.tmps->
   (∀(E':Env) (a':Act) (w':World),Ext n0 (·∈W) E H w E' H' w'->Good E' H' w0 w'->eJ E' T' a'.tmps->a'.defers=a.defers->wpOpsIn F n P ops Q rest a' w')->
   wpOpsIn F n P ops Q (is++rest) a w:=by
 induction h with
 |nil T H=>
  intro n0 E w0 w a hn hg ht hk;exact hk E a w (.refl _ _ _ _ _) hg ht rfl
 | @skip i K0 o T T' H H' W ho hw hr ih=>
  intro n0 E w0 w a hn hg ht hk;simp only[ah8,wpOpsIn,ho,fm ht hw,if_false,ahA];refine⟨λf _=>hF.fn f,ih hn hg (fU ht o.dst (nP _)) (λE' a' w' he qw EA hd=> ?_)⟩;exact hk E' a' w' he qw EA (hd.trans (cg _ _ _))
 | @step i K0 o x T T' H H1 H' W1 W ho hw hs hr ih=>
  intro n0 E w0 w a hn hg ht hk;simp only[ah8,wpOpsIn,ho,fm ht hw,if_true];refine(hs E w0 w a.eval hg (ht.o o)).wpIn hF (nf lU ho) ?_;rintro v w' ⟨E',he,qw,hv⟩;refine ih (ahx hn he.len) qw (fU (ht.mono he.le) o.dst hv) (λE2 a2 w2 Xv Iy Iz hd=> ?_);refine hk E2 a2 w2 ?_ Iy Iz (hd.trans (cg _ _ _));exact(he.weaken hn (λl _ hl=>ahk _ hl)).trans (Xv.weaken (ag3 _) (λl _ hl=>ahj _ hl))
theorem PQ {F:Fence}(hF:Fy F){n:Nat}{P:Program}{ops:Array Oper}(lU:ja ops=true){Q:Exit->Act->World->Prop}(hQ:¬LetsOut Q):∀(l:List Nat) (a:Act) (w:World),wpOps P ops Q l a w->wpOpsIn F n P ops Q l a w
 |[],a,w,h=>h
 |i::rest,a,w,h=>by
  have ih:=PQ (P:=P) (n:=n) hF lU hQ rest;simp only[wpOps]at h;simp only[wpOpsIn]
  cases ho:ops[i]? with
  |none=>simp only[ho]at h ⊢;exact ih _ _ h
  |some o=>
   simp only[ho]at h ⊢;by_cases hw:Region.wanted o (yielded ops a.tmps)=true
   ·simp only[hw,if_true]at h ⊢;rcases h with h|⟨_,a0,w0,hq⟩
    ·refine⟨λf _=>hF.fn f,?_⟩;rw[Oper.semAt_eq _ _ _ (nf lU ho)];unfold Oper.wp at h;generalize (execOp a.eval o).run P w=res at h
     cases res with
     |ok x w'=>
      cases x with
      |value v=>exact ih _ _ h
      |skip=>exact ih _ _ h
      |defer d=>exact ih _ _ h
      |enter f args=>
       refine⟨λhs=>absurd hs (by rw[hF.depth];simp),hF.calls (Calls.mono h ?_)⟩;intro e sr he
       cases e with
       |returned v=>exact ih _ _ he
       |panicked c=>exact he
       |outgrown=>exact he
      |row row args=>
       refine⟨λhs=>absurd hs (by rw[hF.depth];simp),?_⟩;exact RowsIn.mono (hF.rows h) (λv w' hv=>ih _ _ hv)
      |_=>exact(show False from h).elim
     |halt x w'=>
      cases x with
      |panic v=>exact h
      |_=>exact(show False from h).elim
    ·exact absurd ⟨a0,w0,hq⟩ hQ
   ·simp only[hw,if_false,ahA]at h ⊢;exact⟨λf _=>hF.fn f,ih _ _ h⟩
def r8 (P:Program) (r n0:Nat) (W:Nat->Prop) (c:Code) (Q:bj->List AV->aa->Prop) (T:List AV) (H:aa):Prop:=
 ∀(E:Env) (w0 w:World) (a:Act) (D:List Deferred),n0<=H.length->Good E H w0 w->eJ E T a.tmps->a.defers=D->c.wpIn (Fence.wide.inRound r) 0 P (nQ n0 W Q E H w0 w D) a w
section
variable {P:Program}{r n0:Nat}{W:Nat->Prop}{Q:bj->List AV->aa->Prop}{T:List AV}{H:aa}
theorem M8 {c:Code}{Q':bj->List AV->aa->Prop}(h:r8 P r n0 W c Q T H) (hq:∀x T H,Q x T H->Q' x T H):r8 P r n0 W c Q' T H:=
 λE w0 w a D hn hg ht hd=>wpIn_mono (h E w0 w a D hn hg ht hd) (λ_ _ _ ⟨E',x,T',H',q,r⟩=>⟨E',x,T',H',hq _ _ _ q,r⟩)
theorem M9 (h:Q .normal T H):r8 P r n0 W .skip Q T H:=
 λE w0 w a D hn hg ht hd=>wpIn_skip ⟨E,_,T,H,h,.normal,.refl _ _ _ _ _,hg,ht,hd⟩
theorem Na {id:Nat}(h:Q (.exit id) T H):r8 P r n0 W (.exit id) Q T H:=
 λE w0 w a D hn hg ht hd=>wpIn_exit ⟨E,_,T,H,h,.exit id,.refl _ _ _ _ _,hg,ht,hd⟩
theorem PR (h:Q .ret T H):r8 P r n0 W .ret Q T H:=
 λE w0 w a D hn hg ht hd=>wpIn_ret ⟨E,_,T,H,h,.ret,.refl _ _ _ _ _,hg,ht,hd⟩
theorem Jw {id:Nat}{ops:Array Oper}{tr:Tr}{T':List AV}{H':aa}{L:Log}(lU:ja ops=true) (hc:jQ P ops false tr (List.range ops.size) T H T' H' L) (hW:∀l∈r6 L,l<n0->W l) (h:Q .normal T' H'):r8 P r n0 W (.region id ops false) Q T H:=by
 intro E w0 w a D hn hg ht hd;refine wpIn_region ?_;have:=hc.run.xK (yT r) (n:=0) lU (Q:=nQ n0 W Q E H w0 w D) [] hn hg ht (λE' a' w' he qw EA yl=>⟨E',_,T',H',h,.normal,he.weaken (ag3 _) (λl hl hm=>hW l hm hl),qw,EA,yl.trans hd⟩);rwa [ah3]at this
theorem aal {E:Env}{w0 w:World}{D:List Deferred}:¬LetsOut (nQ n0 W Q E H w0 w D):=by
 rintro⟨a,w',E',x,T',H',_,hr,_⟩;cases hr
theorem xj {id:Nat}{ops:Array Oper}{tr:Tr}{T':List AV}{H':aa}{L:Log}{res:aa}(lU:ja ops=true) (hm:P.follows .mixedOrders=true) (lT:∀o∈res,idle o=true) (hc:jQ P ops true tr (List.range ops.size) T (H++res) T' H' L) (hW:∀l∈r6 L,l<n0->W l) (OM:oN ops H.length (H++res).length L=true)
  (h:Q .normal T' H'):r8 P r n0 W (.region id ops true) Q T H:=by
 intro E w0 w a D hn hg ht hd;refine wpIn_region_draw λt=> ?_
 simp only[Region.schedule,hm,Bool.true_or,if_true];exact PQ (yT r) lU aal _ _ _ (wpAny_sound ops.size t _ a _ (Bi lT hc hW OM h E w0 w a D hn hg ht hd))
theorem Fz {x y:Code}(h:r8 P r n0 W x (bj.then (λT H=>r8 P r n0 W y Q T H) Q) T H):r8 P r n0 W (.seq x y) Q T H:=by
 intro E w0 w a D hn hg ht hd;refine wpIn_seq (wpIn_mono (h E w0 w a D hn hg ht hd) ?_);rintro e a' w' ⟨E',ax,T',H',q,r,ex,g,t,d⟩
 cases r with
 |normal=>exact wpIn_mono (q E' w0 w' a' D (ahx hn ex.len) g t d) (λe a w hp=>hp.chain ex)
 |exit id=>exact⟨E',_,T',H',q,.exit id,ex,g,t,d⟩
 |goto l=>exact⟨E',_,T',H',q,.goto l,ex,g,t,d⟩
 |ret=>exact⟨E',_,T',H',q,.ret,ex,g,t,d⟩
 |panic x v hv=>exact⟨E',_,T',H',q,.panic x v hv,ex,g,t,d⟩
theorem Bw {c:Operand}{x y:Code}{b:Bool}(hc:bk T c= .sc (.bool b)) (h:r8 P r n0 W (if b then x else y) Q T H):r8 P r n0 W (.cond c x y) Q T H:=by
 intro E w0 w a D hn hg ht hd;have hr:=kN ht c;rw[hc]at hr;generalize hv:a.eval c=v at hr
 cases hr with
 |sc v hp=>exact wpIn_cond hv (h E w0 w a D hn hg ht hd)
theorem kC {id:Nat}{c:Code}(h:r8 P r n0 W c (bj.inBlock id Q) T H):r8 P r n0 W (.block id c) Q T H:=by
 intro E w0 w a D hn hg ht hd;refine wpIn_block (wpIn_mono (h E w0 w a D hn hg ht hd) ?_);rintro e a' w' ⟨E',ax,T',H',q,r,ex,g,t,d⟩
 cases r with
 |normal=>exact⟨E',_,T',H',q,.normal,ex,g,t,d⟩
 |exit i=>
  by_cases hi:i=id
  ·simp only[Exit.inBlock,hi,if_true];simp only[bj.inBlock,hi,if_true]at q;exact⟨E',_,T',H',q,.normal,ex,g,t,d⟩
  ·simp only[Exit.inBlock,hi,if_false];simp only[bj.inBlock,hi,if_false]at q;exact⟨E',_,T',H',q,.exit i,ex,g,t,d⟩
 |goto l=>exact⟨E',_,T',H',q,.goto l,ex,g,t,d⟩
 |ret=>exact⟨E',_,T',H',q,.ret,ex,g,t,d⟩
 |panic x v hv=>exact⟨E',_,T',H',q,.panic x v hv,ex,g,t,d⟩
end
def rO (P:Program) (c:Code) (T:List AV) (H:aa) (x:bj) (T':List AV) (H':aa) (Wr:List Nat):Prop:=
 (∀(r n0:Nat) (W:Nat->Prop),n0<=H.length->(∀l∈Wr,l<n0->W l)->r8 P r n0 W c (λy T2 H2=>y=x/\T2=T'/\H2=H') T H)/\cQ H H' Wr
theorem rO.then {P:Program}{c:Code}{T T':List AV}{H H':aa}{r n0:Nat}{W:Nat->Prop}{Q:bj->List AV->aa->Prop}{x:bj}{W1:List Nat}(h:rO P c T H x T' H' W1) (hn:n0<=H.length) (hw:∀l∈W1,l<n0->W l) (k:Q x T' H'):r8 P r n0 W c Q T H:=
 M8 (h.1 r n0 W hn hw) (λy T2 H2 ⟨h1,h2,h3⟩=>by subst h1 h2 h3;exact k)
def il:Code->Bool
 | .skip=>true
 | .exit _=>true
 | .ret=>true
 | .seq a b=>il a&&il b
 | .block _ c=>il c
 | .cond _ a b=>il a&&il b
 | .region _ ops _=>ja ops
 |_=>false
theorem kD {P:Program}{call:cZ}(hm:P.follows .mixedOrders=true) (hc:cx P call){nL:Code->List AV->aa->Tree gm}(n:Nat):∀(c:Code),il c=true->∀(T:List AV) (H:aa) (x:bj) (T':List AV) (H':aa) (Wr:List Nat),(iP P call aN nL n c T H).eR=some (x,T',H',Wr)->rO P c T H x T' H' Wr
 | .skip,_,T,H,x,T',H',Wr,h=>by cases Tree.aE h;exact⟨λ_ _ _ _ _=>M9 ⟨rfl,rfl,rfl⟩,.refl _ _⟩
 | .exit _,_,T,H,x,T',H',Wr,h=>by cases Tree.aE h;exact⟨λ_ _ _ _ _=>Na ⟨rfl,rfl,rfl⟩,.refl _ _⟩
 | .ret,_,T,H,x,T',H',Wr,h=>by cases Tree.aE h;exact⟨λ_ _ _ _ _=>PR ⟨rfl,rfl,rfl⟩,.refl _ _⟩
 | .label _,hp,T,H,x,T',H',Wr,h=>by simp[il]at hp
 | .goto _,hp,T,H,x,T',H',Wr,h=>by simp[il]at hp
 | .loop _,hp,T,H,x,T',H',Wr,h=>by simp[il]at hp
 | .scope _,hp,T,H,x,T',H',Wr,h=>by simp[il]at hp
 | .refuse _,hp,T,H,x,T',H',Wr,h=>by simp[il]at hp
 | .rangeFunc _ _ _ _,hp,T,H,x,T',H',Wr,h=>by simp[il]at hp
 | .seq a b,hp,T,H,x,T',H',Wr,h=>by
  simp only[il,ahp]at hp;unfold iP at h;obtain⟨⟨y,T1,H1,W1⟩,h1,h⟩:=aW h;have fq:=kD hm hc n a hp.1 _ _ _ _ _ _ h1;have other:y≠.normal->(x,T',H',Wr)=(y,T1,H1,W1)->rO P (.seq a b) T H x T' H' Wr:=by
   intro gX e;cases e;refine⟨λr n0 W hn hw=>Fz (fq.then hn hw ?_),fq.2⟩
   cases x with
   |normal=>exact absurd rfl gX
   |exit i=>exact⟨rfl,rfl,rfl⟩
   |goto i=>exact⟨rfl,rfl,rfl⟩
   |ret=>exact⟨rfl,rfl,rfl⟩
   |panic y=>exact⟨rfl,rfl,rfl⟩
  cases y with
  |normal=>
   obtain⟨⟨z,T2,H2,W2⟩,h2,h⟩:=aW h;cases Tree.aE h;have oS:=kD hm hc n b hp.2 _ _ _ _ _ _ h2;exact⟨λr n0 W hn hw=>Fz (fq.then hn (λl hl=>hw l (ahk _ hl)) (oS.1 r n0 W (ahx hn fq.2.1) (λl hl=>hw l (ahj _ hl)))),fq.2.trans oS.2⟩
  |exit i=>exact other (by simp) (Tree.aE h)
  |goto i=>exact other (by simp) (Tree.aE h)
  |ret=>exact other (by simp) (Tree.aE h)
  |panic v=>exact other (by simp) (Tree.aE h)
 | .block i c,hp,T,H,x,T',H',Wr,h=>by
  simp only[il]at hp;unfold iP at h;obtain⟨⟨y,T1,H1,W1⟩,h1,h⟩:=aW h;have fq:=kD hm hc n c hp _ _ _ _ _ _ h1
  cases y with
  |exit j=>
   simp only at h;split at h
   ·rename_i hj;cases Tree.aE h;exact⟨λr n0 W hn hw=>kC (fq.then hn hw (by simp[bj.inBlock,hj])),fq.2⟩
   ·rename_i hj;cases Tree.aE h;exact⟨λr n0 W hn hw=>kC (fq.then hn hw (by simp[bj.inBlock,hj])),fq.2⟩
  |normal=>cases Tree.aE h;exact⟨λr n0 W hn hw=>kC (fq.then hn hw ⟨rfl,rfl,rfl⟩),fq.2⟩
  |goto i=>cases Tree.aE h;exact⟨λr n0 W hn hw=>kC (fq.then hn hw ⟨rfl,rfl,rfl⟩),fq.2⟩
  |ret=>cases Tree.aE h;exact⟨λr n0 W hn hw=>kC (fq.then hn hw ⟨rfl,rfl,rfl⟩),fq.2⟩
  |panic v=>cases Tree.aE h;exact⟨λr n0 W hn hw=>kC (fq.then hn hw ⟨rfl,rfl,rfl⟩),fq.2⟩
 | .cond c a b,hp,T,H,x,T',H',Wr,h=>by
  simp only[il,ahp]at hp;unfold iP at h;have h:=nX (λb d=>qJ) h;split at h
  ·rename_i t ht;rcases Tree.df h with ⟨rfl,h⟩|⟨rfl,h⟩
   ·have fq:=kD hm hc n a hp.1 _ _ _ _ _ _ h;exact⟨λr n0 W hn hw=>Bw ht (fq.1 r n0 W hn hw),fq.2⟩
   ·have fq:=kD hm hc n b hp.2 _ _ _ _ _ _ h;exact⟨λr n0 W hn hw=>Bw ht (fq.1 r n0 W hn hw),fq.2⟩
  ·exact(Tree.aZ h).elim
 | .region id ops false,hp,T,H,x,T',H',Wr,h=>by
  simp only[il]at hp;unfold iP at h;obtain⟨⟨T1,H1,L⟩,h1,h⟩:=aW h;cases Tree.aE h;obtain⟨h2,h3⟩:=fo hc rN ops.toList 0 _ T _ _ _ _ (λj o hj=>by simpa using hj) h1;have e:(List.range ops.toList.length).map (0+·)=List.range ops.size:=by simp
  rw[e]at h2;exact⟨λr n0 W hn hw=>Jw hp h2 hw ⟨rfl,rfl,rfl⟩,h3⟩
 | .region id ops true,hp,T,H,x,T',H',Wr,h=>by
  simp only[il]at hp;unfold iP at h;obtain⟨⟨T1,H1,L⟩,h1,h⟩:=aW h;split at h
  ·rename_i hd;cases Tree.aE h;obtain⟨h2,h3⟩:=fo hc rN ops.toList 0 _ T _ _ _ _ (λj o hj=>by simpa using hj) h1;have e:(List.range ops.toList.length).map (0+·)=List.range ops.size:=by simp
   rw[e]at h2;exact⟨λr n0 W hn hw=>xj hp hm (me P _) h2 hw hd ⟨rfl,rfl,rfl⟩,h3.KS⟩
  ·exact(Tree.aZ h).elim
end Go.Proofs.YtiipaliigpkfhaaGreat.Ab
