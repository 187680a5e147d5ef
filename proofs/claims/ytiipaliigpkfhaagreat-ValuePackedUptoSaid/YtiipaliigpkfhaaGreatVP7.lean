/- Lemmas 7. -/
import Derived.Test.YtiipaliigpkfhaaGreatRows
import Derived.KernelRfl
import Derived.ProofKit
import Derived.Laws.Strings
import Derived.Test.YtiipaliigpkfhaaGreatVP3
import Derived.Test.YtiipaliigpkfhaaGreatVP5
import Derived.Test.YtiipaliigpkfhaaGreatVP6
set_option maxRecDepth 100000
namespace Go.Proofs.YtiipaliigpkfhaaGreat.Ab
open Go Go.RowKit
def nM (s:List Nat) (n:Nat) (i:Nat):Nat:=match s[i]? with
 |some l=>l
 |none=>n+(i-s.length)
theorem kE {s:List Nat}{n i l:Nat}(h:s[i]? =some l):nM s n i=l:=by simp[nM,h]
theorem lY {s:List Nat}{n i:Nat}(h:s.length<=i):nM s n i=n+(i-s.length):=by simp[nM,ahu h]
theorem K4 {s:List Nat}{n:Nat}(lU:s.Nodup) (cO:∀l∈s,l<n){i j:Nat}(h:nM s n i=nM s n j):i=j:=by
 by_cases hi:i<s.length<;>by_cases hj:j<s.length
 ·rw[kE (ahc hi),kE (ahc hj)]at h;have pw:=List.pairwise_iff_getElem.1 lU;rcases Nat.lt_trichotomy i j with mo|mo|mo
  ·exact absurd h (pw i j hi hj mo)
  ·exact mo
  ·exact absurd h.symm (pw j i hj hi mo)
 ·rw[kE (ahc hi),lY (by omega)]at h;have:=cO _ (ahG hi);omega
 ·rw[lY (by omega),kE (ahc hj)]at h;have:=cO _ (ahG hj);omega
 ·rw[lY (by omega),lY (by omega)]at h;omega
open Classical in
noncomputable def qm (s:List Nat) (n l:Nat):Option Nat:=if h:∃i,nM s n i=l then some h.choose else none
theorem UB {s:List Nat}{n:Nat}(lU:s.Nodup) (cO:∀l∈s,l<n) (i:Nat):qm s n (nM s n i)=some i:=by
 have h:∃j,nM s n j=nM s n i:=⟨i,rfl⟩
 unfold qm;rw[dif_pos h];exact congrArg some (K4 lU cO h.choose_spec)
theorem BC {s:List Nat}{n l i:Nat}(h:qm s n l=some i):nM s n i=l:=by
 unfold qm at h;split at h
 ·rename_i hh;cases h;exact hh.choose_spec
 ·cases h
theorem BD {s:List Nat}{n l:Nat}(h:qm s n l=none):l<n/\l∉s:=by
 unfold qm at h;split at h
 ·cases h
 ·rename_i hh;refine⟨?_,λhm=> ?_⟩
  ·apply ahW;intro hl;exact hh ⟨s.length+(l-n),by rw[lY (by omega)];omega⟩
  ·obtain⟨i,hi⟩:=ahT hm;exact hh ⟨i,kE hi⟩
theorem FF {s:List Nat}{n l:Nat}(hl:l<n) (hm:l∉s):qm s n l=none:=by
 cases h:qm s n l with
 |none=>rfl
 |some i=>
  exfalso;have:=BC h;by_cases hi:i<s.length
  ·rw[kE (ahc hi)]at this;exact hm (this▸ahG hi)
  ·rw[lY (by omega)]at this;omega
def jm (f:Nat->Nat):List Nat->aa->aa->aa
 |l::s,o::os,H=>jm f s os (H.set l (kf f o))
 |_,_,H=>H
def iR (f:Nat->Nat) (s:List Nat) (Hs:aa) (H:aa):aa:=jm f s Hs H++(Hs.drop s.length).map (kf f)
theorem kF (f:Nat->Nat):∀(s:List Nat) (os H:aa),(jm f s os H).length=H.length
 |[],os,H=>by simp[jm]
 |l::s,[],H=>by simp[jm]
 |l::s,o::os,H=>by simp[jm,kF f s os]
theorem tx (f:Nat->Nat):∀(s:List Nat) (os H:aa){l:Nat},l∉s->(jm f s os H)[l]? =H[l]?
 |[],os,H,l,h=>by simp[jm]
 |k::s,[],H,l,h=>by simp[jm]
 |k::s,o::os,H,l,h=>by
  simp only[jm];rw[tx f s os _ (λhm=>h (ahn _ hm)),ag7 (λe=>h (by simp[e]))]
theorem BE (f:Nat->Nat):∀(s:List Nat) (os H:aa){i l:Nat}{o:bu},s.Nodup->(∀l∈s,l<H.length)->s[i]? =some l->os[i]? =some o->(jm f s os H)[l]? =some (kf f o)
 |[],os,H,i,l,o,hn,hl,h,ho=>by simp at h
 |k::s,[],H,i,l,o,hn,hl,h,ho=>by simp at ho
 |k::s,p::os,H,0,l,o,hn,hl,h,ho=>by
  simp only[ahw,ag6]at h ho;subst h ho;simp only[jm];rw[tx f s os _ (List.nodup_cons.1 hn).1,ahd (hl _ (ahD ..))]
 |k::s,p::os,H,i+1,l,o,hn,hl,h,ho=>by
  simp only[ahL]at h ho;simp only[jm];exact BE f s os _ (List.nodup_cons.1 hn).2 (λl hm=>by simpa using hl l (ahn _ hm)) h ho
theorem BF {f:Nat->Nat}{s:List Nat}{Hs H:aa}(lU:s.Nodup) (cO:∀l∈s,l<H.length) (hk:s.length<=Hs.length) (i:Nat):(iR f s Hs H)[nM s H.length i]? =(Hs[i]?).map (kf f):=by
 unfold iR;by_cases hi:i<s.length
 ·have hl:s[i]? =some s[i]:=ahc hi;have ho:Hs[i]? =some Hs[i]:=ahc (by omega);rw[kE hl,ahb (by rw[kF];exact cO _ (ahG hi)),BE f s Hs H lU cO hl ho,ho];rfl
 ·rw[lY (by omega),ahi (by rw[kF];omega),kF,ahy,aij];congr 2;omega
theorem pc {f:Nat->Nat}{s:List Nat}{Hs H:aa}{l:Nat}(hl:l<H.length) (hm:l∉s):(iR f s Hs H)[l]? =H[l]? :=by
 unfold iR;rw[ahb (by rw[kF];exact hl),tx f s Hs H hm]
theorem tz (f:Nat->Nat) (s:List Nat) (Hs H:aa):(iR f s Hs H).length=H.length+(Hs.length-s.length):=by
 simp[iR,kF]
theorem uv {E E2:Env}{H H2:aa}{f:Nat->Nat}{i b:Nat}(hφ:E2.φ (f i)=E.φ i) (hG:∀n,E2.G (f i) n=E.G i n) (hH:H2[f i]? =(H[i]?).map (kf f)):owns E2 H2 (f i) b↔owns E H i b:=by
 unfold owns;rw[hH]
 cases H[i]? with
 |none=>exact Iff.rfl
 |some o=>
  cases o with
  |dead=>exact Iff.rfl
  |cells cs=>simp only[ahs,kf,hφ]
  |tail n sz=>simp only[ahs,kf,hG]
  |cu n=>simp only[ahs,kf,hG]
  |map es=>simp only[ahs,kf,hφ]
  |iter m=>simp only[ahs,kf,hφ]
  |mark k=>simp only[ahs,kf,hφ]
  |ez f v=>simp only[ahs,kf,hφ]
  |cN=>exact Iff.rfl
  |rows es pd=>simp only[ahs,kf,hφ,hG]
def UC (f:Nat->Nat):Mv->Mv
 | .ret x=> .ret (fK f x)
 | .AA x=> .AA (fK f x)
theorem Da {P:Program}{g:FuncId}{args:List AV}{out:Mv}{Hs sI:aa}{W:List Nat}(h:kP P g/\s4 P g args out Hs sI (·∈W)/\cQ Hs sI W){H:aa}{s:List Nat}(lU:s.Nodup) (hk:s.length=Hs.length) (mP:∀(i l:Nat),s[i]? =some l->H[l]? =(Hs[i]?).map (kf (nM s H.length)))
  (dn:dG Hs.length args=true) (Ni:∀o∈Hs,cH Hs.length o=true/\gn o=true) (Qe:∀o∈sI,gn o=true):
  kP P g/\s4 P g (kr (nM s H.length) args) (UC (nM s H.length) out) H (iR (nM s H.length) s sI H) (·∈W.map (nM s H.length))/\cQ H (iR (nM s H.length) s sI H) (W.map (nM s H.length)):=by
 have cO:∀l∈s,l<H.length:=λl hm=>by
  obtain⟨i,hi⟩:=ahT hm;have sY:=(ag5.1 hi).1;have:=mP i l hi;rw[ahc (by omega:i<Hs.length)]at this;exact(ag5.1 this).1
 have ix:s.length<=sI.length:=hk▸h.2.2.1;refine⟨h.1,λE w0 w vs hg hr=> ?_,⟨by rw[tz];omega,λl hl hm=> ?_⟩⟩
 ·generalize hf:nM s H.length=f at*;have Yg:∀{i j},f i=f j->i=j:=λ{i j} e=>K4 lU cO (by rw[hf];exact e)
  have aaw:∀i,qm s H.length (f i)=some i:=λi=>by rw[←hf];exact UB lU cO i
  have FG:∀{l i},qm s H.length l=some i->f i=l:=λ{l i} e=>by rw[←hf];exact BC e
  have Yh:∀{i},i<s.length->f i<H.length/\f i∈s:=λ{i} hi=>by
   rw[←hf,kE (ahc hi)];exact⟨cO _ (ahG hi),ahG hi⟩
  have Yi:∀{i},¬i<s.length->H.length<=f i:=λ{i} hi=>by
   rw[←hf,lY (by omega)];omega
  have AF:∀i,(iR f s sI H)[f i]? =(sI[i]?).map (kf f):=λi=>by
   have:=BF (f:=f) (H:=H) lU cO ix i;rwa [hf]at this
  have AO:∀i,i<s.length->H[f i]? =(Hs[i]?).map (kf f):=λi hi=>by
   have hl:s[i]? =some s[i]:=ahc hi;have e:f i=s[i]:=by rw[←hf];exact kE hl
   rw[e];exact mP i _ hl
  let Es:Env:={ φ:=λi=>if i<s.length then E.φ (f i)else none,S:=E.S,G:=λt m=>if t<s.length then E.G (f t) m else none}
  have eφ:∀l,l<s.length->Es.φ l=E.φ (f l):=λl hl=>by simp[Es,hl]
  have eG:∀t n,t<s.length->Es.G t n=E.G (f t) n:=λt n hl=>by simp[Es,hl]
  have back:∀{j b},owns Es Hs j b->j<s.length/\owns E H (f j) b:=λ{j b} ho=>by
   have hj:=my ho;rw[←hk]at hj;exact⟨hj,(uv (eφ j hj).symm (λn=>(eG j n hj).symm) (AO j hj)).2 ho⟩
  have hgs:Good Es Hs w0 w:=by
   refine⟨hg.below,λhs=>hg.snap hs,λ{i o} hi=> ?_,λ{l l' b} h1 h2=> ?_,λ{l} hl=> ?_,λ{l b} hl=> ?_⟩
   ·have sY:i<s.length:=by rw[hk];exact(ag5.1 hi).1
    have hH:=AO i sY;rw[hi]at hH;have hm:=Ni o (ahf hi);exact(hg.obj hH).y3 (k:=s.length) eφ eG rfl sY hm.2 (by rw[hk];exact hm.1)
   ·exact Yg (hg.sep (back h1).2 (back h2).2)
   ·have:¬l<s.length:=by omega
    exact⟨by simp[Es,this],λn=>by simp[Es,this]⟩
   ·simp only[Es]at hl;split at hl
    ·exact hg.mb hl
    ·cases hl
  have XR:ji Es args vs:=⟨by rw[hr.1,iy],λi y hy=>(hr.2 i (fK f y) (by rw[gu,hy];rfl)).y3 (k:=s.length) eφ eG rfl y rfl (by rw[hk];exact fi dn y (ahf hy))⟩
  refine(h.2.1 Es w0 w vs hgs XR).mono ?_;rintro e w' ⟨E',re,ex,g'⟩
  let E2:Env:={ φ:=λl=>match qm s H.length l with
            |some i=>E'.φ i
            |none=>E.φ l,S:=E'.S,G:=λt m=>match qm s H.length t with
            |some i=>E'.G i m
            |none=>E.G t m}
  have aφ:∀i,E2.φ (f i)=E'.φ i:=λi=>by simp only[E2,aaw]
  have aG:∀i m,E2.G (f i) m=E'.G i m:=λi m=>by simp only[E2,aaw]
  have oφ:∀l,l<H.length->l∉s->E2.φ l=E.φ l:=λl hl hm=>by simp only[E2,FF hl hm]
  have oG:∀l m,l<H.length->l∉s->E2.G l m=E.G l m:=λl m hl hm=>by simp only[E2,FF hl hm]
  have aax:∀i,i<s.length->E'.φ i=E.φ (f i):=λi hi=>(ex.lL (by omega)).trans (eφ i hi)
  have hle:E.le E2:=by
   refine⟨λ{l b} hl=> ?_,λ{b o u} hl=>ex.le.S hl,λ{t m z} hl=> ?_⟩
   ·cases hi:qm s H.length l with
    |none=>simp only[E2,hi];exact hl
    |some i=>
     have e:=FG hi;by_cases JD:i<s.length
     ·simp only[E2,hi];rw[aax i JD,e];exact hl
     ·have:=Yi JD;rw[(hg.fresh (by omega:H.length<=l)).1]at hl;cases hl
   ·cases hi:qm s H.length t with
    |none=>simp only[E2,hi];exact hl
    |some i=>
     have e:=FG hi;by_cases JD:i<s.length
     ·simp only[E2,hi];exact ex.le.G (by rw[eG i m JD,e];exact hl)
     ·have:=Yi JD;rw[(hg.fresh (by omega:H.length<=t)).2]at hl;cases hl
  have free:∀{l b},l∉s->owns E H l b->∀j,¬owns Es Hs j b:=λ{l b} hm ho j hj=>by
   obtain⟨h1,h2⟩:=back hj;have:=hg.sep h2 ho;exact hm (this▸(Yh h1).2)
  have tq:∀{l b},owns E2 (iR f s sI H) l b->(∃i,l=f i/\owns E' sI i b)∨(l<H.length/\l∉s/\owns E H l b):=λ{l b} ho=>by
   cases hi:qm s H.length l with
   |some i=>
    have e:=FG hi;subst e;exact .inl ⟨i,rfl,(uv (aφ i) (aG i) (AF i)).1 ho⟩
   |none=>
    obtain⟨hl,hm⟩:=BD hi;refine .inr ⟨hl,hm,?_⟩;unfold owns at ho ⊢;rw[pc hl hm]at ho
    cases hH:H[l]? with
    |none=>rw[hH]at ho;exact ho
    |some o=>
     rw[hH]at ho
     cases o with
     |dead=>exact ho
     |cells cs=>simp only at ho ⊢;rwa [oφ l hl hm]at ho
     |tail n sz=>simp only at ho ⊢;simpa only[oG l _ hl hm]using ho
     |cu n=>simp only at ho ⊢;simpa only[oG l _ hl hm]using ho
     |map es=>simp only at ho ⊢;rwa [oφ l hl hm]at ho
     |iter m=>simp only at ho ⊢;rwa [oφ l hl hm]at ho
     |mark k=>simp only at ho ⊢;rwa [oφ l hl hm]at ho
     |ez f v=>simp only at ho ⊢;rwa [oφ l hl hm]at ho
     |cN=>exact ho
     |rows es pd=>
      obtain⟨y,hy,h⟩:=ho;refine⟨y,by rwa [oφ l hl hm]at hy,?_⟩;rcases h with h|⟨i,ss,c',h1,h2⟩
      ·exact .inl h
      ·exact .inr ⟨i,ss,c',h1,by simpa only[oG l _ hl hm]using h2⟩
  have iC:∀{l b},l<H.length->l∉s->owns E H l b->w'.heap[b]? =w.heap[b]? :=λ{l b} hl hm ho=>(ex.stay (hg.fG ho) (free hm ho)).1
  have rφ:∀l b,E'.φ l=some b->E2.φ (f l)=some b:=λl b hb=>(aφ l).trans hb
  have rG:∀t n z,E'.G t n=some z->E2.G (f t) n=some z:=λt n z hz=>(aG t n).trans hz
  have vz:Good E2 (iR f s sI H) w0 w':=by
   refine⟨g'.below,λhs=>g'.snap hs,λ{l o} hl=> ?_,λ{l l' b} h1 h2=> ?_,λ{l} hl=> ?_,λ{l b} hl=> ?_⟩
   ·cases hi:qm s H.length l with
    |some i=>
     have e:=FG hi;subst e;rw[AF i]at hl
     cases ho:sI[i]? with
     |none=>rw[ho]at hl;cases hl
     |some o'=>
      rw[ho]at hl;cases hl;exact(g'.obj ho).UA rφ rG rfl (aφ i) (aG i) (Qe o' (ahf ho))
    |none=>
     obtain⟨sZ,hm⟩:=BD hi;rw[pc sZ hm]at hl;exact(hg.obj hl).step hl hle (λb hb=>by rwa [oφ l sZ hm]at hb) (λm=>oG l m sZ hm) (λb c hb _ hn=>((ex.stay (hg.fG hb) (free hm hb)).2.2 c).trans hn) (λb hb=>iC sZ hm hb)
   ·rcases tq h1 with ⟨i,rfl,o1⟩|⟨p1,p2,o1⟩<;>rcases tq h2 with ⟨j,rfl,o2⟩|⟨q1,q2,o2⟩
    ·rw[g'.sep o1 o2]
    ·exact absurd o1 ((ex.stay (hg.fG o2) (free q2 o2)).2.1 i)
    ·exact absurd o2 ((ex.stay (hg.fG o1) (free p2 o1)).2.1 j)
    ·exact hg.sep o1 o2
   ·rw[tz]at hl;have hi:f (s.length+(l-H.length))=l:=by rw[←hf,lY (by omega)];omega
    have:=g'.fresh (l:=s.length+(l-H.length)) (by omega);rw[←hi];exact⟨(aφ _).trans this.1,λn=>(aG _ n).trans (this.2 n)⟩
   ·cases hi:qm s H.length l with
    |some i=>simp only[E2,hi]at hl;exact g'.mb hl
    |none=>simp only[E2,hi]at hl;exact ahz (hg.mb hl) ex.size.heap
  refine⟨E2,?_,⟨hle,ex.size,by rw[tz];omega,λ{l} hl hw=> ?_,λ{l b} hl hw ho=> ?_,λ{l} hl=> ?_,λ{b} hb h0=> ?_⟩,vz⟩
  ·cases re with
   |ret x v hv=>exact .ret _ _ (hv.UA rφ rG rfl)
   |AA x v hv=>exact .AA _ _ (hv.UA rφ rG rfl)
  ·by_cases hm:l∈s
   ·obtain⟨i,hi⟩:=ahT hm;have JD:=(ag5.1 hi).1;have e:f i=l:=by rw[←hf];exact kE hi
    have hiW:i∉W:=λhc=>hw (ahQ.2 ⟨i,hc,e⟩)
    rw[←e,AF i,AO i JD];rw[ex.same (by omega) hiW]
   ·exact pc hl hm
  ·by_cases hm:l∈s
   ·obtain⟨i,hi⟩:=ahT hm;have JD:=(ag5.1 hi).1;have e:f i=l:=by rw[←hf];exact kE hi
    have hiW:i∉W:=λhc=>hw (ahQ.2 ⟨i,hc,e⟩)
    subst e;exact ex.iX (by omega) hiW ((uv (eφ i JD).symm (λn=>(eG i n JD).symm) (AO i JD)).1 ho)
   ·exact iC hl hm ho
  ·cases hi:qm s H.length l with
   |none=>simp only[E2,hi]
   |some i=>
    have e:=FG hi;by_cases JD:i<s.length
    ·simp only[E2,hi];rw[aax i JD,e]
    ·have:=Yi JD;omega
  ·have eU:∀j,¬owns Es Hs j b:=λj hj=>h0 _ (back hj).2
   have gY:=ex.stay hb eU;refine⟨gY.1,λl ho=> ?_,λo=>gY.2.2 o⟩;rcases tq ho with ⟨i,_,o1⟩|⟨_,_,o1⟩
   ·exact gY.2.1 i o1
   ·exact h0 l o1
 ·by_cases hs:l∈s
  ·obtain⟨i,hi⟩:=ahT hs;have JD:=(ag5.1 hi).1;have e:nM s H.length i=l:=kE hi;have hiW:i∉W:=λhc=>hm (ahQ.2 ⟨i,hc,e⟩)
   have:=BF (f:=nM s H.length) (H:=H) lU cO ix i;rw[←e,this,e,mP i l hi,h.2.2.2 i (by omega) hiW]
  ·exact pc hl hs
theorem y4 {P:Program}{g:FuncId}{args:List AV}{x:AV}{Hs sI:aa}{W:List Nat}(h:bZ P g args x Hs sI W){H:aa}{s:List Nat}(lU:s.Nodup) (hk:s.length=Hs.length) (mP:∀(i l:Nat),s[i]? =some l->H[l]? =(Hs[i]?).map (kf (nM s H.length)))
  (dn:dG Hs.length args=true) (Ni:∀o∈Hs,cH Hs.length o=true/\gn o=true) (Qe:∀o∈sI,gn o=true):
  bZ P g (kr (nM s H.length) args) (fK (nM s H.length) x) H (iR (nM s H.length) s sI H) (W.map (nM s H.length)):=Da (out:= .ret x) h lU hk mP dn Ni Qe
def Db (n:Nat) (q:List Nat) (i:Nat):Nat:=if i<n then i else q.getD (i-n) 0
theorem Qf {n:Nat}{q:List Nat}(lU:q.Nodup) (XA:∀l∈q,n<=l){i j:Nat}(hi:i<n+q.length) (hj:j<n+q.length) (h:Db n q i=Db n q j):i=j:=by
 unfold Db at h;by_cases mP:i<n<;>by_cases sv:j<n
 ·rw[if_pos mP,if_pos sv]at h;exact h
 ·rw[if_pos mP,if_neg sv]at h;have hl:j-n<q.length:=by omega
  have e:q.getD (j-n) 0=q[j-n]:=by simp[ag4,hl]
  have:=XA _ (ahG hl);omega
 ·rw[if_neg mP,if_pos sv]at h;have hl:i-n<q.length:=by omega
  have e:q.getD (i-n) 0=q[i-n]:=by simp[ag4,hl]
  have:=XA _ (ahG hl);omega
 ·rw[if_neg mP,if_neg sv]at h;have hl:j-n<q.length:=by omega
  have sZ:i-n<q.length:=by omega
  have e:q.getD (j-n) 0=q[j-n]:=by simp[ag4,hl]
  have e':q.getD (i-n) 0=q[i-n]:=by simp[ag4,sZ]
  rw[e,e']at h;have pw:=List.pairwise_iff_getElem.1 lU;rcases Nat.lt_trichotomy (i-n) (j-n)with mo|mo|mo
  ·exact absurd h (pw _ _ sZ hl mo)
  ·omega
  ·exact absurd h.symm (pw _ _ hl sZ mo)
structure Sel (W:List Nat) (H H1 H2:aa) (q:List Nat):Prop where
 nd:q.Nodup
 ge:∀l∈q,H.length<=l
 len:H2.length=H.length+q.length
 obj:∀(i:Nat) (o:bu),H2[i]? =some o->H1[Db H.length q i]? =some (kf (Db H.length q) o)/\cH H2.length o=true/\gn o=true
 lL:∀l,l<H.length->l∉W->H2[l]? =H[l]?
theorem Nj {E E':Env}{H H1 H2:aa}{w0 w w':World}{n0:Nat}{W:Nat->Prop}{Wr q:List Nat}(hs:Sel Wr H H1 H2 q) (hW:∀l∈Wr,l<n0->W l) (hn:n0<=H.length) (hg:Good E H w0 w) (ex:Ext n0 W E H w E' H1 w') (g:Good E' H1 w0 w') (pP:∀l,l<n0->¬W l->H2[l]? =H[l]?):
  ∃E2,Ext n0 W E H w E2 H2 w'/\Good E2 H2 w0 w'/\∀(y:AV) (v:Value),Rel E' (fK (Db H.length q) y) v->ff H2.length y=true->Rel E2 y v:=by
 let f:=Db H.length q
 have Yg:∀{i j},i<H2.length->j<H2.length->f i=f j->i=j:=λ{i j} hi hj h=>Qf hs.nd hs.ge (hs.len▸hi) (hs.len▸hj) h
 have fold:∀{i},i<H.length->f i=i:=λ{i} hi=>if_pos hi
 let E2:Env:={ φ:=λi=>if i<H2.length then E'.φ (f i)else none,S:=E'.S,G:=λt m=>if t<H2.length then E'.G (f t) m else none}
 have eφ:∀l,l<H2.length->E2.φ l=E'.φ (f l):=λl hl=>by simp[E2,hl]
 have eG:∀t n,t<H2.length->E2.G t n=E'.G (f t) n:=λt n hl=>by simp[E2,hl]
 have hlen:H.length<=H2.length:=by rw[hs.len];omega
 have back:∀{j b},owns E2 H2 j b->j<H2.length/\owns E' H1 (f j) b:=λ{j b} ho=>by
  have hj:=my ho;refine⟨hj,(uv (eφ j hj).symm (λn=>(eG j n hj).symm) ?_).2 ho⟩;have hx:H2[j]? =some H2[j]:=ahc hj;rw[(hs.obj j _ hx).1,hx];rfl
 refine⟨E2,⟨⟨λ{l b} hl=> ?_,λ{b o u} hl=>ex.le.S hl,λ{t m z} hl=> ?_⟩,ex.size,hlen,λ{l} hl hw=>pP l hl hw,λhl hw ho=>ex.iX hl hw ho,λ{l} hl=> ?_,λ{b} hb h0=> ?_⟩,⟨g.below,λh=>g.snap h,λ{i o} hi=> ?_,λ{l l' b} h1 h2=> ?_,λ{l} hl=> ?_,λ{l b} hl=> ?_⟩,λy v hr hl=>hr.y3 (k:=H2.length) eφ eG rfl y rfl hl⟩
 ·have cO:l<H.length:=by
   apply ahW;intro hc;rw[(hg.fresh (ah9 hc)).1]at hl;cases hl
  rw[eφ l (by omega),fold cO];exact ex.le.φ hl
 ·have cO:t<H.length:=by
   apply ahW;intro hc;rw[(hg.fresh (ah9 hc)).2]at hl;cases hl
  rw[eG t m (by omega),fold cO];exact ex.le.G hl
 ·rw[eφ l (by omega),fold hl];exact ex.lL hl
 ·obtain⟨q1,q2,q3⟩:=ex.stay hb h0;exact⟨q1,λl ho=>q2 _ (back ho).2,q3⟩
 ·have cO:=(ag5.1 hi).1;obtain⟨q1,q2,q3⟩:=hs.obj i o hi;exact(g.obj q1).y3 (k:=H2.length) eφ eG rfl cO q3 q2
 ·have b1:=back h1;have b2:=back h2;exact Yg b1.1 b2.1 (g.sep b1.2 b2.2)
 ·have:¬l<H2.length:=by omega
  exact⟨by simp[E2,this],λn=>by simp[E2,this]⟩
 ·simp only[E2]at hl;split at hl
  ·exact g.mb hl
  ·cases hl
theorem bZ.eR {P:Program}{g:FuncId}{args:List AV}{x x2:AV}{H H1 H2:aa}{Wr q:List Nat}(h:bZ P g args x H H1 Wr) (hs:Sel Wr H H1 H2 q) (hx:x=fK (Db H.length q) x2) (hl:ff H2.length x2=true):bZ P g args x2 H H2 Wr:=by
 refine⟨h.1,λE w0 w vs hg hr=>(h.2.1 E w0 w vs hg hr).mono ?_,⟨by rw[hs.len];omega,λl hl hm=>hs.lL l hl hm⟩⟩;rintro e w' ⟨E',re,ex,g'⟩;obtain⟨E2,iK,g2,conv⟩:=Nj (n0:=H.length) (W:=(·∈Wr)) hs (λl hm _=>hm) (ag3 _) hg ex g' (λl hl hw=>hs.lL l hl hw);refine⟨E2,?_,iK,g2⟩
 cases re with
 |ret x v hv=>exact .ret _ _ (conv _ _ (hx▸hv) hl)
mutual
theorem pe {f:Nat->Nat}{n:Nat}(hf:∀l,l<n->f l=l):∀(x:AV),ff n x=true->fK f x=x
 | .any,_=>rfl
 | .sc _,_=>rfl
 | .dO _,_=>rfl
 | .ptr l o,h=>by simp only[ff,decide_eq_true_eq]at h;simp only[fK,hf l h]
 | .cU l,h=>by simp only[ff,decide_eq_true_eq]at h;simp only[fK,hf l h]
 | .fp l i,h=>by simp only[ff,decide_eq_true_eq]at h;simp only[fK,hf l h]
 | .nK l _ _,h=>by simp only[ff,decide_eq_true_eq]at h;simp only[fK,hf l h]
 | .qv l _ _,h=>by simp only[ff,decide_eq_true_eq]at h;simp only[fK,hf l h]
 | .kq l,h=>by simp only[ff,decide_eq_true_eq]at h;simp only[fK,hf l h]
 | .fY l _ _,h=>by simp only[ff,decide_eq_true_eq]at h;simp only[fK,hf l h]
 | .aY nl sz m el .dA,h=>rfl
 | .aY nl sz m el .tight,h=>rfl
 | .aY nl sz m el (.tok t),h=>by simp only[ff,uh,decide_eq_true_eq]at h;simp only[fK,C9,hf t h]
 | .aY nl sz m el (.off t k),h=>by simp only[ff,uh,decide_eq_true_eq]at h;simp only[fK,C9,hf t h]
 | .fn g a b,h=>by simp only[ff,ahp]at h;simp only[fK,lg hf a h.1,lg hf b h.2]
 | .lD t x,h=>by simp only[ff]at h;simp only[fK,pe hf x h]
 | .agg cs,h=>by simp only[ff]at h;simp only[fK,lg hf cs h]
 | .bq cs,h=>by simp only[ff]at h;simp only[fK,lg hf cs h]
theorem lg {f:Nat->Nat}{n:Nat}(hf:∀l,l<n->f l=l):∀(xs:List AV),dG n xs=true->kr f xs=xs
 |[],_=>rfl
 |x::r,h=>by simp only[dG,ahp]at h;simp only[kr,pe hf x h.1,lg hf r h.2]
end
theorem pf {f:Nat->Nat}{n:Nat}(hf:∀l,l<n->f l=l) (o:bu) (h:cH n o=true):kf f o=o:=by
 cases o with
 |cells cs=>simp only[cH]at h;simp only[kf,lg hf cs h]
 |map es=>
  simp only[cH,ahq]at h;simp only[kf,bu.map.injEq]
  conv=>rhs;rw[←List.map_id es]
  exact ahV (λe he=>by rw[pe hf e.2 (h e he)];rfl)
 |_=>rfl
theorem kg {P:Program}{g:FuncId}{args:List AV}{x:AV}{H H1 H2:aa}{W:List Nat}(h:bZ P g args x H H1 W) (e:H1.take H.length=H2) (hb:∀o∈H2,cH H.length o=true/\gn o=true) (hx:ff H.length x=true):bZ P g args x H H2 W:=by
 have hlen:H2.length=H.length:=by rw[←e,List.length_take];have:=h.2.2.1;omega
 have hf:∀l,l<H.length->Db H.length [] l=l:=λl hl=>if_pos hl
 have get:∀l,l<H.length->H2[l]? =H1[l]? :=λl hl=>by rw[←e,ahI,if_pos hl]
 refine h.eR (q:=[]) ⟨.nil,λl hl=>by simp at hl,by simp[hlen],λi o hi=> ?_,λl hl hm=>(get l hl).trans (h.2.2.2 l hl hm)⟩ ?_ (by rw[hlen];exact hx)
 ·have cO:i<H.length:=by rw[←hlen];exact(ag5.1 hi).1
  have oP:=hb o (ahf hi);rw[hf i cO,←get i cO,hi,pf hf o oP.1,hlen];exact⟨rfl,oP⟩
 ·rw[pe hf x hx]
theorem qP {n:Nat}{x:AV}(h:LF x):ff n x=true:=by
 have ext:∀xs:List AV,(∀x∈xs,ff n x=true)->dG n xs=true:=by
  intro xs
  induction xs with
  |nil=>exact λ_=>rfl
  |cons x r ih=>exact λh=>by simp only[dG,h x (ahD ..),ih (λy hy=>h y (ahn _ hy)),Bool.and_self]
 induction h with
 |any=>rfl
 |sc v=>rfl
 |dO cs=>rfl
 |aY nl sz n' el own h=>
  cases own with
  |dA=>rfl
  |tight=>rfl
  |tok t=>simp at h
  |off t k=>simp at h
 |fn g a b h1 h2 i1 i2=>simp only[ff,ext a i1,ext b i2,Bool.and_self]
 |lD t x h ih=>simp only[ff,ih]
 |agg cs h ih=>simp only[ff,ext cs ih]
 |bq cs h ih=>simp only[ff,ext cs ih]
inductive Lone:bu->Prop where
 |dead:Lone .dead
 |cN:Lone .cN
 |tail (n sz:Nat):Lone (.tail n sz)
theorem Lone.lb {o:bu}(h:Lone o) (n:Nat):cH n o=true/\gn o=true:=by cases h<;>exact⟨rfl,rfl⟩
inductive aaz:AV->Prop where
 |row (nl:Bool) (sz n:Nat) (el:Nat->List AV) (own:Own):aaz (.aY nl sz n el own)
end Go.Proofs.YtiipaliigpkfhaaGreat.Ab
namespace Go.Proofs.YtiipaliigpkfhaaGreat.Ab
open Go Go.RowKit Go.Proofs Go.Proofs.Tryz
theorem mixed:prog.follows .mixedOrders=true:=by kernel_rfl
def dy (b:UInt8):List AV:=[.sc (.int .u8 (b.toNat:Int))]
def UD (nl:Bool) (l:List UInt8):AV:= .aY nl 1 l.length (λi=>(l.map dy).getD i []) .dA
end Go.Proofs.YtiipaliigpkfhaaGreat.Ab
namespace Go.Proofs.YtiipaliigpkfhaaGreat.Ab
open Go Go.RowKit Go.ChangeShapes Go.Proofs Go.Proofs.Tryz
def Env.lL (W:World):Env:={ φ:=λ_=>none,S:=λb o=>W.cell? ⟨b,o,none⟩,G:=λ_ _=>none}
theorem Qg (W:World):Good (Env.lL W) [] W W:=by
 refine⟨.refl _ _,λh=>h,λ{l o} h=>by simp at h,λ{l l' b} h=> ?_,λ_=>⟨rfl,λ_=>rfl⟩,λh=>by cases h⟩;unfold owns at h;simp at h
def Told (W:World) (xs:List AV) (cs:List Value):Prop:=cs.length=xs.length/\∀(j:Nat) (a:AV),xs[j]? =some a->lQ a=true/\Rel (Env.lL W).data a (cs.getD j undef)
theorem Told.one {W:World}{a:AV}{v:Value}(h:lQ a=true) (k:Rel (Env.lL W).data a v):Told W [a] [v]:=
 ⟨rfl,λj x hj=>by
  match j,hj with
  |0,hj=>simp at hj;subst hj;exact⟨h,k⟩⟩
theorem Told.append {W:World}{xs bs:List AV}{cs ds:List Value}(h:Told W xs cs) (k:Told W bs ds):Told W (xs++bs) (cs++ds):=by
 refine⟨by simp[h.1,k.1],λj a hj=> ?_⟩;by_cases hl:j<xs.length
 ·rw[ahb hl]at hj;have:=h.2 j a hj;rw[ag4,ahb (by rw[h.1];exact hl)];simpa [ag4]using this
 ·rw[ahi (by omega)]at hj;have:=k.2 _ a hj;rw[ag4,ahi (by rw[h.1];omega),h.1];simpa [ag4]using this
theorem BG {α:Type}{Q:Nat->α->Prop}:∀(n:Nat),(∀i,i<n->∃a,Q i a)->∃l:List α,l.length=n/\∀i a,l[i]? =some a->Q i a
 |0,_=>⟨[],rfl,λi a h=>by simp at h⟩
 |n+1,h=>by
  obtain⟨l,hl,hq⟩:=BG n (λi hi=>h i (by omega));obtain⟨a,ha⟩:=h n (by omega);refine⟨l++[a],by simp[hl],λi x hx=> ?_⟩;by_cases hi:i<l.length
  ·rw[ahb hi]at hx;exact hq i x hx
  ·rw[ahi (by omega)]at hx;have hi0:i-l.length=0:=by
    have:=(ag5.1 hx).1;simp at this;omega
   rw[hi0]at hx;simp at hx;subst hx;rw[show i=n by omega];exact ha
section
variable {H:Type}{enc:TypeId×Value->H}{P:Program}{W:World}{held:Bool}
end
theorem aaA {n:Int}(h:(Lit.int .u8 n).wf=true):(((UInt8.ofNat n.toNat).toNat:Nat):Int)=n:=by
 have:0<=n/\n<256:=by
  simp only[Lit.wf,ahp,decide_eq_true_eq]at h;have h1:IntKind.u8.min=0:=by decide
  have h2:IntKind.u8.max=255:=by decide
  omega
 simp only[UInt8.toNat_ofNat'];omega
section
variable {H:Type}{enc:TypeId×Value->H}{W:World}{held:Bool}{fuel:Nat}{cs:List Value}{x:DataW H×List MemPlace}
theorem kh {t o k n:Nat}{r:Option (DataW H×List MemPlace)}(h:DataW.trod enc prog W 0 (λ_=>true) held n t ((cs.drop o).take (prog.cellsOf t))=r) (hs:prog.cellsOf t=k):DataW.trod enc prog W 0 (λ_=>true) held n t ((cs.drop o).take k)=r:=hs▸h
theorem Told.agg {xs:List AV}{us:Array Value}(h:Told W xs us.toList):Rel (Env.lL W) (.agg xs) (.agg us):=by
 refine .agg xs us (by simpa using h.1) (λj a hj=> ?_);have:=(h.2 j a hj).2.mono (Env.xD _);simpa [ahh,ag4]using this
theorem Dc {f:FuncId}{xs:List AV}{args:Array Value}{H1:aa}{Wr:List Nat}{u:Value}(h:bZ prog f xs (.sc u) [] H1 Wr) (hr:ji (Env.lL W) xs args):
  Calls prog f args W λe W'=>e= .returned u/\Below W.heap.size W W':=by
 refine(h.2.1 (Env.lL W) W W args (Qg W) hr).mono ?_;rintro e W' ⟨E',re,ex,g⟩
 cases re with
 |ret x v hv=>
  cases hv;exact⟨rfl,g.below⟩
end
structure jh where
 nl:Bool
 l:List UInt8
 deriving Inhabited
def jh.av (b:jh):AV:=UD b.nl b.l
structure nZ where
 nl:Bool
 l:List Int
 deriving Inhabited
def nZ.av (b:nZ):AV:= .aY b.nl 1 b.l.length (λi=>[.sc (.int .i64 (b.l.getD i 0))]) .dA
structure bD where
 nl:Bool
 l:List ByteArray
 deriving Inhabited
def bD.av (b:bD):AV:= .aY b.nl 1 b.l.length (λi=>[.sc (.string (b.l.getD i ⟨#[]⟩))]) .dA
structure aX (α:Type) where
 nl:Bool
 l:List α
 deriving Inhabited
def aX.av {α:Type} [Inhabited α] (r:aX α) (sz:Nat) (f:α->List AV):AV:= .aY r.nl sz r.l.length (λi=>f (r.l.getD i default)) .dA
theorem uw {W:World}{nl:Bool}{sz n:Nat}{el:Nat->List AV}{own:Own}{cs:List Value}(h:Told W [.aY nl sz n el own] cs):nl=true->n=0:=by
 intro hn;subst hn;have:=(h.2 0 _ rfl).2;generalize cs.getD 0 undef=v at this
 cases this with
 |fw=>rfl
theorem y5 {α:Type}(f:α->List AV) (g:Nat->List AV) (l:List α) (h:∀i x,l[i]? =some x->g i=f x):∀i,i<l.length->(l.map f).getD i []=g i:=by
 intro i hi;have hx:l[i]? =some l[i]:=ahc hi;rw[h i _ hx];simp[ag4,hi]
theorem Told.wk1 {W:World}{a b:AV}{cs:List Value}(h:Told W [a] cs) (w:ev a b) (ho:lQ b=true):Told W [b] cs:=by
 refine⟨by simpa using h.1,λj x hj=> ?_⟩
 match j,hj with
 |0,hj=>simp at hj;subst hj;exact⟨ho,w _ _ (h.2 0 _ rfl).2⟩
structure dY where
 lo:Int
 hi:Int
 deriving Inhabited
def dY.cells (d:dY):List AV:=[.sc (.int .i64 d.lo),.sc (.int .i64 d.hi)]
def dY.ok (d:dY):Prop:=(Lit.int .i64 d.lo).wf=true/\(Lit.int .i64 d.hi).wf=true
structure aP where
 name:ByteArray
 cc:Int
 label:Int
 mg:Int
 eA:ByteArray
 cp:ByteArray
 pg:ByteArray
 has:Bool
 lN:Int
 json:ByteArray
 optional:Bool
 opts:jh
 dE:jh
 deriving Inhabited
def aP.cells (d:aP):List AV:=[.sc (.string d.name),.sc (.int .i64 d.cc),.sc (.int .i64 d.label),.sc (.int .i64 d.mg),.sc (.string d.eA),.sc (.string d.cp),.sc (.string d.pg),.sc (.bool d.has),.sc (.int .i64 d.lN),.sc (.string d.json),.sc (.bool d.optional),d.opts.av,d.dE.av]
def aP.ok (d:aP):Prop:=(Lit.int .i64 d.cc).wf=true/\(Lit.int .i64 d.label).wf=true/\(Lit.int .i64 d.mg).wf=true/\(Lit.int .i64 d.lN).wf=true/\(d.opts.nl=true->d.opts.l.length=0)/\(d.dE.nl=true->d.dE.l.length=0)
structure eT where
 name:ByteArray
 cc:Int
 opts:jh
 dE:jh
 deriving Inhabited
def eT.cells (d:eT):List AV:=[.sc (.string d.name),.sc (.int .i64 d.cc),d.opts.av,d.dE.av]
def eT.ok (d:eT):Prop:=(Lit.int .i64 d.cc).wf=true/\(d.opts.nl=true->d.opts.l.length=0)/\(d.dE.nl=true->d.dE.l.length=0)
structure cF where
 name:ByteArray
 opts:jh
 dE:jh
 deriving Inhabited
def cF.cells (d:cF):List AV:=[.sc (.string d.name),d.opts.av,d.dE.av]
def cF.ok (d:cF):Prop:=(d.opts.nl=true->d.opts.l.length=0)/\(d.dE.nl=true->d.dE.l.length=0)
structure cM where
 name:ByteArray
 ins:ByteArray
 outs:ByteArray
 Yj:Bool
 server:Bool
 opts:jh
 dE:jh
 deriving Inhabited
def cM.cells (d:cM):List AV:=[.sc (.string d.name),.sc (.string d.ins),.sc (.string d.outs),.sc (.bool d.Yj),.sc (.bool d.server),d.opts.av,d.dE.av]
def cM.ok (d:cM):Prop:=(d.opts.nl=true->d.opts.l.length=0)/\(d.dE.nl=true->d.dE.l.length=0)
structure bt where
 name:ByteArray
 aM:aX eT
 opts:jh
 dE:jh
 deriving Inhabited
def bt.cells (d:bt):List AV:=[.sc (.string d.name),d.aM.av 4 eT.cells,d.opts.av,d.dE.av]
def bt.ok (d:bt):Prop:=(d.aM.nl=true->d.aM.l.length=0)/\(∀y∈d.aM.l,eT.ok y)/\(d.opts.nl=true->d.opts.l.length=0)/\(d.dE.nl=true->d.dE.l.length=0)
structure bN where
 name:ByteArray
 aO:aX cM
 opts:jh
 dE:jh
 deriving Inhabited
def bN.cells (d:bN):List AV:=[.sc (.string d.name),d.aO.av 7 cM.cells,d.opts.av,d.dE.av]
def bN.ok (d:bN):Prop:=(d.aO.nl=true->d.aO.l.length=0)/\(∀y∈d.aO.l,cM.ok y)/\(d.opts.nl=true->d.opts.l.length=0)/\(d.dE.nl=true->d.dE.l.length=0)
inductive az where
 |mk (name:ByteArray) (af:aX aP) (mN:Bool) (aC:List az) (aQ:aX bt) (bB:aX dY) (exts:aX aP) (aI:aX cF) (bp:aX dY) (bY:bD) (opts dE:jh)
instance:Inhabited az:=⟨.mk default default false [] default default default default default default default default⟩
mutual
def az.cells:az->List AV
 | .mk name af mN aC aQ bB exts aI bp bY opts dE=>[.sc (.string name),af.av 13 aP.cells,.aY mN 11 aC.length (λi=>(az.mE aC).getD i []) .dA,aQ.av 4 bt.cells,bB.av 2 dY.cells,exts.av 13 aP.cells,aI.av 3 cF.cells,bp.av 2 dY.cells,bY.av,opts.av,dE.av]
def az.mE:List az->List (List AV)
 |[]=>[]
 |m::r=>az.cells m::az.mE r
end
theorem az.ph:∀l,az.mE l=l.map az.cells
 |[]=>by simp[az.mE]
 |m::r=>by simp[az.mE,az.ph r]
mutual
def az.ok:az->Prop
 | .mk name af mN aC aQ bB exts aI bp bY opts dE=>(af.nl=true->af.l.length=0)/\(∀y∈af.l,aP.ok y)/\(mN=true->aC.length=0)/\az.xN aC/\(aQ.nl=true->aQ.l.length=0)/\(∀y∈aQ.l,bt.ok y)/\(bB.nl=true->bB.l.length=0)/\(∀y∈bB.l,dY.ok y)/\(exts.nl=true->exts.l.length=0)/\(∀y∈exts.l,aP.ok y)/\(aI.nl=true->aI.l.length=0)/\(∀y∈aI.l,cF.ok y)/\(bp.nl=true->bp.l.length=0)/\(∀y∈bp.l,dY.ok y)/\(bY.nl=true->bY.l.length=0)/\(opts.nl=true->opts.l.length=0)/\(dE.nl=true->dE.l.length=0)
def az.xN:List az->Prop
 |[]=>True
 |m::r=>az.ok m/\az.xN r
end
theorem az.Qh:∀l:List { m:az // m.ok},az.xN (l.map (·.1))
 |[]=>by simp[az.xN]
 |x::r=>by simp only[ahJ,az.xN];exact⟨x.2,az.Qh r⟩
structure ag where
 name:ByteArray
 cG:ByteArray
 cm:bD
 ey:nZ
 ay:aX az
 aQ:aX bt
 aL:aX bN
 exts:aX aP
 rP:ByteArray
 opts:jh
 dE:jh
 deriving Inhabited
def ag.cells (d:ag):List AV:=[.sc (.string d.name),.sc (.string d.cG),d.cm.av,d.ey.av,d.ay.av 11 az.cells,d.aQ.av 4 bt.cells,d.aL.av 4 bN.cells,d.exts.av 13 aP.cells,.sc (.string d.rP),d.opts.av,d.dE.av]
def ag.ok (d:ag):Prop:=(d.cm.nl=true->d.cm.l.length=0)/\(d.ey.nl=true->d.ey.l.length=0)/\(d.ay.nl=true->d.ay.l.length=0)/\(∀y∈d.ay.l,az.ok y)/\(d.aQ.nl=true->d.aQ.l.length=0)/\(∀y∈d.aQ.l,bt.ok y)/\(d.aL.nl=true->d.aL.l.length=0)/\(∀y∈d.aL.l,bN.ok y)/\(d.exts.nl=true->d.exts.l.length=0)/\(∀y∈d.exts.l,aP.ok y)/\(d.opts.nl=true->d.opts.l.length=0)/\(d.dE.nl=true->d.dE.l.length=0)
theorem aaB {α:Type}{Q:α->Prop}(l:List { x:α // Q x}):∀y∈l.map (·.1),Q y:=by
 intro y hy;obtain⟨z,_,rfl⟩:=ahQ.1 hy;exact z.2
section
variable {H:Type}{enc:TypeId×Value->H}{W:World}{held:Bool}{fuel:Nat}{cs:List Value}{x:DataW H×List MemPlace}
theorem lh {t:TypeId}(ht:prog.underlying t=some (.int .i64)) (h:DataW.trod enc prog W 0 (λ_=>true) held fuel t cs=some x):∃n:Int,(Lit.int .i64 n).wf=true/\Told W [.sc (.int .i64 n)] cs:=by
 obtain⟨k,rfl,_,hw⟩:=DataW.trod_int ht h;exact⟨k,hw,.one rfl (.sc _ rfl)⟩
theorem rQ (h:DataW.trod enc prog W 0 (λ_=>true) held fuel 4 cs=some x):∃b:Bool,Told W [.sc (.bool b)] cs:=by
 obtain⟨b,rfl,_⟩:=DataW.trod_bool underlying4 h;exact⟨b,.one rfl (.sc _ rfl)⟩
theorem dY.dJ (d:dY):d.cells.length=2:=rfl
theorem aP.dJ (d:aP):d.cells.length=13:=rfl
theorem eT.dJ (d:eT):d.cells.length=4:=rfl
theorem cF.dJ (d:cF):d.cells.length=3:=rfl
theorem cM.dJ (d:cM):d.cells.length=7:=rfl
theorem bt.dJ (d:bt):d.cells.length=4:=rfl
theorem bN.dJ (d:bN):d.cells.length=4:=rfl
theorem az.dJ (d:az):d.cells.length=11:=by cases d;simp[az.cells]
theorem ag.dJ (d:ag):d.cells.length=11:=rfl
end
def aaC:FuncId->List AV->aa->Option (AV×aa×List Nat):=λ_ _ _=>none
def y6:Ev (AV×aa×List Nat)->Bool
 | .ok (.sc (.bool true),_,_)=>true
 |_=>false
theorem FH {r:Ev (AV×aa×List Nat)}(h:y6 r=true):∃H W,r= .ok (.sc (.bool true),H,W):=by
 unfold y6 at h;split at h
 ·exact⟨_,_,rfl⟩
 ·cases h
theorem FI (H:aa):bZ prog 14 [] (.sc (.bool true)) H H []:=by
 have h:y6 (X3 prog aaC 40 14 [] [])=true:=by kernel_rfl
 obtain⟨H1,W,h1⟩:=FH h;exact rK (Jf mixed (λ_ _ _ _ _ _ h=>by cases h) 40 _ _ _ _ _ _ h1) (λa ha=>by simp at ha) H
def tA (k:Nat):Code->Option Code
 | .loop c=>if kz c=some k then some c else tA k c
 | .seq a b=>match tA k a with
  |some c=>some c
  |none=>tA k b
 | .block _ c=>tA k c
 | .cond _ a b=>match tA k a with
  |some c=>some c
  |none=>tA k b
 |_=>none
def ae (f:Func) (k:Nat):Code:=((f.body.bind (tA k)).getD .skip)
def i64 (n:Int):AV:= .sc (.int .i64 n)
section
variable (all deep:Int) (a b:Bool) (ls nv:Nat) (fs gs:Nat->List AV) (u27 u28:Value)
end
section
variable (all deep:Int) (a:Bool) (ls:Nat) (fs:Nat->List AV)
end
theorem bZ.W6 {P:Program}{g:FuncId}{args:List AV}{x y:AV}{H H1:aa}{W:List Nat}(h:bZ P g args x H H1 W) (w:ev x y):bZ P g args y H H1 W:=by
 refine⟨h.1,λE w0 w1 vs hg hr=>(h.2.1 E w0 w1 vs hg hr).mono ?_,h.2.2⟩;rintro e w' ⟨E',re,ex,g⟩
 cases re with
 |ret x v hv=>exact⟨E',.ret _ _ (w _ _ hv),ex,g⟩
theorem Dd {P:Program}{g:FuncId}{args:List AV}{x:AV}{H1:aa}(h:bZ P g args x [] H1 []) (hx:LF x) (hx0:ff 0 x=true) (dn:dG 0 args=true) (H:aa):bZ P g args x H H []:=by
 have:=mC (tp h hx) dn hx0 (λo ho=>by simp at ho) H;simpa using this
def Zr (k:IntKind) (x y:Int):Int:=k.wrap ((BitVec.ofInt k.bits x|||BitVec.ofInt k.bits y).toNat:Int)
theorem kG (N:Int):IntKind.wrap .u64 N=N % 18446744073709551616:=by simp[IntKind.wrap,IntKind.bits,IntKind.signed]
def ee (nl:Bool) (n:Nat) (x:Nat->Int):AV:= .aY nl 1 n (λi=>[.sc (.int .u8 (x i))]) .dA
def De (k:IntKind) (x y:Int):Int:=k.wrap ((BitVec.ofInt k.bits x&&& BitVec.ofInt k.bits y).toNat:Int)
def iI (u k e:Int):AV:= .bq [.sc (.int .u64 u),.sc (.int .i64 k),.sc (.int .i64 e)]
def ux (acc c:Int) (i:Nat):Int:=Zr .u64 acc (IntKind.wrap .u64 (IntKind.wrap .u64 (De .u8 c 127)*2 ^ (7*i)))
def qQ (n:Nat) (x:Nat->Int):Nat->Nat->Int->Option AV
 |0,_,_=>none
 |k+1,i,acc=>bif ((i:Int)==(n:Int))then some (iI 0 0 10)else bif ((i:Int)==10)then some (iI 0 0 10)else
  bif decide (0<=(i:Int)/\(i:Int)<(n:Int))then
   bif (bif ((i:Int)==9)then decide (x i>1)else false)then some (iI 0 0 10)else
    bif (De .u8 (x i) 128 !=0)then qQ n x k (i+1) (ux acc (x i) i)else some (iI (ux acc (x i) i) (i+1:Nat) 0)
  else none
def pU (n:Nat) (x:Nat->Int):Nat->Nat->Int->Option AV
 |0,_,_=>none
 |k+1,i,acc=>bif decide ((i:Int)<(n:Int))then
   (bif decide ((i:Int)<10)then
    (bif ((i:Int)==9)then
     bif decide (0<=(i:Int)/\(i:Int)<(n:Int))then
      bif decide (x i>1)then some (iI 0 0 10)else
       bif decide (0<=(i:Int)/\(i:Int)<(n:Int))then bif decide (0<=(i:Int)/\(i:Int)<(n:Int))then bif decide (x i<128)then some (iI (ux acc (x i) i) (i+1:Nat) 0)else pU n x k (i+1) (ux acc (x i) i)else none else none
     else none
    else bif decide (0<=(i:Int)/\(i:Int)<(n:Int))then bif decide (0<=(i:Int)/\(i:Int)<(n:Int))then bif decide (x i<128)then some (iI (ux acc (x i) i) (i+1:Nat) 0)else pU n x k (i+1) (ux acc (x i) i)else none else none)
   else some (iI 0 0 10))
  else some (iI 0 0 10)
theorem JE (nl:Bool) (n:Nat) (x:Nat->Int):(kB prog eZ 14 225 [ee nl n x] []).via ch=qQ n x 11 0 0:=by kernel_rfl
theorem JF (nl:Bool) (n:Nat) (x:Nat->Int):(kB prog eZ 14 156 [ee nl n x] []).via ch=pU n x 11 0 0:=by kernel_rfl
theorem Yk:∀c:Fin 256,(De .u8 (c.val:Int) 128 !=0)= !(decide ((c.val:Int)<128)):=by decide+kernel
theorem UE {c:Int}(h0:0<=c) (h1:c<256):(De .u8 c 128 !=0)= !(decide (c<128)):=by
 have:=Yk ⟨c.toNat,by omega⟩;have e:(((⟨c.toNat,by omega⟩:Fin 256).val:Nat):Int)=c:=by show ((c.toNat:Nat):Int)=c;omega
 rwa [e]at this
theorem y7 (acc c:Int) (i:Nat):0<=ux acc c i/\ux acc c i<18446744073709551616:=by
 unfold ux Zr;rw[kG];omega
def Df (n:Nat) (i:Nat) (a:AV):Prop:=(∃(u:Int) (k:Nat),a=iI u k 0/\i<k/\k<=n/\k<=10/\0<=u/\u<18446744073709551616)∨a=iI 0 0 10
theorem BH (n:Nat) (x:Nat->Int) (hx:∀j,j<n->0<=x j/\x j<256):∀(k i:Nat) (acc:Int),i+k=11->i<=10->i<=n->∃a,qQ n x k i acc=some a/\pU n x k i acc=some a/\Df n i a
 |0,i,acc,hk,hi,_=>absurd hk (by omega)
 |k+1,i,acc,hk,hi,hn=>by
  by_cases h0:i=n
  ·subst h0;have e4:decide ((i:Int)<(i:Int))=false:=by simp
   refine⟨iI 0 0 10,?_,?_,.inr rfl⟩
   ·unfold qQ;simp
   ·unfold pU;rw[e4];rfl
  ·have e1:((i:Int)==(n:Int))=false:=by simp;omega
   have e4:decide ((i:Int)<(n:Int))=true:=by simp;omega
   by_cases h1:i=10
   ·subst h1;refine⟨iI 0 0 10,?_,?_,.inr rfl⟩
    ·unfold qQ;rw[e1];rfl
    ·unfold pU;rw[e4];rfl
   ·have e2:((i:Int)==10)=false:=by simp;omega
    have e3:decide (0<=(i:Int)/\(i:Int)<(n:Int))=true:=by simp;omega
    have e5:decide ((i:Int)<10)=true:=by simp;omega
    obtain⟨xJ,mr⟩:=hx i (by omega);have hb:=UE xJ mr;have go:∃a,(bif decide (x i<128)then some (iI (ux acc (x i) i) (i+1:Nat) 0)else qQ n x k (i+1) (ux acc (x i) i))=some a/\(bif decide (x i<128)then some (iI (ux acc (x i) i) (i+1:Nat) 0)else pU n x k (i+1) (ux acc (x i) i))=some a/\Df n i a:=by
     by_cases hs:x i<128
     ·rw[ag2 hs];exact⟨_,rfl,rfl,.inl ⟨_,i+1,rfl,by omega,by omega,by omega,(y7 _ _ _).1,(y7 _ _ _).2⟩⟩
     ·rw[ag8 hs];obtain⟨a,h1,h2,h3⟩:=BH n x hx k (i+1) (ux acc (x i) i) (by omega) (by omega) (by omega);refine⟨a,h1,h2,?_⟩;rcases h3 with ⟨u,kk,rfl,q1,q2,q3⟩|rfl
      ·exact .inl ⟨u,kk,rfl,by omega,q2,q3⟩
      ·exact .inr rfl
    obtain⟨a,g1,g2,g3⟩:=go;by_cases h9:i=9
    ·have e6:((i:Int)==9)=true:=by simp;omega
     by_cases hc:x i>1
     ·refine⟨iI 0 0 10,?_,?_,.inr rfl⟩
      ·unfold qQ;simp only[e1,e2,e3,e6,ag2 hc,cond_true,cond_false]
      ·unfold pU;simp only[e4,e5,e3,e6,ag2 hc,cond_true,cond_false]
     ·refine⟨a,?_,?_,g3⟩
      ·unfold qQ;simp only[e1,e2,e3,e6,ag8 hc,hb,cond_true,cond_false];rw[←g1];cases decide (x i<128)<;>rfl
      ·unfold pU;simp only[e4,e5,e3,e6,ag8 hc,cond_true,cond_false];exact g2
    ·have e6:((i:Int)==9)=false:=by simp;omega
     refine⟨a,?_,?_,g3⟩
     ·unfold qQ;simp only[e1,e2,e3,e6,hb,cond_true,cond_false];rw[←g1];cases decide (x i<128)<;>rfl
     ·unfold pU;simp only[e4,e5,e3,e6,cond_true,cond_false];exact g2
theorem K5 (n:Nat) (x:Nat->Int):∃a:AV,(∀j,j<n->0<=x j/\x j<256)->qQ n x 11 0 0=some a/\pU n x 11 0 0=some a/\Df n 0 a:=by
 by_cases hx:∀j,j<n->0<=x j/\x j<256
 ·obtain⟨a,h⟩:=BH n x hx 11 0 0 rfl (by omega) (by omega);exact⟨a,λ_=>h⟩
 ·exact⟨.any,λh=>absurd h hx⟩
noncomputable def jv (n:Nat) (x:Nat->Int):AV:=(K5 n x).choose
theorem qR {n:Nat}{x:Nat->Int}(hx:∀j,j<n->0<=x j/\x j<256):qQ n x 11 0 0=some (jv n x)/\pU n x 11 0 0=some (jv n x)/\Df n 0 (jv n x):=(K5 n x).choose_spec hx
theorem UF (u k e:Int):LF (iI u k e):= .bq _ (λx hx=>by
 simp only[ahl,ahr,ahO]at hx;rcases hx with rfl|rfl|rfl<;>exact .sc _)
theorem uy {n:Nat}{x:Nat->Int}(hx:∀j,j<n->0<=x j/\x j<256):LF (jv n x)/\ff 0 (jv n x)=true:=by
 rcases (qR hx).2.2 with ⟨u,k,e,_⟩|e<;>rw[e]<;>exact⟨UF _ _ _,rfl⟩
theorem K6 {P:Program}(hm:P.follows .mixedOrders=true){qj:ts}(tj:qK P qj){lo:FuncId->bX}(hl:∀g,bA P (lo g)){n:Nat}{g:FuncId}{args:List AV}{F:Option AV}{u:AV}(h:(mQ P qj lo n g args []).via ch=F) (hF:F=some u) (hu:LF u) (hu0:ff 0 u=true) (dn:dG 0 args=true) (H:aa):bZ P g args u H H []:=by
 obtain⟨r,hr,he⟩:=cv h hF;have jk:=oZ hm tj hl n g args [] r hr;unfold ch at he;rw[he]at jk;have h0:bZ P g args u [] r.2.1 []:=⟨jk.1,λE w0 w vs hg hr=>(jk.2.1 E w0 w vs hg hr).mono (λe w' ⟨E',re,ex,g⟩=>⟨E',re,ex.weaken (ag3 _) (λl hl _=>absurd hl (ahg _)),g⟩),jk.2.2.1,λl hl=>absurd hl (ahg _)⟩
 exact Dd h0 hu hu0 dn H
theorem Nk {nl:Bool}{n:Nat}{x:Nat->Int}(hx:∀j,j<n->0<=x j/\x j<256) (H:aa):bZ prog 225 [ee nl n x] (jv n x) H H []:=
 K6 mixed (bV _) (λ_=>ab) (JE nl n x) (qR hx).1 (uy hx).1 (uy hx).2 rfl H
theorem Nl {nl:Bool}{n:Nat}{x:Nat->Int}(hx:∀j,j<n->0<=x j/\x j<256) (H:aa):bZ prog 156 [ee nl n x] (jv n x) H H []:=
 K6 mixed (bV _) (λ_=>ab) (JF nl n x) (qR hx).2.1 (uy hx).1 (uy hx).2 rfl H
def BI (y:Nat->Int):Nat->Int
 |0=>0
 |m+1=>Zr .u64 (BI y m) (IntKind.wrap .u64 (IntKind.wrap .u64 (y m)*2 ^ (8*m)))
theorem BJ (nl:Bool) (y:Nat->Int):(kB prog eZ 14 226 [ee nl 8 y] []).via ch=some (.sc (.int .u64 (BI y 8)))/\(kB prog eZ 14 226 [ee nl 4 y] []).via ch=some (.sc (.int .u64 (BI y 4))):=⟨by kernel_rfl,by kernel_rfl⟩
theorem BK (nl:Bool) (y:Nat->Int):(kB prog eZ 14 158 [ee nl 8 y] []).via ch=some (.sc (.int .u64 (BI y 8)))/\(kB prog eZ 14 158 [ee nl 4 y] []).via ch=some (.sc (.int .u64 (BI y 4))):=⟨by kernel_rfl,by kernel_rfl⟩
theorem Dg (nl:Bool) (n:Nat) (y:Nat->Int):LF (ee nl n y):= .aY _ _ _ _ _ (by simp)
theorem xO {nl:Bool}{n:Nat}{y:Nat->Int}:∀a∈[ee nl n y],LF a:=λa ha=>by simp at ha;subst ha;exact Dg _ _ _
theorem FJ (nl:Bool) (y:Nat->Int) (H:aa):bZ prog 226 [ee nl 8 y] (.sc (.int .u64 (BI y 8))) H H []/\bZ prog 226 [ee nl 4 y] (.sc (.int .u64 (BI y 4))) H H []:=
 ⟨yQ mixed (bV _) (BJ nl y).1 rfl xO H,yQ mixed (bV _) (BJ nl y).2 rfl xO H⟩
theorem FK (nl:Bool) (y:Nat->Int) (H:aa):bZ prog 158 [ee nl 8 y] (.sc (.int .u64 (BI y 8))) H H []/\bZ prog 158 [ee nl 4 y] (.sc (.int .u64 (BI y 4))) H H []:=
 ⟨yQ mixed (bV _) (BK nl y).1 rfl xO H,yQ mixed (bV _) (BK nl y).2 rfl xO H⟩
theorem Nn (a b:Int):0<=Zr .u64 a b/\Zr .u64 a b<18446744073709551616:=by
 unfold Zr;rw[kG];omega
theorem No (y:Nat->Int):∀m,0<=BI y m/\BI y m<18446744073709551616
 |0=>by simp[BI]
 |m+1=>Nn _ _
def aaD:AV->AV
 | .aY nl sz n el _=> .aY nl sz n (λi=>bif Nat.blt i n then el i else[]) .dA
 |v=>v
theorem UG (v:AV):ev v (aaD v):=by
 cases v with
 |aY nl sz n el own=>
  refine ev.row (λi hi=> ?_);have:Nat.blt i n=true:=by simpa [Nat.blt_eq]using hi
  rw[this];rfl
 |_=>exact .refl _
def Yl:AV->AV
 | .bq [.agg [a,b,c,d],k,e]=> .bq [.agg [a,b,c,aaD d],k,e]
 |v=>v
theorem K7 (v:AV):ev v (Yl v):=by
 unfold Yl;split
 ·exact .bq (.cons (.agg (.cons (.refl _) (.cons (.refl _) (.cons (.refl _) (.cons (UG _) .nil))))) (.cons (.refl _) (.cons (.refl _) .nil)))
 ·exact .refl _
def aaE (r:AV×aa×List Nat):AV:=Yl r.1
def vH:AV:= .aY true 0 0 (λ_=>[]) .dA
def K8 (num kd nn:Int) (B:AV) (k:Int):AV:= .bq [.agg [i64 num,i64 kd,.sc (.int .u64 nn),B],i64 k,i64 0]
def jK (e:Int):AV:= .bq [.agg [i64 0,i64 0,.sc (.int .u64 0),vH],i64 0,i64 e]
noncomputable def tkL (s1 g0:Nat) (tag e u e2 N:Int) (k k2:Nat):FuncId->bX:=λg=>if g=g0 then told prog [] [⟨s1,0,iI tag k e⟩,⟨63,0,.sc (.int .u64 N)⟩,⟨71,0,iI u k2 e2⟩]else aN
theorem Qi {s1 g0:Nat}{tag e u e2 N:Int}{k k2:Nat}(g:FuncId):bA prog (tkL s1 g0 tag e u e2 N k k2 g):=by
 unfold tkL;split
 ·exact aF
 ·exact ab
section
variable (nl:Bool) (n:Nat) (x:Nat->Int) (tag e u e2 N:Int) (k k2:Nat)
noncomputable def r9 (c:FuncId) (num kd:Int) (sz:Nat):Option AV:=
 bif decide (((n-k:Nat):Int)<(sz:Int))then some (jK 21)else bif decide ((0:Int)<=0/\(0:Int)<=(sz:Int)/\(sz:Int)<=((n-k:Nat):Int))then
  bif aD prog c [ee nl sz (λi=>x (i+k))] [] (.sc (.int .u64 N))then some (K8 num kd N vH (IntKind.wrap .i64 ((k:Int)+(sz:Int))))else none else none
noncomputable def pj (c:FuncId) (num kd:Int) (empty:AV):Option AV:=
 bif aD prog c [ee nl (n-k) (λi=>x (i+k))] [] (iI u k2 e2)then bif (e2 !=0)then some (jK e2)else
  bif (kd==0)then some (K8 num kd u vH (IntKind.wrap .i64 ((k:Int)+(k2:Int))))else
  bif decide (u>IntKind.wrap .u64 (IntKind.wrap .i64 (((n-k:Nat):Int)-(k2:Int))))then some (jK 21)else
  bif decide ((0:Int)<=(k2:Int)/\(k2:Int)<=IntKind.wrap .i64 ((k2:Int)+IntKind.wrap .i64 u)/\IntKind.wrap .i64 ((k2:Int)+IntKind.wrap .i64 u)<=((n-k:Nat):Int))then
   bif decide ((IntKind.wrap .i64 ((k2:Int)+IntKind.wrap .i64 u)).toNat-k2=0)then some (K8 num kd 0 empty (IntKind.wrap .i64 (IntKind.wrap .i64 ((k:Int)+(k2:Int))+IntKind.wrap .i64 u)))else
   bif decide ((0+((IntKind.wrap .i64 ((k2:Int)+IntKind.wrap .i64 u)).toNat-k2))*1<=70368744177664/\0+((IntKind.wrap .i64 ((k2:Int)+IntKind.wrap .i64 u)).toNat-k2)<4611686018427387904)then
    some (K8 num kd 0 (.aY false 1 (0+((IntKind.wrap .i64 ((k2:Int)+IntKind.wrap .i64 u)).toNat-k2)) (λi=>bif Nat.blt i (0+((IntKind.wrap .i64 ((k2:Int)+IntKind.wrap .i64 u)).toNat-k2))then[.sc (.int .u8 (x (i+k2+k)))]else[]) .dA) (IntKind.wrap .i64 (IntKind.wrap .i64 ((k:Int)+(k2:Int))+IntKind.wrap .i64 u)))else none
  else none
 else none
def jL (z:Option AV):Option AV:=bif decide ((0:Int)<=(k:Int)/\(k:Int)<=(n:Int)/\(n:Int)<=(n:Int))then z else none
def uz (num:Int) (z:Option AV):Option AV:=bif (tag.fdiv (2 ^ 32)!=0)then some (jK 20)else bif (num==0)then some (jK 20)else z
noncomputable def y8 (num kd:Int):Option AV:=
 bif (kd==1)then uz tag num (jL n k (r9 nl n x N k 226 num kd 8))else bif (kd==5)then uz tag num (jL n k (r9 nl n x N k 226 num kd 4))else
 bif (kd==0)then uz tag num (jL n k (pj nl n x u e2 k k2 225 num kd (.aY false 1 0 (λ_=>[]) .dA)))else
 bif (kd==2)then uz tag num (jL n k (pj nl n x u e2 k k2 225 num kd (.aY false 1 0 (λ_=>[]) .dA)))else uz tag num (some (jK 20))
noncomputable def AP (num kd:Int):Option AV:=
 let rest:=jL n k (bif (kd==1)then(bif (kd==5)then r9 nl n x N k 158 num kd 4 else r9 nl n x N k 158 num kd 8)else bif (kd==5)then(bif (kd==5)then r9 nl n x N k 158 num kd 4 else r9 nl n x N k 158 num kd 8)else pj nl n x u e2 k k2 156 num kd vH)
 bif (kd==0)then rest else bif (kd==1)then rest else bif (kd==2)then rest else bif !(kd==5)then some (jK 20)else rest
theorem FL:(mQ prog eZ (tkL 16 216 tag e u e2 N k k2) 14 216 [ee false n x] []).via aaE=
  bif aD prog 225 [ee false n x] [] (iI tag k e)then bif (e !=0)then some (jK e)else y8 false n x tag u e2 N k k2 (IntKind.wrap .i64 (tag.fdiv (2 ^ 3))) (IntKind.wrap .i64 (De .u64 tag 7))else none:=by kernel_rfl
theorem FM:(mQ prog eZ (tkL 15 94 tag e u e2 N k k2) 14 94 [ee nl n x] []).via aaE=
  bif aD prog 156 [ee nl n x] [] (iI tag k e)then bif (e !=0)then some (jK e)else bif decide (tag≥4294967296)then some (jK 20)else bif decide (tag<8)then some (jK 20)else
   AP nl n x u e2 N k k2 (IntKind.wrap .i64 (IntKind.wrap .u64 (tag.tdiv 8))) (IntKind.wrap .i64 (tag.tmod 8))else none:=by kernel_rfl
end
theorem wi {x:Int}(h0: -9223372036854775808<=x) (h1:x<9223372036854775808):IntKind.wrap .i64 x=x:=by
 simp only[IntKind.wrap,IntKind.bits,IntKind.signed];simp;split<;>omega
theorem wu {x:Int}(h0:0<=x) (h1:x<18446744073709551616):IntKind.wrap .u64 x=x:=by rw[kG];omega
theorem ada {t:Int}(h0:0<=t) (h1:t<18446744073709551616):De .u64 t 7=t % 8:=by
 unfold De;have e:(BitVec.ofInt (IntKind.bits .u64) t&&& BitVec.ofInt (IntKind.bits .u64) 7).toNat=t.toNat % 8:=by
  rw[BitVec.toNat_and];have a:(BitVec.ofInt (IntKind.bits .u64) t).toNat=t.toNat:=by
   show (BitVec.ofInt 64 t).toNat=t.toNat;rw[BitVec.toNat_ofInt];omega
  have b:(BitVec.ofInt (IntKind.bits .u64) 7).toNat=7:=by decide
  rw[a,b];exact Nat.and_two_pow_sub_one_eq_mod _ 3
 rw[e,kG];omega
structure ep where
 num:Int
 kd:Int
 nn:Int
 m:Nat
 y:Nat->Int
def ep.cells (nl:Bool) (r:ep):List AV:=[i64 r.num,i64 r.kd,.sc (.int .u64 r.nn),ee nl r.m r.y]
inductive W7 where
 |err (e:Int)
 |ok (r:ep) (k:Nat)
def Qj (f:ep->Bool):W7->AV
 | .err e=> .bq [.agg [i64 0,i64 0,.sc (.int .u64 0),ee true 0 (λ_=>0)],i64 0,i64 e]
 | .ok r k=> .bq [.agg (r.cells (f r)),i64 k,i64 0]
structure aaF (r:ep):Prop where
 afu:1<=r.num
 afv:r.num<536870912
 kd:r.kd=0∨r.kd=1∨r.kd=2∨r.kd=5
 nn0:0<=r.nn
 nn1:r.nn<18446744073709551616
 m:r.m<=16777216
 y:∀j,j<r.m->0<=r.y j/\r.y j<256
def Qk (n:Nat):W7->Prop
 | .err e=>e=10∨e=20∨e=21
 | .ok r k=>aaF r/\1<=k/\k<=n
def sJ (r:ep):Bool:= !(r.kd==2)
def pV (r:ep):Bool:=r.m==0
def Tk (n:Nat) (x:Nat->Int) (r:W7):Prop:=
 Qk n r/\(∀H,bZ prog 216 [ee false n x] (Qj sJ r) H H [])/\∀nl H,bZ prog 94 [ee nl n x] (Qj pV r) H H []
theorem Dh (f:ep->Bool) (r:W7):LF (Qj f r)/\ff 0 (Qj f r)=true:=by
 have two:∀a b c:AV,LF a->LF b->LF c->LF (.bq [a,b,c]):=λa b c ha hb hc=> .bq _ (λx hx=>by
  simp only[ahl,ahr,ahO]at hx;rcases hx with rfl|rfl|rfl<;>assumption)
 have four:∀a b c d:AV,LF a->LF b->LF c->LF d->LF (.agg [a,b,c,d]):=λa b c d ha hb hc hd=> .agg _ (λx hx=>by
  simp only[ahl,ahr,ahO]at hx;rcases hx with rfl|rfl|rfl|rfl<;>assumption)
 cases r with
 |err e=>exact⟨two _ _ _ (four _ _ _ _ (.sc _) (.sc _) (.sc _) (Dg _ _ _)) (.sc _) (.sc _),rfl⟩
 |ok r k=>exact⟨two _ _ _ (four _ _ _ _ (.sc _) (.sc _) (.sc _) (Dg _ _ _)) (.sc _) (.sc _),rfl⟩
theorem xP {P:Program}(hm:P.follows .mixedOrders=true){qj:ts}(tj:qK P qj){lo:FuncId->bX}(hl:∀g,bA P (lo g)){n:Nat}{g:FuncId}{args:List AV}{gl:AV×aa×List Nat->AV}{F:Option AV}{u y:AV}(h:(mQ P qj lo n g args []).via gl=F) (hF:F=some u) (hgl:∀r,ev r.1 (gl r)) (hw:ev u y) (hy:LF y) (hy0:ff 0 y=true) (dn:dG 0 args=true) (H:aa):bZ P g args y H H []:=by
 obtain⟨r,hr,he⟩:=cv h hF;have jk:=oZ hm tj hl n g args [] r hr;have jk:=jk.W6 ((he▸hgl r).trans hw);have h0:bZ P g args y [] r.2.1 []:=⟨jk.1,λE w0 w vs hg hr=>(jk.2.1 E w0 w vs hg hr).mono (λe w' ⟨E',re,ex,g⟩=>⟨E',re,ex.weaken (ag3 _) (λl hl _=>absurd hl (ahg _)),g⟩),jk.2.2.1,λl hl=>absurd hl (ahg _)⟩
 exact Dd h0 hy hy0 dn H
theorem y9 {n:Nat}{x:Nat->Int}{r:W7}(ok:Qk n r) (tag e u e2 N:Int) (k k2:Nat){vP vR:AV}
  (hP:(bif aD prog 225 [ee false n x] [] (iI tag k e)then bif (e !=0)then some (jK e)else y8 false n x tag u e2 N k k2 (IntKind.wrap .i64 (tag.fdiv (2 ^ 3))) (IntKind.wrap .i64 (De .u64 tag 7))else none)=some vP) (wP:ev vP (Qj sJ r))
  (hR:∀nl,(bif aD prog 156 [ee nl n x] [] (iI tag k e)then bif (e !=0)then some (jK e)else bif decide (tag≥4294967296)then some (jK 20)else bif decide (tag<8)then some (jK 20)else
   AP nl n x u e2 N k k2 (IntKind.wrap .i64 (IntKind.wrap .u64 (tag.tdiv 8))) (IntKind.wrap .i64 (tag.tmod 8))else none)=some vR) (wR:ev vR (Qj pV r)):Tk n x r:=by
 refine⟨ok,λH=> ?_,λnl H=> ?_⟩
 ·exact xP mixed (bV _) Qi (FL n x tag e u e2 N k k2) hP (λr=>K7 r.1) wP (Dh _ _).1 (Dh _ _).2 rfl H
 ·exact xP mixed (bV _) Qi (FM nl n x tag e u e2 N k k2) (hR nl) (λr=>K7 r.1) wR (Dh _ _).1 (Dh _ _).2 rfl H
theorem uA:ev vH (ee true 0 (λ_=>0)):=by
 intro E v hr
 cases hr with
 |fw=>exact .fw 1 _ .dA (.inl rfl)
theorem Ql (m:Nat) (y:Nat->Int) (h:m=0):ev vH (ee true m y):=by
 subst h;intro E v hr
 cases hr with
 |fw=>exact .fw 1 _ .dA (.inl rfl)
theorem tB {num kd nn:Int}{B B':AV}{k k':Int}(h:ev B B') (hk:k=k'):ev (K8 num kd nn B k) (.bq [.agg [i64 num,i64 kd,.sc (.int .u64 nn),B'],i64 k',i64 0]):=by
 subst hk;exact .bq (.cons (.agg (.cons (.refl _) (.cons (.refl _) (.cons (.refl _) (.cons h .nil))))) (.cons (.refl _) (.cons (.refl _) .nil)))
theorem kU (f:ep->Bool) (e:Int):ev (jK e) (Qj f (.err e)):=
 .bq (.cons (.agg (.cons (.refl _) (.cons (.refl _) (.cons (.refl _) (.cons uA .nil))))) (.cons (.refl _) (.cons (.refl _) .nil)))
section
variable {n:Nat}{x:Nat->Int}
abbrev Bytes (n:Nat) (x:Nat->Int):Prop:=∀j,j<n->0<=x j/\x j<256
theorem Di {nl:Bool}(hx:Bytes n x){a:AV}(h:jv n x=a):aD prog 225 [ee nl n x] [] a=true:=ak (h▸Nk hx [])
theorem Dj {nl:Bool}(hx:Bytes n x){a:AV}(h:jv n x=a):aD prog 156 [ee nl n x] [] a=true:=ak (h▸Nl hx [])
theorem aaG (hx:Bytes n x) (h:jv n x=iI 0 0 10):Tk n x (.err 10):=by
 have h:jv n x=iI 0 ((0:Nat):Int) 10:=h;refine y9 (.inl rfl) 0 10 0 0 0 0 0 (vP:=jK 10) (vR:=jK 10) ?_ (kU _ _) (λnl=> ?_) (kU _ _)
 ·rw[Di hx h];rfl
 ·rw[Dj hx h];rfl
variable {tag:Int}{k:Nat}
theorem vI (h0:0<=tag) (h1:tag<18446744073709551616):IntKind.wrap .i64 (tag.fdiv (2 ^ 3))=tag / 8/\IntKind.wrap .i64 (De .u64 tag 7)=tag % 8/\
  IntKind.wrap .i64 (IntKind.wrap .u64 (tag.tdiv 8))=tag / 8/\IntKind.wrap .i64 (tag.tmod 8)=tag % 8/\tag.fdiv (2 ^ 32)=tag / 4294967296:=by
 have e1:tag.fdiv (2 ^ 3)=tag / 8:=by rw[Int.fdiv_eq_ediv_of_nonneg _ (by decide)];rfl
 have e2:tag.fdiv (2 ^ 32)=tag / 4294967296:=by rw[Int.fdiv_eq_ediv_of_nonneg _ (by decide)];rfl
 have e3:tag.tdiv 8=tag / 8:=Int.tdiv_eq_ediv_of_nonneg h0;have e4:tag.tmod 8=tag % 8:=Int.tmod_eq_emod_of_nonneg h0;refine⟨?_,?_,?_,?_,e2⟩
 ·rw[e1];exact wi (by omega) (by omega)
 ·rw[ada h0 h1];exact wi (by omega) (by omega)
 ·rw[e3,wu (by omega) (by omega)];exact wi (by omega) (by omega)
 ·rw[e4];exact wi (by omega) (by omega)
theorem Ym (hx:Bytes n x) (h:jv n x=iI tag k 0) (h0:0<=tag) (h1:tag<18446744073709551616) (hk:k<=n) (hb:4294967296<=tag∨tag<8∨(tag % 8≠0/\tag % 8≠1/\tag % 8≠2/\tag % 8≠5)):Tk n x (.err 20):=by
 obtain⟨f1,f2,f3,f4,f5⟩:=vI h0 h1;refine y9 (.inr (.inl rfl)) tag 0 0 0 0 k 0 (vP:=jK 20) (vR:=jK 20) ?_ (kU _ _) (λnl=> ?_) (kU _ _)
 ·rw[Di hx h,f1,f2];show y8 false n x tag 0 0 0 k 0 (tag / 8) (tag % 8)=some (jK 20);by_cases hc:4294967296<=tag∨tag<8
  ·have hz:∀z,uz tag (tag / 8) z=some (jK 20):=by
    intro z;unfold uz;rw[f5];rcases hc with hc|hc
    ·have:(tag / 4294967296 !=0)=true:=by simp;omega
     rw[this];rfl
    ·have:(tag / 8==0)=true:=by simp;omega
     rw[this];cases (tag / 4294967296 !=0)<;>rfl
   unfold y8;simp only[hz];cases (tag % 8==1)<;>cases (tag % 8==5)<;>cases (tag % 8==0)<;>cases (tag % 8==2)<;>rfl
  ·have iw:tag % 8≠0/\tag % 8≠1/\tag % 8≠2/\tag % 8≠5:=by omega
   unfold y8 uz;rw[beq_eq_false_iff_ne.2 iw.1,beq_eq_false_iff_ne.2 iw.2.1,beq_eq_false_iff_ne.2 iw.2.2.1,beq_eq_false_iff_ne.2 iw.2.2.2];cases (tag.fdiv (2 ^ 32)!=0)<;>cases (tag / 8==0)<;>rfl
 ·rw[Dj hx h,f3,f4];show (bif decide (tag≥4294967296)then some (jK 20)else bif decide (tag<8)then some (jK 20)else AP nl n x 0 0 0 k 0 (tag / 8) (tag % 8))=some (jK 20);by_cases hc:4294967296<=tag
  ·rw[ag2 hc];rfl
  ·rw[ag8 hc];by_cases OZ:tag<8
   ·rw[ag2 OZ];rfl
   ·rw[ag8 OZ];have iw:tag % 8≠0/\tag % 8≠1/\tag % 8≠2/\tag % 8≠5:=by omega
    unfold AP;rw[beq_eq_false_iff_ne.2 iw.1,beq_eq_false_iff_ne.2 iw.2.1,beq_eq_false_iff_ne.2 iw.2.2.1,beq_eq_false_iff_ne.2 iw.2.2.2];rfl
section
variable (nl:Bool) (u e2 N num:Int) (k2:Nat)
theorem aaH:y8 nl n x tag u e2 N k k2 num 1=uz tag num (jL n k (r9 nl n x N k 226 num 1 8)):=by kernel_rfl
theorem aaI:y8 nl n x tag u e2 N k k2 num 5=uz tag num (jL n k (r9 nl n x N k 226 num 5 4)):=by kernel_rfl
theorem W8:y8 nl n x tag u e2 N k k2 num 0=uz tag num (jL n k (pj nl n x u e2 k k2 225 num 0 (.aY false 1 0 (λ_=>[]) .dA))):=by kernel_rfl
theorem K9:y8 nl n x tag u e2 N k k2 num 2=uz tag num (jL n k (pj nl n x u e2 k k2 225 num 2 (.aY false 1 0 (λ_=>[]) .dA))):=by kernel_rfl
theorem aaJ:AP nl n x u e2 N k k2 num 1=jL n k (r9 nl n x N k 158 num 1 8):=by kernel_rfl
theorem aaK:AP nl n x u e2 N k k2 num 5=jL n k (r9 nl n x N k 158 num 5 4):=by kernel_rfl
theorem W9:AP nl n x u e2 N k k2 num 0=jL n k (pj nl n x u e2 k k2 156 num 0 vH):=by kernel_rfl
theorem La:AP nl n x u e2 N k k2 num 2=jL n k (pj nl n x u e2 k k2 156 num 2 vH):=by kernel_rfl
end
theorem qS (h0:8<=tag) (h1:tag<4294967296) (z:Option AV):uz tag (tag / 8) z=z:=by
 unfold uz;rw[(vI (by omega) (by omega)).2.2.2.2];have a:(tag / 4294967296 !=0)=false:=by simp;omega
 have b:(tag / 8==0)=false:=by simp;omega
 rw[a,b];rfl
theorem fO (h:k<=n) (z:Option AV):jL n k z=z:=by
 unfold jL;rw[ag2 (by omega)];rfl
theorem pk (hx:Bytes n x) (h:jv n x=iI tag k 0) (h0:8<=tag) (h1:tag<4294967296){r:W7}(ok:Qk n r) (u e2 N:Int) (k2:Nat){vP vR:AV}
  (hP:y8 false n x tag u e2 N k k2 (tag / 8) (tag % 8)=some vP) (wP:ev vP (Qj sJ r)) (hR:∀nl,AP nl n x u e2 N k k2 (tag / 8) (tag % 8)=some vR) (wR:ev vR (Qj pV r)):Tk n x r:=by
 obtain⟨f1,f2,f3,f4,f5⟩:=vI (tag:=tag) (by omega) (by omega);refine y9 ok tag 0 u e2 N k k2 (vP:=vP) (vR:=vR) ?_ wP (λnl=> ?_) wR
 ·rw[Di hx h,f1,f2];exact hP
 ·rw[Dj hx h,f3,f4,ag8 (by omega:¬tag≥4294967296),ag8 (by omega:¬tag<8)];exact hR nl
theorem lj (hx:Bytes n x) (j m:Nat) (hm:m+j<=n):Bytes m (λi=>x (i+j)):=λi hi=>hx (i+j) (by omega)
theorem Yn (hn:n<=16777216) (hx:Bytes n x) (h:jv n x=iI tag k 0) (h0:8<=tag) (h1:tag<4294967296) (Av:1<=k) (hk:k<=n) (tC:tag % 8=1∨tag % 8=5):∃r,Tk n x r:=by
 have body:∀(kd:Int) (sz:Nat),tag % 8=kd->(kd=1∨kd=5)->sz<=8->(∀N,y8 false n x tag 0 0 N k 0 (tag / 8) kd=r9 false n x N k 226 (tag / 8) kd sz)->(∀nl N,AP nl n x 0 0 N k 0 (tag / 8) kd=r9 nl n x N k 158 (tag / 8) kd sz)->
   (∀nl,bZ prog 226 [ee nl sz (λi=>x (i+k))] (.sc (.int .u64 (BI (λi=>x (i+k)) sz))) [] [] [])->(∀nl,bZ prog 158 [ee nl sz (λi=>x (i+k))] (.sc (.int .u64 (BI (λi=>x (i+k)) sz))) [] [] [])->∃r,Tk n x r:=by
  intro kd sz tC ade ga bP bR cP cR;by_cases hs:n-k<sz
  ·refine⟨.err 21,pk hx h h0 h1 (.inr (.inr rfl)) 0 0 0 0 (vP:=jK 21) (vR:=jK 21) ?_ (kU _ _) (λnl=> ?_) (kU _ _)⟩
   ·rw[tC,bP];unfold r9;rw[ag2 (by omega:((n-k:Nat):Int)<(sz:Int))];rfl
   ·rw[tC,bR];unfold r9;rw[ag2 (by omega:((n-k:Nat):Int)<(sz:Int))];rfl
  ·let r:ep:=⟨tag / 8,kd,BI (λi=>x (i+k)) sz,0,λ_=>0⟩
   have hr:=No (λi=>x (i+k)) sz;have d1:decide (((n-k:Nat):Int)<(sz:Int))=false:=ag8 (by omega);have d2:decide ((0:Int)<=0/\(0:Int)<=(sz:Int)/\(sz:Int)<=((n-k:Nat):Int))=true:=ag2 (by omega);have ek:IntKind.wrap .i64 ((k:Int)+(sz:Int))=((k+sz:Nat):Int):=by rw[wi (by omega) (by omega)];simp
   have v:∀B B',ev B B'->ev (K8 (tag / 8) kd (BI (λi=>x (i+k)) sz) B (IntKind.wrap .i64 ((k:Int)+(sz:Int)))) (.bq [.agg [i64 (tag / 8),i64 kd,.sc (.int .u64 (BI (λi=>x (i+k)) sz)),B'],i64 ((k+sz:Nat):Int),i64 0]):=λB B' hB=>tB hB ek
   refine⟨.ok r (k+sz),pk hx h h0 h1 ⟨⟨by show 1<=tag / 8;omega,by show tag / 8<536870912;omega,by show kd=0∨kd=1∨kd=2∨kd=5;omega,hr.1,hr.2,by show 0<=16777216;omega,λj hj=>absurd hj (ahg _)⟩,by omega,by omega⟩ 0 0 (BI (λi=>x (i+k)) sz) 0 (vP:=K8 (tag / 8) kd (BI (λi=>x (i+k)) sz) vH (IntKind.wrap .i64 ((k:Int)+(sz:Int)))) (vR:=K8 (tag / 8) kd (BI (λi=>x (i+k)) sz) vH (IntKind.wrap .i64 ((k:Int)+(sz:Int)))) ?_ ?_ (λnl=> ?_) ?_⟩
   ·rw[tC,bP];unfold r9;rw[d1,d2,ak (cP false)];rfl
   ·have e:sJ r=true:=by rcases ade with rfl|rfl<;>rfl
    show ev _ (.bq [.agg (r.cells (sJ r)),i64 ((k+sz:Nat):Int),i64 0]);rw[e];exact v _ _ uA
   ·rw[tC,bR];unfold r9;rw[d1,d2,ak (cR nl)];rfl
   ·exact v _ _ uA
 rcases tC with tC|tC
 ·exact body 1 8 tC (.inl rfl) (by omega) (λN=>by rw[aaH,qS h0 h1,fO hk]) (λnl N=>by rw[aaJ,fO hk]) (λnl=>(FJ nl _ []).1) (λnl=>(FK nl _ []).1)
 ·exact body 5 4 tC (.inr rfl) (by omega) (λN=>by rw[aaI,qS h0 h1,fO hk]) (λnl N=>by rw[aaK,fO hk]) (λnl=>(FJ nl _ []).2) (λnl=>(FK nl _ []).2)
theorem Yo (hx:Bytes n x) (h:jv n x=iI tag k 0) (h0:8<=tag) (h1:tag<4294967296) (hk:k<=n) (tC:tag % 8=0∨tag % 8=2) (h2:jv (n-k) (λi=>x (i+k))=iI 0 0 10):Tk n x (.err 10):=by
 have Bd:=lj hx k (n-k) (by omega);have h2:jv (n-k) (λi=>x (i+k))=iI 0 ((0:Nat):Int) 10:=h2;refine pk hx h h0 h1 (.inl rfl) 0 10 0 0 (vP:=jK 10) (vR:=jK 10) ?_ (kU _ _) (λnl=> ?_) (kU _ _)
 ·rcases tC with tC|tC
  ·rw[tC,W8,qS h0 h1,fO hk];unfold pj;rw[Di Bd h2];rfl
  ·rw[tC,K9,qS h0 h1,fO hk];unfold pj;rw[Di Bd h2];rfl
 ·rcases tC with tC|tC
  ·rw[tC,W9,fO hk];unfold pj;rw[Dj Bd h2];rfl
  ·rw[tC,La,fO hk];unfold pj;rw[Dj Bd h2];rfl
variable {u:Int}{k2:Nat}
theorem Yp (hn:n<=16777216) (hx:Bytes n x) (h:jv n x=iI tag k 0) (h0:8<=tag) (h1:tag<4294967296) (Av:1<=k) (hk:k<=n) (tC:tag % 8=0) (h2:jv (n-k) (λi=>x (i+k))=iI u k2 0) (w9:k2<=n-k) (hu0:0<=u) (vl:u<18446744073709551616):
  Tk n x (.ok ⟨tag / 8,0,u,0,λ_=>0⟩ (k+k2)):=by
 have Bd:=lj hx k (n-k) (by omega);have ek:IntKind.wrap .i64 ((k:Int)+(k2:Int))=((k+k2:Nat):Int):=by rw[wi (by omega) (by omega)];simp
 refine pk hx h h0 h1 ⟨⟨by show 1<=tag / 8;omega,by show tag / 8<536870912;omega,.inl rfl,hu0,vl,by show 0<=16777216;omega,λj hj=>absurd hj (ahg _)⟩,by omega,by omega⟩ u 0 0 k2 (vP:=K8 (tag / 8) 0 u vH (IntKind.wrap .i64 ((k:Int)+(k2:Int)))) (vR:=K8 (tag / 8) 0 u vH (IntKind.wrap .i64 ((k:Int)+(k2:Int)))) ?_ (tB uA ek) (λnl=> ?_) (tB uA ek)
 ·rw[tC,W8,qS h0 h1,fO hk];unfold pj;rw[Di Bd h2];rfl
 ·rw[tC,W9,fO hk];unfold pj;rw[Dj Bd h2];rfl
theorem Yq (hn:n<=16777216) (hx:Bytes n x) (h:jv n x=iI tag k 0) (h0:8<=tag) (h1:tag<4294967296) (Av:1<=k) (hk:k<=n) (tC:tag % 8=2) (h2:jv (n-k) (λi=>x (i+k))=iI u k2 0) (w9:k2<=n-k) (hu0:0<=u) (vl:u<18446744073709551616):∃r,Tk n x r:=by
 have Bd:=lj hx k (n-k) (by omega);have e1:IntKind.wrap .u64 (IntKind.wrap .i64 (((n-k:Nat):Int)-(k2:Int)))=((n-k:Nat):Int)-(k2:Int):=by rw[wi (by omega) (by omega),wu (by omega) (by omega)]
 by_cases hu:u>((n-k:Nat):Int)-(k2:Int)
 ·refine⟨.err 21,pk hx h h0 h1 (.inr (.inr rfl)) u 0 0 k2 (vP:=jK 21) (vR:=jK 21) ?_ (kU _ _) (λnl=> ?_) (kU _ _)⟩
  ·rw[tC,K9,qS h0 h1,fO hk];unfold pj;rw[Di Bd h2,e1,ag2 hu];rfl
  ·rw[tC,La,fO hk];unfold pj;rw[Dj Bd h2,e1,ag2 hu];rfl
 ·have e2:IntKind.wrap .i64 u=u:=wi (by omega) (by omega);have e3:IntKind.wrap .i64 ((k2:Int)+u)=(k2:Int)+u:=wi (by omega) (by omega);have e4:IntKind.wrap .i64 ((k:Int)+(k2:Int))=(k:Int)+(k2:Int):=wi (by omega) (by omega);have e5:IntKind.wrap .i64 ((k:Int)+(k2:Int)+u)=((k+k2+u.toNat:Nat):Int):=by rw[wi (by omega) (by omega)];omega
  have e6:((k2:Int)+u).toNat-k2=u.toNat:=by omega
  have d1:decide ((0:Int)<=(k2:Int)/\(k2:Int)<=(k2:Int)+u/\(k2:Int)+u<=((n-k:Nat):Int))=true:=ag2 (by omega)
  let r:ep:=⟨tag / 8,2,0,u.toNat,λi=>x (i+k2+k)⟩
  have okr:Qk n (.ok r (k+k2+u.toNat)):=⟨⟨by show 1<=tag / 8;omega,by show tag / 8<536870912;omega,.inr (.inr (.inl rfl)),by show (0:Int)<=0;omega,by show (0:Int)<18446744073709551616;omega,by show u.toNat<=16777216;omega,λj hj=>hx _ (by have su:j<u.toNat:=hj;omega)⟩,by omega,by omega⟩
  by_cases hz:u.toNat=0
  ·refine⟨.ok r (k+k2+u.toNat),pk hx h h0 h1 okr u 0 0 k2 (vP:=K8 (tag / 8) 2 0 (.aY false 1 0 (λ_=>[]) .dA) ((k+k2+u.toNat:Nat):Int)) (vR:=K8 (tag / 8) 2 0 vH ((k+k2+u.toNat:Nat):Int)) ?_ ?_ (λnl=> ?_) ?_⟩
   ·rw[tC,K9,qS h0 h1,fO hk];unfold pj;rw[Di Bd h2,e1,ag8 hu,e2,e3,d1,e6,ag2 hz,e4,e5];rfl
   ·refine tB ?_ rfl;show ev _ (ee false u.toNat (λi=>x (i+k2+k)));rw[hz];intro E v hr
    cases hr with
    |gG sz el own a ho=>exact .gG 1 _ .dA a (.inl rfl)
    |aY sz n el own b off c u hn ho hc hlen h1 hS hk=>exact .aY 1 0 _ .dA b off c u hn ho hc (λi hi=>absurd hi (ahg _)) (λi hi=>absurd hi (ahg _)) (λi hi=>absurd hi (ahg _)) (λi hi=>absurd hi (ahg _))
   ·rw[tC,La,fO hk];unfold pj;rw[Dj Bd h2,e1,ag8 hu,e2,e3,d1,e6,ag2 hz,e4,e5];rfl
   ·refine tB ?_ rfl;have en:pV r=true:=by show (u.toNat==0)=true;rw[hz];rfl
    show ev _ (ee (pV r) u.toNat (λi=>x (i+k2+k)));rw[en];exact Ql _ _ hz
  ·have d2:decide ((0+u.toNat)*1<=70368744177664/\0+u.toNat<4611686018427387904)=true:=ag2 (by omega);have wkB:ev (.aY false 1 (0+u.toNat) (λi=>bif Nat.blt i (0+u.toNat)then[.sc (.int .u8 (x (i+k2+k)))]else[]) .dA) (ee false u.toNat (λi=>x (i+k2+k))):=by
    rw[ahF];refine ev.row (λi hi=> ?_);have:Nat.blt i u.toNat=true:=by simpa [Nat.blt_eq]using hi
    rw[this];rfl
   refine⟨.ok r (k+k2+u.toNat),pk hx h h0 h1 okr u 0 0 k2 (vP:=K8 (tag / 8) 2 0 (.aY false 1 (0+u.toNat) (λi=>bif Nat.blt i (0+u.toNat)then[.sc (.int .u8 (x (i+k2+k)))]else[]) .dA) ((k+k2+u.toNat:Nat):Int)) (vR:=K8 (tag / 8) 2 0 (.aY false 1 (0+u.toNat) (λi=>bif Nat.blt i (0+u.toNat)then[.sc (.int .u8 (x (i+k2+k)))]else[]) .dA) ((k+k2+u.toNat:Nat):Int)) ?_ ?_ (λnl=> ?_) ?_⟩
   ·rw[tC,K9,qS h0 h1,fO hk];unfold pj;rw[Di Bd h2,e1,ag8 hu,e2,e3,d1,e6,ag8 hz,d2,e4,e5];rfl
   ·exact tB wkB rfl
   ·rw[tC,La,fO hk];unfold pj;rw[Dj Bd h2,e1,ag8 hu,e2,e3,d1,e6,ag8 hz,d2,e4,e5];rfl
   ·have en:pV r=false:=by show (u.toNat==0)=false;simp;omega
    show ev _ (.bq [.agg (r.cells (pV r)),i64 ((k+k2+u.toNat:Nat):Int),i64 0]);rw[en];exact tB wkB rfl
theorem aaL (hn:n<=16777216) (hx:Bytes n x):∃r,Tk n x r:=by
 rcases (qR hx).2.2 with ⟨tag,k,h,Av,hk,_,h0,h1⟩|h
 ·by_cases hb:4294967296<=tag∨tag<8∨(tag % 8≠0/\tag % 8≠1/\tag % 8≠2/\tag % 8≠5)
  ·exact⟨_,Ym hx h h0 h1 hk hb⟩
  ·by_cases hf:tag % 8=1∨tag % 8=5
   ·exact Yn hn hx h (by omega) (by omega) (by omega) hk hf
   ·have Bd:=lj hx k (n-k) (by omega);rcases (qR Bd).2.2 with ⟨u,k2,g,g0,g1,_,g2,g3⟩|g
    ·by_cases hv:tag % 8=0
     ·exact⟨_,Yp hn hx h (by omega) (by omega) (by omega) hk hv g g1 g2 g3⟩
     ·exact Yq hn hx h (by omega) (by omega) (by omega) hk (by omega) g g1 g2 g3
    ·exact⟨_,Yo hx h (by omega) (by omega) hk (by omega) g⟩
 ·exact⟨_,aaG hx h⟩
end
inductive uB (n:Nat) (x:Nat->Int):Nat->List ep->Nat->Int->Prop where
 |done:uB n x n [] 0 0
 |err (at_:Nat) (e:Int) (h:at_<n) (tk:Tk (n-at_) (λi=>x (i+at_)) (.err e)):uB n x at_ [] at_ e
 |next (at_:Nat) (r:ep) (k:Nat) (l:List ep) (z:Nat) (e:Int) (h:at_<n) (tk:Tk (n-at_) (λi=>x (i+at_)) (.ok r k)) (rest:uB n x (at_+k) l z e):uB n x at_ (r::l) z e
theorem Dk {n:Nat}{x:Nat->Int}(hn:n<=16777216) (hx:Bytes n x):∀(d p:Nat),p<=n->n-p<=d->∃l z e,uB n x p l z e
 |0,p,h1,h2=>by
  have:p=n:=by omega
  subst this;exact⟨_,_,_,.done⟩
 |d+1,p,h1,h2=>by
  by_cases hp:p=n
  ·subst hp;exact⟨_,_,_,.done⟩
  ·obtain⟨r,hr⟩:=aaL (n:=n-p) (x:=λi=>x (i+p)) (by omega) (lj hx p (n-p) (by omega))
   cases r with
   |err e=>exact⟨_,_,_,.err p e (by omega) hr⟩
   |ok r k=>
    have:=hr.1;obtain⟨l,z,e,h⟩:=Dk hn hx d (p+k) (by have:=this.2;omega) (by have:=this.2;omega);exact⟨_,_,_,.next p r k l z e (by omega) hr h⟩
def aR:AV:= .aY true 0 0 (λ_=>[]) .tight
def Lb (num kd nn k e:Int) (b:Bool) (m:Nat) (y:Nat->Int):AV:= .bq [.agg [i64 num,i64 kd,.sc (.int .u64 nn),ee b m y],i64 k,i64 e]
noncomputable def aaM (num kd nn k e:Int) (b:Bool) (m:Nat) (y:Nat->Int):bX:=told prog [] [⟨18,0,Lb num kd nn k e b m y⟩]
def ng (c:Nat) (g:Nat->List AV) (cs:List AV):Nat->List AV:=bI c g (rowOf 4 cs)
section
variable (nl:Bool) (n:Nat) (x:Nat->Int) (num kd nn e:Int) (k:Nat) (b:Bool) (m:Nat) (y:Nat->Int)
def FN (row:AV) (p:Int):List AV:=bz 34 [(0,ee nl n x),(2,aR),(3,i64 0),(4,i64 0),(5,row),(6,i64 p)]
def JG (row:AV) (p e:Int):List AV:=bz 34 [(0,ee nl n x),(2,aR),(3,i64 p),(4,i64 e),(5,row),(6,i64 p)]
def UH:List Nat:=[0,2,3,4,5,6]
theorem Dl (p:Nat):(iH prog (kB prog eZ 10) (aaM num kd nn k e b m y) 10 (ae f42 3) (FN nl n x aR p) []).via (cz UH [0] 2)=
  bif decide ((p:Int)<(n:Int))then bif decide ((0:Int)<=(p:Int)/\(p:Int)<=(n:Int)/\(n:Int)<=(n:Int))then
   bif aD prog 94 [ee nl (n-p) (λi=>x (i+p))] [] (Lb num kd nn k e b m y)then
    bif (e !=0)then some ⟨.ret,JG nl n x aR p e,[.dead],[0],true⟩
    else some ⟨.normal,FN nl n x (.aY false 4 1 (ng 0 (λ_=>[]) [i64 num,i64 kd,.sc (.int .u64 nn),ee b m y]) (.tok 1)) (IntKind.wrap .i64 ((p:Int)+(k:Int))),[.dead,.tail 1 4],[0],true⟩
   else none else none
  else some ⟨.exit 0,FN nl n x aR p,[],[],true⟩:=by kernel_rfl
theorem Dm (p c:Nat) (g:Nat->List AV):(iH prog (kB prog eZ 10) (aaM num kd nn k e b m y) 10 (ae f42 3) (FN nl n x (.aY false 4 c g (.tok 1)) p) [.dead,.tail c 4]).via (cz UH [] 2)=
  bif decide ((p:Int)<(n:Int))then bif decide ((0:Int)<=(p:Int)/\(p:Int)<=(n:Int)/\(n:Int)<=(n:Int))then
   bif aD prog 94 [ee nl (n-p) (λi=>x (i+p))] [] (Lb num kd nn k e b m y)then
    bif (e !=0)then some ⟨.ret,JG nl n x (.aY false 4 c g (.tok 1)) p e,[.dead,.tail c 4],[],true⟩
    else bif decide ((c+1)*48<=70368744177664/\c+1<4611686018427387904)then bif decide (c=c)then
     some ⟨.normal,FN nl n x (.aY false 4 (c+1) (ng c g [i64 num,i64 kd,.sc (.int .u64 nn),ee b m y]) (.tok 1)) (IntKind.wrap .i64 ((p:Int)+(k:Int))),[.dead,.tail (c+1) 4],[1],true⟩else none else none
   else none else none
  else some ⟨.exit 0,FN nl n x (.aY false 4 c g (.tok 1)) p,[.dead,.tail c 4],[],true⟩:=by kernel_rfl
end
def AQ (f:ep->Bool):Nat->(Nat->List AV)->List ep->Nat->List AV
 |_,g,[]=>g
 |c,g,r::l=>AQ f (c+1) (ng c g (r.cells (f r))) l
theorem Lc (f:ep->Bool):∀(l:List ep) (c:Nat) (g:Nat->List AV) (i:Nat),i<c->AQ f c g l i=g i
 |[],c,g,i,h=>rfl
 |r::l,c,g,i,h=>by
  unfold AQ;rw[Lc f l (c+1) _ i (by omega)];unfold ng bI;rw[if_pos h]
def qn:ep:=⟨0,0,0,0,λ_=>0⟩
def Ld (f:ep->Bool) (l:List ep) (i:Nat):List AV:=(l.getD i qn).cells (f (l.getD i qn))
theorem Le (f:ep->Bool):∀(l:List ep) (c:Nat) (g:Nat->List AV) (i:Nat),i<l.length->AQ f c g l (c+i)=Ld f l i
 |[],c,g,i,h=>absurd h (ahg _)
 |r::l,c,g,0,h=>by
  unfold AQ;rw[Lc f l (c+1) _ (c+0) (by omega)];unfold ng bI;rw[if_neg (by omega)];simp[rowOf,ep.cells,Ld]
 |r::l,c,g,i+1,h=>by
  unfold AQ;rw[show c+(i+1)=(c+1)+i by omega,Le f l (c+1) _ i (by simpa using h)];simp[Ld]
def dd (f:ep->Bool) (l:List ep):AV:= .aY l.isEmpty 4 l.length (Ld f l) .dA
def ku (f:ep->Bool) (l:List ep) (z:Nat) (e:Int):AV:=if e=0 then .bq [dd f l,i64 0,i64 0]else .bq [.aY true 4 0 (λ_=>[]) .dA,i64 z,i64 e]
theorem n9 (f:ep->Bool) (l:List ep) (z:Nat) (e:Int):LF (ku f l z e)/\ff 0 (ku f l z e)=true:=by
 have two:∀a b c:AV,LF a->LF b->LF c->LF (.bq [a,b,c]):=λa b c ha hb hc=> .bq _ (λx hx=>by
  simp only[ahl,ahr,ahO]at hx;rcases hx with rfl|rfl|rfl<;>assumption)
 unfold ku;split
 ·exact⟨two _ _ _ (.aY _ _ _ _ _ (by simp)) (.sc _) (.sc _),rfl⟩
 ·exact⟨two _ _ _ (.aY _ _ _ _ _ (by simp)) (.sc _) (.sc _),rfl⟩
theorem FO (f:ep->Bool):ev aR (dd f []):=by
 intro E v hr
 cases hr with
 |fw=>exact .fw 4 _ .dA (.inl rfl)
theorem Lf:ev aR (.aY true 4 0 (λ_=>[]) .dA):=by
 intro E v hr
 cases hr with
 |fw=>exact .fw 4 _ .dA (.inl rfl)
theorem Lg (f:ep->Bool) (r:ep) (l:List ep) (g:Nat->List AV) (own:Own):ev (.aY false 4 (1+l.length) (AQ f 1 (ng 0 g (r.cells (f r))) l) own) (dd f (r::l)):=by
 have e:(1+l.length)=(r::l).length:=by simp;omega
 unfold dd;rw[e];refine ev.row (λi hi=> ?_);have:=Le f (r::l) 0 g i hi;rw[ahF]at this;exact this
section
variable {nl:Bool}{n:Nat}{x:Nat->Int}
theorem Lh {r:W7}(h:Tk n x r):aD prog 94 [ee nl n x] [] (Qj pV r)=true:=ak (h.2.2 nl [])
theorem AR {e:Int}(h:Tk n x (.err e)):(e !=0)=true/\e≠0:=by
 have:=h.1;unfold Qk at this;have h2:e≠0:=by omega
 exact⟨by simpa using h2,h2⟩
def xl (e:Int):bj:=bif (e==0)then .exit 0 else .ret
theorem Yr (hn:n<=16777216):∀{p z:Nat}{l:List ep}{e:Int},uB n x p l z e->∀(c:Nat) (g:Nat->List AV),c<=p->∃k W,dX prog (ae f42 3) (xl e) (bif (e==0)then FN nl n x (.aY false 4 (c+l.length) (AQ pV c g l) (.tok 1)) n else JG nl n x (.aY false 4 (c+l.length) (AQ pV c g l) (.tok 1)) z e) [.dead,.tail (c+l.length) 4] k (FN nl n x (.aY false 4 c g (.tok 1)) p) [.dead,.tail c 4] W:=by
 intro p z l e h
 induction h with
 |done=>
  intro c g hc;have hb:=Dm nl n x 0 0 0 0 0 false 0 (λ_=>0) n c g;rw[ag8 (by omega:¬(n:Int)<(n:Int))]at hb;have:=cE mixed (dv mixed (bV _) 10) aF hb rfl (ag3 _) (by simp);exact⟨0,_,.out this (by simp[xl])⟩
 |err p e h tk=>
  intro c g hc;have hb:=Dm nl n x 0 0 0 e 0 true 0 (λ_=>0) p c g;have ha:aD prog 94 [ee nl (n-p) (λi=>x (i+p))] [] (Lb 0 0 0 ((0:Nat):Int) e true 0 (λ_=>0))=true:=Lh tk;rw[ag2 (by omega:(p:Int)<(n:Int)),ag2 (by omega:(0:Int)<=(p:Int)/\(p:Int)<=(n:Int)/\(n:Int)<=(n:Int)),ha,(AR tk).1]at hb;have:=cE mixed (dv mixed (bV _) 10) aF hb rfl (ag3 _) (by simp);have e0:(e==0)=false:=by simpa using (AR tk).2
  unfold xl;rw[e0];exact⟨0,_,.out this (by simp)⟩
 |next p r k l z e h tk rest ih=>
  intro c g hc;have hk:=tk.1.2;have hb:=Dm nl n x r.num r.kd r.nn 0 k (pV r) r.m r.y p c g;have ha:aD prog 94 [ee nl (n-p) (λi=>x (i+p))] [] (Lb r.num r.kd r.nn (k:Int) 0 (pV r) r.m r.y)=true:=Lh tk;rw[ag2 (by omega:(p:Int)<(n:Int)),ag2 (by omega:(0:Int)<=(p:Int)/\(p:Int)<=(n:Int)/\(n:Int)<=(n:Int)),ha,ag2 (by omega:(c+1)*48<=70368744177664/\c+1<4611686018427387904),ag2 (rfl:c=c),wi (x:=(p:Int)+(k:Int)) (by omega) (by omega)]at hb;have:=cE mixed (dv mixed (bV _) 10) aF hb rfl (ag3 _) (by simp);obtain⟨k',W',hr⟩:=ih (c+1) (ng c g (r.cells (pV r))) (by omega);have e1:c+1+l.length=c+(r::l).length:=by simp;omega
  rw[e1]at hr;exact⟨k'+1,_,.next this hr⟩
theorem aaN (hn:n<=16777216){l:List ep}{z:Nat}{e:Int}(h:uB n x 0 l z e):∃row H W,an prog (.loop (ae f42 3)) (FN nl n x aR ((0:Nat):Int)) [] (xl e) (bif (e==0)then FN nl n x row n else JG nl n x row z e) H W/\(e=0->ev row (dd pV l)):=by
 cases h with
 |done=>
  have hb:=Dl nl 0 x 0 0 0 0 0 false 0 (λ_=>0) 0;have:=cE mixed (dv mixed (bV _) 10) aF hb rfl (ag9 _) (by simp);exact⟨_,_,_,(dX.out this (by simp)).ok,λ_=>FO _⟩
 |err p e h tk=>
  have hb:=Dl nl n x 0 0 0 e 0 true 0 (λ_=>0) 0;have ha:aD prog 94 [ee nl (n-0) (λi=>x (i+0))] [] (Lb 0 0 0 ((0:Nat):Int) e true 0 (λ_=>0))=true:=Lh tk;rw[ag2 (by omega:((0:Nat):Int)<(n:Int)),ag2 (by omega:(0:Int)<=((0:Nat):Int)/\((0:Nat):Int)<=(n:Int)/\(n:Int)<=(n:Int)),ha,(AR tk).1]at hb;have:=cE mixed (dv mixed (bV _) 10) aF hb rfl (ag9 _) (by simp);have e0:(e==0)=false:=by simpa using (AR tk).2
  refine⟨aR,[.dead],[0],?_,λh=>absurd h (AR tk).2⟩;unfold xl;rw[e0];exact(dX.out this (by simp)).ok
 |next p r k l z e h tk rest=>
  have hk:=tk.1.2;have hb:=Dl nl n x r.num r.kd r.nn 0 k (pV r) r.m r.y 0;have ha:aD prog 94 [ee nl (n-0) (λi=>x (i+0))] [] (Lb r.num r.kd r.nn (k:Int) 0 (pV r) r.m r.y)=true:=Lh tk;rw[ag2 (by omega:((0:Nat):Int)<(n:Int)),ag2 (by omega:(0:Int)<=((0:Nat):Int)/\((0:Nat):Int)<=(n:Int)/\(n:Int)<=(n:Int)),ha,wi (x:=((0:Nat):Int)+(k:Int)) (by omega) (by omega)]at hb;have:=cE mixed (dv mixed (bV _) 10) aF hb rfl (ag9 _) (by simp);rw[←Int.natCast_add]at this;obtain⟨k',W',hr⟩:=Yr (nl:=nl) hn rest 1 (ng 0 (λ_=>[]) (r.cells (pV r))) (by omega);exact⟨_,_,_,(dX.next this hr).ok,λ_=>Lg _ _ _ _ _⟩
theorem UI (row:AV) (H:aa) (W:List Nat):(mQ prog eZ (λ_=>cJ prog [⟨3,UH,.exit 0,FN nl n x row n,H,W⟩] aN) 10 42 [ee nl n x] []).via ch=
  bif cj prog (ae f42 3) (FN nl n x aR ((0:Nat):Int)) [] (.exit 0) (FN nl n x row n) H W then some (.bq [row,i64 0,i64 0])else none:=by kernel_rfl
theorem Qm (row:AV) (H:aa) (W:List Nat) (z:Nat) (e:Int):(mQ prog eZ (λ_=>cJ prog [⟨3,UH,.ret,JG nl n x row z e,H,W⟩] aN) 10 42 [ee nl n x] []).via ch=
  bif cj prog (ae f42 3) (FN nl n x aR ((0:Nat):Int)) [] .ret (JG nl n x row z e) H W then some (.bq [aR,i64 z,i64 e])else none:=by kernel_rfl
theorem Li {a b c d:AV}(h:ev a b):ev (.bq [a,c,d]) (.bq [b,c,d]):= .bq (.cons h (.cons (.refl _) (.cons (.refl _) .nil)))
theorem rR (hn:n<=16777216){l:List ep}{z:Nat}{e:Int}(h:uB n x 0 l z e) (H:aa):bZ prog 42 [ee nl n x] (ku pV l z e) H H []:=by
 obtain⟨row,H1,W,dC,hw⟩:=aaN (nl:=nl) hn h;by_cases he:e=0
 ·subst he;have hb:=UI (nl:=nl) (n:=n) (x:=x) row H1 W;have dC:an prog (.loop (ae f42 3)) (FN nl n x aR ((0:Nat):Int)) [] (.exit 0) (FN nl n x row n) H1 W:=dC;rw[bc dC]at hb;refine xP mixed (bV _) (λ_=>ba ab) hb rfl (λr=> .refl _) ?_ (n9 _ _ _ _).1 (n9 _ _ _ _).2 rfl H;unfold ku;rw[if_pos rfl];exact Li (hw rfl)
 ·have e0:(e==0)=false:=by simpa using he
  unfold xl at dC;rw[e0]at dC;have hb:=Qm (nl:=nl) (n:=n) (x:=x) row H1 W z e;have dC:an prog (.loop (ae f42 3)) (FN nl n x aR ((0:Nat):Int)) [] .ret (JG nl n x row z e) H1 W:=dC;rw[bc dC]at hb;refine xP mixed (bV _) (λ_=>ba ab) hb rfl (λr=> .refl _) ?_ (n9 _ _ _ _).1 (n9 _ _ _ _).2 rfl H;unfold ku;rw[if_neg he];exact Li Lf
end
def lZ:Code->Option (Array Tmp×Code×Code)
 | .rangeFunc _ ps a b=>some (ps,a,b)
 | .seq a b=>match lZ a with
  |some r=>some r
  |none=>lZ b
 | .block _ c=>lZ c
 | .cond _ a b=>match lZ a with
  |some r=>some r
  |none=>lZ b
 |_=>none
noncomputable def aaO:Code:=((f69.body.bind lZ).map (·.2.1)).getD .skip
noncomputable def aaP:Code:=((f69.body.bind lZ).map (·.2.2)).getD .skip
section
variable (nb:Bool) (n:Nat) (x:Nat->Int) (num kd nn:Int) (e:Int) (k:Nat) (b:Bool) (m:Nat) (y:Nat->Int)
def T69:List AV:=bz 22 [(0,ee nb n x),(2,.ptr 0 0),(3,.ptr 1 0),(4,.ptr 2 0),(5,.ptr 3 0),(6,.ptr 4 0),(9,ee nb n x),(10,.fn (.func 215) [] [.ptr 5 0,.ptr 6 0])]
noncomputable def tS (row:AV) (e:Int):aa:=[.cells [aR],.cells [i64 0],.cells [i64 0],.cells [row],.cells [i64 e],.cells [ee nb n x],.cells [.ptr 4 0],.mark .defs,.mark (.loop (T69 nb n x) #[11,12] aaO aaP none)]
noncomputable def Np (row:AV) (z e:Int):aa:=[.cells [aR],.cells [i64 z],.cells [i64 e],.cells [row],.cells [i64 e],.cells [ee nb n x],.cells [.ptr 4 0],.mark .defs,.mark (.loop (T69 nb n x) #[11,12] aaO aaP (some .ret))]
def l6 (p:Int):List AV:=bz 35 [(0,.kq 8),(1,.ptr 5 0),(2,.ptr 6 0),(4,i64 p)]
def Lj:List Nat:=[0,1,2,4]
noncomputable def Xa:bX:=Bx prog (kB prog eZ 10) 10 [(4,3)] [] [⟨16,0,Lb num kd nn k e b m y⟩]
theorem za (p:Nat):(iH prog (kB prog eZ 10) (Xa num kd nn e k b m y) 10 (ae f215 1) (l6 p) (tS nb n x aR 0)).via (cz Lj [9,10] 12)=
  bif decide ((p:Int)<(n:Int))then bif decide ((0:Int)<=(p:Int)/\(p:Int)<=(n:Int)/\(n:Int)<=(n:Int))then
   bif aD prog 216 [ee nb (n-p) (λi=>x (i+p))] [] (Lb num kd nn k e b m y)then
    bif (e !=0)then some ⟨.ret,l6 p,Np nb n x aR p e++[.dead,.dead],[9,4,8,10,0,1,2],true⟩
    else bif (e !=0)then some ⟨.ret,l6 p,tS nb n x (.aY false 4 1 (ng 0 (λ_=>[]) [i64 num,i64 kd,.sc (.int .u64 nn),ee b m y]) (.tok 11)) e++[.dead,.dead,.tail 1 4],[9,4,8,10,3],true⟩
    else some ⟨.normal,l6 (IntKind.wrap .i64 ((p:Int)+(k:Int))),tS nb n x (.aY false 4 1 (ng 0 (λ_=>[]) [i64 num,i64 kd,.sc (.int .u64 nn),ee b m y]) (.tok 11)) e++[.dead,.dead,.tail 1 4],[9,4,8,10,3],true⟩
   else none else none
  else some ⟨.exit 0,l6 p,tS nb n x aR 0,[],true⟩:=by kernel_rfl
theorem zb (p c:Nat) (g:Nat->List AV):(iH prog (kB prog eZ 10) (Xa num kd nn e k b m y) 10 (ae f215 1) (l6 p) (tS nb n x (.aY false 4 c g (.tok 11)) 0++[.dead,.dead,.tail c 4])).via (cz Lj [] 12)=
  bif decide ((p:Int)<(n:Int))then bif decide ((0:Int)<=(p:Int)/\(p:Int)<=(n:Int)/\(n:Int)<=(n:Int))then
   bif aD prog 216 [ee nb (n-p) (λi=>x (i+p))] [] (Lb num kd nn k e b m y)then
    bif (e !=0)then some ⟨.ret,l6 p,Np nb n x (.aY false 4 c g (.tok 11)) p e++[.dead,.dead,.tail c 4],[4,8,0,1,2],true⟩
    else bif decide ((c+1)*48<=70368744177664/\c+1<4611686018427387904)then bif decide (c=c)then
     bif (e !=0)then some ⟨.ret,l6 p,tS nb n x (.aY false 4 (c+1) (ng c g [i64 num,i64 kd,.sc (.int .u64 nn),ee b m y]) (.tok 11)) e++[.dead,.dead,.tail (c+1) 4],[4,8,11,3],true⟩
     else some ⟨.normal,l6 (IntKind.wrap .i64 ((p:Int)+(k:Int))),tS nb n x (.aY false 4 (c+1) (ng c g [i64 num,i64 kd,.sc (.int .u64 nn),ee b m y]) (.tok 11)) e++[.dead,.dead,.tail (c+1) 4],[4,8,11,3],true⟩else none else none
   else none else none
  else some ⟨.exit 0,l6 p,tS nb n x (.aY false 4 c g (.tok 11)) 0++[.dead,.dead,.tail c 4],[],true⟩:=by kernel_rfl
end
section
variable {n:Nat}{x:Nat->Int}
theorem Dn {r:W7}(h:Tk n x r):aD prog 216 [ee false n x] [] (Qj sJ r)=true:=ak (h.2.1 [])
noncomputable def lI (nb:Bool) (n:Nat) (x:Nat->Int) (row:AV) (z:Nat) (e:Int):aa:=bif (e==0)then tS nb n x row 0 else Np nb n x row z e
def wF (n z:Nat) (e:Int):Int:=bif (e==0)then(n:Int)else(z:Int)
theorem UJ (hn:n<=16777216):∀{p z:Nat}{l:List ep}{e:Int},uB n x p l z e->∀(c:Nat) (g:Nat->List AV),c<=p->∃k W,dX prog (ae f215 1) (xl e) (l6 (wF n z e)) (lI false n x (.aY false 4 (c+l.length) (AQ sJ c g l) (.tok 11)) z e++[.dead,.dead,.tail (c+l.length) 4]) k (l6 p) (tS false n x (.aY false 4 c g (.tok 11)) 0++[.dead,.dead,.tail c 4]) W:=by
 intro p z l e h
 induction h with
 |done=>
  intro c g hc;have hb:=zb false n x 0 0 0 0 0 false 0 (λ_=>0) n c g;rw[ag8 (by omega:¬(n:Int)<(n:Int))]at hb;have:=cE mixed (dv mixed (bV _) 10) (mD mixed (dv mixed (bV _) 10)) hb rfl (ag3 _) (by simp);exact⟨0,_,.out this (by simp[xl])⟩
 |err p e h tk=>
  intro c g hc;have hb:=zb false n x 0 0 0 e 0 true 0 (λ_=>0) p c g;have ha:aD prog 216 [ee false (n-p) (λi=>x (i+p))] [] (Lb 0 0 0 ((0:Nat):Int) e true 0 (λ_=>0))=true:=Dn tk;rw[ag2 (by omega:(p:Int)<(n:Int)),ag2 (by omega:(0:Int)<=(p:Int)/\(p:Int)<=(n:Int)/\(n:Int)<=(n:Int)),ha,(AR tk).1]at hb;have:=cE mixed (dv mixed (bV _) 10) (mD mixed (dv mixed (bV _) 10)) hb rfl (ag3 _) (by simp);have e0:(e==0)=false:=by simpa using (AR tk).2
  unfold xl lI wF;rw[e0];exact⟨0,_,.out this (by simp)⟩
 |next p r k l z e h tk rest ih=>
  intro c g hc;have hk:=tk.1.2;have hb:=zb false n x r.num r.kd r.nn 0 k (sJ r) r.m r.y p c g;have ha:aD prog 216 [ee false (n-p) (λi=>x (i+p))] [] (Lb r.num r.kd r.nn (k:Int) 0 (sJ r) r.m r.y)=true:=Dn tk;rw[ag2 (by omega:(p:Int)<(n:Int)),ag2 (by omega:(0:Int)<=(p:Int)/\(p:Int)<=(n:Int)/\(n:Int)<=(n:Int)),ha,ag2 (by omega:(c+1)*48<=70368744177664/\c+1<4611686018427387904),ag2 (rfl:c=c),wi (x:=(p:Int)+(k:Int)) (by omega) (by omega)]at hb;have:=cE mixed (dv mixed (bV _) 10) (mD mixed (dv mixed (bV _) 10)) hb rfl (ag3 _) (by simp);obtain⟨k',W',hr⟩:=ih (c+1) (ng c g (r.cells (sJ r))) (by omega);have e1:c+1+l.length=c+(r::l).length:=by simp;omega
  rw[e1]at hr;exact⟨k'+1,_,.next this hr⟩
theorem Ys {nb:Bool}(xJ:nb=true->n=0) (hn:n<=16777216){l:List ep}{z:Nat}{e:Int}(h:uB n x 0 l z e):∃row J W,an prog (.loop (ae f215 1)) (l6 ((0:Nat):Int)) (tS nb n x aR 0) (xl e) (l6 (wF n z e)) (lI nb n x row z e++J) W/\(∃rb rs rc rg ro,row= .aY rb rs rc rg ro)/\(e=0->ev row (dd sJ l)):=by
 cases h with
 |done=>
  have hb:=za nb 0 x 0 0 0 0 0 false 0 (λ_=>0) 0;have:=cE mixed (dv mixed (bV _) 10) (mD mixed (dv mixed (bV _) 10)) hb rfl (by show 9<=12;omega) (by simp[tS]);refine⟨aR,[],[],?_,⟨_,_,_,_,_,rfl⟩,λ_=>FO _⟩;rw[ah3];exact(dX.out this (by simp)).ok
 |err p e h tk=>
  have hnb:nb=false:=by
   cases nb with
   |false=>rfl
   |true=>exact absurd (xJ rfl) (by omega)
  subst hnb;have hb:=za false n x 0 0 0 e 0 true 0 (λ_=>0) 0;have ha:aD prog 216 [ee false (n-0) (λi=>x (i+0))] [] (Lb 0 0 0 ((0:Nat):Int) e true 0 (λ_=>0))=true:=Dn tk;rw[ag2 (by omega:((0:Nat):Int)<(n:Int)),ag2 (by omega:(0:Int)<=((0:Nat):Int)/\((0:Nat):Int)<=(n:Int)/\(n:Int)<=(n:Int)),ha,(AR tk).1]at hb;have:=cE mixed (dv mixed (bV _) 10) (mD mixed (dv mixed (bV _) 10)) hb rfl (by show 9<=12;omega) (by simp[tS]);have e0:(e==0)=false:=by simpa using (AR tk).2
  refine⟨aR,[.dead,.dead],[9,4,8,10,0,1,2],?_,⟨_,_,_,_,_,rfl⟩,λh=>absurd h (AR tk).2⟩;unfold xl lI wF;rw[e0];exact(dX.out this (by simp)).ok
 |next p r k l z e h tk rest=>
  have hnb:nb=false:=by
   cases nb with
   |false=>rfl
   |true=>exact absurd (xJ rfl) (by omega)
  subst hnb;have hk:=tk.1.2;have hb:=za false n x r.num r.kd r.nn 0 k (sJ r) r.m r.y 0;have ha:aD prog 216 [ee false (n-0) (λi=>x (i+0))] [] (Lb r.num r.kd r.nn (k:Int) 0 (sJ r) r.m r.y)=true:=Dn tk;rw[ag2 (by omega:((0:Nat):Int)<(n:Int)),ag2 (by omega:(0:Int)<=((0:Nat):Int)/\((0:Nat):Int)<=(n:Int)/\(n:Int)<=(n:Int)),ha,wi (x:=((0:Nat):Int)+(k:Int)) (by omega) (by omega)]at hb;have:=cE mixed (dv mixed (bV _) 10) (mD mixed (dv mixed (bV _) 10)) hb rfl (by show 9<=12;omega) (by simp[tS]);rw[←Int.natCast_add]at this;obtain⟨k',W',hr⟩:=UJ hn rest 1 (ng 0 (λ_=>[]) (r.cells (sJ r))) (by omega);exact⟨_,_,_,(dX.next this hr).ok,⟨_,_,_,_,_,rfl⟩,λ_=>Lg _ _ _ _ _⟩
theorem Qn (nb:Bool) (q:Int) (H:aa) (W:List Nat):(mQ prog eZ (λ_=>cJ prog [⟨1,Lj,.exit 0,l6 q,H,W⟩] aN) 10 215 [.kq 8,.ptr 5 0,.ptr 6 0] (tS nb n x aR 0)).via (λr=>(r.1,r.2.1))=
  bif cj prog (ae f215 1) (l6 ((0:Nat):Int)) (tS nb n x aR 0) (.exit 0) (l6 q) H W then some (.bq [],H)else none:=by kernel_rfl
theorem Nq (nb:Bool) (q:Int) (H:aa) (W:List Nat):(mQ prog eZ (λ_=>cJ prog [⟨1,Lj,.ret,l6 q,H,W⟩] aN) 10 215 [.kq 8,.ptr 5 0,.ptr 6 0] (tS nb n x aR 0)).via (λr=>(r.1,r.2.1))=
  bif cj prog (ae f215 1) (l6 ((0:Nat):Int)) (tS nb n x aR 0) .ret (l6 q) H W then some (.bq [],H)else none:=by kernel_rfl
theorem Yt {nb:Bool}(xJ:nb=true->n=0) (hn:n<=16777216){l:List ep}{z:Nat}{e:Int}(h:uB n x 0 l z e):∃row J W,bZ prog 215 [.kq 8,.ptr 5 0,.ptr 6 0] (.bq []) (tS nb n x aR 0) (lI nb n x row z e++J) W/\(∃rb rs rc rg ro,row= .aY rb rs rc rg ro)/\(e=0->ev row (dd sJ l)):=by
 obtain⟨row,J,W,dC,hro,hw⟩:=Ys xJ hn h;have key:∀F,F=some (.bq [],lI nb n x row z e++J)->(∃lo:FuncId->bX,(∀g,bA prog (lo g))/\(mQ prog eZ lo 10 215 [.kq 8,.ptr 5 0,.ptr 6 0] (tS nb n x aR 0)).via (λr=>(r.1,r.2.1))=F)->∃W',bZ prog 215 [.kq 8,.ptr 5 0,.ptr 6 0] (.bq []) (tS nb n x aR 0) (lI nb n x row z e++J) W':=by
  rintro F hF ⟨lo,hl,ht⟩;obtain⟨r,hr,he⟩:=cv ht hF;simp only[ahe]at he;have:=oZ mixed (bV _) hl 10 215 _ _ r hr;rw[he.1,he.2]at this;exact⟨_,this⟩
 by_cases he:e=0
 ·subst he;have dC:an prog (.loop (ae f215 1)) (l6 ((0:Nat):Int)) (tS nb n x aR 0) (.exit 0) (l6 (wF n z 0)) (lI nb n x row z 0++J) W:=dC;have hb:=Qn (n:=n) (x:=x) nb (wF n z 0) (lI nb n x row z 0++J) W;rw[bc dC]at hb;obtain⟨W',hc⟩:=key _ rfl ⟨_,λ_=>ba ab,hb⟩;exact⟨row,J,W',hc,hro,hw⟩
 ·have e0:(e==0)=false:=by simpa using he
  have adg:an prog (.loop (ae f215 1)) (l6 ((0:Nat):Int)) (tS nb n x aR 0) .ret (l6 (wF n z e)) (lI nb n x row z e++J) W:=by
   unfold xl at dC;rw[e0]at dC;exact dC
  have hb:=Nq (n:=n) (x:=x) nb (wF n z e) (lI nb n x row z e++J) W;rw[bc adg]at hb;obtain⟨W',hc⟩:=key _ rfl ⟨_,λ_=>ba ab,hb⟩;exact⟨row,J,W',hc,hro,hw⟩
theorem UK (nb:Bool) (rb:Bool) (rs rc:Nat) (rg:Nat->List AV) (ro:Own) (J:aa) (W:List Nat):(C6 prog (kB prog eZ 10) aN ⟨.bq [],tS nb n x (.aY rb rs rc rg ro) 0++J,W⟩ qM 10 69 [ee nb n x] []).via ch=
  bif cW prog 215 [.kq 8,.ptr 5 0,.ptr 6 0] (tS nb n x aR 0) (.bq []) (tS nb n x (.aY rb rs rc rg ro) 0++J) W then some (.bq [.aY rb rs rc rg ro,i64 0,i64 0])else none:=by kernel_rfl
theorem Qo (nb:Bool) (row:AV) (z:Nat) (e:Int) (J:aa) (W:List Nat):(C6 prog (kB prog eZ 10) aN ⟨.bq [],Np nb n x row z e++J,W⟩ qM 10 69 [ee nb n x] []).via ch=
  bif cW prog 215 [.kq 8,.ptr 5 0,.ptr 6 0] (tS nb n x aR 0) (.bq []) (Np nb n x row z e++J) W then some (.bq [aR,i64 z,i64 e])else none:=by kernel_rfl
theorem BL {nb:Bool}(xJ:nb=true->n=0) (hn:n<=16777216){l:List ep}{z:Nat}{e:Int}(h:uB n x 0 l z e) (H:aa):bZ prog 69 [ee nb n x] (ku sJ l z e) H H []:=by
 obtain⟨row,J,W,hc,⟨rb,rs,rc,rg,ro,rfl⟩,hw⟩:=Yt xJ hn h;have key:∀(rt:nY) (F:Option AV) (u:AV),(C6 prog (kB prog eZ 10) aN rt qM 10 69 [ee nb n x] []).via ch=F->F=some u->ev u (ku sJ l z e)->bZ prog 69 [ee nb n x] (ku sJ l z e) H H []:=by
  intro rt F u ht hF hu;obtain⟨r,hr,he⟩:=cv ht hF;have jk:=K3 mixed (dv mixed (bV _) 10) ab By hr;unfold ch at he;rw[he]at jk;have jk:=jk.W6 hu;have h0:bZ prog 69 [ee nb n x] (ku sJ l z e) [] r.2.1 []:=⟨jk.1,λE w0 w vs hg hr=>(jk.2.1 E w0 w vs hg hr).mono (λe w' ⟨E',re,ex,g⟩=>⟨E',re,ex.weaken (ag3 _) (λl hl _=>absurd hl (ahg _)),g⟩),jk.2.2.1,λl hl=>absurd hl (ahg _)⟩
  exact Dd h0 (n9 _ _ _ _).1 (n9 _ _ _ _).2 rfl H
 by_cases he:e=0
 ·subst he;have hc:bZ prog 215 [.kq 8,.ptr 5 0,.ptr 6 0] (.bq []) (tS nb n x aR 0) (tS nb n x (.aY rb rs rc rg ro) 0++J) W:=hc;have hb:=UK (n:=n) (x:=x) nb rb rs rc rg ro J W;rw[bS hc]at hb;refine key _ _ _ hb rfl ?_;unfold ku;rw[if_pos rfl];exact Li (hw rfl)
 ·have e0:(e==0)=false:=by simpa using he
  unfold lI at hc;rw[e0]at hc;have hc:bZ prog 215 [.kq 8,.ptr 5 0,.ptr 6 0] (.bq []) (tS nb n x aR 0) (Np nb n x (.aY rb rs rc rg ro) z e++J) W:=hc;have hb:=Qo (n:=n) (x:=x) nb (.aY rb rs rc rg ro) z e J W;rw[bS hc]at hb;refine key _ _ _ hb rfl ?_;unfold ku;rw[if_neg he];exact Li Lf
end
def JH (l:List Int):Nat->List AV:=λi=>[.sc (.int .u8 (l.getD i 0))]
theorem adh {l1 l2:List Int}{el1 el2:Nat->List AV}(h1:∀i,i<l1.length->el1 i=JH l1 i) (h2:∀i,i<l2.length->el2 i=JH l2 i):∀i,i<(l1++l2).length->bI l1.length el1 el2 i=JH (l1++l2) i:=by
 intro i hi;unfold bI;by_cases h:i<l1.length
 ·rw[if_pos h,h1 i h];simp[JH,ag4,ahb h]
 ·rw[if_neg h,h2 (i-l1.length) (by simp at hi;omega)];simp[JH,ag4,ahi (ah9 h)]
theorem uB.len {n:Nat}{x:Nat->Int}{p z:Nat}{l:List ep}{e:Int}(h:uB n x p l z e):l.length+p<=n:=by
 induction h with
 |done=>simp
 |err p e h tk=>simp;omega
 |next p r k l z e h tk rest ih=>have:=tk.1.2;simp;omega
section
variable {α:Type}(c:Int) (A B:α)
def uC:α:=bif !(c==95)then B else A
def xQ:α:=bif decide (c≥48)then(bif decide (c<=57)then A else uC c A B)else uC c A B
def xR:α:=bif decide (c≥65)then(bif decide (c<=90)then A else xQ c A B)else xQ c A B
def Dp:α:=bif decide (c≥97)then(bif decide (c<=122)then A else xR c A B)else xR c A B
theorem Dq:Dp c A B=A∨Dp c A B=B:=by
 have h4:uC c A B=A∨uC c A B=B:=by unfold uC;cases (!(c==95))<;>simp
 have cb:∀(b1 b2:Bool) (z:α),(z=A∨z=B)->((bif b1 then(bif b2 then A else z)else z)=A∨(bif b1 then(bif b2 then A else z)else z)=B):=λb1 b2 z hz=>by cases b1<;>cases b2<;>simp[hz]
 have h3:xQ c A B=A∨xQ c A B=B:=cb _ _ _ h4;have h2:xR c A B=A∨xR c A B=B:=cb _ _ _ h3;exact cb _ _ _ h2
end
section
variable (s:ByteArray)
def sa (p:Int):List AV:=bz 29 [(0,.sc (.string s)),(2,.sc (.bool false)),(3,i64 p)]
theorem FP (p:Nat):(iH prog (kB prog eZ 10) aN 10 (ae f187 2) (sa s p) []).via (cz [0,2,3] [] 0)=
  bif decide ((p:Int)<(s.size:Int))then bif decide ((0:Int)<=(p:Int)/\(p:Int)<(s.size:Int))then
   Dp (cr s p) (some ⟨.normal,sa s (IntKind.wrap .i64 ((p:Int)+1)),[],[],true⟩) (some ⟨.ret,sa s p,[],[],true⟩)else none
  else some ⟨.exit 0,sa s p,[],[],true⟩:=by kernel_rfl
theorem Qp (n:Nat):(mQ prog eZ (λ_=>cJ prog [⟨2,[0,2,3],.exit 0,sa s n,[],[]⟩] aN) 10 187 [.sc (.string s)] []).via ch=
  bif cj prog (ae f187 2) (sa s ((0:Nat):Int)) [] (.exit 0) (sa s n) [] []then
   (bif decide ((s.size:Int)≥1)then bif decide ((s.size:Int)<=200)then bif decide ((0:Int)<=0/\(0:Int)<(s.size:Int))then
    bif decide (cr s 0≥48)then some (.sc (.bool (!(decide (cr s 0<=57)))))else some (.sc (.bool true))else none else some (.sc (.bool false))else some (.sc (.bool false)))else none:=by kernel_rfl
theorem Nr (n:Nat):(mQ prog eZ (λ_=>cJ prog [⟨2,[0,2,3],.ret,sa s n,[],[]⟩] aN) 10 187 [.sc (.string s)] []).via ch=
  bif cj prog (ae f187 2) (sa s ((0:Nat):Int)) [] .ret (sa s n) [] []then some (.sc (.bool false))else none:=by kernel_rfl
theorem Lk (hs:s.size<=1099511627776):∀(d p:Nat),s.size-p=d->p<=s.size->(∃k n:Nat,dX prog (ae f187 2) (.exit 0) (sa s n) [] k (sa s p) [] [])∨(∃k n:Nat,dX prog (ae f187 2) .ret (sa s n) [] k (sa s p) [] [])
 |0,p,hd,hp=>by
  have hb:=FP s p;rw[ag8 (by omega:¬(p:Int)<(s.size:Int))]at hb;have:=cE mixed (dv mixed (bV _) 10) ab hb rfl (ag3 _) (by simp);exact .inl ⟨0,p,.out this (by simp)⟩
 |d+1,p,hd,hp=>by
  have hb:=FP s p;rw[ag2 (by omega:(p:Int)<(s.size:Int)),ag2 (by omega:(0:Int)<=(p:Int)/\(p:Int)<(s.size:Int))]at hb;simp only[cond_true]at hb;rcases Dq (cr s p) (some (⟨.normal,sa s (IntKind.wrap .i64 ((p:Int)+1)),[],[],true⟩:Tidy)) (some ⟨.ret,sa s p,[],[],true⟩)with h|h
  ·rw[h,wi (x:=(p:Int)+1) (by omega) (by omega)]at hb;have:=cE mixed (dv mixed (bV _) 10) ab hb rfl (ag3 _) (by simp);rcases Lk hs d (p+1) (by omega) (by omega)with ⟨k,n,hr⟩|⟨k,n,hr⟩
   ·exact .inl ⟨k+1,n,.next this hr⟩
   ·exact .inr ⟨k+1,n,.next this hr⟩
  ·rw[h]at hb;have:=cE mixed (dv mixed (bV _) 10) ab hb rfl (ag3 _) (by simp);exact .inr ⟨0,p,.out this (by simp)⟩
theorem lk (hs:s.size<=1099511627776):qL prog .bool 187 [.sc (.string s)]:=by
 have lf:∀a∈[AV.sc (.string s)],LF a:=λa ha=>by simp at ha;subst ha;exact .sc _
 have fin:∀(F:Option AV) (b:Bool) (lo:FuncId->bX),(∀g,bA prog (lo g))->(mQ prog eZ lo 10 187 [.sc (.string s)] []).via ch=F->F=some (.sc (.bool b))->qL prog .bool 187 [.sc (.string s)]:=by
  intro F b lo hl ht hF;refine⟨if b then 1 else 0,λH=> ?_⟩;have:=C3 mixed (bV _) hl ht hF lf H;cases b<;>exact this
 rcases Lk s hs s.size 0 (by omega) (by omega)with ⟨k,n,hr⟩|⟨k,n,hr⟩
 ·have hb:=Qp s n;rw[bc hr.ok]at hb;simp only[cond_true]at hb;by_cases h1:(s.size:Int)≥1
  ·rw[ag2 h1]at hb;by_cases h2:(s.size:Int)<=200
   ·rw[ag2 h2,ag2 (by omega:(0:Int)<=0/\(0:Int)<(s.size:Int))]at hb;cases h3:decide (cr s 0≥48)with
    |true=>rw[h3]at hb;exact fin _ _ _ (λ_=>ba ab) hb rfl
    |false=>rw[h3]at hb;exact fin _ _ _ (λ_=>ba ab) hb rfl
   ·rw[ag8 h2]at hb;exact fin _ _ _ (λ_=>ba ab) hb rfl
  ·rw[ag8 h1]at hb;exact fin _ _ _ (λ_=>ba ab) hb rfl
 ·have hb:=Nr s n;rw[bc hr.ok]at hb;exact fin _ _ _ (λ_=>ba ab) hb rfl
end
def aS (s:ByteArray):AV:= .sc (.string s)
def cY (b:Bool):AV:= .sc (.bool b)
structure hU where
 deep:Int
 name:ByteArray
 broken:Int
def Ll (b:Bool) (nm:ByteArray) (k:Int) (S:hU):hU:=bif !b&&(S.broken==0)then⟨S.deep,nm,k⟩else S
def aq:ByteArray:=⟨#[]⟩
def dot:ByteArray:=⟨#[46]⟩
def qU (s:ByteArray):Bool:=s.toList==aq.toList
def ar (a b:ByteArray):ByteArray:=bif qU a then b else a++dot++b
theorem Ns (a b:ByteArray):(kB prog eZ 8 186 [aS a,aS b] []).via ch=
  bif qU a then some (aS b)else bif decide (a.size+dot.size<=4611686018427387904)then bif decide ((a++dot).size+b.size<=4611686018427387904)then some (aS (a++dot++b))else none else none:=by kernel_rfl
theorem qV (a b:ByteArray):(a++b).size=a.size+b.size:=ByteArray.size_append
theorem gH (a b:ByteArray):(ar a b).size<=a.size+1+b.size:=by
 unfold ar
 cases qU a with
 |true=>simp only[cond_true];omega
 |false=>
  have:dot.size=1:=rfl;simp only[cond_false];rw[qV,qV,this];omega
theorem jw {a b:ByteArray}(ha:a.size<=1099511627776) (hb:b.size<=1099511627776) (H:aa):bZ prog 186 [aS a,aS b] (aS (ar a b)) H H []:=by
 have ht:=Ns a b;have hd:dot.size=1:=rfl;rw[qV,hd,ag2 (by omega:a.size+1<=4611686018427387904),ag2 (by omega:a.size+1+b.size<=4611686018427387904)]at ht;have e:(bif qU a then some (aS b)else bif true then bif true then some (aS (a++dot++b))else none else none)=some (aS (ar a b)):=by
  unfold ar;cases qU a<;>rfl
 rw[e]at ht;exact yQ mixed (bV _) ht rfl (λx hx=>by
  simp only[ahl,ahr,ahO]at hx;rcases hx with rfl|rfl<;>exact .sc _) H
section
variable (r:bD) (s:ByteArray)
def vJ (b:Bool) (i:Int):List AV:=bz 17 [(1,aS s),(4,.sc (.bool b)),(7,r.av),(8,i64 r.l.length),(9,i64 i)]
theorem Qq (i:Nat):(iH prog (kB prog eZ 10) aN 10 (ae f183 2) (vJ r s false i) []).via (cz [1,4,7,8,9] [] 0)=
  bif decide ((i:Int)<(r.l.length:Int))then bif decide ((0:Int)<=(i:Int)/\(i:Int)<(r.l.length:Int))then
   bif ((r.l.getD i aq).toList==s.toList)then some ⟨.ret,vJ r s true i,[],[],true⟩else some ⟨.normal,vJ r s false (IntKind.wrap .i64 ((i:Int)+1)),[],[],true⟩else none
  else some ⟨.exit 0,vJ r s false i,[],[],true⟩:=by kernel_rfl
theorem Qr (i:Nat):(mQ prog eZ (λ_=>cJ prog [⟨2,[1,4,7,8,9],.exit 0,vJ r s false i,[],[]⟩] aN) 10 183 [r.av,aS s] []).via ch=
  bif cj prog (ae f183 2) (vJ r s false ((0:Nat):Int)) [] (.exit 0) (vJ r s false i) [] []then some (.sc (.bool false))else none:=by kernel_rfl
theorem Nt (i:Nat):(mQ prog eZ (λ_=>cJ prog [⟨2,[1,4,7,8,9],.ret,vJ r s true i,[],[]⟩] aN) 10 183 [r.av,aS s] []).via ch=
  bif cj prog (ae f183 2) (vJ r s false ((0:Nat):Int)) [] .ret (vJ r s true i) [] []then some (.sc (.bool true))else none:=by kernel_rfl
theorem oa (hr:r.l.length<=1099511627776):qL prog .bool 183 [r.av,aS s]:=by
 have hl:=iE (P:=prog) (c:=ae f183 2) (λm T H=>∃i:Nat,i<=r.l.length/\m=r.l.length-i/\T=vJ r s false i/\H=[])
  (λx T H=>H=[]/\∃i:Nat,(x= .exit 0/\T=vJ r s false i)∨(x= .ret/\T=vJ r s true i)) 0 (by
  rintro m T H ⟨i,hi,rfl,rfl,rfl⟩;have hb:=Qq r s i;by_cases cO:i<r.l.length
  ·rw[ag2 (by omega:(i:Int)<(r.l.length:Int)),ag2 (by omega:(0:Int)<=(i:Int)/\(i:Int)<(r.l.length:Int)),wi (x:=(i:Int)+1) (by omega) (by omega)]at hb;cases he:((r.l.getD i aq).toList==s.toList)with
   |true=>
    rw[he]at hb;exact⟨_,_,_,_,cE mixed (dv mixed (bV _) 10) ab hb rfl (ag3 _) (by simp),λ_ _=>ag9 _,.inr ⟨by simp,rfl,i,.inr ⟨rfl,rfl⟩⟩⟩
   |false=>
    rw[he]at hb;exact⟨_,_,_,_,cE mixed (dv mixed (bV _) 10) ab hb rfl (ag3 _) (by simp),λ_ _=>ag9 _,.inl ⟨rfl,r.l.length-(i+1),by omega,i+1,by omega,rfl,rfl,rfl⟩⟩
  ·rw[ag8 (by omega:¬(i:Int)<(r.l.length:Int))]at hb;exact⟨_,_,_,_,cE mixed (dv mixed (bV _) 10) ab hb rfl (ag3 _) (by simp),λ_ _=>ag9 _,.inr ⟨by simp,rfl,i,.inl ⟨rfl,rfl⟩⟩⟩)
 obtain⟨x,T',H',W,dC,_,rfl,i,⟨rfl,rfl⟩|⟨rfl,rfl⟩⟩:=hl _ _ _ ⟨0,ag9 _,rfl,rfl,rfl⟩
 ·have dC:=dC.wr (Wr':=[]) (λl _ hl=>absurd hl (ahg _));have hb:=Qr r s i;rw[bc dC]at hb;exact⟨0,λH=>C3 mixed (bV _) (λ_=>ba ab) hb rfl (λa ha=>by
   simp only[ahl,ahr,ahO]at ha;rcases ha with rfl|rfl
   ·exact .aY _ _ _ _ _ (by simp)
   ·exact .sc _) H⟩
 ·have dC:=dC.wr (Wr':=[]) (λl _ hl=>absurd hl (ahg _));have hb:=Nt r s i;rw[bc dC]at hb;exact⟨1,λH=>C3 mixed (bV _) (λ_=>ba ab) hb rfl (λa ha=>by
   simp only[ahl,ahr,ahO]at ha;rcases ha with rfl|rfl
   ·exact .aY _ _ _ _ _ (by simp)
   ·exact .sc _) H⟩
end
end Go.Proofs.YtiipaliigpkfhaaGreat.Ab
