/- Lemmas 8. -/
import Derived.Test.YtiipaliigpkfhaaGreatVP6
import Derived.Test.YtiipaliigpkfhaaGreatVP7
set_option maxRecDepth 100000
namespace Go.Proofs.YtiipaliigpkfhaaGreat.Ab
open Go Go.RowKit Go.Proofs Go.Proofs.Tryz
section
variable {P:Program}{call:cZ}{lo:bX}{nj:List Nat}
theorem ai (hm:P.follows .mixedOrders=true) (hc:cx P call){k n:Nat}{c:Code}{T T1:List AV}{H H1:aa}{ks kl:List Nat}{x:bj}{W1:List Nat}{F:Option Tidy}(hl:bA P lo) (h:(db P call lo nj k c T H).via (cz ks kl n)=F)
  (hF:F=some ⟨x,T1,H1,W1,true⟩) (hn:H.length<=n) (jI:∀l∈kl,H.length<=l):an P c T H x T1 H1 W1:=by
 obtain⟨⟨y,T2,H2,W2⟩,hr,hg⟩:=cv h hF;have dC:=lX hm hc hl nj k c _ _ _ _ _ _ hr;simp only[cz,Tidy.mk.injEq,ahp]at hg;obtain⟨rfl,rfl,rfl,rfl,⟨h1,h2⟩,h3⟩:=hg;exact(((dC.kill kl _ jI).eB (dL _ _ _)).trim hn h1 (by simpa using h2) h3).wr (λl hl cO=>dt (by omega) hl)
theorem gh (hm:P.follows .mixedOrders=true) (hc:cx P call) (hl:bA P lo){n:Nat}{g:FuncId}{args:List AV}{F:Option AV}{u:Value}(h:(eb P call lo nj n g args []).via ch=F) (hF:F=some (.sc u)) (dn:∀a∈args,LF a) (H:aa):bZ P g args (.sc u) H H []:=by
 obtain⟨r,hr,hu⟩:=cv h hF;have:=gQ hm hc hl hr;unfold ch at hu;rw[hu]at this;exact rK this dn H
theorem vK (hm:P.follows .mixedOrders=true) (hc:cx P call) (hl:bA P lo){n:Nat}{g:FuncId}{args:List AV}{F:Option AV}{b:Bool}(h:(eb P call lo nj n g args []).via ch=F) (hF:F=some (.sc (.bool b))) (dn:∀a∈args,LF a):qL P .bool g args:=
 ⟨if b then 1 else 0,λH=>by
  have:=gh hm hc hl h hF dn H;cases b<;>exact this⟩
end
theorem FQ {P:Program}{c:Code}(T0 T1:Nat->List AV) (ex:bj) (hx:ex≠.normal) (n:Nat) (round:∀i,i<n->an P c (T0 i) [] .ret (T1 i) [] []∨an P c (T0 i) [] .normal (T0 (i+1)) [] []) (out:an P c (T0 n) [] ex (T0 n) [] []):
  an P (.loop c) (T0 0) [] ex (T0 n) [] []∨∃j,an P (.loop c) (T0 0) [] .ret (T1 j) [] []:=by
 have key:∀d i,n-i=d->i<=n->(∃k,dX P c ex (T0 n) [] k (T0 i) [] [])∨∃j k,dX P c .ret (T1 j) [] k (T0 i) [] []:=by
  intro d
  induction d with
  |zero=>
   intro i hd hi;have:i=n:=by omega
   subst this;exact .inl ⟨0,.out out hx⟩
  |succ d ih=>
   intro i hd hi;rcases round i (by omega)with h|h
   ·exact .inr ⟨i,0,.out h (by simp)⟩
   ·rcases ih (i+1) (by omega) (by omega)with ⟨k,hr⟩|⟨j,k,hr⟩
    ·exact .inl ⟨k+1,.next h hr⟩
    ·exact .inr ⟨j,k+1,.next h hr⟩
 rcases key n 0 (by omega) (ag9 _)with ⟨k,hr⟩|⟨j,k,hr⟩
 ·exact .inl hr.ok
 ·exact .inr ⟨j,hr.ok⟩
namespace az
def name:az->ByteArray| .mk a _ _ _ _ _ _ _ _ _ _ _=>a
def af:az->aX aP| .mk _ a _ _ _ _ _ _ _ _ _ _=>a
def mN:az->Bool| .mk _ _ a _ _ _ _ _ _ _ _ _=>a
def aC:az->List az| .mk _ _ _ a _ _ _ _ _ _ _ _=>a
def aQ:az->aX bt| .mk _ _ _ _ a _ _ _ _ _ _ _=>a
def bB:az->aX dY| .mk _ _ _ _ _ a _ _ _ _ _ _=>a
def exts:az->aX aP| .mk _ _ _ _ _ _ a _ _ _ _ _=>a
def aI:az->aX cF| .mk _ _ _ _ _ _ _ a _ _ _ _=>a
def bp:az->aX dY| .mk _ _ _ _ _ _ _ _ a _ _ _=>a
def bY:az->bD| .mk _ _ _ _ _ _ _ _ _ a _ _=>a
def opts:az->jh| .mk _ _ _ _ _ _ _ _ _ _ a _=>a
def dE:az->jh| .mk _ _ _ _ _ _ _ _ _ _ _ a=>a
def flat (m:az) (el:Nat->List AV):List AV:=[.sc (.string m.name),m.af.av 13 aP.cells,.aY m.mN 11 m.aC.length el .dA,m.aQ.av 4 bt.cells,m.bB.av 2 dY.cells,m.exts.av 13 aP.cells,m.aI.av 3 cF.cells,m.bp.av 2 dY.cells,m.bY.av,m.opts.av,m.dE.av]
def one (m:az):List AV:=m.flat (λi=>(mE m.aC).getD i [])
def two (m:az):List AV:=m.flat (λi=>(m.aC.getD i default).one)
theorem cells_one (m:az):m.cells=m.one:=by cases m;simp only[cells,one,flat,name,af,mN,aC,aQ,bB,exts,aI,bp,bY,opts,dE]
theorem Qs (m:az) (i:Nat) (h:i<m.aC.length):(mE m.aC).getD i []=(m.aC.getD i default).one:=by
 rw[ph,←cells_one];simp[ag4,h]
theorem xS (m:az):Wk m.one m.two:= .cons (.refl _) (.cons (.refl _) (.cons (.aY (m.Qs)) (.refl _)))
end az
section
variable (r:aX dY) (n:Int)
def xm (b:Bool) (i:Int):List AV:=bz 24 [(1,i64 n),(4,cY b),(7,r.av 2 dY.cells),(8,i64 r.l.length),(9,i64 i)]
theorem FR (i:Nat):(db prog (kB prog eZ 3) aN [] 3 (ae f194 2) (xm r n false i) []).via (cz [1,4,7,8,9] [] 0)=
  bif decide ((i:Int)<(r.l.length:Int))then bif decide ((0:Int)<=(i:Int)/\(i:Int)<(r.l.length:Int))then
   bif (bif decide (n≥(r.l.getD i default).lo)then decide (n<=(r.l.getD i default).hi)else false)then some ⟨.ret,xm r n true i,[],[],true⟩else some ⟨.normal,xm r n false (IntKind.wrap .i64 ((i:Int)+1)),[],[],true⟩else none
  else some ⟨.exit 0,xm r n false i,[],[],true⟩:=by kernel_rfl
theorem Qt (i:Nat):(eb prog (kB prog eZ 3) (cJ prog [⟨2,[1,4,7,8,9],.exit 0,xm r n false i,[],[]⟩] aN) [] 3 194 [r.av 2 dY.cells,i64 n] []).via ch=
  bif cj prog (ae f194 2) (xm r n false ((0:Nat):Int)) [] (.exit 0) (xm r n false i) [] []then some (cY false)else none:=by kernel_rfl
theorem Nu (i:Nat):(eb prog (kB prog eZ 3) (cJ prog [⟨2,[1,4,7,8,9],.ret,xm r n true i,[],[]⟩] aN) [] 3 194 [r.av 2 dY.cells,i64 n] []).via ch=
  bif cj prog (ae f194 2) (xm r n false ((0:Nat):Int)) [] (.ret) (xm r n true i) [] []then some (cY true)else none:=by kernel_rfl
theorem zc (hr:r.l.length<=1099511627776):qL prog .bool 194 [r.av 2 dY.cells,i64 n]:=by
 have lf:∀a∈[r.av 2 dY.cells,i64 n],LF a:=λa ha=>by
  simp only[ahl,ahr,ahO]at ha;rcases ha with rfl|rfl
  ·exact .aY _ _ _ _ _ (by simp)
  ·exact .sc _
 have hl:=FQ (P:=prog) (c:=ae f194 2) (λi=>xm r n false i) (λi=>xm r n true i) (.exit 0) (by simp) (r.l.length) (λi hi=>by
  have hb:=FR r n i;rw[ag2 (by omega:(i:Int)<(r.l.length:Int)),ag2 (by omega:(0:Int)<=(i:Int)/\(i:Int)<(r.l.length:Int)),wi (x:=(i:Int)+1) (by omega) (by omega)]at hb;cases hc:((bif decide (n≥(r.l.getD i default).lo)then decide (n<=(r.l.getD i default).hi)else false):Bool)with
  |true=>rw[hc]at hb;exact .inl (ai mixed (dv mixed (bV _) 3) ab hb rfl (ag3 _) (by simp))
  |false=>rw[hc]at hb;exact .inr (ai mixed (dv mixed (bV _) 3) ab hb rfl (ag3 _) (by simp))) (by
  have hb:=FR r n (r.l.length);rw[ag8 (by omega)]at hb;exact ai mixed (dv mixed (bV _) 3) ab hb rfl (ag3 _) (by simp))
 rcases hl with h|⟨j,h⟩
 ·have hb:=Qt r n (r.l.length);rw[bc h]at hb;exact vK mixed (dv mixed (bV _) 3) (ba ab) hb rfl lf
 ·have hb:=Nu r n j;rw[bc h]at hb;exact vK mixed (dv mixed (bV _) 3) (ba ab) hb rfl lf
end
abbrev lim:Nat:=1099511627776
def zd (g:FuncId) (args:List AV):Prop:=∃s:ByteArray,s.size<=lim/\∀H,bZ prog g args (aS s) H H []
def ze (g:FuncId) (args:List AV):Prop:=∃r:bD,(r.l.length<=lim/\∀s∈r.l,s.size<=lim)/\∀H,bZ prog g args r.av H H []
open Classical in
noncomputable def Lm (g:FuncId) (args:List AV):Bool:=decide (zd g args)
open Classical in
noncomputable def Ln (g:FuncId) (args:List AV):ByteArray:=if h:zd g args then h.choose else⟨#[]⟩
open Classical in
noncomputable def rS (g:FuncId) (args:List AV):Bool:=decide (ze g args)
open Classical in
noncomputable def jD (g:FuncId) (args:List AV):bD:=if h:ze g args then h.choose else⟨true,[]⟩
theorem zf {g:FuncId}{args:List AV}(h:ze g args):rS g args=true:=by simp[rS,h]
theorem JI (g:FuncId) (args:List AV):(jD g args).l.length<=lim/\∀s∈(jD g args).l,s.size<=lim:=by
 unfold jD;split
 ·rename_i h;exact h.choose_spec.1
 ·exact⟨ag9 _,λs hs=>by simp at hs⟩
inductive Kd where
 |b
 |i
 |t
 |r
 deriving DecidableEq
noncomputable def Qu (ks:List (FuncId×Kd)):ts:=λg args H=>match ks.find? (·.1==g)with
 |some (_,.b)=>some (Jt prog .bool g args H)
 |some (_,.i)=>some (Jt prog (.int .i64) g args H)
 |some (_,.t)=>some (.br (Lm g args) (.leaf (aS (Ln g args),H,[])) .bad)
 |some (_,.r)=>some (.br (rS g args) (.leaf ((jD g args).av,H,[])) .bad)
 |none=>none
theorem Dr {ks:List (FuncId×Kd)}:qK prog (Qu ks):=by
 intro g args H t r h hr;unfold Qu at h;split at h
 ·cases h;exact Bs hr
 ·cases h;exact Bs hr
 ·cases h;rcases Tree.df hr with ⟨hb,hr⟩|⟨_,hr⟩
  ·rw[Tree.aE hr];have hk:zd g args:=by simpa [Lm]using hb
   simp only[Ln,dif_pos hk];exact hk.choose_spec.2 H
  ·exact(Tree.aZ hr).elim
 ·cases h;rcases Tree.df hr with ⟨hb,hr⟩|⟨_,hr⟩
  ·rw[Tree.aE hr];have hk:ze g args:=by simpa [rS]using hb
   simp only[jD,dif_pos hk];exact hk.choose_spec.2 H
  ·exact(Tree.aZ hr).elim
 ·cases h
noncomputable abbrev cK (ks:List (FuncId×Kd)):cZ:=kB prog (Qu ks) 3
theorem au (ks:List (FuncId×Kd)):cx prog (cK ks):=dv mixed Dr 3
theorem Ds {s:ByteArray}(h:s.size<=lim):tu prog .bool 187 [aS s]=true:=Br (lk s h)
theorem Nv (s:ByteArray):(eb prog (cK []) aN [] 3 259 [aS s] []).via ch=
  bif qU s then some (aS aq)else bif decide ((0:Int)<=1/\(1:Int)<=(s.size:Int)/\(s.size:Int)<=(s.size:Int))then some (aS (s.extract 1 s.size))else none:=by kernel_rfl
theorem jx {s:ByteArray}:qU s=false↔0<s.size:=by
 unfold qU;have h1:aq.toList=[]:=by rw[ByteArray.toList_eq];rfl
 rw[h1];have:s.toList.length=s.size:=by rw[ByteArray.toList_eq];exact Array.length_toList
 constructor
 ·intro h;apply ahW;intro hc;have:s.toList=[]:=aid (by omega);rw[this]at h;simp at h
 ·intro h
  cases hl:s.toList with
  |nil=>rw[hl]at this;simp at this;omega
  |cons a l=>rfl
def wG (s:ByteArray):ByteArray:=bif qU s then aq else s.extract 1 s.size
theorem Qv (s:ByteArray) (H:aa):bZ prog 259 [aS s] (aS (wG s)) H H []:=by
 have ht:=Nv s;refine gh mixed (au []) ab (u:= .string (wG s)) ht ?_ (λa ha=>by simp at ha;subst ha;exact .sc _) H;unfold wG
 cases h:qU s with
 |true=>rfl
 |false=>
  have:=jx.1 h;rw[ag2 (by omega:(0:Int)<=1/\(1:Int)<=(s.size:Int)/\(s.size:Int)<=(s.size:Int))];rfl
def brR {α:Type}:Tree α->Tree α
 | .br _ _ f=>f
 |t=>t
theorem JJ (k:Int):(eb prog (cK []) aN [] 3 257 [i64 k] []).via ch=
  bif (bif decide (k<0)then true else decide (k≥((19:Nat):Int)))then some (aS aq)else(brR (eb prog (cK []) aN [] 3 257 [i64 k] [])).via ch:=by kernel_rfl
def FT (o:Option AV):Option Bool:=match o with
 |some (.sc (.string s))=>some (Nat.ble s.size 20)
 |_=>none
theorem JK {o:Option AV}(h:FT o=some true):∃s:ByteArray,s.size<=20/\o=some (aS s):=by
 unfold FT at h;split at h
 ·rename_i s;exact⟨s,Nat.le_of_ble_eq_true (by simpa using h),rfl⟩
 ·cases h
theorem JL:((List.range 19).all λn=>(FT ((eb prog (cK []) aN [] 3 257 [i64 (n:Int)] []).via ch)).getD false)=true:=by kernel_rfl
theorem Nw (n:Nat) (h:n<19):FT ((eb prog (cK []) aN [] 3 257 [i64 (n:Int)] []).via ch)=some true:=by
 have:=ahq.1 JL n (List.mem_range.2 h);generalize FT _=o at this ⊢
 match o,this with
 |some true,_=>rfl
theorem FU (k:Int):zd 257 [i64 k]:=by
 have lf:∀a∈[i64 k],LF a:=λa ha=>by simp at ha;subst ha;exact .sc _
 by_cases h:k<0∨k≥((19:Nat):Int)
 ·have ht:=JJ k;have hc:(bif decide (k<0)then true else decide (k≥((19:Nat):Int)))=true:=by
   by_cases h1:k<0
   ·rw[ag2 h1];rfl
   ·rw[ag8 h1,ag2 (by omega)];rfl
  rw[hc]at ht;exact⟨aq,ag9 _,λH=>gh mixed (au []) ab (u:= .string aq) ht rfl lf H⟩
 ·have hk:((k.toNat:Nat):Int)=k:=by omega
  obtain⟨s,hs,he⟩:=JK (Nw k.toNat (by omega));simp only[hk]at he;exact⟨s,by unfold lim;omega,λH=>gh mixed (au []) ab (u:= .string s) he rfl lf H⟩
def Nx (g:Bool) (c:Int):Int:=bif (bif (bif g then decide (c≥97)else false)then decide (c<=122)else false)then IntKind.wrap .u8 (c-32)else c
section
variable (s:ByteArray)
def qo (g:Bool) (out:AV) (i:Int):List AV:=bz 36 [(0,aS s),(1,cY g),(5,out),(6,i64 i)]
def FV (l:List Int) (t:Nat):AV:= .aY false 1 l.length (JH l) (.tok t)
theorem Qw (g:Bool) (i:Nat):(db prog (cK []) aN [] 3 (ae f282 3) (qo s g aR i) []).via (cz [0,1,5,6] [] 1)=
  bif decide ((i:Int)<(s.size:Int))then bif decide ((0:Int)<=(i:Int)/\(i:Int)<(s.size:Int))then
   bif (cr s i==95)then some ⟨.normal,qo s true aR (IntKind.wrap .i64 ((i:Int)+1)),[],[],true⟩
   else some ⟨.normal,qo s false (.aY false 1 1 (bI 0 (λ_=>[]) (rowOf 1 [.sc (.int .u8 (Nx g (cr s i)))])) (.tok 0)) (IntKind.wrap .i64 ((i:Int)+1)),[.tail 1 1],[],true⟩else none
  else some ⟨.exit 0,qo s g aR i,[],[],true⟩:=by kernel_rfl
theorem Qx (g:Bool) (n i:Nat) (el:Nat->List AV):(db prog (cK []) aN [] 3 (ae f282 3) (qo s g (.aY false 1 n el (.tok 0)) i) [.tail n 1]).via (cz [0,1,5,6] [] 1)=
  bif decide ((i:Int)<(s.size:Int))then bif decide ((0:Int)<=(i:Int)/\(i:Int)<(s.size:Int))then
   bif (cr s i==95)then some ⟨.normal,qo s true (.aY false 1 n el (.tok 0)) (IntKind.wrap .i64 ((i:Int)+1)),[.tail n 1],[],true⟩
   else bif decide ((n+1)*1<=70368744177664/\n+1<4611686018427387904)then bif decide (n=n)then some ⟨.normal,qo s false (.aY false 1 (n+1) (bI n el (rowOf 1 [.sc (.int .u8 (Nx g (cr s i)))])) (.tok 0)) (IntKind.wrap .i64 ((i:Int)+1)),[.tail (n+1) 1],[0],true⟩else none else none else none
  else some ⟨.exit 0,qo s g (.aY false 1 n el (.tok 0)) i,[.tail n 1],[],true⟩:=by kernel_rfl
theorem UL (g0 g:Bool) (i:Nat):(eb prog (cK []) (cJ prog [⟨3,[0,1,5,6],.exit 0,qo s g aR i,[],[]⟩] aN) [] 3 282 [aS s,cY g0] []).via ch=
  bif cj prog (ae f282 3) (qo s g0 aR ((0:Nat):Int)) [] (.exit 0) (qo s g aR i) [] []then some (aS (yB []))else none:=by kernel_rfl
theorem UM (g0 g:Bool) (i:Nat) (l:List Int):(eb prog (cK []) (cJ prog [⟨3,[0,1,5,6],.exit 0,qo s g (FV l 0) i,[.tail l.length 1],[]⟩] aN) [] 3 282 [aS s,cY g0] []).via ch=
  bif cj prog (ae f282 3) (qo s g0 aR ((0:Nat):Int)) [] (.exit 0) (qo s g (FV l 0) i) [.tail l.length 1] []then bif (lG l.length (JH l)).isSome then some (aS (yB ((lG l.length (JH l)).getD [])))else none else none:=by kernel_rfl
end
theorem zg:∀l:List Int,lG l.length (JH l)=some l
 |[]=>rfl
 |k::r=>by
  have e0:JH (k::r) 0=[.sc (.int .u8 k)]:=rfl;have e:(λi=>JH (k::r) (i+1))=JH r:=by funext i;simp[JH]
  simp only[ahv,lG,e0,e,zg r,ahs]
theorem BM (l:List Int):(yB l).size=l.length:=by
 have key:∀(l:List Int) (r:ByteArray),(l.foldl (λr n=>r.push (UInt8.ofNat n.toNat)) r).size=r.size+l.length:=by
  intro l
  induction l with
  |nil=>intro r;rfl
  |cons a l ih=>intro r;rw[ah7,ih,ByteArray.size_push,ahv];omega
 unfold yB;rw[key];have:ByteArray.empty.size=0:=rfl;omega
theorem Qy {l:List Int}{n t:Nat}{b:Int}{el:Nat->List AV}(hn:n=l.length) (h:∀i,i<l.length->el i=JH l i):ev (.aY false 1 (n+1) (bI n el (rowOf 1 [.sc (.int .u8 b)])) (.tok t)) (FV (l++[b]) t):=by
 subst hn;unfold FV;have e:(l++[b]).length=l.length+1:=by simp
 rw[e];exact ev.aY (λi hi=>adh (l2:=[b]) (el2:=rowOf 1 [.sc (.int .u8 b)]) h (λj hj=>by
  have:j=0:=by simp at hj;omega
  subst this;rfl) i (by rw[e];exact hi))
theorem FW (s:ByteArray) (g:Bool) (hs:s.size<=1099511627776):∃t:ByteArray,t.size<=s.size/\∀H,bZ prog 282 [aS s,cY g] (aS t) H H []:=by
 have lf:∀a∈[aS s,cY g],LF a:=λa ha=>by
  simp only[ahl,ahr,ahO]at ha;rcases ha with rfl|rfl<;>exact .sc _
 have hl:=iE (P:=prog) (c:=ae f282 3)
  (λm T H=>∃(i:Nat) (g:Bool),i<=s.size/\m=s.size-i/\((T=qo s g aR i/\H=[])∨∃l:List Int,l.length<=i/\T=qo s g (FV l 0) i/\H=[.tail l.length 1]))
  (λx T H=>x= .exit 0/\∃(i:Nat) (g:Bool),((T=qo s g aR i/\H=[])∨∃l:List Int,l.length<=s.size/\T=qo s g (FV l 0) i/\H=[.tail l.length 1])) 0 (by
  rintro m T H ⟨i,g,hi,rfl,⟨rfl,rfl⟩|⟨l,vr,rfl,rfl⟩⟩
  ·have hb:=Qw s g i;by_cases cO:i<s.size
   ·rw[ag2 (by omega:(i:Int)<(s.size:Int)),ag2 (by omega:(0:Int)<=(i:Int)/\(i:Int)<(s.size:Int)),wi (x:=(i:Int)+1) (by omega) (by omega)]at hb;cases hc:(cr s i==95)with
    |true=>
     rw[hc]at hb;exact⟨_,_,_,_,ai mixed (au _) ab hb rfl (ag9 _) (by simp),λ_ _=>ag9 _,.inl ⟨rfl,s.size-(i+1),by omega,i+1,true,by omega,rfl,.inl ⟨rfl,rfl⟩⟩⟩
    |false=>
     rw[hc]at hb;have:=ai mixed (au _) ab hb rfl (ag9 _) (by simp);have:=this.eB (Wk.tm (l':=[(0,aS s),(1,cY false),(5,FV [Nx g (cr s i)] 0),(6,i64 ((i:Int)+1))]) (.cons (.refl _) (.cons (.refl _) (.cons (Qy (l:=[]) rfl (λi hi=>by simp at hi)) (.cons (.refl _) .nil)))));exact⟨_,_,_,_,this,λ_ _=>ag9 _,.inl ⟨rfl,s.size-(i+1),by omega,i+1,false,by omega,rfl,.inr ⟨[Nx g (cr s i)],by simp,rfl,rfl⟩⟩⟩
   ·rw[ag8 (by omega:¬(i:Int)<(s.size:Int))]at hb;exact⟨_,_,_,_,ai mixed (au _) ab hb rfl (ag9 _) (by simp),λ_ _=>ag9 _,.inr ⟨by simp,rfl,i,g,.inl ⟨rfl,rfl⟩⟩⟩
  ·have hb:=Qx s g l.length i (JH l);by_cases cO:i<s.size
   ·rw[ag2 (by omega:(i:Int)<(s.size:Int)),ag2 (by omega:(0:Int)<=(i:Int)/\(i:Int)<(s.size:Int)),wi (x:=(i:Int)+1) (by omega) (by omega),
     ag2 (by omega:(l.length+1)*1<=70368744177664/\l.length+1<4611686018427387904),ag2 (rfl:l.length=l.length)]at hb
    cases hc:(cr s i==95)with
    |true=>
     rw[hc]at hb;exact⟨_,_,_,_,ai mixed (au _) ab hb rfl (ag3 _) (by simp),λ_ _=>ag9 _,.inl ⟨rfl,s.size-(i+1),by omega,i+1,true,by omega,rfl,.inr ⟨l,by omega,rfl,rfl⟩⟩⟩
    |false=>
     rw[hc]at hb;have:=ai mixed (au _) ab hb rfl (ag3 _) (by simp);have:=this.eB (Wk.tm (l':=[(0,aS s),(1,cY false),(5,FV (l++[Nx g (cr s i)]) 0),(6,i64 ((i:Int)+1))]) (.cons (.refl _) (.cons (.refl _) (.cons (Qy rfl (λ_ _=>rfl)) (.cons (.refl _) .nil)))));exact⟨_,_,_,_,this,λ_ _=>ag9 _,.inl ⟨rfl,s.size-(i+1),by omega,i+1,false,by omega,rfl,.inr ⟨l++[Nx g (cr s i)],by simp;omega,rfl,by simp⟩⟩⟩
   ·rw[ag8 (by omega:¬(i:Int)<(s.size:Int))]at hb;exact⟨_,_,_,_,ai mixed (au _) ab hb rfl (ag3 _) (by simp),λ_ _=>ag9 _,.inr ⟨by simp,rfl,i,g,.inr ⟨l,by omega,rfl,rfl⟩⟩⟩)
 obtain⟨x,T',H',W,dC,_,rfl,i,g',⟨rfl,rfl⟩|⟨l,vr,rfl,rfl⟩⟩:=hl _ _ _ ⟨0,g,ag9 _,rfl,.inl ⟨rfl,rfl⟩⟩
 ·have dC:=dC.wr (Wr':=[]) (λl _ hl=>absurd hl (ahg _));have hb:=UL s g g' i;rw[bc dC]at hb;exact⟨_,by rw[BM];exact ag9 _,λH=>gh mixed (au _) (ba ab) hb rfl lf H⟩
 ·have dC:=dC.wr (Wr':=[]) (λl _ hl=>absurd hl (ahg _));have hb:=UM s g g' i l;rw[bc dC,zg]at hb;exact⟨_,by rw[BM];exact vr,λH=>gh mixed (au _) (ba ab) (u:= .string (yB l)) hb rfl lf H⟩
theorem Dt (s t:ByteArray):(eb prog (cK []) (told prog [] [⟨4,0,aS t⟩]) [] 3 256 [aS s] []).via ch=
  bif aD prog 282 [aS s,cY true] [] (aS t)then bif decide (t.size+5<=4611686018427387904)then some (aS (t++⟨#[69,110,116,114,121]⟩))else none else none:=by kernel_rfl
theorem sK (s:ByteArray) (hs:s.size<=1000000000000):zd 256 [aS s]:=by
 obtain⟨t,ht,hc⟩:=FW s true (by omega);have hb:=Dt s t;rw[ak (hc []),ag2 (by omega)]at hb;refine⟨_,?_,λH=>gh mixed (au _) aF hb rfl (λa ha=>by simp at ha;subst ha;exact .sc _) H⟩;rw[qV];have:(⟨#[69,110,116,114,121]⟩:ByteArray).size=5:=rfl;unfold lim;omega
theorem bZ.eB {P:Program}{g:FuncId}{args:List AV}{x y:AV}{H H1:aa}{W:List Nat}(h:bZ P g args x H H1 W) (w:ev x y):bZ P g args y H H1 W:=
 ⟨h.1,λE w0 w1 vs hg hr=>(h.2.1 E w0 w1 vs hg hr).mono (by
  rintro e w' ⟨E',re,ex,g⟩;refine⟨E',?_,ex,g⟩
  cases re with
  |ret x v hv=>exact .ret _ _ (w _ _ hv)),h.2.2⟩
theorem eP {n:Nat}:∀{args:List AV},(∀a∈args,LF a)->dG n args=true
 |[],_=>rfl
 |a::r,h=>by simp only[dG,qP (h a (ahD ..)),eP (λb hb=>h b (ahn _ hb)),Bool.and_self]
theorem bG {P:Program}(hm:P.follows .mixedOrders=true){call:cZ}{lo:bX}{nj:List Nat}(hc:cx P call) (hl:bA P lo){n:Nat}{g:FuncId}{args:List AV}{F:Option AV}{x y:AV}(h:(eb P call lo nj n g args []).via ch=F) (hF:F=some y) (w:ev y x) (hx:LF x) (dn:∀a∈args,LF a) (H:aa):bZ P g args x H H []:=by
 obtain⟨r,hr,hu⟩:=cv h hF;have h1:=gQ hm hc hl hr;unfold ch at hu;rw[hu]at h1;have h2:bZ P g args x [] r.2.1 []:=⟨h1.1,λE w0 w1 vs hg hrel=>((h1.eB w).2.1 E w0 w1 vs hg hrel).mono (by
  rintro e w' ⟨E',re,ex,g⟩;exact⟨E',re,ex.weaken (ag3 _) (λl hl _=>absurd hl (ahg _)),g⟩),⟨ag9 _,λl hl=>absurd hl (ahg _)⟩⟩
 have h3:=tp h2 hx;have:=mC h3 (eP dn) (qP hx) (λo ho=>by simp at ho) H;exact this
theorem fc {sz:Nat}{el:Nat->List AV}:ev aR (.aY true sz 0 el .dA):=by
 intro E v hr
 cases hr with
 |fw=>exact .fw _ _ _ (.inl rfl)
def sEl (l:List ByteArray):Nat->List AV:=λi=>[aS (l.getD i ⟨#[]⟩)]
def Du (l:List ByteArray) (t:Nat):AV:= .aY false 1 l.length (sEl l) (.tok t)
theorem Lo {l:List ByteArray}{n t:Nat}{b:ByteArray}{el:Nat->List AV}(hn:n=l.length) (h:∀i,i<l.length->el i=sEl l i):ev (.aY false 1 (n+1) (bI n el (rowOf 1 [aS b])) (.tok t)) (Du (l++[b]) t):=by
 subst hn;unfold Du;have e:(l++[b]).length=l.length+1:=by simp
 rw[e];refine ev.aY (λi hi=> ?_);unfold bI;by_cases cO:i<l.length
 ·rw[if_pos cO,h i cO];simp[sEl,ag4,ahb cO]
 ·have:i=l.length:=by omega
  subst this;rw[if_neg cO,ahX];simp[sEl,rowOf,ag4]
section
variable (s:ByteArray)
def qp (out:AV) (f i:Int):List AV:=bz 32 [(0,aS s),(3,out),(4,i64 f),(5,i64 i)]
theorem Qz (f i:Nat):(db prog (cK []) aN [21] 3 (ae f253 4) (qp s aR f i) []).via (cz [0,3,4,5] [] 1)=
  bif decide ((i:Int)<=(s.size:Int))then bif (bif ((i:Int)==(s.size:Int))then true else decide ((0:Int)<=(i:Int)/\(i:Int)<(s.size:Int)))then
   bif (bif ((i:Int)==(s.size:Int))then true else(cr s i==46))then bif decide ((0:Int)<=(f:Int)/\(f:Int)<=(i:Int)/\(i:Int)<=(s.size:Int))then
    some ⟨.normal,qp s (.aY false 1 1 (bI 0 (λ_=>[]) (rowOf 1 [aS (s.extract f i)])) (.tok 0)) (IntKind.wrap .i64 ((i:Int)+1)) (IntKind.wrap .i64 ((i:Int)+1)),[.tail 1 1],[],true⟩else none
   else some ⟨.normal,qp s aR f (IntKind.wrap .i64 ((i:Int)+1)),[],[],true⟩else none
  else some ⟨.exit 0,qp s aR f i,[],[],true⟩:=by kernel_rfl
theorem QA (f i n:Nat) (el:Nat->List AV):(db prog (cK []) aN [21] 3 (ae f253 4) (qp s (.aY false 1 n el (.tok 0)) f i) [.tail n 1]).via (cz [0,3,4,5] [] 1)=
  bif decide ((i:Int)<=(s.size:Int))then bif (bif ((i:Int)==(s.size:Int))then true else decide ((0:Int)<=(i:Int)/\(i:Int)<(s.size:Int)))then
   bif (bif ((i:Int)==(s.size:Int))then true else(cr s i==46))then bif decide ((0:Int)<=(f:Int)/\(f:Int)<=(i:Int)/\(i:Int)<=(s.size:Int))then
    bif decide ((n+1)*16<=70368744177664/\n+1<4611686018427387904)then bif decide (n=n)then
    some ⟨.normal,qp s (.aY false 1 (n+1) (bI n el (rowOf 1 [aS (s.extract f i)])) (.tok 0)) (IntKind.wrap .i64 ((i:Int)+1)) (IntKind.wrap .i64 ((i:Int)+1)),[.tail (n+1) 1],[0],true⟩else none else none else none
   else some ⟨.normal,qp s (.aY false 1 n el (.tok 0)) f (IntKind.wrap .i64 ((i:Int)+1)),[.tail n 1],[],true⟩else none
  else some ⟨.exit 0,qp s (.aY false 1 n el (.tok 0)) f i,[.tail n 1],[],true⟩:=by kernel_rfl
theorem UN (f i:Nat):(eb prog (cK []) (cJ prog [⟨4,[0,3,4,5],.exit 0,qp s aR f i,[],[]⟩] aN) [] 3 253 [aS s] []).via ch=
  bif cj prog (ae f253 4) (qp s aR ((0:Nat):Int) ((0:Nat):Int)) [] (.exit 0) (qp s aR f i) [] []then some aR else none:=by kernel_rfl
theorem UO (f i:Nat) (l:List ByteArray):(eb prog (cK []) (cJ prog [⟨4,[0,3,4,5],.exit 0,qp s (Du l 0) f i,[.tail l.length 1],[]⟩] aN) [] 3 253 [aS s] []).via ch=
  bif cj prog (ae f253 4) (qp s aR ((0:Nat):Int) ((0:Nat):Int)) [] (.exit 0) (qp s (Du l 0) f i) [.tail l.length 1] []then some (Du l 0)else none:=by kernel_rfl
end
theorem wH (s:ByteArray) (hs:s.size<=1000000000):ze 253 [aS s]:=by
 have lf:∀a∈[aS s],LF a:=λa ha=>by
  simp only[ahl,ahr,ahO]at ha;subst ha;exact .sc _
 have szx:∀f i,(s.extract f i).size<=s.size:=λf i=>by rw[ByteArray.size_extract];omega
 have hl:=iE (P:=prog) (c:=ae f253 4)
  (λm T H=>∃(f i:Nat),f<=i/\i<=s.size+1/\m=s.size+1-i/\((T=qp s aR f i/\H=[])∨∃l:List ByteArray,(l.length<=i/\∀x∈l,x.size<=s.size)/\T=qp s (Du l 0) f i/\H=[.tail l.length 1]))
  (λx T H=>x= .exit 0/\∃(f i:Nat),((T=qp s aR f i/\H=[])∨∃l:List ByteArray,(l.length<=s.size+1/\∀x∈l,x.size<=s.size)/\T=qp s (Du l 0) f i/\H=[.tail l.length 1])) 0 (by
  rintro m T H ⟨f,i,hf,hi,rfl,hTH⟩;have MT:i<=s.size->(bif ((i:Int)==(s.size:Int))then true else decide ((0:Int)<=(i:Int)/\(i:Int)<(s.size:Int)))=true:=λhle=>by
   cases h:((i:Int)==(s.size:Int))with
   |true=>rfl
   |false=>
    have:(i:Int)≠(s.size:Int):=by simpa using h
    exact ag2 (by omega)
  rcases hTH with ⟨rfl,rfl⟩|⟨l,⟨vr,ga⟩,rfl,rfl⟩
  ·have hb:=Qz s f i;by_cases hle:i<=s.size
   ·rw[ag2 (by omega:(i:Int)<=(s.size:Int)),MT hle,wi (x:=(i:Int)+1) (by omega) (by omega),ag2 (by omega:(0:Int)<=(f:Int)/\(f:Int)<=(i:Int)/\(i:Int)<=(s.size:Int))]at hb;cases hc:(bif ((i:Int)==(s.size:Int))then true else(cr s i==46))with
    |false=>
     rw[hc]at hb;exact⟨_,_,_,_,ai mixed (au _) ab hb rfl (ag9 _) (by simp),λ_ _=>ag9 _,.inl ⟨rfl,s.size+1-(i+1),by omega,f,i+1,by omega,by omega,rfl,.inl ⟨rfl,rfl⟩⟩⟩
    |true=>
     rw[hc]at hb;have:=ai mixed (au _) ab hb rfl (ag9 _) (by simp);have:=this.eB (Wk.tm (l':=[(0,aS s),(3,Du [s.extract f i] 0),(4,i64 ((i:Int)+1)),(5,i64 ((i:Int)+1))]) (.cons (.refl _) (.cons (Lo (l:=[]) rfl (λi hi=>by simp at hi)) (.cons (.refl _) (.cons (.refl _) .nil)))));exact⟨_,_,_,_,this,λ_ _=>ag9 _,.inl ⟨rfl,s.size+1-(i+1),by omega,i+1,i+1,by omega,by omega,rfl,.inr ⟨[s.extract f i],⟨by simp,λx hx=>by simp at hx;subst hx;exact szx _ _⟩,rfl,rfl⟩⟩⟩
   ·rw[ag8 (by omega:¬(i:Int)<=(s.size:Int))]at hb;exact⟨_,_,_,_,ai mixed (au _) ab hb rfl (ag9 _) (by simp),λ_ _=>ag9 _,.inr ⟨by simp,rfl,f,i,.inl ⟨rfl,rfl⟩⟩⟩
  ·have hb:=QA s f i l.length (sEl l);by_cases hle:i<=s.size
   ·rw[ag2 (by omega:(i:Int)<=(s.size:Int)),MT hle,wi (x:=(i:Int)+1) (by omega) (by omega),ag2 (by omega:(0:Int)<=(f:Int)/\(f:Int)<=(i:Int)/\(i:Int)<=(s.size:Int)),
     ag2 (by omega:(l.length+1)*16<=70368744177664/\l.length+1<4611686018427387904),ag2 (rfl:l.length=l.length)]at hb
    cases hc:(bif ((i:Int)==(s.size:Int))then true else(cr s i==46))with
    |false=>
     rw[hc]at hb;exact⟨_,_,_,_,ai mixed (au _) ab hb rfl (ag3 _) (by simp),λ_ _=>ag9 _,.inl ⟨rfl,s.size+1-(i+1),by omega,f,i+1,by omega,by omega,rfl,.inr ⟨l,⟨by omega,ga⟩,rfl,rfl⟩⟩⟩
    |true=>
     rw[hc]at hb;have:=ai mixed (au _) ab hb rfl (ag3 _) (by simp);have:=this.eB (Wk.tm (l':=[(0,aS s),(3,Du (l++[s.extract f i]) 0),(4,i64 ((i:Int)+1)),(5,i64 ((i:Int)+1))]) (.cons (.refl _) (.cons (Lo rfl (λ_ _=>rfl)) (.cons (.refl _) (.cons (.refl _) .nil)))));exact⟨_,_,_,_,this,λ_ _=>ag9 _,.inl ⟨rfl,s.size+1-(i+1),by omega,i+1,i+1,by omega,by omega,rfl,.inr ⟨l++[s.extract f i],⟨by simp;omega,λx hx=>by
      rcases ahC.1 hx with hx|hx
      ·exact ga x hx
      ·simp at hx;subst hx;exact szx _ _⟩,rfl,by simp⟩⟩⟩
   ·rw[ag8 (by omega:¬(i:Int)<=(s.size:Int))]at hb;exact⟨_,_,_,_,ai mixed (au _) ab hb rfl (ag3 _) (by simp),λ_ _=>ag9 _,.inr ⟨by simp,rfl,f,i,.inr ⟨l,⟨by omega,ga⟩,rfl,rfl⟩⟩⟩)
 obtain⟨x,T',H',W,dC,_,rfl,f,i,⟨rfl,rfl⟩|⟨l,⟨vr,ga⟩,rfl,rfl⟩⟩:=hl _ _ _ ⟨0,0,ag3 _,ag9 _,rfl,.inl ⟨rfl,rfl⟩⟩
 ·have dC:=dC.wr (Wr':=[]) (λl _ hl=>absurd hl (ahg _));have hb:=UN s f i;rw[bc dC]at hb;exact⟨⟨true,[]⟩,⟨ag9 _,λs hs=>by simp at hs⟩,λH=>bG mixed (au _) (ba ab) hb rfl fc (.aY _ _ _ _ _ (by simp)) lf H⟩
 ·have dC:=dC.wr (Wr':=[]) (λl _ hl=>absurd hl (ahg _));have hb:=UO s f i l;rw[bc dC]at hb;exact⟨⟨false,l⟩,⟨by unfold lim;simp only;omega,λx hx=>ahx (ga x hx) (by unfold lim;omega)⟩,λH=>bG mixed (au _) (ba ab) hb rfl (ev.row (λ_ _=>rfl)) (.aY _ _ _ _ _ (by simp)) lf H⟩
section
variable (r:bD) (s:ByteArray)
noncomputable abbrev Yu:cZ:=cK [(187,.b),(253,.r)]
noncomputable abbrev aaS (x:ByteArray):Bool:=yR prog .bool 187 [aS x]==1
def xn (i:Int):List AV:=bz 19 [(2,cY false),(9,r.av),(10,i64 r.l.length),(11,i64 i)]
theorem FX (i:Nat):(db prog Yu aN [] 3 (ae f184 4) (xn r i) []).via (cz [2,9,10,11] [] 0)=
  bif decide ((i:Int)<(r.l.length:Int))then bif decide ((0:Int)<=(i:Int)/\(i:Int)<(r.l.length:Int))then
   bif tu prog .bool 187 [aS (r.l.getD i aq)]then bif !(aaS (r.l.getD i aq))then some ⟨.ret,xn r i,[],[],true⟩else some ⟨.normal,xn r (IntKind.wrap .i64 ((i:Int)+1)),[],[],true⟩else none else none
  else some ⟨.exit 0,xn r i,[],[],true⟩:=by kernel_rfl
theorem QB (i:Nat):(eb prog Yu (cJ prog [⟨4,[2,9,10,11],.exit 0,xn (jD 253 [aS s]) i,[],[]⟩] aN) [] 3 184 [aS s] []).via ch=
  bif decide ((s.size:Int)>1000)then some (cY false)else bif rS 253 [aS s]then bif cj prog (ae f184 4) (xn (jD 253 [aS s]) ((0:Nat):Int)) [] (.exit 0) (xn (jD 253 [aS s]) i) [] []then some (cY true)else none else none:=by kernel_rfl
theorem Ny (i:Nat):(eb prog Yu (cJ prog [⟨4,[2,9,10,11],.ret,xn (jD 253 [aS s]) i,[],[]⟩] aN) [] 3 184 [aS s] []).via ch=
  bif decide ((s.size:Int)>1000)then some (cY false)else bif rS 253 [aS s]then bif cj prog (ae f184 4) (xn (jD 253 [aS s]) ((0:Nat):Int)) [] .ret (xn (jD 253 [aS s]) i) [] []then some (cY false)else none else none:=by kernel_rfl
end
theorem JM (s:ByteArray) (hs:s.size<=1000000000):qL prog .bool 184 [aS s]:=by
 have lf:∀a∈[aS s],LF a:=λa ha=>by
  simp only[ahl,ahr,ahO]at ha;subst ha;exact .sc _
 have hr:=JI 253 [aS s];generalize hR:jD 253 [aS s]=r at*;unfold lim at hr;have hl:=FQ (P:=prog) (c:=ae f184 4) (λi=>xn r i) (λi=>xn r i) (.exit 0) (by simp) r.l.length (λi hi=>by
  have hb:=FX r i;have ZF:(r.l.getD i aq).size<=lim:=by
   unfold lim;have:r.l.getD i aq=r.l[i]:=by simp[ag4,hi]
   rw[this];exact hr.2 _ (ahG hi)
  rw[ag2 (by omega:(i:Int)<(r.l.length:Int)),ag2 (by omega:(0:Int)<=(i:Int)/\(i:Int)<(r.l.length:Int)),wi (x:=(i:Int)+1) (by omega) (by omega),Ds ZF]at hb;cases hc: !(aaS (r.l.getD i aq))with
  |true=>rw[hc]at hb;exact .inl (ai mixed (au _) ab hb rfl (ag3 _) (by simp))
  |false=>rw[hc]at hb;exact .inr (ai mixed (au _) ab hb rfl (ag3 _) (by simp))) (by
  have hb:=FX r r.l.length;rw[ag8 (by omega)]at hb;exact ai mixed (au _) ab hb rfl (ag3 _) (by simp))
 rcases hl with h|⟨j,h⟩
 ·have hb:=QB s r.l.length;rw[hR,bc h,zf (wH s hs)]at hb;by_cases j9:(s.size:Int)>1000
  ·rw[ag2 j9]at hb;exact vK mixed (au _) (ba ab) hb rfl lf
  ·rw[ag8 j9]at hb;exact vK mixed (au _) (ba ab) hb rfl lf
 ·have hb:=Ny s j;rw[hR,bc h,zf (wH s hs)]at hb;by_cases j9:(s.size:Int)>1000
  ·rw[ag2 j9]at hb;exact vK mixed (au _) (ba ab) hb rfl lf
  ·rw[ag8 j9]at hb;exact vK mixed (au _) (ba ab) hb rfl lf
abbrev dg:Nat:=16777216
def aX.sm {α:Type}(r:aX α) (p:α->Prop):Prop:=r.l.length<=dg/\∀x∈r.l,p x
def jh.sm (b:jh):Prop:=b.l.length<=dg
def bD.sm (b:bD):Prop:=b.l.length<=dg/\∀x∈b.l,x.size<=dg
def aP.sm (d:aP):Prop:=d.name.size<=dg/\d.eA.size<=dg/\d.cp.size<=dg/\d.pg.size<=dg/\d.json.size<=dg/\d.opts.sm
def eT.sm (d:eT):Prop:=d.name.size<=dg/\d.opts.sm
def cF.sm (d:cF):Prop:=d.name.size<=dg/\d.opts.sm
def cM.sm (d:cM):Prop:=d.name.size<=dg/\d.ins.size<=dg/\d.outs.size<=dg/\d.opts.sm
def bt.sm (d:bt):Prop:=d.name.size<=dg/\d.aM.sm eT.sm/\d.opts.sm
def bN.sm (d:bN):Prop:=d.name.size<=dg/\d.aO.sm cM.sm/\d.opts.sm
mutual
def az.sm:az->Prop
 | .mk name af mN aC aQ bB exts aI bp bY opts dE=>name.size<=dg/\af.sm aP.sm/\(aC.length<=dg/\az.Nz aC)/\aQ.sm bt.sm/\bB.l.length<=dg/\exts.sm aP.sm/\aI.sm cF.sm/\bp.l.length<=dg/\bY.sm/\opts.sm
def az.Nz:List az->Prop
 |[]=>True
 |m::r=>m.sm/\az.Nz r
end
theorem az.Lp:∀{l:List az},az.Nz l->∀m∈l,m.sm
 |[],_,m,hm=>by simp at hm
 |x::r,h,m,hm=>by
  simp only[az.Nz]at h;rcases ahl.1 hm with rfl|hm
  ·exact h.1
  ·exact az.Lp h.2 m hm
structure az.Sm (m:az):Prop where
 name:m.name.size<=dg
 af:m.af.sm aP.sm
 aC:m.aC.length<=dg/\∀x∈m.aC,x.sm
 aQ:m.aQ.sm bt.sm
 bB:m.bB.l.length<=dg
 exts:m.exts.sm aP.sm
 aI:m.aI.sm cF.sm
 bp:m.bp.l.length<=dg
 bY:m.bY.sm
 opts:m.opts.sm
theorem az.dD {m:az}(h:m.sm):m.Sm:=by
 cases m;simp only[az.sm]at h;obtain⟨h1,h2,⟨h3,h4⟩,h5,h6,h7,h8,h9,KU,Xb⟩:=h;exact⟨h1,h2,⟨h3,az.Lp h4⟩,h5,h6,h7,h8,h9,KU,Xb⟩
def ag.sm (d:ag):Prop:=d.name.size<=dg/\d.cG.size<=dg/\d.cm.sm/\d.ey.l.length<=dg/\d.ay.sm az.sm/\d.aQ.sm bt.sm/\d.aL.sm bN.sm/\d.exts.sm aP.sm/\d.rP.size<=dg/\d.opts.sm
structure dh where
 full:ByteArray
 kind:Int
 home:ByteArray
 m:az
 e:bt
 f:aP
 deriving Inhabited
def dh.cells (d:dh):List AV:=aS d.full::i64 d.kind::aS d.home::(d.m.one++(d.e.cells++d.f.cells))
def dh.sm (d:dh):Prop:=d.m.sm/\d.e.sm/\d.f.sm
def NA:jh:=⟨true,[]⟩
def AS:az:= .mk aq ⟨true,[]⟩ true [] ⟨true,[]⟩ ⟨true,[]⟩ ⟨true,[]⟩ ⟨true,[]⟩ ⟨true,[]⟩ ⟨true,[]⟩ NA NA
def FY:bt:=⟨aq,⟨true,[]⟩,NA,NA⟩
def JN:aP:=⟨aq,0,0,0,aq,aq,aq,false,0,aq,false,NA,NA⟩
def xo:dh:=⟨aq,0,aq,AS,FY,JN⟩
def uD:ag:=⟨aq,aq,⟨true,[]⟩,⟨true,[]⟩,⟨true,[]⟩,⟨true,[]⟩,⟨true,[]⟩,⟨true,[]⟩,aq,NA,NA⟩
structure aJ where
 s:aX dh
 f:aX ag
 name:ByteArray
 e:Int
 home:ByteArray
def aJ.cells (p:aJ):List AV:=[p.s.av 31 dh.cells,p.f.av 11 ag.cells,aS p.name,i64 p.e,aS p.home]
def aJ.av (p:aJ):AV:= .dO p.cells
def aJ.sm (p:aJ):Prop:=(p.s.l.length<=lim/\∀x∈p.s.l,x.sm)/\p.f.sm ag.sm
theorem iS {P:Program}{c:Code}(T0 T1:Nat->List AV) (cond:Nat->Bool) (ex:bj) (hx:ex≠.normal) (n:Nat) (found:∀i,i<n->cond i=true->an P c (T0 i) [] .ret (T1 i) [] []) (next:∀i,i<n->cond i=false->an P c (T0 i) [] .normal (T0 (i+1)) [] []) (out:an P c (T0 n) [] ex (T0 n) [] []):
  (an P (.loop c) (T0 0) [] ex (T0 n) [] []/\∀i,i<n->cond i=false)∨∃j,j<n/\cond j=true/\(∀i,i<j->cond i=false)/\an P (.loop c) (T0 0) [] .ret (T1 j) [] []:=by
 have key:∀d i,n-i=d->i<=n->(∃k,dX P c ex (T0 n) [] k (T0 i) [] []/\∀j,i<=j->j<n->cond j=false)∨∃j k,dX P c .ret (T1 j) [] k (T0 i) [] []/\j<n/\cond j=true/\∀q,i<=q->q<j->cond q=false:=by
  intro d
  induction d with
  |zero=>
   intro i hd hi;have:i=n:=by omega
   subst this;exact .inl ⟨0,.out out hx,λj h1 h2=>by omega⟩
  |succ d ih=>
   intro i hd hi
   cases hc:cond i with
   |true=>exact .inr ⟨i,0,.out (found i (by omega) hc) (by simp),by omega,hc,λq h1 h2=>by omega⟩
   |false=>
    rcases ih (i+1) (by omega) (by omega)with ⟨k,hr,fy⟩|⟨j,k,hr,hj,Yv,fy⟩
    ·refine .inl ⟨k+1,.next (next i (by omega) hc) hr,λj h1 h2=> ?_⟩;by_cases qi:j=i
     ·subst qi;exact hc
     ·exact fy j (by omega) h2
    ·refine .inr ⟨j,k+1,.next (next i (by omega) hc) hr,hj,Yv,λq h1 h2=> ?_⟩;by_cases hqi:q=i
     ·subst hqi;exact hc
     ·exact fy q (by omega) h2
 rcases key n 0 (by omega) (ag9 _)with ⟨k,hr,fy⟩|⟨j,k,hr,hj,Yv,fy⟩
 ·exact .inl ⟨hr.ok,λi hi=>fy i (ag9 _) hi⟩
 ·exact .inr ⟨j,hj,Yv,λi hi=>fy i (ag9 _) hi,hr.ok⟩
section
variable (p:aJ) (s:ByteArray)
def qW (i:Nat):Bool:=(p.s.l.getD i default).full.toList==s.toList
def OQ (k i:Int):List AV:=bz 26 [(0,p.av),(1,aS s),(4,i64 k),(9,p.s.av 31 dh.cells),(10,i64 p.s.l.length),(11,i64 i)]
theorem Dv (i:Nat):(db prog (cK []) aN [] 3 (ae f66 2) (OQ p s 0 i) []).via (cz [0,1,4,9,10,11] [] 0)=
  bif decide ((i:Int)<(p.s.l.length:Int))then bif decide ((0:Int)<=(i:Int)/\(i:Int)<(p.s.l.length:Int))then
   bif qW p s i then some ⟨.ret,OQ p s i i,[],[],true⟩else some ⟨.normal,OQ p s 0 (IntKind.wrap .i64 ((i:Int)+1)),[],[],true⟩else none
  else some ⟨.exit 0,OQ p s 0 i,[],[],true⟩:=by kernel_rfl
theorem UP (i:Nat):(eb prog (cK []) (cJ prog [⟨2,[0,1,4,9,10,11],.exit 0,OQ p s 0 i,[],[]⟩] aN) [] 3 66 [p.av,aS s] []).via ch=
  bif cj prog (ae f66 2) (OQ p s 0 ((0:Nat):Int)) [] (.exit 0) (OQ p s 0 i) [] []then some (i64 (-1))else none:=by kernel_rfl
theorem QC (i:Nat):(eb prog (cK []) (cJ prog [⟨2,[0,1,4,9,10,11],.ret,OQ p s i i,[],[]⟩] aN) [] 3 66 [p.av,aS s] []).via ch=
  bif cj prog (ae f66 2) (OQ p s 0 ((0:Nat):Int)) [] .ret (OQ p s i i) [] []then some (i64 i)else none:=by kernel_rfl
def cw:Int:=match p.s.l.findIdx? (λx=>x.full.toList==s.toList)with
 |some j=>(j:Int)
 |none=> -1
theorem zh (hn:p.s.l.length<=4398046511104) (H:aa):bZ prog 66 [p.av,aS s] (i64 (cw p s)) H H []:=by
 have lf:∀a∈[p.av,aS s],LF a:=λa ha=>by
  simp only[ahl,ahr,ahO]at ha;rcases ha with rfl|rfl
  ·exact .dO _
  ·exact .sc _
 have hl:=iS (P:=prog) (c:=ae f66 2) (λi=>OQ p s 0 i) (λi=>OQ p s i i) (qW p s) (.exit 0) (by simp) p.s.l.length (λi hi hc=>by
  have hb:=Dv p s i;rw[ag2 (by omega:(i:Int)<(p.s.l.length:Int)),ag2 (by omega:(0:Int)<=(i:Int)/\(i:Int)<(p.s.l.length:Int)),hc]at hb;exact ai mixed (au _) ab hb rfl (ag3 _) (by simp)) (λi hi hc=>by
  have hb:=Dv p s i;rw[ag2 (by omega:(i:Int)<(p.s.l.length:Int)),ag2 (by omega:(0:Int)<=(i:Int)/\(i:Int)<(p.s.l.length:Int)),hc,wi (x:=(i:Int)+1) (by omega) (by omega)]at hb;exact ai mixed (au _) ab hb rfl (ag3 _) (by simp)) (by
  have hb:=Dv p s p.s.l.length;rw[ag8 (by omega)]at hb;exact ai mixed (au _) ab hb rfl (ag3 _) (by simp))
 have hg:∀i (hi:i<p.s.l.length),qW p s i=((p.s.l[i]).full.toList==s.toList):=λi hi=>by
  unfold qW;simp[ag4,hi]
 rcases hl with ⟨h,fy⟩|⟨j,hj,hc,fy,h⟩
 ·have hb:=UP p s p.s.l.length;rw[bc h]at hb;have he:cw p s= -1:=by
   unfold cw;have:p.s.l.findIdx? (λx=>x.full.toList==s.toList)=none:=by
    rw[aih];intro x hx;obtain⟨i,hi,rfl⟩:=ah0 hx;rw[←hg i hi];exact fy i hi
   rw[this]
  rw[he];exact gh mixed (au _) (ba ab) hb rfl lf H
 ·have hb:=QC p s j;rw[bc h]at hb;have he:cw p s=(j:Int):=by
   unfold cw;have:p.s.l.findIdx? (λx=>x.full.toList==s.toList)=some j:=by
    rw[ah4];refine⟨hj,by rw[←hg j hj];exact hc,λi hi=> ?_⟩;have:=fy i hi;rw[hg i (by omega)]at this;simp only[this];decide
   rw[this]
  rw[he];exact gh mixed (au _) (ba ab) hb rfl lf H
theorem uE: -1<=cw p s/\cw p s<p.s.l.length:=by
 unfold cw;split
 ·rename_i j hj;rw[ah4]at hj;obtain⟨h,_⟩:=hj;constructor<;>omega
 ·constructor<;>omega
end
theorem Wk.aaT {cs cs':List AV}{x:AV}(h:Wk cs cs'):ev (.bq [.agg cs,x]) (.bq [.agg cs',x]):= .bq (.cons (.agg h) (.refl _))
section
variable (p:aJ) (s:ByteArray) (k:Int)
def BN:dh:=p.s.l.getD (cw p s).toNat default
def mF:Bool:=bif decide (cw p s<0)then true else(BN p s).kind !=k
def zi:dh:=bif mF p s k then xo else BN p s
def fz:List AV:=[aS aq,aR,aR,aR,aR,aR,aR,aR,aR,aR,aR]
def fP:List AV:=[aS aq,aR,aR,aR]
def fQ:List AV:=[aS aq,i64 0,i64 0,i64 0,aS aq,aS aq,aS aq,cY false,i64 0,aS aq,cY false,aR,aR]
def FZ:List AV:=[aS aq,i64 0,aS aq]++(fz++(fP++fQ))
theorem QD:(eb prog (cK []) (told prog [] [⟨11,0,i64 (cw p s)⟩]) [] 3 54 [p.av,aS s,i64 k] []).via ch=
  bif aD prog 66 [p.av,aS s] [] (i64 (cw p s))then bif (bif decide (cw p s<0)then true else decide (0<=cw p s/\cw p s<(p.s.l.length:Int)))then
   bif mF p s k then some (.bq [.agg FZ,cY false])else bif decide (0<=cw p s/\cw p s<(p.s.l.length:Int))then some (.bq [.agg (BN p s).cells,cY true])else none else none else none:=by kernel_rfl
theorem qX:ev aR NA.av:=by unfold NA jh.av UD;exact fc
theorem nh:Wk fz AS.one:=
 .cons (.refl _) (.cons fc (.cons fc (.cons fc (.cons fc (.cons fc (.cons fc (.cons fc (.cons fc (.cons qX (.cons qX .nil))))))))))
theorem pn:Wk fP FY.cells:= .cons (.refl _) (.cons fc (.cons qX (.cons qX .nil)))
theorem po:Wk fQ JN.cells:=
 .cons (.refl _) (.cons (.refl _) (.cons (.refl _) (.cons (.refl _) (.cons (.refl _) (.cons (.refl _) (.cons (.refl _) (.cons (.refl _) (.cons (.refl _) (.cons (.refl _) (.cons (.refl _) (.cons qX (.cons qX .nil))))))))))))
theorem Wk.app {a a' b b':List AV}(h:Wk a a') (k:Wk b b'):Wk (a++b) (a'++b'):=by
 refine⟨by simp[h.1,k.1],λi y hy=> ?_⟩;by_cases hi:i<a'.length
 ·rw[ahb hi]at hy;obtain⟨x,hx,w⟩:=h.2 i y hy;exact⟨x,by rw[ahb (by rw[h.1];exact hi)];exact hx,w⟩
 ·rw[ahi (by omega)]at hy;obtain⟨x,hx,w⟩:=k.2 _ y hy;refine⟨x,?_,w⟩;rw[ahi (by rw[h.1];omega),h.1];exact hx
theorem Lq:Wk FZ xo.cells:= .cons (.refl _) (.cons (.refl _) (.cons (.refl _) (nh.app (pn.app po))))
theorem fe {nl:Bool}{sz n:Nat}{el:Nat->List AV}:LF (.aY nl sz n el .dA):= .aY _ _ _ _ _ (by simp)
theorem sL (b:jh):LF b.av:=by unfold jh.av UD;exact fe
theorem ao {x:AV}{l:List AV}(h:LF x) (k:∀y∈l,LF y):∀y∈x::l,LF y:=λy hy=>by
 rcases ahl.1 hy with rfl|hy
 ·exact h
 ·exact k y hy
theorem bC:∀y∈([]:List AV),LF y:=λy hy=>by simp at hy
theorem Dw (m:az):∀y∈m.one,LF y:=ao (.sc _) (ao fe (ao fe (ao fe (ao fe (ao fe (ao fe (ao fe (ao fe (ao (sL _) (ao (sL _) bC))))))))))
theorem Dx (d:aP):∀y∈d.cells,LF y:=ao (.sc _) (ao (.sc _) (ao (.sc _) (ao (.sc _) (ao (.sc _) (ao (.sc _) (ao (.sc _) (ao (.sc _) (ao (.sc _) (ao (.sc _) (ao (.sc _) (ao (sL _) (ao (sL _) bC))))))))))))
theorem QE (d:bt):∀y∈d.cells,LF y:=ao (.sc _) (ao fe (ao (sL _) (ao (sL _) bC)))
theorem QF {a b:List AV}(h:∀y∈a,LF y) (k:∀y∈b,LF y):∀y∈a++b,LF y:=λy hy=>by
 rcases ahC.1 hy with hy|hy
 ·exact h y hy
 ·exact k y hy
theorem JO (d:dh):∀y∈d.cells,LF y:=ao (.sc _) (ao (.sc _) (ao (.sc _) (QF (Dw _) (QF (QE _) (Dx _)))))
theorem xT (d:ag):∀y∈d.cells,LF y:=ao (.sc _) (ao (.sc _) (ao fe (ao fe (ao fe (ao fe (ao fe (ao fe (ao (.sc _) (ao (sL _) (ao (sL _) bC))))))))))
theorem zj {x y:AV}(h:LF x) (k:LF y):LF (.bq [x,y]):= .bq _ (ao h (ao k bC))
theorem UQ (p:aJ):LF p.av:= .dO _
theorem UR (hn:p.s.l.length<=4398046511104) (H:aa):bZ prog 54 [p.av,aS s,i64 k] (.bq [.agg (zi p s k).cells,cY (!(mF p s k))]) H H []:=by
 have lf:∀a∈[p.av,aS s,i64 k],LF a:=ao (.dO _) (ao (.sc _) (ao (.sc _) bC));have hb:=QD p s k;have cO:=uE p s;rw[ak (zh p s hn [])]at hb;have hx:LF (.bq [.agg (zi p s k).cells,cY (!(mF p s k))]):=zj (.agg _ (JO _)) (.sc _);have hc:(bif decide (cw p s<0)then true else decide (0<=cw p s/\cw p s<(p.s.l.length:Int)))=true:=by
  by_cases h:cw p s<0
  ·rw[ag2 h];rfl
  ·rw[ag8 h];exact ag2 (by omega)
 rw[hc]at hb
 cases w8:mF p s k with
 |true=>
  rw[w8]at hb;have e:zi p s k=xo:=by unfold zi;rw[w8];rfl
  rw[e];exact bG mixed (au _) aF hb rfl (Wk.aaT Lq) (by rw[e,w8]at hx;exact hx) lf H
 |false=>
  rw[w8]at hb;have e:zi p s k=BN p s:=by unfold zi;rw[w8];rfl
  have XA:¬cw p s<0:=λh=>by
   unfold mF at w8;rw[ag2 h]at w8;cases w8
  rw[ag2 (by omega:0<=cw p s/\cw p s<(p.s.l.length:Int))]at hb;rw[e];exact bG mixed (au _) aF hb rfl (.refl _) (by rw[e,w8]at hx;exact hx) lf H
theorem Lr:xo.sm:=by
 refine⟨?_,⟨ag9 _,⟨ag9 _,λx hx=>by simp[xo,FY]at hx⟩,ag9 _⟩,⟨ag9 _,ag9 _,ag9 _,ag9 _,ag9 _,ag9 _⟩⟩;simp only[xo,AS,az.sm,az.Nz];exact⟨ag9 _,⟨ag9 _,λx hx=>by simp at hx⟩,⟨ag9 _,trivial⟩,⟨ag9 _,λx hx=>by simp at hx⟩,ag9 _,⟨ag9 _,λx hx=>by simp at hx⟩,⟨ag9 _,λx hx=>by simp at hx⟩,ag9 _,⟨ag9 _,λx hx=>by simp at hx⟩,ag9 _⟩
theorem Ls (h:∀x∈p.s.l,x.sm):(zi p s k).sm:=by
 unfold zi
 cases w8:mF p s k with
 |true=>exact Lr
 |false=>
  have XA:¬cw p s<0:=λh=>by
   unfold mF at w8;rw[ag2 h]at w8;cases w8
  have cO:=uE p s;have hl:(cw p s).toNat<p.s.l.length:=by omega
  have e:BN p s=p.s.l[(cw p s).toNat]:=by simp[BN,ag4,hl]
  simp only[cond_false];rw[e];exact h _ (ahG hl)
end
section
variable (p:aJ) (s:ByteArray)
def Dy (i:Nat):Bool:=(p.f.l.getD i default).name.toList==s.toList
def fileAt (i:Nat):ag:=p.f.l.getD i default
def OR (b:Bool) (i:Int):List AV:=bz 24 [(1,aS s),(4,.ptr 0 0),(5,cY b),(11,p.f.av 11 ag.cells),(12,i64 p.f.l.length),(13,i64 i)]
def nA:List AV:=[aS aq,aS aq,aR,aR,aR,aR,aR,aR,aS aq,aR,aR]
theorem Dz (i:Nat):(db prog (cK []) aN [] 3 (ae f67 2) (OR p s false i) [.cells nA]).via (cz [1,4,5,11,12,13] [] 1)=
  bif decide ((i:Int)<(p.f.l.length:Int))then bif decide ((0:Int)<=(i:Int)/\(i:Int)<(p.f.l.length:Int))then
   bif Dy p s i then some ⟨.ret,OR p s true i,[.cells (fileAt p i).cells],[0],true⟩else some ⟨.normal,OR p s false (IntKind.wrap .i64 ((i:Int)+1)),[.cells nA],[],true⟩else none
  else some ⟨.exit 0,OR p s false i,[.cells nA],[],true⟩:=by kernel_rfl
theorem US (i:Nat):(eb prog (cK []) (cJ prog [⟨2,[1,4,5,11,12,13],.exit 0,OR p s false i,[.cells nA],[0]⟩] aN) [] 3 67 [p.av,aS s] []).via ch=
  bif cj prog (ae f67 2) (OR p s false ((0:Nat):Int)) [.cells nA] (.exit 0) (OR p s false i) [.cells nA] [0]then some (.bq [.agg nA,cY false])else none:=by kernel_rfl
theorem QG (i:Nat):(eb prog (cK []) (cJ prog [⟨2,[1,4,5,11,12,13],.ret,OR p s true i,[.cells (fileAt p i).cells],[0]⟩] aN) [] 3 67 [p.av,aS s] []).via ch=
  bif cj prog (ae f67 2) (OR p s false ((0:Nat):Int)) [.cells nA] .ret (OR p s true i) [.cells (fileAt p i).cells] [0]then some (.bq [.agg (fileAt p i).cells,cY true])else none:=by kernel_rfl
end
theorem qY {P:Program}{c:Code}(T0 T1:Nat->List AV) (H0:aa) (H1:Nat->aa) (Wf:List Nat) (cond:Nat->Bool) (ex:bj) (hx:ex≠.normal) (n:Nat) (found:∀i,i<n->cond i=true->an P c (T0 i) H0 .ret (T1 i) (H1 i) Wf) (next:∀i,i<n->cond i=false->an P c (T0 i) H0 .normal (T0 (i+1)) H0 []) (out:an P c (T0 n) H0 ex (T0 n) H0 []):
  (an P (.loop c) (T0 0) H0 ex (T0 n) H0 []/\∀i,i<n->cond i=false)∨∃j,j<n/\cond j=true/\(∀i,i<j->cond i=false)/\an P (.loop c) (T0 0) H0 .ret (T1 j) (H1 j) Wf:=by
 have key:∀d i,n-i=d->i<=n->(∃k,dX P c ex (T0 n) H0 k (T0 i) H0 []/\∀j,i<=j->j<n->cond j=false)∨∃j k,dX P c .ret (T1 j) (H1 j) k (T0 i) H0 Wf/\j<n/\cond j=true/\∀q,i<=q->q<j->cond q=false:=by
  intro d
  induction d with
  |zero=>
   intro i hd hi;have:i=n:=by omega
   subst this;exact .inl ⟨0,.out out hx,λj h1 h2=>by omega⟩
  |succ d ih=>
   intro i hd hi
   cases hc:cond i with
   |true=>exact .inr ⟨i,0,.out (found i (by omega) hc) (by simp),by omega,hc,λq h1 h2=>by omega⟩
   |false=>
    rcases ih (i+1) (by omega) (by omega)with ⟨k,hr,fy⟩|⟨j,k,hr,hj,Yv,fy⟩
    ·refine .inl ⟨k+1,.next (next i (by omega) hc) hr,λj h1 h2=> ?_⟩;by_cases qi:j=i
     ·subst qi;exact hc
     ·exact fy j (by omega) h2
    ·refine .inr ⟨j,k+1,.next (next i (by omega) hc) hr,hj,Yv,λq h1 h2=> ?_⟩;by_cases hqi:q=i
     ·subst hqi;exact hc
     ·exact fy q (by omega) h2
 rcases key n 0 (by omega) (ag9 _)with ⟨k,hr,fy⟩|⟨j,k,hr,hj,Yv,fy⟩
 ·exact .inl ⟨hr.ok,λi hi=>fy i (ag9 _) hi⟩
 ·exact .inr ⟨j,hj,Yv,λi hi=>fy i (ag9 _) hi,hr.ok⟩
theorem QH:Wk nA uD.cells:=
 .cons (.refl _) (.cons (.refl _) (.cons fc (.cons fc (.cons fc (.cons fc (.cons fc (.cons fc (.cons (.refl _) (.cons qX (.cons qX .nil))))))))))
def fileOf (p:aJ) (s:ByteArray):Option ag:=p.f.l.find? (λf=>f.name.toList==s.toList)
theorem F0 (p:aJ) (s:ByteArray) (hn:p.f.l.length<=4398046511104) (H:aa):bZ prog 67 [p.av,aS s] (.bq [.agg ((fileOf p s).getD uD).cells,cY (fileOf p s).isSome]) H H []:=by
 have lf:∀a∈[p.av,aS s],LF a:=ao (.dO _) (ao (.sc _) bC);have hl:=qY (P:=prog) (c:=ae f67 2) (λi=>OR p s false i) (λi=>OR p s true i) [.cells nA] (λi=>[.cells (fileAt p i).cells]) [0] (Dy p s) (.exit 0) (by simp) p.f.l.length (λi hi hc=>by
  have hb:=Dz p s i;rw[ag2 (by omega:(i:Int)<(p.f.l.length:Int)),ag2 (by omega:(0:Int)<=(i:Int)/\(i:Int)<(p.f.l.length:Int)),hc]at hb;exact ai mixed (au _) ab hb rfl (ag3 _) (by simp)) (λi hi hc=>by
  have hb:=Dz p s i;rw[ag2 (by omega:(i:Int)<(p.f.l.length:Int)),ag2 (by omega:(0:Int)<=(i:Int)/\(i:Int)<(p.f.l.length:Int)),hc,wi (x:=(i:Int)+1) (by omega) (by omega)]at hb;exact ai mixed (au _) ab hb rfl (ag3 _) (by simp)) (by
  have hb:=Dz p s p.f.l.length;rw[ag8 (by omega)]at hb;exact ai mixed (au _) ab hb rfl (ag3 _) (by simp))
 have hg:∀i (hi:i<p.f.l.length),Dy p s i=((p.f.l[i]).name.toList==s.toList):=λi hi=>by
  unfold Dy;simp[ag4,hi]
 rcases hl with ⟨h,fy⟩|⟨j,hj,hc,fy,h⟩
 ·have hb:=US p s p.f.l.length;rw[bc (h.wr (Wr':=[0]) (λl hl=>by simp at hl))]at hb;have he:fileOf p s=none:=by
   unfold fileOf;rw[List.find?_eq_none];intro x hx;obtain⟨i,hi,rfl⟩:=ah0 hx;have:=fy i hi;rw[hg i hi]at this;simp[this]
  rw[he];exact bG mixed (au _) (ba ab) hb rfl (Wk.aaT QH) (zj (.agg _ (xT _)) (.sc _)) lf H
 ·have hb:=QG p s j;rw[bc h]at hb;have he:fileOf p s=some (fileAt p j):=by
   unfold fileOf;rw[List.find?_eq_some_iff_getElem];refine⟨?_,j,hj,?_,λi hi=> ?_⟩
   ·have e:fileAt p j=p.f.l[j]:=by simp[fileAt,ag4,hj]
    rw[e,←hg j hj];exact hc
   ·simp[fileAt,ag4,hj]
   ·have:=fy i hi;rw[hg i (by omega)]at this;simp[this]
  rw[he];exact bG mixed (au _) (ba ab) hb rfl (.refl _) (zj (.agg _ (xT _)) (.sc _)) lf H
mutual
def JP (l:Nat) (cs:List AV):AV->AV
 | .ptr k o=>if k=l/\o=0 then .dO cs else .ptr k o
 | .lD t x=> .lD t (JP l cs x)
 | .agg xs=> .agg (pW l cs xs)
 | .bq xs=> .bq (pW l cs xs)
 | .fn f a b=> .fn f (pW l cs a) (pW l cs b)
 | .any=> .any
 | .sc v=> .sc v
 | .dO v=> .dO v
 | .aY nl sz n el own=> .aY nl sz n el own
 | .cU k=> .cU k
 | .fp k i=> .fp k i
 | .nK k sz n=> .nK k sz n
 | .qv k sz n=> .qv k sz n
 | .kq k=> .kq k
 | .fY k i n=> .fY k i n
def pW (l:Nat) (cs:List AV):List AV->List AV
 |[]=>[]
 |x::r=>JP l cs x::pW l cs r
end
theorem mh (l:Nat) (cs:List AV):∀(xs:List AV) (i:Nat),(pW l cs xs)[i]? =xs[i]?.map (JP l cs)
 |[],i=>by simp[pW]
 |x::r,0=>by simp[pW]
 |x::r,i+1=>by simp[pW,mh l cs r i]
theorem oc (l:Nat) (cs:List AV):∀(xs:List AV),(pW l cs xs).length=xs.length
 |[]=>rfl
 |x::r=>by simp[pW,oc l cs r]
def QI (E:Env) (l:Nat) (cs:List AV):Prop:=∀b,E.φ l=some b->∀j y,cs[j]? =some y->∃u,E.S b j=some u/\Rel E.data y u
theorem Rel.CX {E:Env}{b:Nat}{cs:List AV}(h:∀j y,cs[j]? =some y->∃u,E.S b j=some u/\Rel E.data y u):Rel E (.dO cs) (.pointer (some ⟨b,0,none⟩)):=by
 refine .dO cs b 0 (λj=>(E.S b j).getD undef) (λj x hj=> ?_) (λj x hj=> ?_)
 ·obtain⟨u,hu,_⟩:=h j x hj;rw[ahF,hu];rfl
 ·obtain⟨u,hu,hr⟩:=h j x hj;rw[hu];exact hr
theorem Rel.Yw {E:Env}{l:Nat}{cs:List AV}(hs:QI E l cs){x:AV}{v:Value}(h:Rel E x v):Rel E (JP l cs x) v:=by
 induction h with
 |any v=>exact .any v
 |sc v h=>exact .sc v h
 |ptr k o b h=>
  unfold JP;split
  ·rename_i hk;obtain⟨rfl,rfl⟩:=hk;refine Rel.CX (λj x hj=>hs b h j x hj)
  ·exact .ptr k o b h
 |dO cs b off u h k ih=>exact .dO cs b off u h k
 |fw sz el own h=>exact .fw sz el own h
 |gG sz el own a h=>exact .gG sz el own a h
 |aY sz n el own b off c u hn ho hc hl h1 h k ih=>exact .aY sz n el own b off c u hn ho hc hl h1 h k
 |fn f first fJ us vs h1 h2 k1 k2 i1 i2=>
  refine .fn f _ _ us vs (by rw[h1,oc]) (by rw[h2,oc]) (λj x hj=> ?_) (λj x hj=> ?_)
  ·rw[mh]at hj
   cases hx:first[j]? with
   |none=>rw[hx]at hj;cases hj
   |some y=>rw[hx]at hj;cases hj;exact i1 j y hx hs
  ·rw[mh]at hj
   cases hx:fJ[j]? with
   |none=>rw[hx]at hj;cases hj
   |some y=>rw[hx]at hj;cases hj;exact i2 j y hx hs
 |lD t x v k ih=>exact .lD t _ v (ih hs)
 |agg cs' us h k ih=>
  refine .agg _ us (by rw[h,oc]) (λj x hj=> ?_);rw[mh]at hj
  cases hx:cs'[j]? with
  |none=>rw[hx]at hj;cases hj
  |some y=>rw[hx]at hj;cases hj;exact ih j y hx hs
 |bq cs' us h k ih=>
  refine .bq _ us (by rw[h,oc]) (λj x hj=> ?_);rw[mh]at hj
  cases hx:cs'[j]? with
  |none=>rw[hx]at hj;cases hj
  |some y=>rw[hx]at hj;cases hj;exact ih j y hx hs
 |cU l b h=>exact .cU l b h
 |fp l i n h=>exact .fp l i n h
 |nK l sz n b h hn=>exact .nK l sz n b h hn
 |qv l sz n b c h hn=>exact .qv l sz n b c h hn
 |kq l b h=>exact .kq l b h
 |jq l i=>exact .jq l i
 |fY l i n b c h h0 hn=>exact .fY l i n b c h h0 hn
theorem AT {E:Env}{H:aa}{w0 w:World}{n0:Nat}{W:Nat->Prop}{l:Nat}{cs:List AV}(g:Good E H w0 w) (hW:l<n0->W l) (hl:H[l]? =some (.cells cs)) (Is:∀x∈cs,LF x):
  ∃E',Ext n0 W E H w E' (H.set l .dead) w/\Good E' (H.set l .dead) w0 w/\QI E' l cs:=by
 have gk:=g.rL l
 cases hb:E.φ l with
 |none=>
  refine⟨E,⟨.refl E,.refl _,by simp,λ{k} hk hw=>ag7 (λe=>by subst e;exact hw (hW hk)),λ_ _ _=>rfl,λ_=>rfl,λ{x} hx h=>⟨rfl,λk ho=>h k (jU ho).1,λo=>rfl⟩⟩,gk,λb iw=>by rw[hb]at iw;cases iw⟩
 |some b=>
  obtain⟨_,WN,arr,t,hh,hr⟩:=g.obj hl b hb;have dI:owns E H l b:=by unfold owns;rw[hl];exact hb
  have eU:∀k,¬owns E (H.set l .dead) k b:=λk hk=>(jU hk).2 (g.sep (jU hk).1 dI)
  have g':=gk.stay (b:=b) (f:=(arr[·]?)) eU (λo u h=>by unfold World.cell?;rw[hh];simpa using h);have Z1:∀o,(E.fW b (arr[·]?)).S b o=arr[o]? :=λo=>by simp[Env.fW,WN o]
  refine⟨E.fW b (arr[·]?),⟨j4 _ _ _,.refl _,by simp,λ{k} hk hw=>ag7 (λe=>by subst e;exact hw (hW hk)),λ_ _ _=>rfl,λ_=>rfl,λ{x} hx h=>⟨rfl,λk ho=> ?_,λo=> ?_⟩⟩,g',?_⟩
  ·have r5:owns E (H.set l .dead) k x:=ho;exact h k (jU r5).1
  ·have gX:x≠b:=λe=>h l (e▸dI)
   simp[Env.fW,gX]
  ·intro b' iw j y hj;have:b'=b:=by
    have e:E.φ l=some b':=iw;rw[hb]at e;cases e;rfl
   subst this;obtain⟨u,hu,hrel⟩:=hr j y hj;exact⟨u,(Z1 j).trans hu,hrel.lf (Is y (ahf hj)) (λh=>(j4 E b' (arr[·]?)).S h)⟩
def UT (l:Nat) (cs:List AV):bu->bu
 | .cells xs=> .cells (pW l cs xs)
 | .map es=> .map (es.map λe=>(e.1,JP l cs e.2))
 |o=>o
theorem zk {E:Env}{H:aa}{m l:Nat}{cs:List AV}{o:bu}(hm:H[m]? =some o){k b:Nat}:owns E (H.set m (UT l cs o)) k b↔owns E H k b:=by
 unfold owns;by_cases hk:m=k
 ·subst hk;rw[ahd (ag5.1 hm).1,hm];cases o<;>exact Iff.rfl
 ·rw[ag7 hk]
theorem Good.Yw {E:Env}{H:aa}{w0 w:World}(g:Good E H w0 w){m l:Nat}{cs:List AV}{o:bu}(hm:H[m]? =some o) (hs:QI E l cs):Good E (H.set m (UT l cs o)) w0 w:=by
 refine⟨g.below,λh=>g.snap h,λ{k o'} hk=> ?_,λ{k k' b} h1 h2=>g.sep ((zk hm).1 h1) ((zk hm).1 h2),λ{k} hk=>g.fresh (by simpa using hk),λhk=>g.mb hk⟩;by_cases It:m=k
 ·subst It;rw[ahd (ag5.1 hm).1]at hk;cases hk;have ho:=g.obj hm
  cases o with
  |cells xs=>
   intro b hb;obtain⟨q1,q2,arr,t,q3,q4⟩:=ho b hb;refine⟨q1,q2,arr,t,q3,λj x hj=> ?_⟩;rw[mh]at hj
   cases hx:xs[j]? with
   |none=>rw[hx]at hj;cases hj
   |some y=>
    rw[hx]at hj;cases hj;obtain⟨u,hu,hr⟩:=q4 j y hx;exact⟨u,hu,hr.Yw hs⟩
  |map es=>
   intro b hb;obtain⟨q1,ms,ck,q3,q4,q5,q6,q7,q8⟩:=ho b hb;refine⟨q1,ms,ck,q3,by simpa using q4,λj e hj=> ?_,q6,q7,q8⟩;rw[ahy]at hj
   cases hx:es[j]? with
   |none=>rw[hx]at hj;cases hj
   |some y=>
    rw[hx]at hj;cases hj;obtain⟨mm,ON,ue,hr⟩:=q5 j y hx;exact⟨mm,ON,ue,hr.Yw hs⟩
  |dead=>exact ho
  |tail n sz=>exact ho
  |cu n=>exact ho
  |iter m=>exact ho
  |mark k=>exact ho
  |ez f v=>exact ho
  |cN=>exact ho
  |rows es pd=>exact ho
 ·rw[ag7 It]at hk;exact g.obj hk
theorem Ext.Yw {n0:Nat}{W:Nat->Prop}{E E':Env}{H H':aa}{w w':World}(h:Ext n0 W E H w E' H' w'){m l:Nat}{cs:List AV}{o:bu}(hm:H'[m]? =some o) (hW:m<n0->W m):Ext n0 W E H w E' (H'.set m (UT l cs o)) w':=by
 refine⟨h.le,h.size,by simpa using h.len,λ{k} hk hw=> ?_,λhk hw ho=>h.iX hk hw ho,h.lL,λ{b} hb h0=> ?_⟩
 ·rw[ag7 (λe=>by subst e;exact hw (hW hk))];exact h.same hk hw
 ·obtain⟨q1,q2,q3⟩:=h.stay hb h0;exact⟨q1,λk ho=>q2 k ((zk hm).1 ho),q3⟩
theorem F1 {P:Program}{f:FuncId}{args:List AV}{x:AV}{H H1:aa}{W:List Nat}(h:bZ P f args x H H1 W){l m:Nat}{cs:List AV}{o:bu}(hl:H1[l]? =some (.cells cs)) (hn:H.length<=l) (Is:∀x∈cs,LF x) (Pk:m≠l) (hm:H1[m]? =some o) (Xc:m<H.length->m∈W):
  bZ P f args (JP l cs x) H ((H1.set l .dead).set m (UT l cs o)) W:=by
 refine⟨h.1,λE w0 w vs hg hr=>(h.2.1 E w0 w vs hg hr).mono ?_,by simpa using h.2.2.1,λk hk It=> ?_⟩
 ·rintro e w' ⟨E',re,ex,g⟩;obtain⟨E2,iK,g2,hs⟩:=AT (n0:=H.length) (W:=(·∈W)) g (λcO=>by omega) hl Is;have ue:(H1.set l .dead)[m]? =some o:=by rw[ag7 (λe=>Pk e.symm)];exact hm
  refine⟨E2,?_,(ex.trans iK).Yw ue Xc,g2.Yw ue hs⟩
  cases re with
  |ret x v hv=>exact .ret _ _ ((hv.mono iK.le).Yw hs)
 ·rw[ag7 (λe=>by subst e;exact It (Xc hk)),ag7 (by omega)];exact h.2.2.2 k hk It
def Yx (l t:Nat):Own->Own
 | .tok k=>if k=t then .tok l else .tok k
 | .off k j=>if k=t then .off l j else .off k j
 |o=>o
mutual
def NB (l t:Nat):AV->AV
 | .aY nl sz n el own=> .aY nl sz n el (Yx l t own)
 | .lD k x=> .lD k (NB l t x)
 | .agg xs=> .agg (mR l t xs)
 | .bq xs=> .bq (mR l t xs)
 | .fn f a b=> .fn f (mR l t a) (mR l t b)
 | .any=> .any
 | .sc v=> .sc v
 | .dO v=> .dO v
 | .ptr k o=> .ptr k o
 | .cU k=> .cU k
 | .fp k i=> .fp k i
 | .nK k sz n=> .nK k sz n
 | .qv k sz n=> .qv k sz n
 | .kq k=> .kq k
 | .fY k i n=> .fY k i n
def mR (l t:Nat):List AV->List AV
 |[]=>[]
 |x::r=>NB l t x::mR l t r
end
theorem od (l t:Nat):∀(xs:List AV) (i:Nat),(mR l t xs)[i]? =xs[i]?.map (NB l t)
 |[],i=>by simp[mR]
 |x::r,0=>by simp[mR]
 |x::r,i+1=>by simp[mR,od l t r i]
theorem qZ (l t:Nat):∀(xs:List AV),(mR l t xs).length=xs.length
 |[]=>rfl
 |x::r=>by simp[mR,qZ l t r]
theorem Yy {E:Env}{l t:Nat}(hG:∀n,E.G l n=E.G t n){own:Own}{n b off c:Nat}(h:own.ok E n b off c):(Yx l t own).ok E n b off c:=by
 cases own with
 |dA=>exact h
 |tight=>exact h
 |tok k=>
  by_cases hk:k=t
  ·subst hk;simp only[Yx,if_true];exact⟨(hG n).trans h.1,h.2⟩
  ·simp only[Yx,if_neg hk];exact h
 |off k j=>
  by_cases hk:k=t
  ·subst hk;simp only[Yx,if_true];exact⟨h.1.imp id (λh=>(hG j).trans h),h.2⟩
  ·simp only[Yx,if_neg hk];exact h
theorem Rel.mv {E:Env}{l t:Nat}(hG:∀n,E.G l n=E.G t n){x:AV}{v:Value}(h:Rel E x v):Rel E (NB l t x) v:=by
 induction h with
 |any v=>exact .any v
 |sc v h=>exact .sc v h
 |ptr k o b h=>exact .ptr k o b h
 |dO cs b off u h k ih=>exact .dO cs b off u h k
 |fw sz el own h=>exact .fw sz el _ (by rcases h with rfl|rfl;exact .inl rfl;exact .inr rfl)
 |gG sz el own a h=>exact .gG sz el _ a (by rcases h with rfl|rfl;exact .inl rfl;exact .inr rfl)
 |aY sz n el own b off c u hn ho hc hl h1 h k ih=>exact .aY sz n el _ b off c u hn (Yy hG ho) hc hl h1 h k
 |fn f first fJ us vs h1 h2 k1 k2 i1 i2=>
  refine .fn f _ _ us vs (by rw[h1,qZ]) (by rw[h2,qZ]) (λj x hj=> ?_) (λj x hj=> ?_)
  ·rw[od]at hj
   cases hx:first[j]? with
   |none=>rw[hx]at hj;cases hj
   |some y=>rw[hx]at hj;cases hj;exact i1 j y hx hG
  ·rw[od]at hj
   cases hx:fJ[j]? with
   |none=>rw[hx]at hj;cases hj
   |some y=>rw[hx]at hj;cases hj;exact i2 j y hx hG
 |lD t x v k ih=>exact .lD t _ v (ih hG)
 |agg cs' us h k ih=>
  refine .agg _ us (by rw[h,qZ]) (λj x hj=> ?_);rw[od]at hj
  cases hx:cs'[j]? with
  |none=>rw[hx]at hj;cases hj
  |some y=>rw[hx]at hj;cases hj;exact ih j y hx hG
 |bq cs' us h k ih=>
  refine .bq _ us (by rw[h,qZ]) (λj x hj=> ?_);rw[od]at hj
  cases hx:cs'[j]? with
  |none=>rw[hx]at hj;cases hj
  |some y=>rw[hx]at hj;cases hj;exact ih j y hx hG
 |cU l b h=>exact .cU l b h
 |fp l i n h=>exact .fp l i n h
 |nK l sz n b h hn=>exact .nK l sz n b h hn
 |qv l sz n b c h hn=>exact .qv l sz n b c h hn
 |kq l b h=>exact .kq l b h
 |jq l i=>exact .jq l i
 |fY l i n b c h h0 hn=>exact .fY l i n b c h h0 hn
def Zs (l t:Nat):bu->bu
 | .cells xs=> .cells (mR l t xs)
 | .map es=> .map (es.map λe=>(e.1,NB l t e.2))
 |o=>o
theorem DA {E:Env}{H:aa}{m l t:Nat}{o:bu}(hm:H[m]? =some o){k b:Nat}:owns E (H.set m (Zs l t o)) k b↔owns E H k b:=by
 unfold owns;by_cases hk:m=k
 ·subst hk;rw[ahd (ag5.1 hm).1,hm];cases o<;>exact Iff.rfl
 ·rw[ag7 hk]
theorem Good.mv {E:Env}{H:aa}{w0 w:World}(g:Good E H w0 w){m l t:Nat}{o:bu}(hm:H[m]? =some o) (hG:∀n,E.G l n=E.G t n):Good E (H.set m (Zs l t o)) w0 w:=by
 refine⟨g.below,λh=>g.snap h,λ{k o'} hk=> ?_,λ{k k' b} h1 h2=>g.sep ((DA hm).1 h1) ((DA hm).1 h2),λ{k} hk=>g.fresh (by simpa using hk),λhk=>g.mb hk⟩;by_cases It:m=k
 ·subst It;rw[ahd (ag5.1 hm).1]at hk;cases hk;have ho:=g.obj hm
  cases o with
  |cells xs=>
   intro b hb;obtain⟨q1,q2,arr,t,q3,q4⟩:=ho b hb;refine⟨q1,q2,arr,t,q3,λj x hj=> ?_⟩;rw[od]at hj
   cases hx:xs[j]? with
   |none=>rw[hx]at hj;cases hj
   |some y=>
    rw[hx]at hj;cases hj;obtain⟨u,hu,hr⟩:=q4 j y hx;exact⟨u,hu,hr.mv hG⟩
  |map es=>
   intro b hb;obtain⟨q1,ms,ck,q3,q4,q5,q6,q7,q8⟩:=ho b hb;refine⟨q1,ms,ck,q3,by simpa using q4,λj e hj=> ?_,q6,q7,q8⟩;rw[ahy]at hj
   cases hx:es[j]? with
   |none=>rw[hx]at hj;cases hj
   |some y=>
    rw[hx]at hj;cases hj;obtain⟨mm,ON,ue,hr⟩:=q5 j y hx;exact⟨mm,ON,ue,hr.mv hG⟩
  |dead=>exact ho
  |tail n sz=>exact ho
  |cu n=>exact ho
  |iter m=>exact ho
  |mark k=>exact ho
  |ez f v=>exact ho
  |cN=>exact ho
  |rows es pd=>exact ho
 ·rw[ag7 It]at hk;exact g.obj hk
theorem Ext.mv {n0:Nat}{W:Nat->Prop}{E E':Env}{H H':aa}{w w':World}(h:Ext n0 W E H w E' H' w'){m l t:Nat}{o:bu}(hm:H'[m]? =some o) (hW:m<n0->W m):Ext n0 W E H w E' (H'.set m (Zs l t o)) w':=by
 refine⟨h.le,h.size,by simpa using h.len,λ{k} hk hw=> ?_,λhk hw ho=>h.iX hk hw ho,h.lL,λ{b} hb h0=> ?_⟩
 ·rw[ag7 (λe=>by subst e;exact hw (hW hk))];exact h.same hk hw
 ·obtain⟨q1,q2,q3⟩:=h.stay hb h0;exact⟨q1,λk ho=>q2 k ((DA hm).1 ho),q3⟩
theorem zl {E:Env}{H:aa}{w0 w:World}{n0:Nat}{W:Nat->Prop}{l t n sz:Nat}(g:Good E H w0 w) (hl:H[l]? =some .cN) (ht:H[t]? =some (.tail n sz)) (hW:l<n0->W l) (hWt:t<n0->W t):
  ∃E',Ext n0 W E H w E' ((H.set l (.tail n sz)).set t .dead) w/\Good E' ((H.set l (.tail n sz)).set t .dead) w0 w/\∀m,E'.G l m=E'.G t m:=by
 have cO:l≠t:=λe=>by subst e;rw[hl]at ht;cases ht
 have vr:=(ag5.1 hl).1;have oE:=(ag5.1 ht).1;have hr:=g.obj hl
 let E':Env:={ E with G:=λk m=>if k=l then E.G t m else E.G k m}
 have eGl:∀m,E'.G l m=E.G t m:=λm=>if_pos rfl
 have eG:∀k m,k≠l->E'.G k m=E.G k m:=λk m hk=>if_neg hk
 have hle:E.le E':=⟨λh=>h,λh=>h,λ{k m z} h=>by
  by_cases hk:k=l
  ·subst hk;rw[hr.2 m]at h;cases h
  ·exact(eG k m hk).trans h⟩
 have gl:((H.set l (.tail n sz)).set t .dead)[l]? =some (.tail n sz):=by rw[ag7 (λe=>cO e.symm),ahd vr]
 have gt:((H.set l (.tail n sz)).set t .dead)[t]? =some .dead:=ahd (by simpa using oE);have go:∀k,k≠l->k≠t->((H.set l (.tail n sz)).set t .dead)[k]? =H[k]? :=λk h1 h2=>by rw[ag7 (λe=>h2 e.symm),ag7 (λe=>h1 e.symm)]
 have back:∀k b,owns E' ((H.set l (.tail n sz)).set t .dead) k b->(k=l/\owns E H t b)∨(k≠l/\k≠t/\owns E H k b):=by
  intro k b ho;by_cases h1:k=l
  ·subst h1;refine .inl ⟨rfl,?_⟩;unfold owns at ho ⊢;rw[gl]at ho;rw[ht];obtain⟨c,hc⟩:=ho;exact⟨c,(eGl n).symm.trans hc⟩
  ·by_cases h2:k=t
   ·subst h2;unfold owns at ho;rw[gt]at ho;exact ho.elim
   ·refine .inr ⟨h1,h2,?_⟩;unfold owns at ho ⊢;rw[go k h1 h2]at ho
    cases hq:H[k]? with
    |none=>rw[hq]at ho;exact ho
    |some q=>
     rw[hq]at ho
     cases q with
     |tail n' mO=>obtain⟨c,hc⟩:=ho;exact⟨c,(eG k n' h1).symm.trans hc⟩
     |cu n'=>obtain⟨c,hc⟩:=ho;exact⟨c,(eG k n' h1).symm.trans hc⟩
     |rows es pd=>
      obtain⟨y,hy,ho⟩:=ho;refine⟨y,hy,?_⟩;rcases ho with ho|⟨i,ss,c',p1,p2⟩
      ·exact .inl ho
      ·exact .inr ⟨i,ss,c',p1,(eG k _ h1).symm.trans p2⟩
     |_=>exact ho
 refine⟨E',⟨hle,.refl _,by simp,λ{k} hk hw=>go k (λe=>by subst e;exact hw (hW hk)) (λe=>by subst e;exact hw (hWt hk)),λ_ _ _=>rfl,λ_=>rfl,λ{x} hx h=>⟨rfl,λk ho=> ?_,λo=>rfl⟩⟩,⟨g.below,λh=>g.snap h,λ{k o} hk=> ?_,λ{k k' b} h1 h2=> ?_,λ{k} hk=> ?_,λh=>g.mb h⟩,λm=>(eGl m).trans (eG t m (λe=>cO e.symm)).symm⟩
 ·rcases back k x ho with ⟨_,h1⟩|⟨_,_,h1⟩
  ·exact h _ h1
  ·exact h _ h1
 ·by_cases h1:k=l
  ·subst h1;rw[gl]at hk;cases hk;obtain⟨b,c,arr,T,q1,q2,q3,q4,q5,q6,q7,q8⟩:=g.obj ht;exact⟨b,c,arr,T,(eGl n).trans q1,q2,q3,q4,q5,q6,q7,λm hm=>(eGl m).trans (q8 m hm)⟩
  ·by_cases h2:k=t
   ·subst h2;rw[gt]at hk;cases hk;exact trivial
   ·rw[go k h1 h2]at hk;exact(g.obj hk).step hk hle (λ_ h=>h) (λm=>eG k m h1) (λ_ _ _ _ h=>h) (λ_ _=>rfl)
 ·rcases back k b h1 with ⟨p1,p2⟩|⟨p1,p2,p3⟩<;>rcases back k' b h2 with ⟨q1,q2⟩|⟨q1,q2,q3⟩
  ·rw[p1,q1]
  ·exact absurd (g.sep p2 q3) (λe=>q2 e.symm)
  ·exact absurd (g.sep q2 p3) (λe=>p2 e.symm)
  ·exact g.sep p3 q3
 ·have ix:H.length<=k:=by simpa using hk
  have:=g.fresh ix;exact⟨this.1,λm=>(eG k m (by omega)).trans (this.2 m)⟩
theorem QJ {P:Program}{f:FuncId}{args:List AV}{x:AV}{H H1:aa}{W:List Nat}(h:bZ P f args x H H1 W){l t n sz m:Nat}{o:bu}(hl:H1[l]? =some .cN) (ht:H1[t]? =some (.tail n sz)) (UU:l∈W) (htn:H.length<=t) (Pk:m≠l) (hmt:m≠t) (hm:H1[m]? =some o) (Xc:m<H.length->m∈W):
  bZ P f args (NB l t x) H (((H1.set l (.tail n sz)).set t .dead).set m (Zs l t o)) W:=by
 refine⟨h.1,λE w0 w vs hg hr=>(h.2.1 E w0 w vs hg hr).mono ?_,by simpa using h.2.2.1,λk hk It=> ?_⟩
 ·rintro e w' ⟨E',re,ex,g⟩;obtain⟨E2,iK,g2,hs⟩:=zl (n0:=H.length) (W:=(·∈W)) g hl ht (λ_=>UU) (λcO=>by omega);have ue:((H1.set l (.tail n sz)).set t .dead)[m]? =some o:=by rw[ag7 (λe=>hmt e.symm),ag7 (λe=>Pk e.symm)];exact hm
  refine⟨E2,?_,(ex.trans iK).mv ue Xc,g2.mv ue hs⟩
  cases re with
  |ret x v hv=>exact .ret _ _ ((hv.mono iK.le).mv hs)
 ·rw[ag7 (λe=>by subst e;exact It (Xc hk)),ag7 (by omega),ag7 (λe=>by subst e;exact It UU)];exact h.2.2.2 k hk It
theorem an.eI {P:Program}{c:Code}{T T1:List AV}{H H1:aa}{x:bj}{W W':List Nat}(h:an P c T H x T1 H1 W) (hs:∀l∈W,l∈W'):an P c T H x T1 H1 W':=h.wr (λl hl _=>hs l hl)
theorem bZ.eI {P:Program}{g:FuncId}{args:List AV}{x:AV}{H H1:aa}{W W':List Nat}(h:bZ P g args x H H1 W) (hs:∀l∈W,l∈W'):bZ P g args x H H1 W':=
 ⟨h.1,λE w0 w vs hg hr=>(h.2.1 E w0 w vs hg hr).mono (by rintro e w' ⟨E',re,ex,g⟩;exact⟨E',re,ex.weaken (ag3 _) (λl _ hl=>hs l hl),g⟩),⟨h.2.2.1,λl hl hm=>h.2.2.2 l hl (λhw=>hm (hs l hw))⟩⟩
theorem Good.aaU {E:Env}{H:aa}{w0 w:World}(g:Good E H w0 w):Good E (H++[.cN]) w0 w:=by
 have ow:∀k b,owns E (H++[.cN]) k b->owns E H k b:=by
  intro k b h;by_cases hk:k<H.length
  ·unfold owns at h ⊢;rwa [ahb hk]at h
  ·unfold owns at h;by_cases w9:k=H.length
   ·subst w9;rw[ahi (ag3 _),ahX,ahw]at h;exact h.elim
   ·rw[ahu (by simp;omega)]at h;exact h.elim
 refine⟨g.below,λh=>g.snap h,λ{k o} hk=> ?_,λ{k k' b} h1 h2=>g.sep (ow _ _ h1) (ow _ _ h2),λ{k} hk=>g.fresh (by simp at hk;omega),λh=>g.mb h⟩;by_cases jI:k<H.length
 ·rw[ahb jI]at hk;exact g.obj hk
 ·have:k=H.length:=by have:=(ag5.1 hk).1;simp at this;omega
  subst this;rw[ahi (ag3 _),ahX,ahw]at hk;cases hk;exact g.fresh (ag3 _)
def F2 (l:List dh):Nat->List AV:=λi=>(l.getD i default).cells
def nB (l:List dh) (t:Nat):AV:= .aY false 31 l.length (F2 l) (.tok t)
def aJ.C (p:aJ) (X:AV):List AV:=[X,p.f.av 11 ag.cells,aS p.name,i64 p.e,aS p.home]
def aJ.H1 (p:aJ):aa:=[.cells (p.C (nB p.s.l 1)),.tail p.s.l.length 31]
def aJ.H0 (p:aJ):aa:=[.cells (p.C aR),.cN]
noncomputable def aJ.H (p:aJ):aa:=if p.s.l=[]then p.H0 else p.H1
section
variable (p:aJ) (s:ByteArray)
def xp (k i:Int):List AV:=bz 26 [(0,.ptr 0 0),(1,aS s),(4,i64 k),(9,nB p.s.l 1),(10,i64 p.s.l.length),(11,i64 i)]
theorem zm (i:Nat):(db prog (cK []) aN [] 3 (ae f66 2) (xp p s 0 i) p.H1).via (cz [0,1,4,9,10,11] [] 2)=
  bif decide ((i:Int)<(p.s.l.length:Int))then bif decide ((0:Int)<=(i:Int)/\(i:Int)<(p.s.l.length:Int))then
   bif qW p s i then some ⟨.ret,xp p s i i,p.H1,[],true⟩else some ⟨.normal,xp p s 0 (IntKind.wrap .i64 ((i:Int)+1)),p.H1,[],true⟩else none
  else some ⟨.exit 0,xp p s 0 i,p.H1,[],true⟩:=by kernel_rfl
theorem QK (i:Nat):(eb prog (cK []) (cJ prog [⟨2,[0,1,4,9,10,11],.exit 0,xp p s 0 i,p.H1,[]⟩] aN) [] 3 66 [.ptr 0 0,aS s] p.H1).via id=
  bif cj prog (ae f66 2) (xp p s 0 ((0:Nat):Int)) p.H1 (.exit 0) (xp p s 0 i) p.H1 []then some (i64 (-1),p.H1,[])else none:=by kernel_rfl
theorem NC (i:Nat):(eb prog (cK []) (cJ prog [⟨2,[0,1,4,9,10,11],.ret,xp p s i i,p.H1,[]⟩] aN) [] 3 66 [.ptr 0 0,aS s] p.H1).via id=
  bif cj prog (ae f66 2) (xp p s 0 ((0:Nat):Int)) p.H1 .ret (xp p s i i) p.H1 []then some (i64 i,p.H1,[])else none:=by kernel_rfl
theorem UW:(eb prog (cK []) aN [] 3 66 [.ptr 0 0,aS s] p.H0).via id=some (i64 (-1),p.H0,[]):=by kernel_rfl
end
theorem pq {t:Tree (AV×aa×List Nat)}{F:Option (AV×aa×List Nat)}{r:AV×aa×List Nat}(h:t.via id=F) (hF:F=some r):t.eR=some r:=by
 obtain⟨q,hq,e⟩:=cv h hF;rw[hq];exact congrArg some e
theorem ND (p:aJ) (s:ByteArray) (hn:p.s.l.length<=4398046511104):bZ prog 66 [.ptr 0 0,aS s] (i64 (cw p s)) p.H p.H []:=by
 unfold aJ.H;by_cases h0:p.s.l=[]
 ·rw[if_pos h0];have e:cw p s= -1:=by unfold cw;rw[h0];rfl
  rw[e];exact gQ mixed (au _) ab (pq (UW p s) rfl)
 ·rw[if_neg h0];have hl:=qY (P:=prog) (c:=ae f66 2) (λi=>xp p s 0 i) (λi=>xp p s i i) p.H1 (λ_=>p.H1) [] (qW p s) (.exit 0) (by simp) p.s.l.length (λi hi hc=>by
   have hb:=zm p s i;rw[ag2 (by omega:(i:Int)<(p.s.l.length:Int)),ag2 (by omega:(0:Int)<=(i:Int)/\(i:Int)<(p.s.l.length:Int)),hc]at hb;exact ai mixed (au _) ab hb rfl (ag3 _) (by simp)) (λi hi hc=>by
   have hb:=zm p s i;rw[ag2 (by omega:(i:Int)<(p.s.l.length:Int)),ag2 (by omega:(0:Int)<=(i:Int)/\(i:Int)<(p.s.l.length:Int)),hc,wi (x:=(i:Int)+1) (by omega) (by omega)]at hb;exact ai mixed (au _) ab hb rfl (ag3 _) (by simp)) (by
   have hb:=zm p s p.s.l.length;rw[ag8 (by omega)]at hb;exact ai mixed (au _) ab hb rfl (ag3 _) (by simp))
  have hg:∀i (hi:i<p.s.l.length),qW p s i=((p.s.l[i]).full.toList==s.toList):=λi hi=>by
   unfold qW;simp[ag4,hi]
  rcases hl with ⟨h,fy⟩|⟨j,hj,hc,fy,h⟩
  ·have hb:=QK p s p.s.l.length;rw[bc h]at hb;have he:cw p s= -1:=by
    unfold cw;have:p.s.l.findIdx? (λx=>x.full.toList==s.toList)=none:=by
     rw[aih];intro x hx;obtain⟨i,hi,rfl⟩:=ah0 hx;rw[←hg i hi];exact fy i hi
    rw[this]
   rw[he];exact gQ mixed (au _) (ba ab) (pq hb rfl)
  ·have hb:=NC p s j;rw[bc h]at hb;have he:cw p s=(j:Int):=by
    unfold cw;have:p.s.l.findIdx? (λx=>x.full.toList==s.toList)=some j:=by
     rw[ah4];refine⟨hj,by rw[←hg j hj];exact hc,λi hi=> ?_⟩;have:=fy i hi;rw[hg i (by omega)]at this;simp only[this];decide
    rw[this]
   rw[he];exact gQ mixed (au _) (ba ab) (pq hb rfl)
def dh.at (s:dh) (home:ByteArray):dh:={ s with home:=home}
def gR (p:aJ) (s:dh):Bool:=bif (bif decide (cw p s.full≥0)then s.kind==1 else false)then(p.s.l.getD (cw p s.full).toNat default).kind==1 else false
def aJ.more (p:aJ) (s:dh):aJ:={ p with s:=⟨p.s.nl,p.s.l++[s.at p.home]⟩}
def aJ.bad (p:aJ) (s:dh):aJ:={ p with name:=s.full,e:=140}
def aJ.add (p:aJ) (s:dh):aJ:=bif p.e !=0 then p else bif gR p s then p else bif decide (cw p s.full≥0)then p.bad s else p.more s
def l7 (r:AV×aa×List Nat):AV×aa:=(r.1,r.2.1.take 2)
section
variable (p:aJ) (s:dh)
theorem NF:(eb prog (cK []) (eV prog [⟨13,i64 (cw p s.full),p.H1++[.cells s.cells],[]⟩] aN) [] 3 196 [.ptr 0 0,.agg s.cells] p.H1).via l7=
  bif p.e !=0 then some (.bq [],p.H1)else
  bif cW prog 66 [.ptr 0 0,aS s.full] (p.H1++[.cells s.cells]) (i64 (cw p s.full)) (p.H1++[.cells s.cells]) []then
  bif (bif (bif decide (cw p s.full≥0)then s.kind==1 else false)then decide (0<=cw p s.full/\cw p s.full<(p.s.l.length:Int))else true)then
  bif gR p s then some (.bq [],p.H1)else
  bif decide (cw p s.full≥0)then some (.bq [],[.cells ((p.bad s).C (nB p.s.l 1)),.tail p.s.l.length 31])else
  bif decide ((p.s.l.length+1)*560<=2 ^ 46/\p.s.l.length+1<2 ^ 62)then bif decide (p.s.l.length=p.s.l.length)then
   some (.bq [],[.cells (p.C (.aY false 31 (p.s.l.length+1) (bI p.s.l.length (F2 p.s.l) (rowOf 31 (s.at p.home).cells)) (.tok 1))),.tail (p.s.l.length+1) 31])
  else none else none else none else none:=by kernel_rfl
theorem NG:(eb prog (cK []) (eV prog [⟨13,i64 (-1),p.H0++[.cells s.cells],[]⟩] aN) [] 3 196 [.ptr 0 0,.agg s.cells] p.H0).via id=
  bif p.e !=0 then some (.bq [],p.H0++[.cells s.cells],[])else
  bif cW prog 66 [.ptr 0 0,aS s.full] (p.H0++[.cells s.cells]) (i64 (-1)) (p.H0++[.cells s.cells]) []then
   some (.bq [],[.cells (p.C (.aY false 31 1 (bI 0 (λ_=>[]) (rowOf 31 (s.at p.home).cells)) (.tok 3))),.cN,.cells (s.at p.home).cells,.tail 1 31],[0])
  else none:=by kernel_rfl
end
theorem bZ.WZ {P:Program}{g:FuncId}{args:List AV}{x:AV}{H H1 H2:aa}{W:List Nat}(h:bZ P g args x H H1 W) (hw:Yc H1 H2) (hk:∀l,l<H.length->l∉W->H2[l]? =H[l]?):bZ P g args x H H2 W:=by
 refine⟨h.1,λE w0 w vs hg hr=>(h.2.1 E w0 w vs hg hr).mono ?_,⟨by rw[←hw.1];exact h.2.2.1,λl hl hm=>hk l hl hm⟩⟩;rintro e w' ⟨E',re,ex,g⟩;refine⟨E',re,⟨ex.le,ex.size,by rw[←hw.1];exact ex.len,λ{l} hl hm=>hk l hl hm,λhl hm ho=>ex.iX hl hm ho,ex.lL,λ{b} hb h0=> ?_⟩,g.WZ hw⟩;obtain⟨q1,q2,q3⟩:=ex.stay hb h0;exact⟨q1,λk ho=>q2 k (qN hw ho),q3⟩
theorem bZ.wr {P:Program}{g:FuncId}{args:List AV}{x:AV}{H H1:aa}{W W':List Nat}(h:bZ P g args x H H1 W) (hs:∀l∈W,l<H.length->l∈W'):bZ P g args x H H1 W':=
 ⟨h.1,λE w0 w vs hg hr=>(h.2.1 E w0 w vs hg hr).mono (by rintro e w' ⟨E',re,ex,g⟩;exact⟨E',re,ex.weaken (ag3 _) (λl cO hl=>hs l hl cO),g⟩),⟨h.2.2.1,λl hl hm=>h.2.2.2 l hl (λhw=>hm (hs l hw hl))⟩⟩
theorem DB {o1 o2 q1 q2:bu}(h1:Zq o1 q1) (h2:Zq o2 q2):Yc [o1,o2] [q1,q2]:=by
 refine⟨rfl,λl o' hl=> ?_⟩
 match l,hl with
 |0,hl=>simp at hl;subst hl;exact⟨_,rfl,h1⟩
 |1,hl=>simp at hl;subst hl;exact⟨_,rfl,h2⟩
theorem uF {P:Program}{g:FuncId}{args:List AV}{x:AV}{o1 o2 q1 q2:bu}{H1:aa}{W:List Nat}(h:bZ P g args x [o1,o2] H1 W) (e:H1.take 2=[q1,q2]) (mr:cH 2 q1=true/\gn q1=true) (vg:cH 2 q2=true/\gn q2=true) (hx:ff 2 x=true):bZ P g args x [o1,o2] [q1,q2] [0,1]:=by
 have:=kg (H:=[o1,o2]) h e (λo ho=>by
  simp only[ahl,ahr,ahO]at ho;rcases ho with rfl|rfl
  ·exact mr
  ·exact vg) hx
 exact this.wr (λl _ hl=>by
  have:l<2:=hl;simp only[ahl,ahr,ahO];omega)
theorem uG (p:aJ){X:AV}(h:ff 2 X=true):cH 2 (.cells (p.C X))=true/\gn (.cells (p.C X))=true:=by
 refine⟨?_,rfl⟩;show (ff 2 X&&true)=true;rw[h];rfl
theorem DC (p:aJ) (l:List dh):cH 2 (.cells (p.C (nB l 1)))=true/\gn (.cells (p.C (nB l 1)))=true:=uG p rfl
theorem QL (p:aJ):cH 2 (.cells (p.C aR))=true/\gn (.cells (p.C aR))=true:=uG p rfl
theorem aJ.Xd (p:aJ):p.H.length=2:=by unfold aJ.H;split<;>rfl
theorem aJ.aaV (p:aJ):∀o∈p.H,cH 2 o=true/\gn o=true:=by
 unfold aJ.H;intro o ho;split at ho
 ·simp only[aJ.H0,ahl,ahr,ahO]at ho;rcases ho with rfl|rfl
  ·exact QL p
  ·exact⟨rfl,rfl⟩
 ·simp only[aJ.H1,ahl,ahr,ahO]at ho;rcases ho with rfl|rfl
  ·exact DC p _
  ·exact⟨rfl,rfl⟩
theorem BO {l:List dh}{n t:Nat}{s:dh}{el:Nat->List AV}(hn:n=l.length) (h:∀i,i<l.length->el i=F2 l i):ev (.aY false 31 (n+1) (bI n el (rowOf 31 s.cells)) (.tok t)) (nB (l++[s]) t):=by
 subst hn;unfold nB;have e:(l++[s]).length=l.length+1:=by simp
 rw[e];refine ev.aY (λi hi=> ?_);unfold bI;by_cases cO:i<l.length
 ·rw[if_pos cO,h i cO];simp[F2,ag4,ahb cO]
 ·have:i=l.length:=by omega
  subst this;rw[if_neg cO,ahX];have:rowOf 31 s.cells 0=s.cells:=by
   unfold rowOf;simp only[Nat.zero_mul,List.drop_zero];exact List.take_of_length_le (ag3 _)
  rw[this];simp[F2,ag4]
theorem QM (p:aJ) (s:ByteArray) (c:Bool):(bif (bif decide (cw p s≥0)then c else false)then decide (0<=cw p s/\cw p s<(p.s.l.length:Int))else true)=true:=by
 have:=uE p s;by_cases h:cw p s≥0
 ·rw[ag2 h,ag2 (by omega:0<=cw p s/\cw p s<(p.s.l.length:Int))];cases c<;>rfl
 ·rw[ag8 h];rfl
theorem UX (p:aJ) (s:dh) (hn:p.s.l.length<=68719476736):bZ prog 196 [.ptr 0 0,.agg s.cells] (.bq []) p.H (p.add s).H [0,1]:=by
 have hf:=ND p s.full (by omega);have hb:=mC hf (by rw[aJ.Xd];rfl) rfl (λo ho=>by rw[aJ.Xd];exact(p.aaV o ho).1) [.cells s.cells];by_cases h0:p.s.l=[]
 ·have eH:p.H=p.H0:=if_pos h0;have e1:cw p s.full= -1:=by unfold cw;rw[h0];rfl
  have Yz:gR p s=false:=by unfold gR;rw[e1];rfl
  rw[eH,e1]at hb;have ht:=NG p s;rw[bS hb]at ht;rw[eH];cases he:(p.e !=0)with
  |true=>
   rw[he]at ht;have ea:p.add s=p:=by unfold aJ.add;rw[he];rfl
   rw[ea,eH];exact uF (gQ mixed (au _) (bx ab) (pq ht rfl)) rfl (QL p) ⟨rfl,rfl⟩ rfl
  |false=>
   rw[he]at ht;have ea:p.add s=p.more s:=by unfold aJ.add;rw[he,Yz,e1];rfl
   have eN:(p.more s).H=(p.more s).H1:=if_neg (by unfold aJ.more;simp);rw[ea,eN];have c1:=gQ mixed (au _) (bx ab) (pq ht rfl);have c2:=QJ (m:=0) (l:=1) (t:=3) (c1.eI (W':=[0,1]) (by simp)) rfl rfl (by simp) (by show 2<=3;omega) (by omega) (by omega) rfl (by simp);have c3:=uF c2 rfl (q1:= .cells (p.C (.aY false 31 1 (bI 0 (λ_=>[]) (rowOf 31 (s.at p.home).cells)) (.tok 1)))) (q2:= .tail 1 31) (uG p rfl) ⟨rfl,rfl⟩ rfl;have e2:(p.more s).H1=[.cells (p.C (nB [s.at p.home] 1)),.tail 1 31]:=by
    unfold aJ.H1 aJ.more;simp only[h0,List.nil_append];rfl
   rw[e2];exact c3.WZ (DB (.cells (.cons (BO (l:=[]) rfl (λi hi=>by simp at hi)) (.refl _))) (.refl _)) (λl hl hm=>by
    have:l<2:=hl;simp only[ahl,ahr,ahO]at hm;omega)
 ·have eH:p.H=p.H1:=if_neg h0;rw[eH]at hb;have ht:=NF p s;rw[bS hb,QM]at ht;rw[eH];have fin:∀{F:Option (AV×aa)} {q1 q2:bu},(eb prog (cK []) (eV prog [⟨13,i64 (cw p s.full),p.H1++[.cells s.cells],[]⟩] aN) [] 3 196 [.ptr 0 0,.agg s.cells] p.H1).via l7=F->F=some (.bq [],[q1,q2])->cH 2 q1=true/\gn q1=true->cH 2 q2=true/\gn q2=true->bZ prog 196 [.ptr 0 0,.agg s.cells] (.bq []) p.H1 [q1,q2] [0,1]:=by
   intro F q1 q2 h hF mr vg;obtain⟨r,hr,hg⟩:=cv h hF;simp only[l7,ahe]at hg;have:=gQ mixed (au _) (bx ab) hr;rw[hg.1]at this;exact uF this hg.2 mr vg rfl
  cases he:(p.e !=0)with
  |true=>
   rw[he]at ht;have ea:p.add s=p:=by unfold aJ.add;rw[he];rfl
   rw[ea,eH];exact fin ht rfl (DC p _) ⟨rfl,rfl⟩
  |false=>
   rw[he]at ht
   cases Yz:gR p s with
   |true=>
    rw[Yz]at ht;have ea:p.add s=p:=by unfold aJ.add;rw[he,Yz];rfl
    rw[ea,eH];exact fin ht rfl (DC p _) ⟨rfl,rfl⟩
   |false=>
    rw[Yz]at ht;by_cases hi:cw p s.full≥0
    ·rw[ag2 hi]at ht;have ea:p.add s=p.bad s:=by unfold aJ.add;rw[he,Yz,ag2 hi];rfl
     have eN:(p.bad s).H=(p.bad s).H1:=if_neg h0;rw[ea,eN];exact fin ht rfl (DC (p.bad s) _) ⟨rfl,rfl⟩
    ·rw[ag8 hi,ag2 (by omega:(p.s.l.length+1)*560<=2 ^ 46/\p.s.l.length+1<2 ^ 62),ag2 rfl]at ht;have ea:p.add s=p.more s:=by unfold aJ.add;rw[he,Yz,ag8 hi];rfl
     have eN:(p.more s).H=(p.more s).H1:=if_neg (by unfold aJ.more;simp);rw[ea,eN];have c3:=fin ht rfl (uG p rfl) ⟨rfl,rfl⟩;have e2:(p.more s).H1=[.cells (p.C (nB (p.s.l++[s.at p.home]) 1)),.tail (p.s.l.length+1) 31]:=by
      unfold aJ.H1 aJ.more;simp only[ahB,ahv,aiz];rfl
     rw[e2];exact c3.WZ (DB (.cells (.cons (BO rfl (λ_ _=>rfl)) (.refl _))) (.refl _)) (λl hl hm=>by
      have:l<2:=hl;simp only[ahl,ahr,ahO]at hm;omega)
def bw {α:Type}(f:α->Nat) (l:List α):Nat:=(l.map f).sum
theorem cf {α:Type}{f:α->Nat}{l:List α}{x:α}(h:x∈l):f x<=bw f l:=by
 induction l with
 |nil=>simp at h
 |cons y r ih=>
  simp only[bw,ahJ,List.sum_cons];rcases ahl.1 h with rfl|h
  ·omega
  ·have:=ih h;simp only[bw]at this;omega
theorem cy {α:Type}{f:α->Nat}{l:List α}(h:∀x∈l,1<=f x):l.length<=bw f l:=by
 induction l with
 |nil=>simp[bw]
 |cons y r ih=>
  simp only[bw,ahJ,List.sum_cons,ahv];have:=ih (λx hx=>h x (ahn _ hx));have:=h y (ahD ..);simp only[bw]at*;omega
theorem eh {α:Type}(f:α->Nat) (x:α) (l:List α):bw f (x::l)=f x+bw f l:=by simp[bw]
theorem dM {α:Type}(f:α->Nat) (l:List α) (i:Nat):bw f (l.take i)<=bw f l:=by
 induction l generalizing i with
 |nil=>simp[bw]
 |cons x r ih=>
  cases i with
  |zero=>simp[bw]
  |succ i=>rw[ah5,eh,eh];have:=ih i;omega
def jh.sz (b:jh):Nat:=b.l.length+1
def nZ.sz (b:nZ):Nat:=b.l.length+1
def bD.sz (b:bD):Nat:=bw (λs=>s.size+1) b.l+1
def aX.sz {α:Type}(r:aX α) (f:α->Nat):Nat:=bw f r.l+1
def dY.sz (d:dY):Nat:=3
def aP.sz (d:aP):Nat:=d.name.size+d.eA.size+d.cp.size+d.pg.size+d.json.size+d.opts.sz+d.dE.sz+11
def eT.sz (d:eT):Nat:=d.name.size+d.opts.sz+d.dE.sz+2
def cF.sz (d:cF):Nat:=d.name.size+d.opts.sz+d.dE.sz+1
def cM.sz (d:cM):Nat:=d.name.size+d.ins.size+d.outs.size+d.opts.sz+d.dE.sz+5
def bt.sz (d:bt):Nat:=d.name.size+d.aM.sz eT.sz+d.opts.sz+d.dE.sz+2
def bN.sz (d:bN):Nat:=d.name.size+d.aO.sz cM.sz+d.opts.sz+d.dE.sz+2
mutual
def az.sz:az->Nat
 | .mk name af mN aC aQ bB exts aI bp bY opts dE=>name.size+af.sz aP.sz+(az.BP aC+1)+aQ.sz bt.sz+bB.sz dY.sz+exts.sz aP.sz+aI.sz cF.sz+bp.sz dY.sz+bY.sz+opts.sz+dE.sz+2
def az.BP:List az->Nat
 |[]=>0
 |m::r=>m.sz+az.BP r
end
def ag.sz (d:ag):Nat:=d.name.size+d.cG.size+d.cm.sz+d.ey.sz+d.ay.sz az.sz+d.aQ.sz bt.sz+d.aL.sz bN.sz+d.exts.sz aP.sz+d.rP.size+d.opts.sz+d.dE.sz+4
theorem az.gA:∀l:List az,az.BP l=bw az.sz l
 |[]=>rfl
 |m::r=>by rw[az.BP,az.gA r,eh]
theorem az.wI (m:az):m.sz=m.name.size+m.af.sz aP.sz+(bw az.sz m.aC+1)+m.aQ.sz bt.sz+m.bB.sz dY.sz+m.exts.sz aP.sz+m.aI.sz cF.sz+m.bp.sz dY.sz+m.bY.sz+m.opts.sz+m.dE.sz+2:=by
 cases m;simp only[az.sz,az.gA,az.name,az.af,az.aC,az.aQ,az.bB,az.exts,az.aI,az.bp,az.bY,az.opts,az.dE]
theorem az.bT (m:az):1<=m.sz:=by rw[az.wI];omega
theorem aP.bT (m:aP):1<=m.sz:=by unfold aP.sz;omega
theorem eT.bT (m:eT):1<=m.sz:=by unfold eT.sz;omega
theorem cF.bT (m:cF):1<=m.sz:=by unfold cF.sz;omega
theorem cM.bT (m:cM):1<=m.sz:=by unfold cM.sz;omega
theorem bt.bT (m:bt):1<=m.sz:=by unfold bt.sz;omega
theorem bN.bT (m:bN):1<=m.sz:=by unfold bN.sz;omega
theorem dY.bT (m:dY):1<=m.sz:=by unfold dY.sz;omega
abbrev bL:Nat:=1048576
theorem aX.dD {α:Type}{r:aX α}{f:α->Nat}{q:α->Prop}(h:r.sz f<=bL) (hp:∀x,1<=f x) (hq:∀x,f x<=bL->q x):r.sm q:=by
 unfold aX.sz at h;refine⟨?_,λx hx=>hq x ?_⟩
 ·have:=cy (f:=f) (l:=r.l) (λx _=>hp x);unfold dg;unfold bL at h;omega
 ·have:=cf (f:=f) hx;omega
theorem jh.dD {b:jh}(h:b.sz<=bL):b.sm:=by unfold jh.sz bL at h;unfold jh.sm dg;omega
theorem bD.dD {b:bD}(h:b.sz<=bL):b.sm:=by
 unfold bD.sz bL at h;refine⟨?_,λx hx=> ?_⟩
 ·have:=cy (f:=λs:ByteArray=>s.size+1) (l:=b.l) (λx _=>by omega);unfold dg;omega
 ·have:=cf (f:=λs:ByteArray=>s.size+1) hx;unfold dg;omega
theorem aP.dD {d:aP}(h:d.sz<=bL):d.sm:=by
 unfold aP.sz jh.sz bL at h;refine⟨?_,?_,?_,?_,?_,?_⟩<;>first|(unfold jh.sm dg;omega)|(unfold dg;omega)
theorem eT.dD {d:eT}(h:d.sz<=bL):d.sm:=by
 unfold eT.sz jh.sz bL at h;refine⟨?_,?_⟩<;>first|(unfold jh.sm dg;omega)|(unfold dg;omega)
theorem cF.dD {d:cF}(h:d.sz<=bL):d.sm:=by
 unfold cF.sz jh.sz bL at h;refine⟨?_,?_⟩<;>first|(unfold jh.sm dg;omega)|(unfold dg;omega)
theorem cM.dD {d:cM}(h:d.sz<=bL):d.sm:=by
 unfold cM.sz jh.sz bL at h;refine⟨?_,?_,?_,?_⟩<;>first|(unfold jh.sm dg;omega)|(unfold dg;omega)
theorem bt.dD {d:bt}(h:d.sz<=bL):d.sm:=by
 unfold bt.sz jh.sz at h;refine⟨?_,aX.dD (by omega) eT.bT (λx hx=>eT.dD hx),?_⟩<;>unfold bL at h<;>first|(unfold jh.sm dg;omega)|(unfold dg;omega)
theorem bN.dD {d:bN}(h:d.sz<=bL):d.sm:=by
 unfold bN.sz jh.sz at h;refine⟨?_,aX.dD (by omega) cM.bT (λx hx=>cM.dD hx),?_⟩<;>unfold bL at h<;>first|(unfold jh.sm dg;omega)|(unfold dg;omega)
mutual
theorem az.xU:∀(m:az),m.sz<=bL->m.sm
 | .mk name af mN aC aQ bB exts aI bp bY opts dE,h=>by
  simp only[az.sz]at h;simp only[az.sm];have hl:aC.length<=az.BP aC:=by rw[az.gA];exact cy (λx _=>x.bT)
  have hr:∀r:aX dY,r.l.length<=r.sz dY.sz:=λr=>by
   unfold aX.sz;have:=cy (f:=dY.sz) (l:=r.l) (λx _=>x.bT);omega
  have h1:=hr bB;have h2:=hr bp;refine⟨?_,aX.dD (by omega) aP.bT (λx hx=>aP.dD hx),⟨?_,az.F3 aC (by omega)⟩,aX.dD (by omega) bt.bT (λx hx=>bt.dD hx),?_,aX.dD (by omega) aP.bT (λx hx=>aP.dD hx),aX.dD (by omega) cF.bT (λx hx=>cF.dD hx),?_,bD.dD (by omega),jh.dD (by omega)⟩<;>unfold bL at h<;>unfold dg<;>omega
theorem az.F3:∀(l:List az),az.BP l<=bL->az.Nz l
 |[],_=>trivial
 |m::r,h=>by
  simp only[az.BP]at h;simp only[az.Nz];exact⟨az.xU m (by omega),az.F3 r (by omega)⟩
end
theorem ag.dD {d:ag}(h:d.sz<=bL):d.sm:=by
 unfold ag.sz at h;have hp:d.ey.l.length<=d.ey.sz:=by unfold nZ.sz;omega
 refine⟨?_,?_,bD.dD (by omega),?_,aX.dD (by omega) az.bT (λx hx=>az.xU x hx),aX.dD (by omega) bt.bT (λx hx=>bt.dD hx),aX.dD (by omega) bN.bT (λx hx=>bN.dD hx),aX.dD (by omega) aP.bT (λx hx=>aP.dD hx),?_,jh.dD (by omega)⟩<;>unfold bL at h<;>unfold dg<;>omega
theorem dR {P:Program}{c:Code}(T:Nat->List AV) (H:Nat->aa) (W:List Nat) (ex:bj) (hx:ex≠.normal) (n:Nat) (round:∀i,i<n->an P c (T i) (H i) .normal (T (i+1)) (H (i+1)) W) (out:an P c (T n) (H n) ex (T n) (H n) []):
  an P (.loop c) (T 0) (H 0) ex (T n) (H n) W:=by
 have key:∀d i,n-i=d->i<=n->∃k W',dX P c ex (T n) (H n) k (T i) (H i) W'/\∀l∈W',l∈W:=by
  intro d
  induction d with
  |zero=>
   intro i hd hi;have:i=n:=by omega
   subst this;exact⟨0,[],.out out hx,λl hl=>by simp at hl⟩
  |succ d ih=>
   intro i hd hi;obtain⟨k,W',hr,hw⟩:=ih (i+1) (by omega) (by omega);exact⟨k+1,_,.next (round i (by omega)) hr,λl hl=>by
    rcases ahC.1 hl with h|h
    ·exact h
    ·exact hw l h⟩
 obtain⟨k,W',hr,hw⟩:=key n 0 (by omega) (ag9 _);exact hr.ok.eI hw
noncomputable def aJ.o1 (p:aJ):bu:=p.H.getD 0 .dead
noncomputable def aJ.o2 (p:aJ):bu:=p.H.getD 1 .dead
theorem aJ.UY (p:aJ):p.H=[p.o1,p.o2]:=by
 unfold aJ.o1 aJ.o2 aJ.H;split<;>rfl
theorem aJ.lb (p:aJ):(cH 2 p.o1=true/\gn p.o1=true)/\(cH 2 p.o2=true/\gn p.o2=true):=by
 have:=p.aaV;rw[p.UY]at this;exact⟨this _ (by simp),this _ (by simp)⟩
theorem BQ {P:Program}{g:FuncId}{args:List AV}{x:AV}{o1 o2 q1 q2:bu}{W:List Nat}(h:bZ P g args x [o1,o2] [q1,q2] W) (ha:dG 2 args=true) (hx:ff 2 x=true) (h1:cH 2 o1=true/\gn o1=true) (h2:cH 2 o2=true/\gn o2=true)
  (k1:cH 2 q1=true/\gn q1=true) (k2:cH 2 q2=true/\gn q2=true) (hW:∀l∈W,l<2) (J:aa):bZ P g args x (o1::o2::J) (q1::q2::J) W:=by
 have hf:∀l,l<2->nM [0,1] (o1::o2::J).length l=l:=λl hl=>by
  match l,hl with
  |0,_=>rfl
  |1,_=>rfl
 have key:=y4 h (H:=o1::o2::J) (s:=[0,1]) (by simp) rfl (λi l hi=>by
  match i,hi with
  |0,hi=>
   simp at hi;subst hi;show some o1=some (kf _ o1);rw[pf hf o1 h1.1]
  |1,hi=>
   simp at hi;subst hi;show some o2=some (kf _ o2);rw[pf hf o2 h2.1]) ha (λo ho=>by
   simp only[ahl,ahr,ahO]at ho;rcases ho with rfl|rfl
   ·exact h1
   ·exact h2) (λo ho=>by
   simp only[ahl,ahr,ahO]at ho;rcases ho with rfl|rfl
   ·exact k1.2
   ·exact k2.2)
 have e1:iR (nM [0,1] (o1::o2::J).length) [0,1] [q1,q2] (o1::o2::J)=q1::q2::J:=by
  simp only[iR,jm,ahv,aiz,List.drop_succ_cons,List.drop_nil,aia,ah3];rw[show kf (nM [0,1] (J.length+1+1)) q1=q1 from pf hf q1 k1.1,show kf (nM [0,1] (J.length+1+1)) q2=q2 from pf hf q2 k2.1];rfl
 rw[e1,lg hf args ha,pe hf x hx]at key;exact key.wr (λl hl cO=>by
  obtain⟨m,hm,rfl⟩:=ahQ.1 hl;rw[hf m (hW m hm)];exact hm)
theorem aJ.jb (p:aJ) (s:dh):(p.add s).s.l.length<=p.s.l.length+1:=by
 unfold aJ.add
 cases p.e !=0 with
 |true=>simp
 |false=>
  cases gR p s with
  |true=>simp
  |false=>
   cases decide (cw p s.full≥0)with
   |true=>simp[aJ.bad]
   |false=>simp[aJ.more]
theorem pt (p:aJ) (s:dh) (hn:p.s.l.length<=68719476736){cs:List AV}(w:Wk cs s.cells) (J:aa):bZ prog 196 [.ptr 0 0,.agg cs] (.bq []) (p.o1::p.o2::J) ((p.add s).o1::(p.add s).o2::J) [0,1]:=by
 have h:=UX p s hn;rw[p.UY,(p.add s).UY]at h;have ha:dG 2 [.ptr 0 0,.agg s.cells]=true:=by
  simp only[dG,ff];rw[eP (JO s)];rfl
 have:=BQ h ha rfl p.lb.1 p.lb.2 (p.add s).lb.1 (p.add s).lb.2 (λl hl=>by simp at hl;omega) J;refine⟨this.1,λE w0 w1 vs hg hr=>this.2.1 E w0 w1 vs hg ⟨hr.1,λi y hy=> ?_⟩,this.2.2⟩
 match i,hy with
 |0,hy=>exact hr.2 0 y hy
 |1,hy=>
  simp at hy;subst hy;exact ev.agg w _ _ (hr.2 1 _ rfl)
def gS (full:ByteArray) (kind:Int):dh:=⟨full,kind,aq,AS,FY,JN⟩
def nC (full:ByteArray) (e:bt):dh:=⟨full,3,aq,AS,e,JN⟩
def mG (full:ByteArray) (kind:Int) (f:aP):dh:=⟨full,kind,aq,AS,FY,f⟩
def gI (full:ByteArray) (m:az):dh:=⟨full,2,aq,m,FY,JN⟩
def vL (full:ByteArray) (kind:Int) (m e f:List AV):List AV:=aS full::i64 kind::aS aq::(m++(e++f))
theorem uH (full:ByteArray) (kind:Int):Wk (vL full kind fz fP fQ) (gS full kind).cells:= .cons (.refl _) (.cons (.refl _) (.cons (.refl _) (nh.app (pn.app po))))
theorem UZ (full:ByteArray) (e:bt):Wk (vL full 3 fz e.cells fQ) (nC full e).cells:= .cons (.refl _) (.cons (.refl _) (.cons (.refl _) (nh.app ((Wk.refl _).app po))))
theorem Lt (full:ByteArray) (kind:Int) (f:aP):Wk (vL full kind fz fP f.cells) (mG full kind f).cells:= .cons (.refl _) (.cons (.refl _) (.cons (.refl _) (nh.app (pn.app (.refl _)))))
theorem gv {α β:Type} [Inhabited α] (f:β->α->β) (b:β) (l:List α) (i:Nat) (hi:i<l.length):(l.take (i+1)).foldl f b=f ((l.take i).foldl f b) (l.getD i default):=by
 rw[List.take_add_one,List.foldl_append];simp[ag4,hi]
theorem F4 {α β:Type}(f:β->α->β) (b:β) (l:List α):(l.take l.length).foldl f b=l.foldl f b:=by rw[ahR]
theorem ll {α:Type}(f:aJ->α->aJ) (w:α->Nat) (hw:∀q x,(f q x).s.l.length<=q.s.l.length+w x) (l:List α) (p:aJ):(l.foldl f p).s.l.length<=p.s.l.length+bw w l:=by
 induction l generalizing p with
 |nil=>simp[bw]
 |cons x r ih=>
  rw[ah7,eh];have:=ih (f p x);have:=hw p x;omega
theorem bM {α:Type} [Inhabited α] {l:List α}{i:Nat}(hi:i<l.length):l.getD i default∈l:=by
 rw[show l.getD i default=l[i] by simp[ag4,hi]];exact ahG hi
mutual
theorem uI {n m:Nat}(h:n<=m):∀(x:AV),ff n x=true->ff m x=true
 | .any,_=>rfl
 | .sc _,_=>rfl
 | .dO _,_=>rfl
 | .ptr l o,k=>by simp only[ff,decide_eq_true_eq]at*;omega
 | .cU l,k=>by simp only[ff,decide_eq_true_eq]at*;omega
 | .fp l i,k=>by simp only[ff,decide_eq_true_eq]at*;omega
 | .nK l _ _,k=>by simp only[ff,decide_eq_true_eq]at*;omega
 | .qv l _ _,k=>by simp only[ff,decide_eq_true_eq]at*;omega
 | .kq l,k=>by simp only[ff,decide_eq_true_eq]at*;omega
 | .fY l _ _,k=>by simp only[ff,decide_eq_true_eq]at*;omega
 | .aY nl sz n' el .dA,k=>rfl
 | .aY nl sz n' el .tight,k=>rfl
 | .aY nl sz n' el (.tok t),k=>by simp only[ff,uh,decide_eq_true_eq]at*;omega
 | .aY nl sz n' el (.off t _),k=>by simp only[ff,uh,decide_eq_true_eq]at*;omega
 | .fn g a b,k=>by simp only[ff,ahp]at*;exact⟨mi h a k.1,mi h b k.2⟩
 | .lD t x,k=>by simp only[ff]at*;exact uI h x k
 | .agg cs,k=>by simp only[ff]at*;exact mi h cs k
 | .bq cs,k=>by simp only[ff]at*;exact mi h cs k
theorem mi {n m:Nat}(h:n<=m):∀(xs:List AV),dG n xs=true->dG m xs=true
 |[],_=>rfl
 |x::r,k=>by simp only[dG,ahp]at*;exact⟨uI h x k.1,mi h r k.2⟩
end
theorem zn {n m:Nat}(h:n<=m){o:bu}(hs:gn o=true) (k:cH n o=true):cH m o=true:=by
 cases o with
 |cells cs=>exact mi h cs k
 |map es=>
  simp only[cH,ahq]at*;exact λe he=>uI h e.2 (k e he)
 |iter m=>simp[gn]at hs
 |mark k=>simp[gn]at hs
 |_=>rfl
def tT (n:Nat) (a b:bu):Bool:=((cH n a&&(cH n b&&true))&&true)
theorem ec {n:Nat}(q:aJ) (h:2<=n):tT n q.o1 q.o2=true:=by
 unfold tT;rw[zn h q.lb.1.2 q.lb.1.1,zn h q.lb.2.2 q.lb.2.1];rfl
abbrev cq:Nat:=68719476736
def dK (sc:ByteArray) (l:List eT) (p:aJ):aJ:=l.foldl (λp v=>p.add (gS (ar sc v.name) 4)) p
def jE (sc:ByteArray) (p:aJ) (e:bt):aJ:=dK sc e.aM.l (p.add (nC (ar sc e.name) e))
def dN (sc:ByteArray) (l:List aP) (p:aJ):aJ:=l.foldl (λp f=>p.add (mG (ar sc f.name) 6 f)) p
theorem sM (sc:ByteArray) (l:List eT) (p:aJ):(dK sc l p).s.l.length<=p.s.l.length+bw eT.sz l:=
 ll _ eT.sz (λq x=>by have:=q.jb (gS (ar sc x.name) 4);have:=x.bT;omega) l p
theorem F5 (sc:ByteArray) (p:aJ) (e:bt):(jE sc p e).s.l.length<=p.s.l.length+e.sz:=by
 have h1:=sM sc e.aM.l (p.add (nC (ar sc e.name) e));have h2:=p.jb (nC (ar sc e.name) e);unfold jE;unfold bt.sz aX.sz;omega
theorem ra (sc:ByteArray) (l:List aP) (p:aJ):(dN sc l p).s.l.length<=p.s.l.length+bw aP.sz l:=
 ll _ aP.sz (λq x=>by have:=q.jb (mG (ar sc x.name) 6 x);have:=x.bT;omega) l p
def jc (l:List eT) (i:Nat):eT:=l.getD i default
def bH (l:List aP) (i:Nat):aP:=l.getD i default
theorem ln {a b:ByteArray}(ha:a.size<=1099511627776) (hb:b.size<=1099511627776):aD prog 186 [aS a,aS b] [] (aS (ar a b))=true:=ak (jw ha hb [])
section
variable (e:bt) (sc:ByteArray)
def DD (i:Int):List AV:=bz 31 [(0,.ptr 0 0),(2,aS sc),(17,e.aM.av 4 eT.cells),(18,i64 e.aM.l.length),(19,i64 i)]
theorem F6 (o1 o2 a1 a2:bu) (i:Nat):(db prog (cK []) (eV prog [⟨29,.bq [],[a1,a2,.cells e.cells,.cells (jc e.aM.l i).cells],[0,1]⟩] (told prog [] [⟨27,0,aS (ar sc (jc e.aM.l i).name)⟩])) [] 3 (ae f198 3) (DD e sc i) [o1,o2,.cells e.cells]).via (cz [0,2,17,18,19] [] 3)=
  bif decide ((i:Int)<(e.aM.l.length:Int))then bif decide ((0:Int)<=(i:Int)/\(i:Int)<(e.aM.l.length:Int))then
  bif aD prog 186 [aS sc,aS (jc e.aM.l i).name] [] (aS (ar sc (jc e.aM.l i).name))then
  bif cW prog 196 [.ptr 0 0,.agg (vL (ar sc (jc e.aM.l i).name) 4 fz fP fQ)] [o1,o2,.cells e.cells,.cells (jc e.aM.l i).cells] (.bq []) [a1,a2,.cells e.cells,.cells (jc e.aM.l i).cells] [0,1]then
  some ⟨.normal,DD e sc (IntKind.wrap .i64 ((i:Int)+1)),[a1,a2,.cells e.cells],[0,1],tT 3 a1 a2⟩else none else none else none
  else some ⟨.exit 0,DD e sc i,[o1,o2,.cells e.cells],[],tT 3 o1 o2⟩:=by kernel_rfl
end
theorem U0 (p:aJ) (e:bt) (sc:ByteArray) (hp:p.s.l.length+bw eT.sz e.aM.l<=cq) (hs:sc.size+e.sz<=cq):an prog (.loop (ae f198 3)) (DD e sc ((0:Nat):Int)) [(dK sc (e.aM.l.take 0) p).o1,(dK sc (e.aM.l.take 0) p).o2,.cells e.cells] (.exit 0) (DD e sc (e.aM.l.length:Nat)) [(dK sc (e.aM.l.take e.aM.l.length) p).o1,(dK sc (e.aM.l.take e.aM.l.length) p).o2,.cells e.cells] [0,1]:=by
 refine dR (P:=prog) (c:=ae f198 3) (λi=>DD e sc i) (λi=>[(dK sc (e.aM.l.take i) p).o1,(dK sc (e.aM.l.take i) p).o2,.cells e.cells]) [0,1] (.exit 0) (by simp) (e.aM.l.length) (λi hi=> ?_) ?_
 ·have hb:=F6 e sc (dK sc (e.aM.l.take i) p).o1 (dK sc (e.aM.l.take i) p).o2 (dK sc (e.aM.l.take (i+1)) p).o1 (dK sc (e.aM.l.take (i+1)) p).o2 i;have hm:jc e.aM.l i∈e.aM.l:=bM hi;have hz:=cf (f:=eT.sz) hm;have hl:=sM sc (e.aM.l.take i) p;have ht:=dM eT.sz e.aM.l i;have e1:dK sc (e.aM.l.take (i+1)) p=(dK sc (e.aM.l.take i) p).add (gS (ar sc (jc e.aM.l i).name) 4):=gv _ _ _ _ hi;unfold bt.sz aX.sz cq at hs;unfold cq at hp;have hlen:=cy (f:=eT.sz) (l:=e.aM.l) (λx _=>x.bT);have hn:(jc e.aM.l i).name.size<=eT.sz (jc e.aM.l i):=by unfold eT.sz;omega
  rw[e1]at hb ⊢;rw[ag2 (by omega:(i:Int)<(e.aM.l.length:Int)),ag2 (by omega:(0:Int)<=(i:Int)/\(i:Int)<(e.aM.l.length:Int)),wi (x:=(i:Int)+1) (by omega) (by omega),ln (by omega) (by omega),bS (pt (dK sc (e.aM.l.take i) p) (gS (ar sc (jc e.aM.l i).name) 4) (by omega) (uH _ _) _),ec _ (by omega)]at hb;exact ai mixed (au _) (bx aF) hb rfl (ag3 _) (by simp)
 ·have hb:=F6 e sc (dK sc (e.aM.l.take e.aM.l.length) p).o1 (dK sc (e.aM.l.take e.aM.l.length) p).o2 (dK sc (e.aM.l.take e.aM.l.length) p).o1 (dK sc (e.aM.l.take e.aM.l.length) p).o2 (e.aM.l.length);rw[ag8 (by omega),ec _ (by omega)]at hb;exact ai mixed (au _) (bx aF) hb rfl (ag3 _) (by simp)
theorem QN (e:bt) (sc:ByteArray) (o1 o2 a1 a2 b1 b2:bu):(eb prog (cK []) (cJ prog [⟨3,[0,2,17,18,19],.exit 0,DD e sc e.aM.l.length,[b1,b2,.cells e.cells],[0,1]⟩] (eV prog [⟨15,.bq [],[a1,a2,.cells e.cells],[0,1]⟩] (told prog [] [⟨12,0,aS (ar sc e.name)⟩]))) [] 3 198 [.ptr 0 0,.agg e.cells,aS sc] [o1,o2]).via l7=
  bif aD prog 186 [aS sc,aS e.name] [] (aS (ar sc e.name))then
  bif cW prog 196 [.ptr 0 0,.agg (vL (ar sc e.name) 3 fz e.cells fQ)] [o1,o2,.cells e.cells] (.bq []) [a1,a2,.cells e.cells] [0,1]then
  bif cj prog (ae f198 3) (DD e sc ((0:Nat):Int)) [a1,a2,.cells e.cells] (.exit 0) (DD e sc e.aM.l.length) [b1,b2,.cells e.cells] [0,1]then some (.bq [],[b1,b2])else none else none else none:=by kernel_rfl
theorem rT {call:cZ}(hc:cx prog call){lo:bX}(hl:bA prog lo){n:Nat}{g:FuncId}{args:List AV}{p q:aJ}{F:Option (AV×aa)}(h:(eb prog call lo [] n g args [p.o1,p.o2]).via l7=F) (hF:F=some (.bq [],[q.o1,q.o2])):bZ prog g args (.bq []) [p.o1,p.o2] [q.o1,q.o2] [0,1]:=by
 obtain⟨r,hr,hg⟩:=cv h hF;simp only[l7,ahe]at hg;have:=gQ mixed hc hl hr;rw[hg.1]at this;exact uF this hg.2 q.lb.1 q.lb.2 rfl
theorem xV {g:FuncId}{args:List AV}{p q:aJ}(h:bZ prog g args (.bq []) [p.o1,p.o2] [q.o1,q.o2] [0,1]) (ha:dG 2 args=true) (J:aa):bZ prog g args (.bq []) (p.o1::p.o2::J) (q.o1::q.o2::J) [0,1]:=
 BQ h ha rfl p.lb.1 p.lb.2 q.lb.1 q.lb.2 (λl hl=>by simp at hl;omega) J
theorem F7 (p:aJ) (e:bt) (sc:ByteArray) (hp:p.s.l.length+e.sz<=cq) (hs:sc.size+e.sz<=cq) (J:aa):bZ prog 198 [.ptr 0 0,.agg e.cells,aS sc] (.bq []) (p.o1::p.o2::J) ((jE sc p e).o1::(jE sc p e).o2::J) [0,1]:=by
 have hb:=QN e sc p.o1 p.o2 (p.add (nC (ar sc e.name) e)).o1 (p.add (nC (ar sc e.name) e)).o2 (jE sc p e).o1 (jE sc p e).o2;have hn:e.name.size+bw eT.sz e.aM.l+2<=e.sz:=by unfold bt.sz aX.sz;omega
 have h2:=p.jb (nC (ar sc e.name) e);have hl:=U0 (p.add (nC (ar sc e.name) e)) e sc (by omega) hs;have e0:dK sc (e.aM.l.take 0) (p.add (nC (ar sc e.name) e))=p.add (nC (ar sc e.name) e):=rfl;have e1:dK sc (e.aM.l.take e.aM.l.length) (p.add (nC (ar sc e.name) e))=jE sc p e:=F4 _ _ _;rw[e0,e1]at hl;unfold cq at*;rw[ln (by omega) (by omega),bS (pt p (nC (ar sc e.name) e) (by omega) (UZ _ _) _),bc hl]at hb;exact xV (rT (au _) (ba (bx aF)) hb rfl) (by simp only[dG,ff,eP (QE e)];rfl) J
section
variable (l:aX aP) (sc:ByteArray)
def DE (i:Int):List AV:=bz 23 [(0,.ptr 0 0),(2,aS sc),(8,l.av 13 aP.cells),(9,i64 l.l.length),(10,i64 i)]
theorem F8 (o1 o2 a1 a2:bu) (i:Nat):(db prog (cK []) (eV prog [⟨21,.bq [],[a1,a2,.cells (bH l.l i).cells],[0,1]⟩] (told prog [] [⟨18,0,aS (ar sc (bH l.l i).name)⟩])) [] 3 (ae f199 1) (DE l sc i) [o1,o2]).via (cz [0,2,8,9,10] [] 2)=
  bif decide ((i:Int)<(l.l.length:Int))then bif decide ((0:Int)<=(i:Int)/\(i:Int)<(l.l.length:Int))then
  bif aD prog 186 [aS sc,aS (bH l.l i).name] [] (aS (ar sc (bH l.l i).name))then
  bif cW prog 196 [.ptr 0 0,.agg (vL (ar sc (bH l.l i).name) 6 fz fP (bH l.l i).cells)] [o1,o2,.cells (bH l.l i).cells] (.bq []) [a1,a2,.cells (bH l.l i).cells] [0,1]then
  some ⟨.normal,DE l sc (IntKind.wrap .i64 ((i:Int)+1)),[a1,a2],[0,1],tT 2 a1 a2⟩else none else none else none
  else some ⟨.exit 0,DE l sc i,[o1,o2],[],tT 2 o1 o2⟩:=by kernel_rfl
end
theorem U1 (p:aJ) (l:aX aP) (sc:ByteArray) (hp:p.s.l.length+l.sz aP.sz<=cq) (hs:sc.size+l.sz aP.sz<=cq):an prog (.loop (ae f199 1)) (DE l sc ((0:Nat):Int)) [(dN sc (l.l.take 0) p).o1,(dN sc (l.l.take 0) p).o2] (.exit 0) (DE l sc (l.l.length:Nat)) [(dN sc (l.l.take l.l.length) p).o1,(dN sc (l.l.take l.l.length) p).o2] [0,1]:=by
 refine dR (P:=prog) (c:=ae f199 1) (λi=>DE l sc i) (λi=>[(dN sc (l.l.take i) p).o1,(dN sc (l.l.take i) p).o2]) [0,1] (.exit 0) (by simp) (l.l.length) (λi hi=> ?_) ?_
 ·have hb:=F8 l sc (dN sc (l.l.take i) p).o1 (dN sc (l.l.take i) p).o2 (dN sc (l.l.take (i+1)) p).o1 (dN sc (l.l.take (i+1)) p).o2 i;have hm:bH l.l i∈l.l:=bM hi;have hz:=cf (f:=aP.sz) hm;have hl:=ra sc (l.l.take i) p;have ht:=dM aP.sz l.l i;have e1:dN sc (l.l.take (i+1)) p=(dN sc (l.l.take i) p).add (mG (ar sc (bH l.l i).name) 6 (bH l.l i)):=gv _ _ _ _ hi;unfold aX.sz cq at hp hs;have hlen:=cy (f:=aP.sz) (l:=l.l) (λx _=>x.bT);have hn:(bH l.l i).name.size<=aP.sz (bH l.l i):=by unfold aP.sz;omega
  rw[e1]at hb ⊢;rw[ag2 (by omega:(i:Int)<(l.l.length:Int)),ag2 (by omega:(0:Int)<=(i:Int)/\(i:Int)<(l.l.length:Int)),wi (x:=(i:Int)+1) (by omega) (by omega),ln (by omega) (by omega),bS (pt (dN sc (l.l.take i) p) (mG (ar sc (bH l.l i).name) 6 (bH l.l i)) (by omega) (Lt _ _ _) _),ec _ (by omega)]at hb;exact ai mixed (au _) (bx aF) hb rfl (ag3 _) (by simp)
 ·have hb:=F8 l sc (dN sc (l.l.take l.l.length) p).o1 (dN sc (l.l.take l.l.length) p).o2 (dN sc (l.l.take l.l.length) p).o1 (dN sc (l.l.take l.l.length) p).o2 (l.l.length);rw[ag8 (by omega),ec _ (by omega)]at hb;exact ai mixed (au _) (bx aF) hb rfl (ag3 _) (by simp)
theorem QO (l:aX aP) (sc:ByteArray) (o1 o2 b1 b2:bu):(eb prog (cK []) (cJ prog [⟨1,[0,2,8,9,10],.exit 0,DE l sc l.l.length,[b1,b2],[0,1]⟩] aN) [] 3 199 [.ptr 0 0,l.av 13 aP.cells,aS sc] [o1,o2]).via l7=
  bif cj prog (ae f199 1) (DE l sc ((0:Nat):Int)) [o1,o2] (.exit 0) (DE l sc l.l.length) [b1,b2] [0,1]then some (.bq [],[b1,b2])else none:=by kernel_rfl
theorem F9 (p:aJ) (l:aX aP) (sc:ByteArray) (hp:p.s.l.length+l.sz aP.sz<=cq) (hs:sc.size+l.sz aP.sz<=cq) (J:aa):bZ prog 199 [.ptr 0 0,l.av 13 aP.cells,aS sc] (.bq []) (p.o1::p.o2::J) ((dN sc l.l p).o1::(dN sc l.l p).o2::J) [0,1]:=by
 have hb:=QO l sc p.o1 p.o2 (dN sc l.l p).o1 (dN sc l.l p).o2;have hl:=U1 p l sc hp hs;have e0:dN sc (l.l.take 0) p=p:=rfl;have e1:dN sc (l.l.take l.l.length) p=dN sc l.l p:=F4 _ _ _;rw[e0,e1]at hl;rw[bc hl]at hb;exact xV (rT (au _) (ba ab) hb rfl) rfl J
end Go.Proofs.YtiipaliigpkfhaaGreat.Ab
