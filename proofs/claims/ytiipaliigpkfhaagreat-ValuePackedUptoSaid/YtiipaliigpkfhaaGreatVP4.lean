/- Lemmas 4. -/
import Derived.Recover
import Derived.RangeFuncLeaves
import Derived.Test.YtiipaliigpkfhaaGreatVP3
set_option maxRecDepth 100000
namespace Go.Proofs.YtiipaliigpkfhaaGreat.Ab
open Go Go.RowKit
theorem yI {P:Program}{E:Env}{H:aa}{w0 w:World}(hg:Good E H w0 w){T:List AV}{tmps:Array Value}(ht:eJ E T tmps){g:ResultVar->Sem Value}(Ui:∀t,g (.tmp t)=pure (tmps.getD t undef))
  (Iy:∀a t,g (.cell a t)=(do loadVar t (←asAddr (tmps.getD a undef)))):∀{rs:List ResultVar} {xs:List AV},E9 P H rs T=some xs->
  ∃vs:List Value,(rs.mapM g).run P w= .ok vs w/\vs.length=xs.length/\∀(i:Nat) (x:AV),xs[i]? =some x->Rel E x (vs.getD i undef)
 |[],xs,h=>by
  simp only[E9,ag6]at h;subst h;exact⟨[],rfl,rfl,λi x hx=>by simp at hx⟩
 | .cell a t::r,xs,h=>by
  unfold E9 at h;split at h
  ·rename_i x ys hx hy;cases h;rw[Option.bind_eq_some_iff]at hx;obtain⟨cs,EJ,hx⟩:=hx;have hrel:Rel E (T.getD a .any) (tmps.getD a undef):=by
    cases hT:T[a]? with
    |none=>simp[ag4,hT];exact .any _
    |some y=>simpa [ag4,hT]using ht.2 a y hT
   obtain⟨b,off,hv,hc⟩:=wa hg hrel EJ;obtain⟨v,hr,Pp⟩:=Bb hc hx;obtain⟨vs,Mz,hl,XR⟩:=yI hg ht Ui Iy hy;refine⟨v::vs,?_,by simp[hl],λi x hx=> ?_⟩
   ·rw[List.mapM_cons,Iy,hv,Sem.run_bind,Sem.run_bind];simp only[asAddr,Sem.run_pure,Result.andThen_ok,hr];rw[Sem.run_bind,Mz];rfl
   ·cases i with
    |zero=>simp at hx;subst hx;simpa using Pp
    |succ i=>simpa using XR i x (by simpa using hx)
  ·cases h
 | .tmp t::r,xs,h=>by
  simp only[E9,ahE]at h;obtain⟨ys,hy,rfl⟩:=h;obtain⟨vs,hv,hl,hr⟩:=yI hg ht Ui Iy hy;refine⟨tmps.getD t undef::vs,?_,by simp[hl],λi x hx=> ?_⟩
  ·rw[List.mapM_cons,Ui];simp only[pure_bind];rw[Sem.run_bind,hv];rfl
  ·cases i with
   |zero=>
    simp at hx;subst hx;rw[List.getD_cons_zero]
    cases hT:T[t]? with
    |none=>exact .any _
    |some y=>exact ht.2 t y hT
   |succ i=>simpa using hr i x (by simpa using hx)
theorem jT {P:Program}{E:Env}{H:aa}{w0 w:World}(hg:Good E H w0 w){T:List AV}{tmps:Array Value}(ht:eJ E T tmps){fn:Func}{x:AV}(h:ig P H fn T=some x):
  ∃v,(results fn tmps).run P w= .ok v w/\Rel E x v:=by
 unfold ig at h
 cases hr:E9 P H fn.results.toList T with
 |none=>rw[hr]at h;cases h
 |some xs=>
  rw[hr]at h;unfold results;rw[Sem.run_bind,Array.mapM_eq_mapM_toList,Sem.run_map]
  suffices aux:∀(g:ResultVar->Sem Value),(∀t,g (.tmp t)=pure (tmps.getD t undef))->(∀a t,g (.cell a t)=(do loadVar t (←asAddr (tmps.getD a undef))))->
    ∃v,((Sem.run P (List.mapM g fn.results.toList) w).andThen λa w'=>Result.ok a.toArray w').andThen (λa w'=>Sem.run P (pure (if h:a.size=1 then a[0]else Value.tuple a)) w')=Result.ok v w/\Rel E x v from
   aux _ (λ_=>rfl) (λ_ _=>rfl)
  intro g Ui Iy;obtain⟨vs,hv,hl,hrel⟩:=yI hg ht Ui Iy hr;rw[hv]
  match xs,hl,h with
  |[y],hl,h=>
   match vs,hl with
   |[v],_=>
    simp only[ag6]at h;subst h;exact⟨v,rfl,by simpa using hrel 0 y rfl⟩
  |[],hl,h=>
   match vs,hl with
   |[],_=>
    simp only[ag6]at h;subst h;exact⟨_,rfl,.bq _ _ rfl (λj x hj=>by simp at hj)⟩
  |y::z::r,hl,h=>
   match vs,hl with
   |a::b::s,hl=>
    simp only[ag6]at h;subst h;refine⟨.tuple (a::b::s).toArray,by simp[Result.andThen],.bq _ _ (by simpa using hl) (λj x hj=>by simpa using hrel j x hj)⟩
inductive DQ where
 |call (g:FuncId) (args:List AV)
 |mark (l:Nat)
def Uj (P:Program) (E:Env):DQ->Deferred->Prop
 | .call g args,d=>kP P g/\∃cap vs,d.target= .fn (.func g) cap/\vs=d.args++cap/\ji E args vs
 | .mark l,d=>∃b,d.target= .collected b/\E.φ l=some b
theorem Uj.mono {P:Program}{E E':Env}{q:DQ}{d:Deferred}(h:Uj P E q d) (he:E.le E'):Uj P E' q d:=by
 cases q with
 |call g args=>
  obtain⟨h0,cap,vs,h1,h2,h3⟩:=h;exact⟨h0,cap,vs,h1,h2,h3.mono he⟩
 |mark l=>
  obtain⟨b,h1,h2⟩:=h;exact⟨b,h1,he.φ h2⟩
inductive qH (P:Program) (E:Env):List DQ->List Deferred->Prop where
 |nil:qH P E [] []
 |cons {q:DQ} {d:Deferred} {D:List DQ} {ds:List Deferred} (h:Uj P E q d) (k:qH P E D ds):qH P E (q::D) (d::ds)
theorem qH.mono {P:Program}{E E':Env}{D:List DQ}{ds:List Deferred}(h:qH P E D ds) (he:E.le E'):qH P E' D ds:=by
 induction h with
 |nil=>exact .nil
 |cons h k ih=>exact .cons (h.mono he) ih
abbrev jl:=List DQ
def eF (P:Program) (c:Code) (T:List AV) (H:aa) (D:jl) (x:bj) (T':List AV) (H':aa) (Wr:List Nat) (D':jl):Prop:=
 (∀(E:Env) (w0 w:World) (a:Act),Good E H w0 w->eJ E T a.tmps->qH P E D a.defers->
  c.wp P (λe a' w'=>∃E',Cx E' x e/\Ext H.length (·∈Wr) E H w E' H' w'/\Good E' H' w0 w'/\eJ E' T' a'.tmps/\qH P E' D' a'.defers) a w)/\cQ H H' Wr
theorem eF.of {P:Program}{c:Code}{T T':List AV}{H H':aa}{x:bj}{Wr:List Nat}(h:an P c T H x T' H' Wr) (D:jl):eF P c T H D x T' H' Wr D:=by
 refine⟨λE w0 w a hg ht hd=> ?_,h.2⟩;refine wp_mono (h.1 H.length (·∈Wr) (ag3 _) (λl hl _=>hl) E w0 w a a.defers (ag3 _) hg ht rfl) ?_;rintro e a' w' ⟨E',y,T2,H2,⟨rfl,rfl,rfl⟩,r,ex,g,t,d⟩;exact⟨E',r,ex,g,t,by rw[d];exact hd.mono ex.le⟩
theorem eF.seq {P:Program}{c d:Code}{T T1 T':List AV}{H H1 H':aa}{D D1 D':jl}{x:bj}{W1 W2:List Nat}(h:eF P c T H D .normal T1 H1 W1 D1) (k:eF P d T1 H1 D1 x T' H' W2 D'):eF P (.seq c d) T H D x T' H' (W1++W2) D':=by
 refine⟨λE w0 w a hg ht hd=> ?_,h.2.trans k.2⟩;refine wp_seq (wp_mono (h.1 E w0 w a hg ht hd) ?_);rintro e a' w' ⟨E1,r,ex,g,t,d1⟩;cases r;refine wp_mono (k.1 E1 w0 w' a' g t d1) ?_;rintro e a2 w2 ⟨E2,r2,iK,g2,t2,d2⟩;exact⟨E2,r2,(ex.weaken (ag3 _) (λl _ hl=>ahk _ hl)).trans (iK.weaken ex.len (λl _ hl=>ahj _ hl)),g2,t2,d2⟩
theorem eF.XV {P:Program}{c d:Code}{T T':List AV}{H H':aa}{D D':jl}{x:bj}{W1:List Nat}(h:eF P c T H D x T' H' W1 D') (hx:x≠.normal):eF P (.seq c d) T H D x T' H' W1 D':=by
 refine⟨λE w0 w a hg ht hd=> ?_,h.2⟩;refine wp_seq (wp_mono (h.1 E w0 w a hg ht hd) ?_);rintro e a' w' ⟨E1,r,ex,g,t,d1⟩
 cases r with
 |normal=>exact absurd rfl hx
 |exit i=>exact⟨E1,.exit i,ex,g,t,d1⟩
 |goto i=>exact⟨E1,.goto i,ex,g,t,d1⟩
 |ret=>exact⟨E1,.ret,ex,g,t,d1⟩
 |panic y v hv=>exact⟨E1,.panic y v hv,ex,g,t,d1⟩
def CS (P:Program) (g:FuncId):Bool:=
 match P.funcs[g]? with
 |some fn=> !(fn.name=="runtime.NumGoroutine")&&fn.body.isSome
 |none=>false
theorem I9 {P:Program}{g:FuncId}(h:CS P g=true):kP P g:=by
 unfold CS at h;split at h
 ·rename_i fn hf;simp only[ahp,Bool.not_eq_true',Option.isSome_iff_exists]at h;obtain⟨h1,c,hc⟩:=h;exact⟨fn,c,hf,h1,hc⟩
 ·cases h
def yJ (P:Program) (ops:Array Oper) (T:List AV) (H:aa):Option (List AV×FuncId×List AV):=
 match ops.toList with
 |[o1,o2]=>match o1.guard,o2.guard,o2.dst,o2.op,kZ P o1 T H with
  |none,none,none,.defer c,some x=>match c.callee with
   | .value f=>match bk (gK T o1.dst x) f with
    | .fn (.func g) first fJ=>if CS P g=true then some (gK T o1.dst x,g,first++c.args.toList.map (bk (gK T o1.dst x))++fJ)else none
    |_=>none
   |_=>none
  |_,_,_,_,_=>none
 |_=>none
theorem vy {P:Program}{id:Nat}{ops:Array Oper}{T T':List AV}{H:aa}{D:jl}{g:FuncId}{args:List AV}(h:yJ P ops T H=some (T',g,args)):eF P (.region id ops false) T H D .normal T' H [] (.call g args::D):=by
 refine⟨λE w0 w a hg ht hd=> ?_,.refl _ _⟩;unfold yJ at h;split at h
 ·rename_i o1 o2 Pq;split at h
  ·rename_i c x Ui Iy acJ ZZ hs;split at h
   ·rename_i f jH;split at h
    ·rename_i g' first fJ hf
     split at h
     ·rename_i hb;simp only[ag6,ahe]at h;obtain⟨rfl,rfl,rfl⟩:=h;have s7:ops= #[o1,o2]:=by apply aiq;simpa using Pq
      subst s7;refine wp_region ?_;show wpOps P #[o1,o2] _ [0,1] a w;have w1:Region.wanted o1 (yielded #[o1,o2] a.tmps)=true:=by unfold Region.wanted;rw[Ui]
      simp only[wpOps,aie,ahw,w1,if_true];obtain⟨v,dz,hrel⟩:=wj hs E w0 w a.eval hg (ht.o o1);refine .inl ?_;unfold Oper.wp;rw[dz,Oper.upon_value];have ht1:=fU ht o1.dst hrel;have Uk:qH P E D (a.put o1.dst v).defers:=by rw[cg];exact hd
      generalize a.put o1.dst v=a1 at ht1 Uk;have w2:Region.wanted o2 (yielded #[o1,o2] a1.tmps)=true:=by unfold Region.wanted;rw[Iy]
      simp only[ahL,ahw,w2,if_true];refine .inl ?_;have hr:=kN ht1 f;rw[hf]at hr;generalize hv:a1.eval f=u at hr
      cases hr with
      |fn _ _ _ us vs h1 h2 k1 k2=>
       have Z4:(execOp a1.eval o2).run P w= .ok (.defer { target:= .fn (.func g') vs,args:=us++c.args.map a1.eval}) w:=by
        simp only[execOp,ZZ,resolve,jH,hv,Deferred.ofValue,pure_bind,Sem.run_pure,Sem.run_bind,Result.andThen_ok]
       rw[Z4,Oper.upon_defer,acJ];refine⟨E,.normal,.refl _ _ _ _ _,hg,ht1,.cons ⟨I9 hb,vs,_,rfl,rfl,?_⟩ Uk⟩;exact eg (eg ⟨h1,k1⟩ (nS c.args (λy hy=>kN ht1 y))) ⟨h2,k2⟩
     ·cases h
    ·cases h
   ·cases h
  ·cases h
 ·cases h
theorem Good.kill {E:Env}{H:aa}{w0 w:World}(g:Good E H w0 w){l b:Nat}{k:Mk}(hl:H[l]? =some (.mark k)) (hb:E.φ l=some b) (o':Obj):Good E (H.set l .dead) w0 { w with heap:=w.heap.setIfInBounds b o'}:=by
 have dI:owns E H l b:=by unfold owns;rw[hl];exact hb
 obtain⟨h1,ob,h3,h4⟩:=g.obj hl b hb;have cO:l<H.length:=(ag5.1 hl).1;have iz:∀c,c≠b->({ w with heap:=w.heap.setIfInBounds b o'}:World).heap[c]? =w.heap[c]? :=λc hc=>ahm (Ne.symm hc)
 have kY:∀(z c:Nat),owns E (H.set l .dead) z c->owns E H z c:=by
  intro z c h;by_cases hz:l=z
  ·subst hz;unfold owns at h;rw[ahd cO]at h;exact h.elim
  ·unfold owns at h ⊢;rw[ag7 hz]at h;exact h
 refine⟨g.below.trans ⟨rfl,rfl,rfl,by simp,λk hk=>iz k (by omega)⟩,?_,?_,?_,?_,?_⟩
 ·intro c o u h;have gX:c≠b:=λe=>by
   subst e;have:=g.snap h
   cases k with
   |defs=>have h4:ob= .deferred (some []):=h4;subst h4;simp[World.cell?,h3]at this
   |loop=>obtain⟨q,rfl,_⟩:=h4;simp[World.cell?,h3]at this
  rw[fF (iz c gX)];exact g.snap h
 ·intro z o h;by_cases hz:l=z
  ·subst hz;rw[ahd cO]at h;simp only[ag6]at h;subst h
   trivial
  ·rw[ag7 hz]at h;exact(g.obj h).step h (.refl E) (λ_ h=>h) (λ_=>rfl) (λ_ _ _ _ h=>h) (λc hc=>iz c (λe=>hz (by subst e;exact g.sep dI hc)))
 ·intro z z' c h h';exact g.sep (kY _ _ h) (kY _ _ h')
 ·intro z hz;exact g.fresh (by simpa using hz)
 ·intro z c h;have:=g.mb h;simpa using this
theorem Fc {E:Env}{H:aa}{w0 w:World}{n0:Nat}{W:Nat->Prop}(g:Good E H w0 w){l b:Nat}{k:Mk}{ob:Obj}(hW:l<n0->W l) (hl:H[l]? =some (.mark k)) (hb:E.φ l=some b):
  Ext n0 W E H w E (H.set l .dead) { w with heap:=w.heap.setIfInBounds b ob}:=by
 have dI:owns E H l b:=by unfold owns;rw[hl];exact hb
 refine⟨.refl E,⟨by simp,ag3 _⟩,by simp,λ{z} hz hw=> ?_,λ{z c} hz hw ho=> ?_,λ_=>rfl,λ{c} hc h=>⟨ahm (λe=>h _ (e▸dI)),λz ho=>h z ?_,λ_=>rfl⟩⟩
 ·have:l≠z:=λe=>hw (e▸hW (e▸hz))
  exact ag7 this
 ·refine ahm (λe=> ?_);subst e;have:=g.sep ho dI;subst this;exact hw (hW hz)
 ·unfold owns at ho ⊢;by_cases hz:l=z
  ·subst hz;rw[ahd (ag5.1 hl).1]at ho;exact ho.elim
  ·rwa [ag7 hz]at ho
theorem Good.KT {E:Env}{H:aa}{w0 w:World}(g:Good E H w0 w){k:Mk}{o:Obj}(ho:yg (E.ej H.length w.heap.size) k o):Good (E.ej H.length w.heap.size) (H++[.mark k]) w0 (w.alloc o):=by
 refine(g.push o).Ba (by rw[eK];omega) (λl ho=>absurd (g.fG ho) (ahZ _)) (λ_ _=>by simp) ?_;intro b hb;rw[cV]at hb;simp only[ag6]at hb;subst hb;exact⟨g.below.size,o,heap_alloc_new w _,ho⟩
inductive Jump:Option Code->bj->Prop where
 |none:Jump none .normal
 |ret:Jump (some .ret) .ret
 |exit (i:Nat):Jump (some (.exit i)) (.exit i)
theorem Fe {P:Program}{g:Operand}{ps:Array Tmp}{assign body:Code}{T:List AV}{H H1:aa}{D:jl}{gf:FuncId}{first fJ:List AV}{x:AV}{Wr:List Nat}{T2:List AV}{ps2:Array Tmp}{as2 bd2:Code}{st:Option Code}{y:bj}(XW:bk T g= .fn (.func gf) first fJ)
  (jk:bZ P gf (first++[.kq (H.length+1)]++fJ) x ((H++[.mark .defs])++[.mark (.loop T ps assign body none)]) H1 Wr) (h1:H1[H.length+1]? =some (.mark (.loop T2 ps2 as2 bd2 st))) (hj:Jump st y):
  eF P (.rangeFunc g ps assign body) T H D y T (H1.set (H.length+1) .dead) (Wr++[H.length+1]) (.mark H.length::D):=by
 have hk:=jk.2.2;refine⟨λE w0 w a hg ht hd b k cs=> ?_,?_⟩
 ·have g1:=hg.KT (k:= .defs) (o:= .deferred (some [])) rfl;have x1:Ext H.length (λ_=>False) E H w (E.ej H.length w.heap.size) (H++[.mark .defs]) (w.alloc (.deferred (some []))):=j3 _ _ (ag3 _) hg _ _
  let r:Loop:={ state:= .ready,pending:=none,fn:=b.fn,tmps:=a.tmps,params:=ps,assign:=assign,body:=body,defers:=w.heap.size}
  have Z5:(H++[bu.mark .defs]).length=H.length+1:=by simp
  have XO:(w.alloc (.deferred (some []))).heap.size=w.heap.size+1:=eK _ _;have x2:Ext H.length (λ_=>False) _ _ _ _ _ ((w.alloc (.deferred (some []))).alloc (.loop r)):=j3 _ _ (by simp) g1 (.loop r) (.mark (.loop T ps assign body none));have g2:=g1.KT (k:= .loop T ps assign body none) (o:= .loop r) ⟨r,rfl,(ht.mono (x1.le.trans x2.le)),rfl,rfl,rfl,rfl,rfl⟩;have TC:=x1.trans x2;rw[Z5]at g2 TC;rw[XO]at g2 TC;generalize OO:(E.ej H.length w.heap.size).ej (H.length+1) (w.heap.size+1)=E1 at g2 TC;have hφ0:E1.φ H.length=some w.heap.size:=by rw[←OO,gN _ (by omega),cV]
  have XX:E1.φ (H.length+1)=some (w.heap.size+1):=by rw[←OO,cV]
  have hr:=kN ht g;rw[XW]at hr;generalize hv:a.eval g=u at hr
  cases hr with
  |fn _ _ _ us vs q1 q2 k1 k2=>
   have hrel:ji E1 (first++[.kq (H.length+1)]++fJ) (us++ #[.func (.yield (w.heap.size+1)) #[] #[]]++vs):=by
    have r1:ji E1 first us:=ji.mono TC.le ⟨q1,k1⟩
    have r2:ji E1 fJ vs:=ji.mono TC.le ⟨q2,k2⟩;refine eg (eg r1 ⟨rfl,λi y hy=> ?_⟩) r2
    cases i with
    |zero=>simp at hy;subst hy;exact .kq _ _ XX
    |succ i=>simp at hy
   have he:(Instr.enterLoop b.fn a.tmps ps assign body none).run P w= .ok (w.heap.size+1,[{ target:= .collected w.heap.size,args:= #[]}]) ((w.alloc (.deferred (some []))).alloc (.loop r)):=by
    simp only[Instr.enterLoop,newObj,Sem.run_bind,Sem.run,Sem.run_pure,pure_bind,Result.andThen_ok,Array.size_push];rfl
   have lT:(resolve a.eval (rangeCall g (w.heap.size+1)) 0).run P ((w.alloc (.deferred (some []))).alloc (.loop r))= .ok { target:= .fn (.func gf) vs,args:=us++ #[.func (.yield (w.heap.size+1)) #[] #[]]} ((w.alloc (.deferred (some []))).alloc (.loop r)):=by
    have acK:∀v,a.eval (.const v)=v:=λ_=>rfl
    simp[resolve,rangeCall,hv,acK,Deferred.ofValue]
   obtain⟨Z6,c',XS,s6,iw⟩:=jk.1;have hinv:(invoke (.fn (.func gf) vs) (us++ #[.func (.yield (w.heap.size+1)) #[] #[]])).run P ((w.alloc (.deferred (some []))).alloc (.loop r))= .ok (.enter gf (us++ #[.func (.yield (w.heap.size+1)) #[] #[]]++vs)) ((w.alloc (.deferred (some []))).alloc (.loop r)):=by
    have h1:Z6.name≠"runtime.NumGoroutine":=by simpa using s6
    simp[invoke,callFunc,XS,h1,iw]
   have Ja:=stepR_rangeFunc (P:=P) (b:={ b with roundOf:=none}) (a:=a) (k:=k) (cs:=cs) (w:=w) he lT hinv;obtain⟨e,w3,fr,⟨E2,re,iK,g3⟩,Jb,mX,ti⟩:=jk.2.1 E1 w0 _ _ g2 hrel (Frame.atR { b with roundOf:=none} { a with defers:=[{ target:= .collected w.heap.size,args:= #[]}]++a.defers} (.inRangeFunc (w.heap.size+1)::k)::cs)
   cases re with
   |ret x v hv'=>
    obtain⟨_,ob,h5,r',h6,h7,_,_,_,h8,h9⟩:=g3.obj h1 _ (iK.le.φ XX);subst h6;have KU:(r'.state== .busy)=false:=by rw[h9];split<;>rfl
    have acL:(Instr.endLoop (w.heap.size+1)).run P w3= .ok st { w3 with heap:=w3.heap.setIfInBounds (w.heap.size+1) (.loop { r' with state:= .exhausted})}:=by
     have fx:(getObj (w.heap.size+1)).run P w3= .ok (.loop r') w3:=by simp[getObj,Sem.run,h5]
     have jt:∀o',(setObj (w.heap.size+1) o').run P w3= .ok () { w3 with heap:=w3.heap.setIfInBounds (w.heap.size+1) o'}:=λo'=>by simp[setObj,Sem.run,h5]
     simp only[Instr.endLoop,Instr.getLoop,Sem.run_bind,fx,Result.andThen_ok,Sem.run_pure,KU,jt,h8,ahA,if_false,pure_bind]
    have Pr:∀e,Cx E2 y e->∃E',Cx E' y e/\Ext H.length (·∈Wr++[H.length+1]) E H w E' (H1.set (H.length+1) .dead) { w3 with heap:=w3.heap.setIfInBounds (w.heap.size+1) (.loop { r' with state:= .exhausted})}/\Good E' (H1.set (H.length+1) .dead) w0 { w3 with heap:=w3.heap.setIfInBounds (w.heap.size+1) (.loop { r' with state:= .exhausted})}/\eJ E' T a.tmps/\qH P E' (.mark H.length::D) ([{ target:= .collected w.heap.size,args:= #[]}]++a.defers):=λe re=>
     ⟨E2,re,(TC.weaken (ag3 _) (λ_ _ h=>h.elim)).trans ((iK.weaken (by simp) (λl _ hl=>ahk _ hl)).trans (Fc g3 (λh=>by omega) h1 (iK.le.φ XX))),g3.kill h1 (iK.le.φ XX) (.loop { r' with state:= .exhausted}),ht.mono (TC.le.trans iK.le),.cons ⟨_,rfl,iK.le.φ hφ0⟩ (hd.mono (TC.le.trans iK.le))⟩
    have CT:Steps P (lone (b.at a (.code (.rangeFunc g ps assign body)::k)) cs w) (lone (Frame.atR { b with roundOf:=none} { a with defers:=[{ target:= .collected w.heap.size,args:= #[]}]++a.defers} ((st.map Item.code).toList++k)) cs { w3 with heap:=w3.heap.setIfInBounds (w.heap.size+1) (.loop { r' with state:= .exhausted})}):=by
     refine Steps.trans (.one Ja) (Steps.trans Jb (.head (step_leave_returned ti) ?_));rw[finish_atR_inRangeFunc];exact .one (stepR_endRangeFunc acL)
    cases hj with
    |none=>exact⟨.normal,{ a with defers:=[{ target:= .collected w.heap.size,args:= #[]}]++a.defers},_,Pr .normal .normal,CT⟩
    |ret=>
     obtain⟨e,a',w',q,kv⟩:=wp_ret (P:=P) (Q:=λe a' w'=>e= .ret/\a'={ a with defers:=[{ target:= .collected w.heap.size,args:= #[]}]++a.defers}/\w'={ w3 with heap:=w3.heap.setIfInBounds (w.heap.size+1) (.loop { r' with state:= .exhausted})}) ⟨rfl,rfl,rfl⟩ b k cs;obtain⟨rfl,rfl,rfl⟩:=q;exact⟨.ret,_,_,Pr .ret .ret,.of_steps CT kv⟩
    |exit i=>
     obtain⟨e,a',w',q,kv⟩:=wp_exit (P:=P) (id:=i) (Q:=λe a' w'=>e= .exit i/\a'={ a with defers:=[{ target:= .collected w.heap.size,args:= #[]}]++a.defers}/\w'={ w3 with heap:=w3.heap.setIfInBounds (w.heap.size+1) (.loop { r' with state:= .exhausted})}) ⟨rfl,rfl,rfl⟩ b k cs;obtain⟨rfl,rfl,rfl⟩:=q;exact⟨.exit i,_,_,Pr (.exit i) (.exit i),.of_steps CT kv⟩
 ·have Av:cQ H ((H++[bu.mark .defs])++[bu.mark (.loop T ps assign body none)]) []:=(cQ.push _ _).trans (cQ.push _ _);have nz:=Av.trans hk;refine⟨by simpa using nz.1,λl hl hm=> ?_⟩;rw[ahC,not_or]at hm;rw[ag7 (by omega)];exact nz.2 l hl (by simpa using hm.1)
def rI (i:Nat):bj->bj
 | .exit j=>if j=i then .normal else .exit j
 |y=>y
theorem eF.block {P:Program}{i:Nat}{c:Code}{T T':List AV}{H H':aa}{D D':jl}{x:bj}{W1:List Nat}(h:eF P c T H D x T' H' W1 D'):eF P (.block i c) T H D (rI i x) T' H' W1 D':=by
 refine⟨λE w0 w a hg ht hd=> ?_,h.2⟩;refine wp_block (wp_mono (h.1 E w0 w a hg ht hd) ?_);rintro e a' w' ⟨E1,r,ex,g,t,d1⟩
 cases r with
 |normal=>exact⟨E1,.normal,ex,g,t,d1⟩
 |exit j=>
  by_cases hj:j=i
  ·simp only[Exit.inBlock,rI,hj,if_true];exact⟨E1,.normal,ex,g,t,d1⟩
  ·simp only[Exit.inBlock,rI,hj,if_false];exact⟨E1,.exit j,ex,g,t,d1⟩
 |goto i=>exact⟨E1,.goto i,ex,g,t,d1⟩
 |ret=>exact⟨E1,.ret,ex,g,t,d1⟩
 |panic y v hv=>exact⟨E1,.panic y v hv,ex,g,t,d1⟩
theorem eF.cond {P:Program}{c:Operand}{a b:Code}{t:Bool}{T T':List AV}{H H':aa}{D D':jl}{x:bj}{W1:List Nat}(hc:bk T c= .sc (.bool t)) (h:eF P (if t then a else b) T H D x T' H' W1 D'):eF P (.cond c a b) T H D x T' H' W1 D':=by
 refine⟨λE w0 w act hg ht hd=> ?_,h.2⟩;have hr:=kN ht c;rw[hc]at hr;generalize hv:act.eval c=v at hr
 cases hr with
 |sc v hp=>exact wp_cond hv (h.1 E w0 w act hg ht hd)
abbrev Jc:=bj×List AV×aa×List Nat×jl
def MR (P:Program) (call:iD) (n:Nat):Code->List AV->aa->jl->Ev Jc
 | .seq a b,T,H,D=>match MR P call n a T H D with
  | .ok (.normal,T1,H1,W1,D1)=>match MR P call n b T1 H1 D1 with
   | .ok (x,T2,H2,W2,D2)=> .ok (x,T2,H2,W1++W2,D2)
   | .bad tr=> .bad tr
  |r=>r
 | .block i c,T,H,D=>match MR P call n c T H D with
  | .ok (x,T1,H1,W1,D1)=> .ok (rI i x,T1,H1,W1,D1)
  | .bad tr=> .bad tr
 | .cond c a b,T,H,D=>match bk T c with
  | .sc (.bool true)=>MR P call n a T H D
  | .sc (.bool false)=>MR P call n b T H D
  |_=> .bad [3000]
 | .rangeFunc g ps assign body,T,H,D=>match bk T g with
  | .fn (.func gf) first fJ=>match call gf (first++[.kq (H.length+1)]++fJ) ((H++[.mark .defs])++[.mark (.loop T ps assign body none)])with
   | .ok (x,H1,W1)=>match H1[H.length+1]? with
    |some (.mark (.loop _ _ _ _ none))=> .ok (.normal,T,H1.set (H.length+1) .dead,W1++[H.length+1],.mark H.length::D)
    |_=> .bad [5001]
   | .bad tr=> .bad (5002::tr)
  |_=> .bad [5003]
 | .region id ops false,T,H,D=>match yJ P ops T H with
  |some (T',g,args)=> .ok (.normal,T',H,[],.call g args::D)
  |none=>match XT P call n (.region id ops false) T H with
   | .ok (x,T',H',W)=> .ok (x,T',H',W,D)
   | .bad tr=> .bad tr
 |c,T,H,D=>match XT P call n c T H with
  | .ok (x,T',H',W)=> .ok (x,T',H',W,D)
  | .bad tr=> .bad tr
theorem XY {P:Program}{call:iD}(hm:P.follows .mixedOrders=true) (hc:ke P call) (n:Nat):∀(c:Code) (T:List AV) (H:aa) (D:jl) (x:bj) (T':List AV) (H':aa) (Wr:List Nat) (D':jl),MR P call n c T H D= .ok (x,T',H',Wr,D')->eF P c T H D x T' H' Wr D':=by
 have other:∀(c:Code) (T:List AV) (H:aa) (D:jl) (x:bj) (T':List AV) (H':aa) (Wr:List Nat) (D':jl),(match XT P call n c T H with
  | .ok (x,T',H',W)=>(.ok (x,T',H',W,D):Ev (bj×List AV×aa×List Nat×jl))
  | .bad tr=> .bad tr)= .ok (x,T',H',Wr,D')->eF P c T H D x T' H' Wr D':=by
  intro c T H D x T' H' Wr D' h;split at h
  ·rename_i y T2 H2 W2 h2;cases h;exact .of (CR hm hc n c _ _ _ _ _ _ h2) D
  ·cases h
 intro c
 induction c with
 |seq a b MS Ps=>
  intro T H D x T' H' Wr D' h;unfold MR at h;split at h
  ·rename_i T1 H1 W1 D1 h1;split at h
   ·rename_i y T2 H2 W2 D2 h2;cases h;exact(MS _ _ _ _ _ _ _ _ h1).seq (Ps _ _ _ _ _ _ _ _ h2)
   ·cases h
  ·rename_i gX;have I8:∀(T2:List AV) (H2:aa) (W2:List Nat) (D2:jl),MR P call n a T H D≠.ok (.normal,T2,H2,W2,D2):=gX;exact(MS _ _ _ _ _ _ _ _ h).XV (λe=>by subst e;exact absurd h (I8 _ _ _ _))
 |region id ops draw=>
  intro T H D x T' H' Wr D' h
  cases draw with
  |true=>exact other _ _ _ _ _ _ _ _ _ h
  |false=>
   unfold MR at h;split at h
   ·rename_i T2 g args hq;cases h;exact vy hq
   ·exact other _ _ _ _ _ _ _ _ _ h
 |block i c ih=>
  intro T H D x T' H' Wr D' h;unfold MR at h;split at h
  ·rename_i y T1 H1 W1 D1 h1;cases h;exact(ih _ _ _ _ _ _ _ _ h1).block
  ·cases h
 |cond c a b MS Ps=>
  intro T H D x T' H' Wr D' h;unfold MR at h;split at h
  ·rename_i ht;exact .cond ht (MS _ _ _ _ _ _ _ _ h)
  ·rename_i ht;exact .cond ht (Ps _ _ _ _ _ _ _ _ h)
  ·cases h
 |rangeFunc g ps assign body _ _=>
  intro T H D x T' H' Wr D' h;unfold MR at h;split at h
  ·rename_i gf first fJ XW
   split at h
   ·rename_i y H1 W1 yH;split at h
    ·rename_i h1;cases h;exact Fe XW (hc _ _ _ _ _ _ yH) h1 .none
    ·cases h
   ·cases h
  ·cases h
 |_=>intro T H D x T' H' Wr D' h;exact other _ _ _ _ _ _ _ _ _ h
theorem qg.Pt {P:Program}{ops:Array Oper}{Q:Exit->Act->List Frame->World->Prop}{cs:List Frame}{is:List Nat}{T T':List AV}{H H':aa}{W:List Nat}(h:qg P ops is T H T' H' W):
  ∀{n0:Nat} {E:Env} {w0 w:World} {a:Act},n0<=H.length->Good E H w0 w->eJ E T a.tmps->
   (∀(E':Env) (a':Act) (w':World),Ext n0 (·∈W) E H w E' H' w'->Good E' H' w0 w'->eJ E' T' a'.tmps->a'.defers=a.defers->Q .normal a' cs w')->
   wpOpsS P ops Q is a cs w:=by
 induction h with
 |nil T H=>
  intro n0 E w0 w a hn hg ht hk;exact hk E a w (.refl _ _ _ _ _) hg ht rfl
 | @skip i rest o T T' H H' W ho hw hr ih=>
  intro n0 E w0 w a hn hg ht hk;simp only[wpOpsS,ho,fm ht hw,if_false,ahA];refine ih hn hg (fU ht o.dst (nP _)) (λE' a' w' he qw EA hd=> ?_);exact hk E' a' w' he qw EA (hd.trans (cg _ _ _))
 | @step i rest o x T T' H H1 H' W1 W ho hw hs hr ih=>
  intro n0 E w0 w a hn hg ht hk;simp only[wpOpsS,ho,fm ht hw,if_true];have s7:=hs E w0 w a.eval hg (ht.o o);have key:o.upon P a (λa' w'=>wpOpsS P ops Q rest a' cs w') (λe a' w'=>Q e a' cs w') ((execOp a.eval o).run P w):=by
   refine Eu.wp s7 ?_;rintro v w' ⟨E',he,qw,hv⟩;refine ih (ahx hn he.len) qw (fU (ht.mono he.le) o.dst hv) (λE2 a2 w2 Xv Iy Iz hd=> ?_);refine hk E2 a2 w2 ?_ Iy Iz (hd.trans (cg _ _ _));exact(he.weaken hn (λl _ hl=>ahk _ hl)).trans (Xv.weaken (ag3 _) (λl _ hl=>ahj _ hl))
  split
  ·rename_i w' dz;unfold Eu at s7;rw[dz]at s7;exact s7.elim
  ·exact key
def evQ (P:Program) (call:iD) (n:Nat) (g:FuncId) (args:List AV) (H:aa):Ev (aa×List Nat):=
 match P.funcs[g]? with
 |none=> .bad [9100,g]
 |some fn=>match fn.body with
  |some (.seq (.region id ops false) rest)=>match ops.toList with
   |o::r=>match o.guard,o.op with
    |none,.call { callee:= .builtin .recover,..}=>
     match Uh P call ops r none (gK (args++List.replicate (fn.ntmps-args.length) .any) o.dst (.sc .nilIface)) H with
     | .ok (T1,H1,L)=>match XT P call n rest T1 H1 with
      | .ok (.normal,T2,H2,W)=>match ig P H2 fn T2 with
       |some _=> .ok (H2,r6 L++W)
       |none=> .bad [9103,g]
      | .ok _=> .bad [9104,g]
      | .bad tr=> .bad (10001::g::tr)
     | .bad tr=> .bad (10002::g::tr)
    |_,_=> .bad [9105,g]
   |[]=> .bad [9106,g]
  |_=> .bad [9107,g]
theorem XZ {P:Program}{call:iD}(hm:P.follows .mixedOrders=true) (hc:ke P call){n:Nat}{g:FuncId}{args:List AV}{H H':aa}{Wr:List Nat}(h:evQ P call n g args H= .ok (H',Wr)):
  (∀(E:Env) (w0 w:World) (vs:Array Value),Good E H w0 w->ji E args vs->CallsD P g vs .returning w λe u' w'=>u'= .returning/\(∃v,e= .returned v)/\∃E',Ext H.length (·∈Wr) E H w E' H' w'/\Good E' H' w0 w')/\cQ H H' Wr:=by
 unfold evQ at h;split at h
 ·cases h
 ·rename_i fn mX;split at h
  ·rename_i id ops rest gO;split at h
   ·rename_i o r Pq;split at h
    ·rename_i Z7 acN Zm s7;split at h
     ·rename_i T1 H1 L hr;split at h
      ·rename_i T2 H2 W Pu;split at h
       ·rename_i x lT;cases h;have ga:ops=(o::r).toArray:=by apply aiq;simpa using Pq
        have MT:∀(j:Nat) (q:Oper),r[j]? =some q->ops[1+j]? =some q:=λj q hq=>by
         rw[ga];simpa [Nat.add_comm]using hq
        obtain⟨Ul,nz⟩:=mf hc r 1 _ _ _ _ _ _ MT hr;have oS:=CR hm hc n rest _ _ _ _ _ _ Pu;refine⟨λE w0 w vs hg hrel=> ?_,nz.trans oS.2⟩;refine callsD_of_wpS mX gO (λc₀ cs KV=> ?_);have TD:eJ E (args++List.replicate (fn.ntmps-args.length) .any) (vs++Array.replicate (fn.ntmps-vs.size) undef):=by
         have h0:=eg hrel (k:=(⟨by simp[hrel.1],λi x hx=>by
          have:=ahf hx;rw[ah6]at this;rw[this.2];exact .any _⟩:ji E (List.replicate (fn.ntmps-args.length) .any) (Array.replicate (fn.ntmps-vs.size) undef)))
         exact h0
        refine wpS_seq (wpS_region ?_);have Jd:List.range ops.size=0::(List.range r.length).map (1+·):=by
         rw[ga];simp only[aiu,ahv,aib];congr 1;refine ahV (λa _=> ?_);omega
        rw[Jd];have CQ:ops[0]? =some o:=by rw[ga];rfl
        have w1:∀t:Array Value,Region.wanted o (yielded ops t)=true:=λa=>by unfold Region.wanted;rw[Zm]
        simp only[wpOpsS,CQ,w1,if_true];have dz:∀a:Act,(execOp a.eval o).run P w= .ok .recover w:=λa=>by
         simp only[execOp,s7,resolve,pure_bind,invoke,builtin,Sem.run_pure]
        rw[dz];have Je:recoverD (c₀::cs)=none:=by simp[recoverD,KV]
        simp only[Je];refine Ul.run.Pt (ag3 _) hg (fU (a:={ tmps:=vs++Array.replicate (fn.ntmps-vs.size) undef,defers:=[]}) TD o.dst (.sc _ rfl)) (λE1 a1 w1 nw g1 t1 d1=> ?_);have d1':a1.defers=[]:=by rw[d1,cg]
        refine wpS_of_wp (wp_mono (oS.1 H.length (·∈W) nz.1 (λl hl _=>hl) E1 w0 w1 a1 [] nz.1 g1 t1 d1') ?_);rintro e a2 w2 ⟨E2,y,T3,H3,⟨rfl,rfl,rfl⟩,rx,iK,g2,t2,d2⟩;cases rx;obtain⟨v,hv,_⟩:=jT g2 t2 lT;refine⟨d2,.returning,by rw[←KV],v,hv,rfl,⟨v,rfl⟩,E2,?_,g2⟩;exact(nw.weaken (ag3 _) (λl _ hl=>ahk _ hl)).trans (iK.weaken (ag3 _) (λl _ hl=>ahj _ hl))
       ·cases h
      ·cases h
      ·cases h
     ·cases h
    ·cases h
   ·cases h
  ·cases h
def oT (P:Program) (fn:Func) (tmps:Array Value) (R:Ending->World->Prop):List Deferred->World->Prop
 |[],w=>∃v,(results fn tmps).run P w= .ok v w/\R (.returned v) w
 |d::ds,w=>(∃r w',d.target= .collected r/\(Instr.takeDeferred r).run P w= .ok [] w'/\oT P fn tmps R ds w')∨
   (∃fv cap f args,d.target= .fn fv cap/\(invoke d.target d.args).run P w= .ok (.enter f args) w/\CallsD P f args .returning w λe u' w'=>u'= .returning/\(∃v,e= .returned v)/\oT P fn tmps R ds w')
theorem sE {P:Program}{fn:Func}{tmps:Array Value}{R:Ending->World->Prop}:∀(ds:List Deferred) (w:World) (fr:Frame) (cs:List Frame),fr.mode= .returning->fr.defers=ds->fr.tmps=tmps->P.funcs[fr.fn]? =some fn->fr.kind= .normal->oT P fn tmps R ds w->
  ∃e w' Pv,R e w'/\Comes P (lone fr cs w) (lone Pv cs w') e/\Pv.fn=fr.fn/\Pv.leaving P w' e:=by
 intro ds
 induction ds with
 |nil=>
  intro w fr cs hu hd ht hf hk h;obtain⟨v,hr,hR⟩:=h;exact⟨.returned v,w,fr,hR,Steps.refl P _,rfl,hu,hd,hk,fn,hf,ht▸hr⟩
 |cons d ds ih=>
  intro w fr cs hu hd ht hf hk h;rcases h with ⟨r,w',MU,Bm,yK⟩|⟨fv,cap,f,args,MU,hinv,yH⟩
  ·have h1:=step_collected (cs:=cs) (by rw[hu];simp) hd MU Bm;obtain⟨e',sr,Pv,hR',T5,X0,sZ⟩:=ih w' { fr with defers:=[]++ds} cs hu rfl ht hf hk yK;exact⟨e',sr,Pv,hR',Comes.of_steps (.one h1) T5,X0,sZ⟩
  ·have h1:=step_defer (cs:=cs) (by rw[hu];simp) hd MU hinv;obtain⟨e,u',w',frX,⟨rfl,⟨v,rfl⟩,hR⟩,Jb,hkX,XW⟩:=yH { fr with defers:=ds} cs hu;have h2:=step_going_returned (c:={ { fr with defers:=ds} with mode:= .returning}) (cs:=cs) hkX XW;obtain⟨e',sr,Pv,hR',T5,X0,sZ⟩:=ih w' { { { fr with defers:=ds} with mode:= .returning} with mode:=settle .returning} cs rfl rfl ht hf hk hR;exact⟨e',sr,Pv,hR',Comes.of_steps (.head h1 (Steps.trans Jb (.one h2))) T5,X0,sZ⟩
theorem nc {P:Program}{f:FuncId}{fn:Func}{c:Code}{args:Array Value}{w:World}{R:Ending->World->Prop}(hf:P.funcs[f]? =some fn) (hb:fn.body=some c)
  (h:c.wp P (λe a w=>(e= .normal∨e= .ret)/\oT P fn a.tmps R a.defers w) { tmps:=args++Array.replicate (fn.ntmps-args.size) undef,defers:=[]} w):Calls P f args w R:=by
 intro cs
 let b:Frame:={ (default:Frame)with fn:=f,kind:= .normal}
 have Ja:Frame.enter P f args .normal=
   b.at { tmps:=args++Array.replicate (fn.ntmps-args.size) undef,defers:=[]} [.code c]:=by
  simp[Frame.enter,Frame.at,hf,hb,b]
 obtain⟨e,a',w',⟨he,hq⟩,kv⟩:=h b [] cs;rw[←Ja]at kv;rcases he with rfl|rfl
 ·obtain⟨e',sr,Pv,hR,hs,mX,hl⟩:=sE a'.defers w' { b.at a' []with mode:= .returning} cs rfl rfl rfl hf rfl hq;exact⟨e',sr,Pv,hR,Comes.of_steps (Steps.trans kv (.one step_end)) hs,mX,hl⟩
 ·obtain⟨todo,hs₀⟩:=kv;obtain⟨e',sr,Pv,hR,hs,mX,hl⟩:=sE a'.defers w' { b.at a' todo with mode:= .returning} cs rfl rfl rfl hf rfl hq;exact⟨e',sr,Pv,hR,Comes.of_steps hs₀ hs,mX,hl⟩
def xh (P:Program) (call:iD) (n:Nat):jl->aa->Ev (aa×List Nat)
 |[],H=> .ok (H,[])
 | .call g args::D,H=>match evQ P call n g args H with
  | .ok (H1,W1)=>match xh P call n D H1 with
   | .ok (H2,W2)=> .ok (H2,W1++W2)
   | .bad tr=> .bad tr
  | .bad tr=> .bad tr
 | .mark l::D,H=>match H[l]? with
  |some (.mark .defs)=>match xh P call n D (H.set l .dead)with
   | .ok (H2,W2)=> .ok (H2,[l]++W2)
   | .bad tr=> .bad tr
  |_=> .bad [9200]
theorem rJ {P:Program}{call:iD}(hm:P.follows .mixedOrders=true) (hc:ke P call){n:Nat}{fn:Func}{tmps:Array Value}{R:Ending->World->Prop}:∀(D:jl) (H H':aa) (Wr:List Nat),xh P call n D H= .ok (H',Wr)->
  cQ H H' Wr/\∀(E:Env) (w0 w:World) (ds:List Deferred),Good E H w0 w->qH P E D ds->
   (∀(E':Env) (w':World),Ext H.length (·∈Wr) E H w E' H' w'->Good E' H' w0 w'->∃v,(results fn tmps).run P w'= .ok v w'/\R (.returned v) w')->oT P fn tmps R ds w
 |[],H,H',Wr,h=>by
  cases h;refine⟨.refl _ _,λE w0 w ds hg hd hk=> ?_⟩;cases hd;exact hk E w (.refl _ _ _ _ _) hg
 | .call g args::D,H,H',Wr,h=>by
  unfold xh at h;split at h
  ·rename_i H1 W1 h1;split at h
   ·rename_i H2 W2 h2;cases h;obtain⟨hq,k1⟩:=XZ hm hc h1;obtain⟨k2,yK⟩:=rJ hm hc D _ _ _ h2;refine⟨k1.trans k2,λE w0 w ds hg hd hk=> ?_⟩
    cases hd with
    | @cons q d D ds hd Ew=>
     obtain⟨⟨Z6,c',XS,s6,iw⟩,cap,vs,ht,rfl,hrel⟩:=hd;obtain⟨target,Pw⟩:=d;simp only at ht;subst ht;refine .inr ⟨_,_,g,Pw++cap,rfl,?_,?_⟩
     ·have h1:Z6.name≠"runtime.NumGoroutine":=by simpa using s6
      simp[invoke,callFunc,XS,h1,iw]
     ·refine(hq E w0 w _ hg hrel).mono ?_;rintro e u' w' ⟨rfl,⟨v,rfl⟩,E1,nw,g1⟩;refine⟨rfl,⟨v,rfl⟩,yK E1 w0 w' ds g1 (Ew.mono nw.le) (λE2 w2 iK g2=>hk E2 w2 ?_ g2)⟩;exact(nw.weaken (ag3 _) (λl _ hl=>ahk _ hl)).trans (iK.weaken k1.1 (λl _ hl=>ahj _ hl))
   ·cases h
  ·cases h
 | .mark l::D,H,H',Wr,h=>by
  unfold xh at h;split at h
  ·rename_i hl;split at h
   ·rename_i H2 W2 h2;cases h;obtain⟨k2,yK⟩:=rJ hm hc D _ _ _ h2;refine⟨(cQ.set H l .dead).trans k2,λE w0 w ds hg hd hk=> ?_⟩
    cases hd with
    | @cons q d D ds hd Ew=>
     obtain⟨b,ht,hφ⟩:=hd;obtain⟨_,ob,h3,h4⟩:=hg.obj hl b hφ;have h4:ob= .deferred (some []):=h4;subst h4;refine .inl ⟨b,{ w with heap:=w.heap.setIfInBounds b (.deferred none)},ht,?_,?_⟩
     ·have fx:(getObj b).run P w= .ok (.deferred (some [])) w:=by simp[getObj,Sem.run,h3]
      have jt:∀o',(setObj b o').run P w= .ok () { w with heap:=w.heap.setIfInBounds b o'}:=λo'=>by simp[setObj,Sem.run,h3]
      simp only[Instr.takeDeferred,Sem.run_bind,fx,Result.andThen_ok,jt,Sem.run_pure]
     ·refine yK E w0 _ ds (hg.kill hl hφ _) Ew (λE2 w2 iK g2=>hk E2 w2 ?_ g2);exact(Fc (n0:=H.length) (W:=(·∈[l]++W2)) hg (λ_=>by simp) hl hφ).trans (iK.weaken (by simp) (λz _ hz=>ahj _ hz))
   ·cases h
  ·cases h
def X3 (P:Program) (qj:FuncId->List AV->aa->Option (AV×aa×List Nat)):Nat->iD
 |0,g,_,_=> .bad [8000,g]
 |n+1,g,args,H=>match qj g args H with
  |some r=> .ok r
  |none=>match P.funcs[g]? with
   |none=> .bad [9000,g]
   |some fn=>match fn.body with
    |none=> .bad [9001,g]
    |some c=>if (fn.name=="runtime.NumGoroutine")=true then .bad [9002,g]else
     match MR P (X3 P qj n) n c (args++List.replicate (fn.ntmps-args.length) .any) H []with
     | .bad tr=> .bad (10000::g::tr)
     | .ok (x,T,H1,W1,D)=>match x with
      | .normal| .ret=>match xh P (X3 P qj n) n D H1 with
       | .bad tr=> .bad (10003::g::tr)
       | .ok (H2,W2)=>match ig P H2 fn T with
        |some x=> .ok (x,H2,below H.length (W1++W2))
        |none=> .bad [9003,g]
      |_=> .bad [9004,g]
theorem dt {n l:Nat}{W:List Nat}(hl:l<n) (h:l∈W):l∈below n W:=by
 unfold below;rw[List.mem_filter];exact⟨h,by simpa using hl⟩
theorem Jf {P:Program}(hm:P.follows .mixedOrders=true){qj:FuncId->List AV->aa->Option (AV×aa×List Nat)}(tj:∀g args H x H1 Wr,qj g args H=some (x,H1,Wr)->bZ P g args x H H1 Wr):∀n,ke P (X3 P qj n)
 |0=>λg args H x H1 Wr h=>by cases h
 |n+1=>λg args H x H' Wr h=>by
  have hc:=Jf hm tj n;unfold X3 at h;split at h
  ·rename_i r hr;cases h;exact tj _ _ _ _ _ _ hr
  ·split at h
   ·cases h
   ·rename_i fn mX;split at h
    ·cases h
    ·rename_i c gO;split at h
     ·cases h
     ·rename_i gj;split at h
      ·cases h
      ·rename_i y T H1 W1 D hb;have oP:=XY hm hc n c _ _ _ _ _ _ _ _ hb;have fin:(match xh P (X3 P qj n) n D H1 with
         | .bad tr=>(.bad (10003::g::tr):Ev (AV×aa×List Nat))
         | .ok (H2,W2)=>match ig P H2 fn T with
          |some x=> .ok (x,H2,below H.length (W1++W2))
          |none=> .bad [9003,g])= .ok (x,H',Wr)->(y= .normal∨y= .ret)->bZ P g args x H H' Wr:=by
        intro h hy;split at h
        ·cases h
        ·rename_i H2 W2 hq;split at h
         ·rename_i z hz;cases h;have hk:=(rJ (fn:=fn) (tmps:= #[]) (R:=λ_ _=>True) hm hc D _ _ _ hq).1;have pP:=oP.2.trans hk;refine⟨⟨fn,c,mX,by simpa using gj,gO⟩,?_,pP.1,λl hl hn=>pP.2 l hl (λhm=>hn (dt hl hm))⟩;intro E w0 w vs hg hr;refine nc mX gO ?_;have ht:eJ E (args++List.replicate (fn.ntmps-args.length) .any) (vs++Array.replicate (fn.ntmps-vs.size) undef):=by
           have h0:=eg hr (k:=(⟨by simp[hr.1],λi x hx=>by
            have:=ahf hx;rw[ah6]at this;rw[this.2];exact .any _⟩:ji E (List.replicate (fn.ntmps-args.length) .any) (Array.replicate (fn.ntmps-vs.size) undef)))
           exact h0
          refine wp_mono (oP.1 E w0 w ⟨_,[]⟩ hg ht .nil) ?_;rintro e a1 w1 ⟨E1,rx,nw,g1,t1,d1⟩;have ti:oT P fn a1.tmps (λe w'=>∃E',Mw E' (.ret x) e/\Ext H.length (·∈below H.length (W1++W2)) E H w E' H' w'/\Good E' H' w0 w') a1.defers w1:=by
           refine(rJ (fn:=fn) (tmps:=a1.tmps) hm hc D _ _ _ hq).2 E1 w0 w1 _ g1 d1 (λE2 w2 iK g2=> ?_);obtain⟨v,hv,hrel⟩:=jT g2 (t1.mono iK.le) hz;refine⟨v,hv,E2,.ret _ _ hrel,?_,g2⟩;exact(nw.weaken (ag3 _) (λl hl hm=>dt hl (ahk _ hm))).trans (iK.weaken oP.2.1 (λl hl hm=>dt hl (ahj _ hm)))
          rcases hy with rfl|rfl
          ·cases rx;exact⟨.inl rfl,ti⟩
          ·cases rx;exact⟨.inr rfl,ti⟩
         ·cases h
       split at h
       ·exact fin h (.inl rfl)
       ·exact fin h (.inr rfl)
       ·cases h
theorem rK {P:Program}{f:FuncId}{args:List AV}{u:Value}{H1:aa}{Wr:List Nat}(h:bZ P f args (.sc u) [] H1 Wr) (dn:∀a∈args,LF a) (H:aa):bZ P f args (.sc u) H H []:=by
 refine⟨h.1,λE w0 w vs hg hr=> ?_,.refl _ _⟩;have g0:Good E.data [] w w:=by
  refine⟨.refl _ _,λh=>hg.snap h,λ{l o} h=>by simp at h,λ{l l' b} h=> ?_,λ_=>⟨rfl,λ_=>rfl⟩,λh=>by cases h⟩;unfold owns at h;simp at h
 have Z8:ji E.data args vs:=⟨hr.1,λi x hx=>(hr.2 i x hx).lf (dn x (ahf hx)) (λh=>h)⟩
 refine(h.2.1 E.data w w vs g0 Z8).mono ?_;rintro e w' ⟨E',re,ex,g⟩
 cases re with
 |ret x v hv=>
  cases hv with
  |sc v hp=>
   have hb:=g.below;have iC:∀k,k<w.heap.size->w'.heap[k]? =w.heap[k]? :=λk hk=>hb.block k hk
   refine⟨E,.ret _ _ (.sc _ hp),⟨.refl E,ex.size,ag3 _,λ_ _=>rfl,λ_ _ ho=>iC _ (hg.fG ho),λ_=>rfl,λhb h=>⟨iC _ hb,h,λ_=>rfl⟩⟩,?_⟩;refine⟨hg.below.trans (hb.mono hg.below.size),λ{b o u} h=> ?_,λ{l o} h=> ?_,hg.sep,hg.fresh,λh=>ahz (hg.mb h) ex.size.heap⟩
   ·rw[fF (iC b (hg.ZG h))];exact hg.snap h
   ·exact(hg.obj h).step h (.refl E) (λ_ h=>h) (λ_=>rfl) (λ_ _ _ _ h=>h) (λb hb=>iC b (hg.fG hb))
theorem tp {P:Program}{f:FuncId}{args:List AV}{x:AV}{H H1:aa}(h:bZ P f args x H H1 []) (hl:LF x):bZ P f args x H H []:=by
 refine⟨h.1,λE w0 w vs hg hr=> ?_,.refl _ _⟩;refine(h.2.1 E w0 w vs hg hr).mono ?_;rintro e w' ⟨E',re,ex,g⟩
 cases re with
 |ret x v hv=>
  obtain⟨E2,iK,g2,Ir⟩:=Cz hg (ex.weaken (ag3 _) (λl _ h=>by simp at h)) g hv hl;exact⟨E2,.ret _ _ Ir,iK.weaken (ag3 _) (λ_ _ h=>h.elim),g2⟩
def uh (n:Nat):Own->Bool
 | .tok t=>decide (t<n)
 | .off t _=>decide (t<n)
 |_=>true
mutual
def ff (n:Nat):AV->Bool
 | .any=>true
 | .sc _=>true
 | .dO _=>true
 | .ptr l _=>decide (l<n)
 | .cU l=>decide (l<n)
 | .fp l _=>decide (l<n)
 | .nK l _ _=>decide (l<n)
 | .qv l _ _=>decide (l<n)
 | .kq l=>decide (l<n)
 | .fY l _ _=>decide (l<n)
 | .aY _ _ _ _ own=>uh n own
 | .fn _ a b=>dG n a&&dG n b
 | .lD _ x=>ff n x
 | .agg cs=>dG n cs
 | .bq cs=>dG n cs
def dG (n:Nat):List AV->Bool
 |[]=>true
 |x::r=>ff n x&&dG n r
end
def cH (n:Nat):bu->Bool
 | .cells cs=>dG n cs
 | .map es=>es.all λe=>ff n e.2
 | .iter m=>decide (m<n)
 | .mark (.loop T _ _ _ _)=>dG n T
 |_=>true
theorem fi {n:Nat}:∀{l:List AV},dG n l=true->∀x∈l,ff n x=true
 |[],_,x,hx=>by cases hx
 |y::r,h,x,hx=>by
  simp only[dG,ahp]at h;rcases ahl.1 hx with rfl|hx
  ·exact h.1
  ·exact fi h.2 x hx
def Env.cut (E:Env) (n:Nat):Env:={ φ:=λl=>if l<n then E.φ l else none,S:=E.S,G:=λt m=>if t<n then E.G t m else none}
theorem Rel.cut {E:Env}{n:Nat}{x:AV}{v:Value}(h:Rel E x v) (hl:ff n x=true):Rel (E.cut n) x v:=by
 induction h with
 |any v=>exact .any v
 |sc v h=>exact .sc v h
 |ptr l o b h=>simp only[ff,decide_eq_true_eq]at hl;exact .ptr l o b (by simp[Env.cut,hl,h])
 |dO cs b off u h k ih=>exact .dO cs b off u (λj x hj=>h j x hj) (λj x hj=>k j x hj)
 |fw sz el own h=>exact .fw sz el own h
 |gG sz el own a h=>exact .gG sz el own a h
 |aY sz n' el own b off c u hn ho hc hlen h1 h k ih=>
  refine .aY sz n' el own b off c u hn ?_ hc hlen h1 (λi hi j x hj=>h i hi j x hj) (λi hi j x hj=>k i hi j x hj)
  cases own with
  |dA=>exact ho
  |tight=>exact ho
  |tok t=>
   simp only[ff,uh,decide_eq_true_eq]at hl;exact⟨by simp[Env.cut,hl,ho.1],ho.2⟩
  |off t k=>
   simp only[ff,uh,decide_eq_true_eq]at hl;exact⟨ho.1.imp id (λh=>by simp[Env.cut,hl,h]),ho.2⟩
 |fn f first fJ us vs h1 h2 k1 k2 i1 i2=>
  simp only[ff,ahp]at hl;exact .fn f first fJ us vs h1 h2 (λj x hj=>i1 j x hj (fi hl.1 x (ahf hj))) (λj x hj=>i2 j x hj (fi hl.2 x (ahf hj)))
 |lD t x v k ih=>simp only[ff]at hl;exact .lD t x v (ih hl)
 |agg cs us h k ih=>simp only[ff]at hl;exact .agg cs us h (λj x hj=>ih j x hj (fi hl x (ahf hj)))
 |bq cs us h k ih=>simp only[ff]at hl;exact .bq cs us h (λj x hj=>ih j x hj (fi hl x (ahf hj)))
 |cU l b h=>simp only[ff,decide_eq_true_eq]at hl;exact .cU l b (by simp[Env.cut,hl,h])
 |fp l i m h=>simp only[ff,decide_eq_true_eq]at hl;exact .fp l i m (by simp[Env.cut,hl,h])
 |nK l sz m b h hn=>simp only[ff,decide_eq_true_eq]at hl;exact .nK l sz m b (by simp[Env.cut,hl,h]) hn
 |qv l sz m b c h hn=>simp only[ff,decide_eq_true_eq]at hl;exact .qv l sz m b c (by simp[Env.cut,hl,h]) hn
 |kq l b h=>simp only[ff,decide_eq_true_eq]at hl;exact .kq l b (by simp[Env.cut,hl,h])
 |jq l i=>exact .jq l i
 |fY l i m b c h h0 hn=>simp only[ff,decide_eq_true_eq]at hl;exact .fY l i m b c (by simp[Env.cut,hl,h]) h0 hn
theorem Ff {α:Type}{l:List α}{n i:Nat}{x:α}(h:(l.take n)[i]? =some x):i<n/\l[i]? =some x:=by
 rw[ahI]at h;split at h
 ·rename_i hi;exact⟨hi,h⟩
 ·cases h
theorem ui {E:Env}{H:aa}{n l b:Nat}(h:owns (E.cut n) (H.take n) l b):l<n/\owns E H l b:=by
 unfold owns at h ⊢
 cases hl:(H.take n)[l]? with
 |none=>rw[hl]at h;exact h.elim
 |some o=>
  obtain⟨hn,hH⟩:=Ff hl;rw[hl]at h;rw[hH];refine⟨hn,?_⟩
  cases o with
  |dead=>exact h
  |cells cs=>simpa [Env.cut,hn]using h
  |tail m sz=>simpa [Env.cut,hn]using h
  |cu m=>simpa [Env.cut,hn]using h
  |map es=>simpa [Env.cut,hn]using h
  |iter m=>simpa [Env.cut,hn]using h
  |mark k=>simpa [Env.cut,hn]using h
  |ez f v=>simpa [Env.cut,hn]using h
  |cN=>exact h
  |rows es pd=>simpa [Env.cut,hn]using h
theorem Good.trim {E:Env}{H:aa}{w0 w:World}{n:Nat}(g:Good E H w0 w) (hk:∀o∈H.take n,cH n o=true):Good (E.cut n) (H.take n) w0 w:=by
 refine⟨g.below,λh=>g.snap h,λ{l o} h=> ?_,λ{l l' b} h1 h2=>g.sep (ui h1).2 (ui h2).2,λ{l} h=> ?_,λ{l b} h=> ?_⟩
 ·obtain⟨hn,hH⟩:=Ff h;have ho:=g.obj hH;have hb:=hk o (ahf h);have e1:(E.cut n).φ l=E.φ l:=by simp[Env.cut,hn]
  have e2:∀m,(E.cut n).G l m=E.G l m:=λm=>by simp[Env.cut,hn]
  cases o with
  |dead=>exact trivial
  |cells cs=>
   intro b iw;obtain⟨h1,h2,arr,t,h3,h4⟩:=ho b (e1▸iw);refine⟨h1,h2,arr,t,h3,λj x hj=> ?_⟩;obtain⟨u,hu,hr⟩:=h4 j x hj;exact⟨u,hu,hr.cut (fi hb x (ahf hj))⟩
  |tail m sz=>
   obtain⟨b,c,arr,t,h1,h2⟩:=ho;exact⟨b,c,arr,t,(e2 m).trans h1,h2.1,h2.2.1,h2.2.2.1,h2.2.2.2.1,h2.2.2.2.2.1,h2.2.2.2.2.2.1,λk hk=>(e2 k).trans (h2.2.2.2.2.2.2 k hk)⟩
  |cu m=>
   obtain⟨b,c,arr,t,h1,h2⟩:=ho;exact⟨b,c,arr,t,(e2 m).trans h1,h2.1,h2.2.1,h2.2.2.1,λk hk=>(e2 k).trans (h2.2.2.2 k hk)⟩
  |map es=>
   intro b iw;obtain⟨h1,ms,ck,h3,h4,h5,h6,h7,h8⟩:=ho b (e1▸iw);refine⟨h1,ms,ck,h3,h4,λj e hj=> ?_,h6,h7,λi x hx=>h8 i x ((e2 i).symm.trans hx)⟩;obtain⟨m,hm,ue,hr⟩:=h5 j e hj;simp only[cH,ahq]at hb;exact⟨m,hm,ue,hr.cut (hb e (ahf hj))⟩
  |iter m=>
   intro b iw;obtain⟨h1,r,ck,h3,h4⟩:=ho b (e1▸iw);simp only[cH,decide_eq_true_eq]at hb;exact⟨h1,r,ck,by simp[Env.cut,hb,h3],h4⟩
  |mark k=>
   intro b iw;obtain⟨h1,ob,h3,h4⟩:=ho b (e1▸iw);refine⟨h1,ob,h3,?_⟩
   cases k with
   |defs=>exact h4
   |loop T ps as bd st=>
    obtain⟨r,q1,q2,q3⟩:=h4;simp only[cH]at hb;exact⟨r,q1,⟨q2.1,λi x hx=>(q2.2 i x hx).cut (fi hb x (ahf hx))⟩,q3⟩
  |cN=>exact⟨e1.trans ho.1,λm=>(e2 m).trans (ho.2 m)⟩
  |ez f v=>
   intro b iw;obtain⟨h1,h2,ms,ck,h3,h4,h5⟩:=ho b (e1▸iw);exact⟨h1,h2,ms,ck,h3,λi m hm=>let ⟨k,q1,q2,q3⟩:=h4 i m hm;⟨k,q1,q2,q3.lf (h2 k) (λh=>h)⟩,h5⟩
  |rows es pd=>
   obtain⟨b,iw,h1,ms,ck,h3,h4⟩:=ho;exact⟨b,e1.trans iw,h1,ms,ck,h3,h4.step e2 (λ_ _ _ _ _ _=>⟨rfl,λ_ h=>h⟩)⟩
 ·by_cases hn:l<n
  ·have:H.length<=l:=by simp at h;omega
   have:=g.fresh this;exact⟨by simp[Env.cut,this.1],λm=>by simp[Env.cut,this.2]⟩
  ·exact⟨by simp[Env.cut,hn],λm=>by simp[Env.cut,hn]⟩
 ·simp only[Env.cut]at h;split at h
  ·exact g.mb h
  ·cases h
theorem Py {E:Env}{H J:aa}{l b:Nat}(h:owns E H l b):owns E (H++J) l b:=by
 have hl:=my h;unfold owns at h ⊢;rwa [ahb hl]
theorem wA {E E':Env}{H2 J:aa}{w0 w w':World}{n0:Nat}{W:Nat->Prop}(hg:Good E (H2++J) w0 w) (ex:Ext H2.length (λ_=>False) (E.cut H2.length) H2 w E' H2 w') (g:Good E' H2 w0 w') (hH:∀o∈H2,cH H2.length o=true):
  ∃E2,Ext n0 W E (H2++J) w E2 (H2++J) w'/\Good E2 (H2++J) w0 w'/\∀(y:AV) (v:Value),Rel E' y v->ff H2.length y=true->Rel E2 y v:=by
 have Bm:(H2++J).take H2.length=H2:=by simp
 have WS:∀l b,owns (E.cut H2.length) H2 l b->l<H2.length/\owns E (H2++J) l b:=by
  intro l b ho;have r5:owns (E.cut H2.length) ((H2++J).take H2.length) l b:=by rw[Bm];exact ho
  exact ui r5
 have hφ:∀l,l<H2.length->E'.φ l=E.φ l:=λl hl=>(ex.lL hl).trans (by simp[Env.cut,hl])
 let E2:Env:={ φ:=E.φ,S:=E'.S,G:=λt m=>if t<H2.length then E'.G t m else E.G t m}
 have Z9:(E'.cut H2.length).le E2:=by
  refine⟨λ{l b} hl=> ?_,λhl=>hl,λ{k m z} hl=> ?_⟩
  ·simp only[Env.cut]at hl;split at hl
   ·rename_i hk;exact(hφ l hk).symm.trans hl
   ·cases hl
  ·simp only[Env.cut]at hl;split at hl
   ·rename_i hk;simp only[E2,hk,if_true];exact hl
   ·cases hl
 have conv:∀{y:AV} {v:Value},Rel E' y v->ff H2.length y=true->Rel E2 y v:=λhr hl=>(hr.cut hl).mono Z9
 have hle:E.le E2:=by
  refine⟨λhl=>hl,λ{b o u} hl=>ex.le.S hl,λ{k m z} hl=> ?_⟩;by_cases hk:k<H2.length
  ·simp only[E2,hk,if_true];exact ex.le.G (by simp only[Env.cut,hk,if_true];exact hl)
  ·simp only[E2,hk,if_false];exact hl
 have free:∀l b,¬l<H2.length->owns E (H2++J) l b->∀k,¬owns (E.cut H2.length) H2 k b:=by
  intro l b hl ho k hk;obtain⟨h1,h2⟩:=WS k b hk;have:=hg.sep h2 ho;omega
 have iC:∀l b,owns E (H2++J) l b->w'.heap[b]? =w.heap[b]? :=by
  intro l b ho;by_cases hl:l<H2.length
  ·have r5:owns (E.cut H2.length) H2 l b:=by
    unfold owns at ho ⊢;rw[ahb hl]at ho
    cases hq:H2[l]? with
    |none=>rw[hq]at ho;exact ho
    |some q=>
     rw[hq]at ho
     cases q with
     |dead=>exact ho
     |cells cs=>simpa [Env.cut,hl]using ho
     |tail m sz=>simpa [Env.cut,hl]using ho
     |cu m=>simpa [Env.cut,hl]using ho
     |map es=>simpa [Env.cut,hl]using ho
     |iter m=>simpa [Env.cut,hl]using ho
     |mark k=>simpa [Env.cut,hl]using ho
     |ez f v=>simpa [Env.cut,hl]using ho
     |cN=>exact ho
     |rows es pd=>simpa [Env.cut,hl]using ho
   exact ex.iX hl (λhf=>hf) r5
  ·exact(ex.stay (hg.fG ho) (free l b hl ho)).1
 have tq:∀l b,owns E2 (H2++J) l b->(l<H2.length/\owns E' H2 l b)∨(¬l<H2.length/\owns E (H2++J) l b):=by
  intro l b ho;by_cases hl:l<H2.length
  ·refine .inl ⟨hl,?_⟩;unfold owns at ho ⊢;rw[ahb hl]at ho
   cases hq:H2[l]? with
   |none=>rw[hq]at ho;exact ho
   |some q=>
    rw[hq]at ho
    cases q with
    |dead=>exact ho
    |cells cs=>exact(hφ l hl).trans ho
    |tail m sz=>obtain⟨z,hz⟩:=ho;exact⟨z,by simpa only[E2,hl,if_true]using hz⟩
    |cu m=>obtain⟨z,hz⟩:=ho;exact⟨z,by simpa only[E2,hl,if_true]using hz⟩
    |map es=>exact(hφ l hl).trans ho
    |iter m=>exact(hφ l hl).trans ho
    |mark k=>exact(hφ l hl).trans ho
    |ez f v=>exact(hφ l hl).trans ho
    |cN=>exact ho
    |rows es pd=>
     obtain⟨y,hy,h⟩:=ho;refine⟨y,(hφ l hl).trans hy,?_⟩;rcases h with h|⟨i,ss,c',h1,h2⟩
     ·exact .inl h
     ·exact .inr ⟨i,ss,c',h1,by simpa only[E2,hl,if_true]using h2⟩
  ·refine .inr ⟨hl,?_⟩;unfold owns at ho ⊢
   cases hq:(H2++J)[l]? with
   |none=>rw[hq]at ho;exact ho
   |some q=>
    rw[hq]at ho
    cases q with
    |dead=>exact ho
    |cells cs=>exact ho
    |tail m sz=>obtain⟨z,hz⟩:=ho;exact⟨z,by simpa only[E2,hl,if_false]using hz⟩
    |cu m=>obtain⟨z,hz⟩:=ho;exact⟨z,by simpa only[E2,hl,if_false]using hz⟩
    |map es=>exact ho
    |iter m=>exact ho
    |mark k=>exact ho
    |ez f v=>exact ho
    |cN=>exact ho
    |rows es pd=>
     obtain⟨y,hy,h⟩:=ho;refine⟨y,hy,?_⟩;rcases h with h|⟨i,ss,c',h1,h2⟩
     ·exact .inl h
     ·exact .inr ⟨i,ss,c',h1,by simpa only[E2,hl,if_false]using h2⟩
 have gt:=g.trim (n:=H2.length) (by simpa using hH);have EP:H2.take H2.length=H2:=by simp
 rw[EP]at gt;have vz:Good E2 (H2++J) w0 w':=by
  refine⟨g.below,λh=>g.snap h,λ{l o} hl=> ?_,λ{l l' b} h1 h2=> ?_,λ{l} hl=> ?_,λhl=>ahz (hg.mb hl) ex.size.heap⟩
  ·by_cases hk:l<H2.length
   ·have sZ:H2[l]? =some o:=by rwa [ahb hk]at hl
    refine(gt.obj sZ).step sZ Z9 (λb hb=> ?_) (λm=> ?_) (λb c _ _ hn=>hn) (λb _=>rfl)
    ·simp only[Env.cut,hk,if_true];exact(hφ l hk).trans hb
    ·simp only[Env.cut,hk,if_true,E2]
   ·refine(hg.obj hl).step hl hle (λb hb=>hb) (λm=> ?_) (λb c hb _ hn=> ?_) (λb hb=>iC l b hb)
    ·simp only[hk,if_false,E2]
    ·exact((ex.stay (hg.fG hb) (free l b hk hb)).2.2 c).trans hn
  ·rcases tq l b h1 with ⟨k1,o1⟩|⟨k1,o1⟩<;>rcases tq l' b h2 with ⟨k2,o2⟩|⟨k2,o2⟩
   ·exact g.sep o1 o2
   ·exact absurd o1 ((ex.stay (hg.fG o2) (free l' b k2 o2)).2.1 l)
   ·exact absurd o2 ((ex.stay (hg.fG o1) (free l b k1 o1)).2.1 l')
   ·exact hg.sep o1 o2
  ·have:=hg.fresh hl;have hk:¬l<H2.length:=by simp at hl;omega
   exact⟨this.1,λm=>by simp only[E2,hk,if_false];exact this.2 m⟩
 refine⟨E2,⟨hle,ex.size,ag3 _,λ_ _=>rfl,λ_ _ ho=>iC _ _ ho,λ_=>rfl,λ{b} hb h0=> ?_⟩,vz,λy v hr hl=>conv hr hl⟩;have eU:∀k,¬owns (E.cut H2.length) H2 k b:=λk hk=>h0 k (WS k b hk).2
 have gY:=ex.stay hb eU;refine⟨gY.1,λl ho=> ?_,λo=>gY.2.2 o⟩;rcases tq l b ho with ⟨_,o1⟩|⟨_,o1⟩
 ·exact gY.2.1 l o1
 ·exact h0 l o1
theorem Bn {E:Env}{H J:aa}{w0 w:World}(hg:Good E (H++J) w0 w) (hH:∀o∈H,cH H.length o=true):Good (E.cut H.length) H w0 w:=by
 have Bm:(H++J).take H.length=H:=by simp
 have:=hg.trim (n:=H.length) (by rw[Bm];exact hH);rwa [Bm]at this
theorem jU {E:Env}{H:aa}{l k b:Nat}(h:owns E (H.set l .dead) k b):owns E H k b/\k≠l:=by
 by_cases hk:l=k
 ·subst hk;have cO:=my h;unfold owns at h;rw[ahd (by simpa using cO)]at h;exact h.elim
 ·refine⟨?_,λe=>hk e.symm⟩;unfold owns at h ⊢;rwa [ag7 hk]at h
theorem Good.rL {E:Env}{H:aa}{w0 w:World}(g:Good E H w0 w) (l:Nat):Good E (H.set l .dead) w0 w:=by
 refine⟨g.below,λh=>g.snap h,λ{k o} h=> ?_,λ{k k' b} h1 h2=>g.sep (jU h1).1 (jU h2).1,λ{k} h=>g.fresh (by simpa using h),λh=>g.mb h⟩;by_cases hk:l=k
 ·subst hk;have cO:l<H.length:=by have:=(ag5.1 h).1;simpa using this
  rw[ahd cO]at h;cases h;exact trivial
 ·rw[ag7 hk]at h;exact g.obj h
theorem mC {P:Program}{f:FuncId}{args:List AV}{x:AV}{H:aa}(h:bZ P f args x H H []) (dn:dG H.length args=true) (hx:ff H.length x=true) (hH:∀o∈H,cH H.length o=true) (J:aa):bZ P f args x (H++J) (H++J) []:=by
 refine⟨h.1,λE w0 w vs hg hr=> ?_,.refl _ _⟩;have Z8:ji (E.cut H.length) args vs:=⟨hr.1,λi x hx=>(hr.2 i x hx).cut (fi dn x (ahf hx))⟩
 refine(h.2.1 (E.cut H.length) w0 w vs (Bn hg hH) Z8).mono ?_;rintro e w' ⟨E',re,ex,g⟩
 cases re with
 |ret x v hv=>
  obtain⟨E2,iK,g2,conv⟩:=wA (n0:=(H++J).length) (W:=(·∈([]:List Nat))) hg (ex.weaken (ag3 _) (λl _ hl=>by simp at hl)) g hH;exact⟨E2,.ret _ _ (conv _ _ hv hx),iK,g2⟩
def nV (ks:List ByteArray) (s:ByteArray):Option Nat:=ks.findIdx? (λk=>s==k)
theorem uj (s:ByteArray):∀(es:List (Value×AV)) (ks:List ByteArray) (i:Nat),es.map (·.1)=ks.map Value.string->ju .string (.string s) es i=some ((nV ks s).map (·+i))
 |[],[],i,_=>rfl
 |[],k::ks,i,h=>by simp at h
 |e::es,[],i,h=>by simp at h
 |e::es,k::ks,i,h=>by
  simp only[ahJ,List.cons.injEq]at h;unfold ju;rw[h.1];show (match some (s==k)with
   |some true=>some (some i)
   |some false=>ju .string (.string s) es (i+1)
   |none=>none)=_
  unfold nV;rw[List.findIdx?_cons];cases hk:(s==k)with
  |true=>simp
  |false=>
   simp only[uj s es ks (i+1) h.2];unfold nV;cases ks.findIdx? (λk=>s==k)with
   |none=>rfl
   |some j=>simp;omega
theorem oU {P:Program}{kt:TypeId}{s:ByteArray}{es:List (Value×AV)}{ks:List ByteArray}(h:es.map (·.1)=ks.map Value.string):gb P kt .string (.string s) es=some (nV ks s):=by
 unfold gb;rw[uj s es ks 0 h];cases nV ks s<;>rfl
theorem uk {ks:List ByteArray}{s:ByteArray}{i:Nat}(h:nV ks s=some i):∃k,ks[i]? =some k/\(s==k)=true:=by
 unfold nV at h;rw[ah4]at h;obtain⟨h1,h2,_⟩:=h;exact⟨ks[i],ahc h1,h2⟩
section
variable {P:Program}{o:Oper}{T:List AV}{H:aa}{E:Env}{w0 w:World}
def Fg (es:List (ByteArray×List ByteArray)):List (Value×AV):=es.map λe=>(.string e.1,.any)
theorem Bo (es:List (ByteArray×List ByteArray)):(Fg es).map (·.1)=(es.map (·.1)).map Value.string:=by simp[Fg,Function.comp_def]
theorem j1.Pz {l b base:Nat}{es:List (ByteArray×List ByteArray)}{pd:Option (Nat×List ByteArray)}{ms:Array MapEntry}{ck:Nat}{hp:Array Obj}(h:j1 E l b base es pd ms ck hp):KeysOf (Fg es) ms.toList:=by
 refine⟨by simp[Fg,h.size],λj e hj=> ?_⟩;simp only[Fg,ahy,ahE]at hj;obtain⟨x,hx,rfl⟩:=hj;obtain⟨m,h1,h2,_⟩:=h.keys j x hx;exact⟨m,by simpa using h1,h2⟩
def fH (es:List (ByteArray×List ByteArray)) (s:ByteArray):Nat:=(nV (es.map (·.1)) s).getD es.length
def jJ (es:List (ByteArray×List ByteArray)) (i:Nat):Nat:=match es[i]? with
 |some e=>e.2.length
 |none=>0
def oV (es:List (ByteArray×List ByteArray)) (i:Nat):List ByteArray:=match es[i]? with
 |some e=>e.2
 |none=>[]
theorem Fh {t kt et:TypeId}{z:Value}{p q:Operand}{l:Nat}{es:List (ByteArray×List ByteArray)}{s:ByteArray}(ho:o.op= .lookup t p q false) (hT:EZ P t kt et .string z (.string s)) (hz:z= .slice none 0 0) (hp:bk T p= .cU l) (hl:H[l]? =some (.rows es none)) (hq:bk T q= .sc (.string s)):
  oH P o T H (.fY l (fH es s) (jJ es (fH es s))):=by
 refine cL λE w0 w ρ hg ht=> ?_
 have hr:=ht p (by simp[ho,Op.operands]);rw[hp]at hr;have TE:ρ q= .string s:=oO (ht q (by simp[ho,Op.operands])) (by rw[hq];rfl);generalize hv:ρ p=v at hr
 cases hr with
 |cU l b hb=>
  obtain⟨b2,vg,h1,ms,ck,h3,h4⟩:=hg.obj hl;rw[hb]at vg;cases vg;obtain⟨dz,cO⟩:=jR hT.kd h4.Pz (oU (P:=P) (kt:=kt) (s:=s) (Bo es)) w;have fx:(getObj b).run P w= .ok (.map ms ck) w:=by simp[getObj,Sem.run,h3]
  cases hf:nV (es.map (·.1)) s with
  |none=>
   have e1:fH es s=es.length:=by unfold fH;rw[hf];rfl
   have e2:jJ es es.length=0:=by unfold jJ;rw[ahu (ag3 _)]
   rw[hf]at dz;refine⟨.slice none 0 0,?_,by rw[e1,e2];exact .jq _ _⟩;simp only[execOp,ho,Instr.lookup,hv,TE,Sem.run_bind,aj hT.ty,Result.andThen_ok,fx,Sem.run_pure,aj (hT.MM ms.isEmpty),dz,CL,aj hT.zero,hz];rfl
  |some i=>
   have e1:fH es s=i:=by unfold fH;rw[hf];rfl
   obtain⟨k,hk,_⟩:=uk hf;simp only[ahy,ahE]at hk;obtain⟨e,he,rfl⟩:=hk;have e2:jJ es i=e.2.length:=by unfold jJ;rw[he]
   obtain⟨m,hm,_,vu⟩:=h4.keys i e he;obtain⟨b',c,hG,hmv⟩:=vu (λ_ hc=>by cases hc);obtain⟨h0,b2,c2,arr,T2,q1,_,_,_,_,q6,_⟩:=h4.lB i e.2 (by simp[rowAt,he]);rw[hG]at q1;simp only[ag6,ahe]at q1;obtain⟨rfl,rfl⟩:=q1;rw[hf]at dz;have jZ:ms.toList[i]? =some m:=by simpa using hm
   refine⟨m.val,?_,by rw[e1,e2,hmv];exact .fY _ _ _ _ _ hG h0 q6⟩;simp only[execOp,ho,Instr.lookup,hv,TE,Sem.run_bind,aj hT.ty,Result.andThen_ok,fx,Sem.run_pure,aj (hT.MM ms.isEmpty),dz,CL,Nat.sub_zero,jZ,ahs];rfl
end
theorem CU {E:Env}{H:aa}{k b:Nat}(h:owns E H k b):k<H.length:=by
 apply ahW;intro hc;unfold owns at h;rw[ahu (ah9 hc)]at h;exact h.elim
theorem iO (es:List (ByteArray×List ByteArray)) (i:Nat):rowAt es none i=(es[i]?).map (·.2):=rfl
theorem ij (es:List (ByteArray×List ByteArray)) (i:Nat) (ss:List ByteArray):rowAt es (some (i,ss)) i=some ss:=by simp[rowAt]
theorem gy (es:List (ByteArray×List ByteArray)){i j:Nat}(ss:List ByteArray) (h:j≠i):rowAt es (some (i,ss)) j=(es[j]?).map (·.2):=by simp[rowAt,h]
section
variable {P:Program}{o:Oper}{T:List AV}{H:aa}{E:Env}{w0 w:World}
structure Grown (E:Env) (H:aa) (w0 w:World) (l i n:Nat) (E2:Env) (H2:aa) (w2:World):Prop where
 vz:Good E2 H2 w0 w2
 tl:H2[H.length]? =some (.tail (n+1) 1)
 leφ:∀{k b},E.φ k=some b->E2.φ k=some b
 leS:∀{b o u},E.S b o=some u->E2.S b o=some u
 iX:∀{k b},k≠l->owns E H k b->w2.heap[b]? =w.heap[b]?/\owns E2 H2 k b
 stay:∀{b},b<w.heap.size->(∀k,k≠l->¬owns E H k b)->(∀c,n≠0->E.G l (code i n)≠some (b,c))->w2.heap[b]? =w.heap[b]?/\∀k,¬owns E2 H2 k b
 size:nN w w2
theorem Bp {l i n:Nat}{es:List (ByteArray×List ByteArray)}{ss:List ByteArray}{E2:Env}{H2:aa}{w2:World}{el:Nat->List AV}{v:Value}(g:Good E H w0 w) (hl:H[l]? =some (.rows es none)) (KW:ss.length=n+1)
  (hn:n=jJ es i) (k:Grown E H w0 w l i n E2 H2 w2) (hv:Rel E2 (.aY false 1 (n+1) el (.tok H.length)) v) (KQ:∀j s,ss[j]? =some s->el j=[.sc (.string s)]):
  ∃E3,Ext H.length (·∈[l]) E H w E3 (H.set l (.rows es (some (i,ss)))) w2/\Good E3 (H.set l (.rows es (some (i,ss)))) w0 w2/\Rel E3 (.fY l i (n+1)) v:=by
 have vr:l<H.length:=(ag5.1 hl).1;obtain⟨b,hb,jO,ms,ck,vA,hR⟩:=g.obj hl
 cases hv with
 |aY _ _ _ _ b2 off c2 u OZ ho ME hlen h1 hS hk=>
  obtain⟨WT,acR,vw⟩:=ho;subst acR;have tq:owns E2 H2 H.length b2:=by unfold owns;rw[k.tl];exact⟨c2,WT⟩
  have aaa:=k.vz.TN tq;obtain⟨b',c',arr,Ty,q1,q2,q3,q4,q5,q6,q7,q8⟩:=k.vz.obj k.tl;rw[WT]at q1;simp only[ag6,ahe]at q1;obtain⟨rfl,rfl⟩:=q1;have cont:∀(j:Nat) (s:ByteArray),ss[j]? =some s->arr[j]? =some (.string s):=by
   intro j s hj;have rE:j<n+1:=by rw[←KW];exact(ag5.1 hj).1
   have e0:(el j)[0]? =some (.sc (.string s)):=by rw[KQ j s hj];rfl
   have hs:=k.vz.snap (hS j rE 0 _ e0);have hr:=hk j rE 0 _ e0;rw[show 0+j*1+0=j by omega,gL q3]at hs;rw[hs];generalize u j 0=x at hr
   cases hr with
   |sc _ _=>rfl
  have aab:∀x,owns E H l x->∀k',k'≠l->¬owns E H k' x:=λx hx k' ix hc=>ix (g.sep hc hx)
  have AL:owns E H l b:=by unfold owns;rw[hl];exact⟨b,hb,.inl rfl⟩
  have Um:∀j rr x c,rowAt es none j=some rr->E.G l (code j rr.length)=some (x,c)->owns E H l x:=λj rr x c h1 h2=>by unfold owns;rw[hl];exact⟨b,hb,.inr ⟨j,rr,c,h1,h2⟩⟩
  have Jg:∀k' x,k'≠l->owns E H k' x->x≠b2:=λk' x ix hx e=>by
   subst e;have:=k.vz.sep (k.iX ix hx).2 tq;have:=CU hx;omega
  have KX:=k.stay (g.mb hb) (aab b AL) (λc h0 hc=>by
   cases he:es[i]? with
   |none=>rw[hn]at h0;unfold jJ at h0;rw[he]at h0;exact h0 rfl
   |some e=>
    have e1:n=e.2.length:=by rw[hn];unfold jJ;rw[he]
    obtain⟨_,b3,c3,acS,T3,p1,p2,p3,_⟩:=hR.lB i e.2 (by rw[iO,he];rfl);rw[←e1,hc]at p1;simp only[ag6,ahe]at p1;exact p3 p1.1.symm)
  have acT:b2≠b:=λe=>by subst e;exact KX.2 _ tq
  have CV:∀j rr x c,j≠i->rowAt es none j=some rr->E.G l (code j rr.length)=some (x,c)->w2.heap[x]? =w.heap[x]?/\∀k',¬owns E2 H2 k' x:=λj rr x c hj h1 h2=>
   k.stay (g.fG (Um j rr x c h1 h2)) (aab x (Um j rr x c h1 h2)) (λc' h0 hc=>by
    cases he:es[i]? with
    |none=>rw[hn]at h0;unfold jJ at h0;rw[he]at h0;exact h0 rfl
    |some e=>
     have e1:n=e.2.length:=by rw[hn];unfold jJ;rw[he]
     rw[e1]at hc;exact hj (hR.sep j i rr e.2 x c c' h1 (by rw[iO,he];rfl) h2 hc))
  have S2:∀o,E.S b2 o=none:=by
   intro o
   cases hso:E.S b2 o with
   |none=>rfl
   |some u'=>
    exfalso;have cO:=g.ZG hso;by_cases qk:∃c,n≠0/\E.G l (code i n)=some (b2,c)
    ·obtain⟨c,h0,hc⟩:=qk
     cases he:es[i]? with
     |none=>rw[hn]at h0;unfold jJ at h0;rw[he]at h0;exact h0 rfl
     |some e=>
      have e1:n=e.2.length:=by rw[hn];unfold jJ;rw[he]
      obtain⟨_,b3,c3,acS,T3,p1,p2,p3,p4,p5,p6,p7,p8,_⟩:=hR.lB i e.2 (by rw[iO,he];rfl);rw[←e1,hc]at p1;simp only[ag6,ahe]at p1;rw[←p1.1]at p8;rw[p8 o]at hso;cases hso
    ·exact(k.stay cO (λk' ix hc=>Jg k' b2 ix hc rfl) (λc h0 hc=>qk ⟨c,h0,hc⟩)).2 _ tq
  let E3:Env:={ E with G:=λk' m=>if k'=l/\m=code i (n+1)then some (b2,c2)else E.G k' m}
  have Fi:E3.G l (code i (n+1))=some (b2,c2):=by simp[E3]
  have Fj:∀m,m≠code i (n+1)->E3.G l m=E.G l m:=λm hm=>by simp[E3,hm]
  have aH:∀k' m,k'≠l->E3.G k' m=E.G k' m:=λk' m ix=>by simp[E3,ix]
  have eU:E.G l (code i (n+1))=none:=hR.free i (n+1) (λKv h=>by
   rw[iO]at h
   cases he:es[i]? with
   |none=>rw[he]at h;cases h
   |some e=>
    rw[he]at h;cases h;have e1:n=e.2.length:=by rw[hn];unfold jJ;rw[he]
    show e.2.length<n+1;omega)
  have le3:E.le E3:=⟨λh=>h,λh=>h,λ{k' m x} h=>by
   by_cases hx:k'=l/\m=code i (n+1)
   ·obtain⟨rfl,rfl⟩:=hx;rw[eU]at h;cases h
   ·simp only[E3,hx,if_false];exact h⟩
  have Fk:(H.set l (.rows es (some (i,ss))))[l]? =some (.rows es (some (i,ss))):=ahd vr;have PA:∀k',k'≠l->(H.set l (.rows es (some (i,ss))))[k']? =H[k']? :=λk' ix=>ag7 (λe=>ix e.symm)
  have chr:∀k' x,owns E3 (H.set l (.rows es (some (i,ss)))) k' x->(k'≠l/\owns E H k' x)∨(k'=l/\(x=b2∨(owns E H l x/\(x=b∨∃j rr c,j≠i/\rowAt es none j=some rr/\E.G l (code j rr.length)=some (x,c))))):=by
   intro k' x hx;by_cases ix:k'=l
   ·subst ix;refine .inr ⟨rfl,?_⟩;unfold owns at hx;rw[Fk]at hx;obtain⟨y,hy,hx⟩:=hx;have hy':E.φ k'=some y:=hy;rw[hb]at hy';cases hy';rcases hx with rfl|⟨j,rr,c,h1,h2⟩
    ·exact .inr ⟨AL,.inl rfl⟩
    ·by_cases hj:j=i
     ·subst hj;rw[ij]at h1;cases h1;rw[KW,Fi]at h2;simp only[ag6,ahe]at h2;exact .inl h2.1.symm
     ·rw[gy es ss hj]at h1;rw[Fj _ (λe=>hj (iJ e).1)]at h2;exact .inr ⟨Um j rr x c h1 h2,.inr ⟨j,rr,c,hj,h1,h2⟩⟩
   ·refine .inl ⟨ix,?_⟩;unfold owns at hx ⊢;rw[PA k' ix]at hx
    cases hq:H[k']? with
    |none=>rw[hq]at hx;exact hx
    |some q=>
     rw[hq]at hx
     cases q with
     |tail n' mO=>obtain⟨c,hc⟩:=hx;exact⟨c,(aH k' n' ix).symm.trans hc⟩
     |cu n'=>obtain⟨c,hc⟩:=hx;exact⟨c,(aH k' n' ix).symm.trans hc⟩
     |rows es' pd'=>
      obtain⟨y,hy,hx⟩:=hx;refine⟨y,hy,?_⟩;rcases hx with hx|⟨j,rr,c,p1,p2⟩
      ·exact .inl hx
      ·exact .inr ⟨j,rr,c,p1,(aH k' _ ix).symm.trans p2⟩
     |_=>exact hx
  refine⟨E3,⟨le3,k.size,by simp,λ{k'} ix hw=>PA k' (λe=>hw (by simp[e])),λ{k' x} ix hw ho=>(k.iX (λe=>hw (by simp[e])) ho).1,λ_=>rfl,λ{x} hx h0=> ?_⟩,⟨k.vz.below,λh=>k.vz.snap (k.leS h),λ{k' o'} ix=> ?_,λ{k1 k2 x} XP ZZ=> ?_,λ{k'} ix=> ?_,λ{k' x} h=>ahz (g.mb h) k.size.heap⟩,.fY l i (n+1) b2 c2 Fi (by omega) vw⟩
  ·have gY:=k.stay hx (λk' _=>h0 k') (λc sx hc=>h0 l (by
    cases he:es[i]? with
    |none=>rw[hn]at sx;unfold jJ at sx;rw[he]at sx;exact absurd rfl sx
    |some e=>
     have e1:n=e.2.length:=by rw[hn];unfold jJ;rw[he]
     exact Um i e.2 x c (by rw[iO,he];rfl) (by rw[←e1];exact hc)))
   refine⟨gY.1,λk' ho=> ?_,λo=>rfl⟩;rcases chr k' x ho with ⟨_,h⟩|⟨_,h|⟨h,_⟩⟩
   ·exact h0 k' h
   ·subst h;exact gY.2 _ tq
   ·exact h0 l h
  ·by_cases jI:k'=l
   ·subst jI;rw[Fk]at ix;cases ix;refine⟨b,hb,jO,ms,ck,KX.1.trans vA,⟨hR.size,λj e he=> ?_,hR.TL,hR.inj,λj rr hj=> ?_,λj j' rr rr' x c c' h1 h2 h3 h4=> ?_,λj m hm=> ?_⟩⟩
    ·obtain⟨m,m1,m2,m3⟩:=hR.keys j e he;refine⟨m,m1,m2,λhp=> ?_⟩;have qi:j≠i:=λe'=>hp ss (by rw[e'])
     obtain⟨b',c',p1,p2⟩:=m3 (λ_ h=>by cases h);exact⟨b',c',(Fj _ (λe'=>qi (iJ e').1)).trans p1,p2⟩
    ·by_cases qi:j=i
     ·subst qi;rw[ij]at hj;cases hj;exact⟨by omega,b2,c2,arr,Ty,by rw[KW];exact Fi,aaa,acT,q3,by omega,by omega,q6,S2,cont⟩
     ·rw[gy es ss qi]at hj;obtain⟨z0,b',c',lF,T',p1,p2,p3,p4,p5,p6,p7,p8,p9⟩:=hR.lB j rr hj;exact⟨z0,b',c',lF,T',(Fj _ (λe'=>qi (iJ e').1)).trans p1,p2,p3,(CV j rr b' c' qi hj p1).1.trans p4,p5,p6,p7,p8,p9⟩
    ·by_cases hj:j=i<;>by_cases su:j'=i
     ·rw[hj,su]
     ·exfalso;subst hj;rw[ij]at h1;cases h1;rw[gy es ss su]at h2;rw[KW,Fi]at h3;simp only[ag6,ahe]at h3;rw[Fj _ (λe'=>su (iJ e').1),←h3.1]at h4;exact(CV j' rr' b2 c' su h2 h4).2 _ tq
     ·exfalso;subst su;rw[ij]at h2;cases h2;rw[gy es ss hj]at h1;rw[KW,Fi]at h4;simp only[ag6,ahe]at h4;rw[Fj _ (λe'=>hj (iJ e').1),←h4.1]at h3;exact(CV j rr b2 c hj h1 h3).2 _ tq
     ·rw[gy es ss hj]at h1;rw[gy es ss su]at h2;rw[Fj _ (λe'=>hj (iJ e').1)]at h3;rw[Fj _ (λe'=>su (iJ e').1)]at h4;exact hR.sep j j' rr rr' x c c' h1 h2 h3 h4
    ·have gX:code j m≠code i (n+1):=λe'=>by
      obtain⟨rfl,rfl⟩:=iJ e';have:=hm ss (ij es j ss);omega
     rw[Fj _ gX];refine hR.free j m (λKv h=> ?_);by_cases qi:j=i
     ·subst qi;have h2:=hm ss (ij es j ss);rw[iO]at h
      cases he:es[j]? with
      |none=>rw[he]at h;cases h
      |some e=>
       rw[he]at h;cases h;have e1:n=e.2.length:=by rw[hn];unfold jJ;rw[he]
       show e.2.length<m;omega
     ·exact hm Kv (by rw[gy es ss qi];exact h)
   ·rw[PA k' jI]at ix;exact(g.obj ix).step ix le3 (λ_ h=>h) (λm=>aH k' m jI) (λ_ _ _ _ h=>h) (λx hx=>(k.iX jI hx).1)
  ·rcases chr k1 x XP with ⟨p1,p2⟩|⟨p1,p2⟩<;>rcases chr k2 x ZZ with ⟨r1,r2⟩|⟨r1,r2⟩
   ·exact g.sep p2 r2
   ·rcases r2 with r2|⟨r2,_⟩
    ·exact absurd r2 (Jg k1 x p1 p2)
    ·exact absurd (g.sep p2 r2) p1
   ·rcases p2 with p2|⟨p2,_⟩
    ·exact absurd p2 (Jg k2 x r1 r2)
    ·exact absurd (g.sep r2 p2) r1
   ·rw[p1,r1]
  ·have w9:H.length<=k':=by simpa using ix
   have:=g.fresh w9;exact⟨this.1,λm=>(aH k' m (by omega)).trans (this.2 m)⟩
end
section
variable {P:Program}{o:Oper}{T:List AV}{H:aa}{E:Env}{w0 w:World}
def yL (ss:List ByteArray):Nat->List AV:=λj=>[.sc (.string (ss.getD j ⟨#[]⟩))]
theorem wB {E:Env}{H:aa}{l k b:Nat}{o':bu}(hk:k≠l) (h:owns E H k b):owns E (H.set l o') k b:=by
 unfold owns at h ⊢;rwa [ag7 (λe=>hk e.symm)]
theorem Fl {c:Call}{p q:Operand}{bytes l i n:Nat}{es:List (ByteArray×List ByteArray)}{s:ByteArray}{el2:Nat->List AV}(hc:xa P c p q 1 bytes) (ho:o.op= .call c) (hp:bk T p= .fY l i n) (hq:jj 1 (bk T q)=some (1,el2)) (KQ:el2 0=[.sc (.string s)]) (hl:H[l]? =some (.rows es none))
  (hn:n=jJ es i) (j9:(n+1)*bytes<=2 ^ 46) (hlen:n+1<2 ^ 62):kX P o T H (.fY l i (n+1)) (H.set l (.rows es (some (i,oV es i++[s])))) [l]:=by
 refine fV λE w0 w ρ hg ht=> ?_
 have hr:=ht p (by simp[ho,Op.operands,Call.operands,hc.args]);have mW:=ht q (by simp[ho,Op.operands,Call.operands,hc.args]);rw[hp]at hr;have vr:l<H.length:=(ag5.1 hl).1;have Zn:(oV es i).length=n:=by
  rw[hn];unfold oV jJ;cases es[i]? <;>rfl
 have KW:(oV es i++[s]).length=n+1:=by simp[Zn]
 obtain⟨gk,sF⟩:=oQ hg l;have hfr:=gk.fresh (l:=(H.set l .dead).length) (ag3 _);have oE:(H.set l bu.dead).length=H.length:=by simp
 generalize hv:ρ p=v at hr
 cases hr with
 |jq=>
  obtain⟨E',v',w',dz,hex,PB,hrel⟩:=lR (P:=P) (t:=(H.set l .dead).length) (n0:=(H.set l .dead).length) (W:=λ_=>False) (nl:=true) (n:=0) (k:=0) (el:=λ_=>[]) (own:= .tight) hc mW gk ho (by rw[hv];exact .fw _ _ _ (.inr rfl)) hv hq (by omega) j9 hlen (ag3 _) (ag3 _) (λh=>absurd h (ahZ _)) (λj _=>hfr.2 j);have hk:Grown E H w0 w l i 0 E' (ic (H.set l .dead) (H.set l .dead).length (.tail (0+1) 1)) w':=by
   refine⟨PB,by rw[←oE];exact iZ (ag3 _),λh=>hex.le.φ h,λh=>hex.le.S h,λ{k b} hk hb=> ?_,λ{b} hb h0 _=> ?_,hex.size⟩
   ·have mr:=wB (o':= .dead) hk hb;have jI:=CU mr;exact⟨hex.iX jI (λh=>h) mr,mr.step hex.le (hex.same jI (λh=>h))⟩
   ·obtain⟨a1,a2,_⟩:=hex.stay hb (λk hk=>h0 k (sF k b hk).2 (sF k b hk).1);exact⟨a1,a2⟩
  obtain⟨E3,x1,x2,x3⟩:=Bp hg hl KW hn hk (by rw[←oE];exact hrel) (λj s' hj=>by
   have X4:j=0:=by have:=(ag5.1 hj).1;rw[KW]at this;omega
   subst X4;have Z8:oV es i=[]:=ahK.1 Zn;rw[Z8]at hj;simp at hj;subst hj;simp[KQ])
  exact⟨E3,v',w',dz,x1,x2,x3⟩
 |fY _ _ _ b1 c1 hG1 sx ME=>
  obtain⟨b,hb,jO,ms,ck,vA,hR⟩:=hg.obj hl
  cases he:es[i]? with
  |none=>rw[hn]at sx;unfold jJ at sx;rw[he]at sx;exact absurd sx (ahZ _)
  |some e=>
   have e1:n=e.2.length:=by rw[hn];unfold jJ;rw[he]
   have e2:oV es i=e.2:=by unfold oV;rw[he]
   have qk:rowAt es none i=some e.2:=by rw[iO,he];rfl
   obtain⟨_,b',c',arr,Ty,p1,p2,p3,p4,p5,p6,p7,p8,p9⟩:=hR.lB i e.2 qk;rw[←e1,hG1]at p1;simp only[ag6,ahe]at p1;obtain⟨rfl,rfl⟩:=p1;have Un:owns E H l b1:=by unfold owns;rw[hl];exact⟨b,hb,.inr ⟨i,e.2,c1,qk,by rw[←e1];exact hG1⟩⟩
   have eU:∀k,¬owns E (H.set l .dead) k b1:=λk hk=>(sF k b1 hk).2 (hg.sep (sF k b1 hk).1 Un)
   have g1:=gk.IJ (t:=(H.set l .dead).length) (n:=n) (sz:=1) (b:=b1) (c:=c1) (arr:=arr) (T:=Ty) (ag3 _) (λk hk=>absurd hk (eU k)) p2 p4 (by omega) ME p7 (λo _=>p8 o) (λm _=>hfr.2 m);generalize OO:E.grown b1 arr (n*1) (H.set l .dead).length n c1=E1 at g1;have Uo:E.le E1:=OO▸jr (hfr.2 n);have WT:E1.G (H.set l .dead).length n=some (b1,c1):=by rw[←OO];simp[Env.grown]
   have hx1:(ic (H.set l .dead) (H.set l .dead).length (.tail n 1))[(H.set l bu.dead).length]? =some (.tail n 1):=iZ (ag3 _);have hxo:∀k,k≠(H.set l bu.dead).length->(ic (H.set l .dead) (H.set l .dead).length (.tail n 1))[k]? =(H.set l bu.dead)[k]? :=λk hk=>j7 (ag3 _) hk
   have hxl:(ic (H.set l .dead) (H.set l .dead).length (.tail n 1)).length=H.length+1:=by rw[iN (ag3 _),if_neg (ahZ _),oE]
   have aad:∀k x,owns E1 (ic (H.set l .dead) (H.set l .dead).length (.tail n 1)) k x->owns E (H.set l .dead) k x∨x=b1:=λk x hk=>qz (ag3 _) (by rw[OO];exact hk)
   generalize hHx:ic (H.set l .dead) (H.set l .dead).length (.tail n 1)=Hx at*;have Uf:Rel E1 (.aY false 1 n (yL e.2) (.tok (H.set l .dead).length)) (.slice (some ⟨b1,0,none⟩) n c1):=by
    refine .aY 1 n _ (.tok (H.set l .dead).length) b1 0 c1 (λj _=> .string (e.2.getD j ⟨#[]⟩)) p7 ⟨WT,rfl,ME⟩ ME (λj _=>rfl) (λj _ x hx=>by simp[yL]at hx;subst hx;rfl) (λj hj k x hx=> ?_) (λj hj k x hx=> ?_)
    ·match k,hx with
     |0,hx=>
      have rE:j<e.2.length:=by omega
      have:=p9 j e.2[j] (ahc rE);rw[←OO];simp only[Env.grown,if_true,p8,aiw];rw[if_pos (by omega),show 0+j*1+0=j by omega,this];simp[ag4,rE]
    ·match k,hx with
     |0,hx=>simp[yL]at hx;subst hx;exact .sc _ rfl
   have aae:Rel E1 (bk T q) (ρ q):=mW.mono Uo;have app:∃E' v' w',(execOp ρ o).run P w= .ok (.value v') w'/\Ext Hx.length (·∈[(H.set l bu.dead).length]) E1 Hx w E' (ic Hx (H.set l .dead).length (.tail (n+1) 1)) w'/\Good E' (ic Hx (H.set l .dead).length (.tail (n+1) 1)) w0 w'/\
     Rel E' (.aY false 1 (n+1) (λj=>if j<n then yL e.2 j else el2 (j-n)) (.tok (H.set l .dead).length)) v':=by
    by_cases vm:n+1<=c1
    ·exact ua hc aae g1 ho Uf hv WT hx1 hq (by omega) vm
    ·refine lR (P:=P) (t:=(H.set l .dead).length) (n0:=Hx.length) (W:=(·∈[(H.set l bu.dead).length])) hc aae g1 ho (hv▸Uf) hv hq (by omega) j9 hlen (ag3 _) (by omega) (λ_=>by simp) (λj hj=> ?_);rw[←OO];simp only[Env.grown];rw[if_neg (by omega)];exact hfr.2 j
   obtain⟨E',v',w',dz,hex,PB,hrel⟩:=app;have hk:Grown E H w0 w l i n E' (ic Hx (H.set l .dead).length (.tail (n+1) 1)) w':=by
    refine⟨PB,by rw[←oE];exact iZ (by omega),λh=>hex.le.φ (Uo.φ h),λh=>hex.le.S (Uo.S h),λ{k x} hk hx=> ?_,λ{x} hx h0 h1=> ?_,hex.size⟩
    ·have mr:=wB (o':= .dead) hk hx;have jI:=CU mr;have aK:k≠(H.set l bu.dead).length:=by omega
     have vg:owns E1 Hx k x:=mr.step Uo (hxo k aK);have hkx:k<Hx.length:=by omega
     exact⟨hex.iX hkx (by simp only[aiy];exact aK) vg,vg.step hex.le (hex.same hkx (by simp only[aiy];exact aK))⟩
    ·obtain⟨a1,a2,_⟩:=hex.stay hx (λk hk=>by
      rcases aad k x hk with h|h
      ·exact h0 k (sF k x h).2 (sF k x h).1
      ·subst h;exact h1 c1 (by omega) hG1)
     exact⟨a1,a2⟩
   obtain⟨E3,x1,x2,x3⟩:=Bp hg hl KW hn hk (by rw[←oE];exact hrel) (λj s' hj=>by
    rw[e2]at hj;by_cases sv:j<n
    ·rw[if_pos sv];rw[ahb (by omega)]at hj;simp[yL,ag4,hj]
    ·have rE:=(ag5.1 hj).1;simp at rE;have X4:j=n:=by omega
     subst X4;rw[if_neg sv,ahX,KQ];rw[e1,ahi (ag3 _),ahX]at hj;simp at hj;rw[hj])
   exact⟨E3,v',w',dz,x1,x2,x3⟩
end
section
variable {P:Program}{o:Oper}{T:List AV}{H:aa}{E:Env}{w0 w:World}
theorem rM {E:Env}{H:aa}{l x:Nat}{es:List (ByteArray×List ByteArray)}{pd:Option (Nat×List ByteArray)}(hl:H[l]? =some (.rows es pd)):owns E H l x↔∃y,E.φ l=some y/\(y=x∨∃i ss c,rowAt es pd i=some ss/\E.G l (code i ss.length)=some (x,c)):=by
 unfold owns;rw[hl]
theorem um {a b:ByteArray}(h:(a==b)=true):a=b:=by
 cases a with
 |mk a=>
  cases b with
  |mk b=>
   have h':(a==b)=true:=h;rw[eq_of_beq h']
theorem nW (a:ByteArray):(a==a)=true:=by
 cases a with
 |mk a=>
  show (a==a)=true;exact beq_self_eq_true a
theorem Good.KY (g:Good E H w0 w){l b:Nat}{es es':List (ByteArray×List ByteArray)}{pd:Option (Nat×List ByteArray)}{ms ms':Array MapEntry}{ck ck':Nat}(hl:H[l]? =some (.rows es pd)) (hb:E.φ l=some b) (vA:w.heap[b]? =some (.map ms ck)) (hR:j1 E l b w0.heap.size es pd ms ck w.heap)
  (qk:∀j,rowAt es' none j=rowAt es pd j) (Bf:ms'.size=es'.length)
  (aag:∀i e,es'[i]? =some e->∃m:MapEntry,ms'[i]? =some m/\m.key= .string e.1/\∃b' c,E.G l (code i e.2.length)=some (b',c)/\m.val= .slice (some ⟨b',0,none⟩) e.2.length c)
  (acX:∀(i:Nat) (m:MapEntry),ms'[i]? =some m->m.born<ck') (X5:∀(i j:Nat) (m m':MapEntry),ms'[i]? =some m->ms'[j]? =some m'->m.born=m'.born->i=j):
  Good E (H.set l (.rows es' none)) w0 { w with heap:=w.heap.setIfInBounds b (.map ms' ck')}/\Ext H.length (·∈[l]) E H w E (H.set l (.rows es' none)) { w with heap:=w.heap.setIfInBounds b (.map ms' ck')}:=by
 have vr:l<H.length:=(ag5.1 hl).1;have xf:b<w.heap.size:=(aha.1 vA).1;have iz:∀c,c≠b->({ w with heap:=w.heap.setIfInBounds b (.map ms' ck')}:World).heap[c]? =w.heap[c]? :=λc hc=>ahm (Ne.symm hc)
 have jO:w0.heap.size<=b:=by
  obtain⟨b2,vg,h1,_⟩:=g.obj hl;rw[hb]at vg;cases vg;exact h1
 have AL:owns E H l b:=(rM hl).2 ⟨b,hb,.inl rfl⟩;have Fk:(H.set l (.rows es' none))[l]? =some (.rows es' none):=ahd vr;have PA:∀k,k≠l->(H.set l (.rows es' none))[k]? =H[k]? :=λk hk=>ag7 (λe=>hk e.symm)
 have oW:∀k x,owns E (H.set l (.rows es' none)) k x↔owns E H k x:=by
  intro k x;by_cases hk:k=l
  ·subst hk;rw[rM Fk,rM hl];simp only[qk]
  ·unfold owns;rw[PA k hk]
 refine⟨⟨g.below.trans ⟨rfl,rfl,rfl,by simp,λk hk=>iz k (by omega)⟩,λ{c o u} h=> ?_,λ{k o'} hk=> ?_,λ{k1 k2 x} h1 h2=>g.sep ((oW _ _).1 h1) ((oW _ _).1 h2),λ{k} hk=>g.fresh (by simpa using hk),λh=>by have:=g.mb h;simpa using this⟩,
  ⟨.refl E,⟨by simp,ag3 _⟩,by simp,λ{k} hk hw=>PA k (λe=>hw (by simp[e])),λ{k x} hk hw ho=>iz x (λe=>hw (by subst e;simp[g.sep ho AL])),λ_=>rfl,λ{x} hx h0=>⟨iz x (λe=>h0 l (e▸AL)),λk ho=>h0 k ((oW k x).1 ho),λ_=>rfl⟩⟩⟩
 ·have gX:c≠b:=λe=>by
   subst e;have:=g.snap h;simp[World.cell?,vA]at this
  rw[fF (iz c gX)];exact g.snap h
 ·by_cases jI:k=l
  ·subst jI;rw[Fk]at hk;cases hk;refine⟨b,hb,jO,ms',ck',by simp[xf],⟨Bf,λi e he=> ?_,acX,X5,λi ss hi=> ?_,λi i' ss Kv x c c' h1 h2 h3 h4=>hR.sep i i' ss Kv x c c' ((qk i).symm.trans h1) ((qk i').symm.trans h2) h3 h4,λi m hm=>hR.free i m (λss h=>hm ss ((qk i).trans h))⟩⟩
   ·obtain⟨m,h1,h2,h3⟩:=aag i e he;exact⟨m,h1,h2,λ_=>h3⟩
   ·obtain⟨h0,b',c,arr,T,q1,q2,q3,q4,q5⟩:=hR.lB i ss ((qk i).symm.trans hi);exact⟨h0,b',c,arr,T,q1,q2,q3,(iz b' q3).trans q4,q5⟩
  ·rw[PA k jI]at hk;exact(g.obj hk).step hk (.refl E) (λ_ h=>h) (λ_=>rfl) (λ_ _ _ _ h=>h) (λx hx=>iz x (λe=>jI (g.sep hx (e▸AL))))
def vB (es:List (ByteArray×List ByteArray)) (i:Nat) (s:ByteArray) (ss:List ByteArray):List (ByteArray×List ByteArray):=if i<es.length then es.set i (s,ss)else es++[(s,ss)]
theorem Fm {es:List (ByteArray×List ByteArray)}{i:Nat}{s:ByteArray}{ss:List ByteArray}(hi:i<=es.length) (j:Nat):rowAt (vB es i s ss) none j=rowAt es (some (i,ss)) j:=by
 rw[iO];unfold vB;by_cases ud:i<es.length
 ·rw[if_pos ud];by_cases hj:j=i
  ·subst hj;rw[ij,ahd ud];rfl
  ·rw[gy es ss hj,ag7 (λe=>hj e.symm)]
 ·rw[if_neg ud];have:i=es.length:=by omega
  subst this;by_cases hj:j=es.length
  ·subst hj;rw[ij,ahi (ag3 _)];simp
  ·rw[gy es ss hj];by_cases rE:j<es.length
   ·rw[ahb rE]
   ·rw[ahu (by simp;omega),ahu (by omega)]
theorem yM {t kt et:TypeId}{z:Value}{p q v:Operand}{l i n:Nat}{es:List (ByteArray×List ByteArray)}{s:ByteArray}{ss:List ByteArray}(ho:o.op= .mapUpdate t p q v) (hT:EZ P t kt et .string z (.string s)) (hp:bk T p= .cU l) (hl:H[l]? =some (.rows es (some (i,ss)))) (hq:bk T q= .sc (.string s)) (hv:bk T v= .fY l i n)
  (hi:i=fH es s) (hn:n=ss.length):kX P o T H .any (H.set l (.rows (vB es i s ss) none)) [l]:=by
 refine qx λE w0 w ρ hg ht=> ?_
 have hr:=ht p (by simp[ho,Op.operands]);rw[hp]at hr;have TE:ρ q= .string s:=oO (ht q (by simp[ho,Op.operands])) (by rw[hq];rfl);have Jh:=ht v (by simp[ho,Op.operands]);rw[hv]at Jh;have aah:i<=es.length:=by
  rw[hi];unfold fH
  cases hf:nV (es.map (·.1)) s with
  |none=>exact ag3 _
  |some j=>
   obtain⟨k,hk,_⟩:=uk hf;have:=(ag5.1 hk).1;simp at this;show j<=es.length;omega
 generalize hpv:ρ p=pv at hr
 cases hr with
 |cU l b AJ=>
  obtain⟨b2,vg,h1,ms,ck,h3,h4⟩:=hg.obj hl;rw[AJ]at vg;cases vg;obtain⟨h0,b',c,arr,Ty,q1,_⟩:=h4.lB i ss (ij es i ss);have vu:∃b' c,E.G l (code i ss.length)=some (b',c)/\ρ v= .slice (some ⟨b',0,none⟩) ss.length c:=by
   rw[hn]at Jh;generalize hρ:ρ v=u at Jh;generalize hm:ss.length=m at*
   cases Jh with
   |jq=>omega
   |fY _ _ _ b1 c1 hG _ _=>exact⟨b1,c1,hG,rfl⟩
  obtain⟨dz,cO⟩:=jR hT.kd h4.Pz (oU (P:=P) (kt:=kt) (s:=s) (Bo es)) w;have fx:(getObj b).run P w= .ok (.map ms ck) w:=by simp[getObj,Sem.run,h3]
  have jt:∀o',(setObj b o').run P w= .ok () { w with heap:=w.heap.setIfInBounds b o'}:=λo'=>by simp[setObj,Sem.run,h3]
  cases hf:nV (es.map (·.1)) s with
  |none=>
   have ei:i=es.length:=by rw[hi];unfold fH;rw[hf];rfl
   have eu:vB es i s ss=es++[(s,ss)]:=by unfold vB;rw[if_neg (by omega)]
   rw[hf]at dz;obtain⟨g',ex⟩:=hg.KY (es':=vB es i s ss) (ms':=ms.push { key:= .string s,val:=ρ v,born:=ck}) (ck':=ck+1) hl AJ h3 h4 (Fm aah) (by rw[eu];simp[h4.size]) (λj e hj=>by
    rw[eu]at hj;by_cases rE:j<es.length
    ·rw[ahb rE]at hj;obtain⟨m,m1,m2,m3⟩:=h4.keys j e hj;have OL:j<ms.size:=by rw[h4.size];exact rE
     exact⟨m,by rw[ahS,if_neg (by omega)];exact m1,m2,m3 (λKv h=>by cases h;omega)⟩
    ·have Pj:j=es.length:=by
      have:=(ag5.1 hj).1;simp at this;omega
     subst Pj;simp at hj;subst hj;exact⟨({ key:= .string s,val:=ρ v,born:=ck}:MapEntry),by rw[←h4.size];simp,rfl,by rw[←ei];exact vu⟩) (λj m hm=>by
    rw[ahS]at hm;split at hm
    ·cases hm;simp
    ·have:=h4.TL j m hm;omega) (λj j' m m' hm jZ oP=>by
    rw[ahS]at hm jZ;split at hm<;>split at jZ
    ·omega
    ·cases hm;have:=h4.TL j' m' jZ;simp only at oP;omega
    ·cases jZ;have:=h4.TL j m hm;simp only at oP;omega
    ·exact h4.inj j j' m m' hm jZ oP)
   refine⟨E,_,?_,ex,g'⟩;simp only[execOp,ho,Instr.mapUpdate,hpv,TE,Sem.run_bind,aj hT.ty,Result.andThen_ok,fx,aj (hT.MM false),dz,CL,jt,Sem.run_pure]
  |some j0=>
   have ei:i=j0:=by rw[hi];unfold fH;rw[hf];rfl
   subst ei;obtain⟨k,hk,E4⟩:=uk hf;simp only[ahy,ahE]at hk;obtain⟨e0,Up,rfl⟩:=hk;have ud:i<es.length:=(ag5.1 Up).1;have eu:vB es i s ss=es.set i (s,ss):=by unfold vB;rw[if_pos ud]
   obtain⟨m,hm,MO,_⟩:=h4.keys i e0 Up;rw[hf]at dz;have born:∀(j:Nat) (m1:MapEntry),(ms.modify i λe=>{ e with key:= .string s,val:=ρ v})[j]? =some m1->∃m0,ms[j]? =some m0/\m0.born=m1.born:=by
    intro j m1 h;rw[aho]at h;split at h
    ·rename_i mo;subst mo;rw[hm]at h;cases h;exact⟨m,hm,rfl⟩
    ·exact⟨m1,h,rfl⟩
   obtain⟨g',ex⟩:=hg.KY (es':=vB es i s ss) (ms':=ms.modify i λe=>{ e with key:= .string s,val:=ρ v}) (ck':=ck) hl AJ h3 h4 (Fm aah) (by rw[eu];simp[h4.size]) (λj e hj=>by
    rw[eu]at hj;by_cases mo:i=j
    ·subst mo;rw[ahd ud]at hj;cases hj;exact⟨{ m with key:= .string s,val:=ρ v},by rw[aho,if_pos rfl,hm];rfl,rfl,vu⟩
    ·rw[ag7 mo]at hj;obtain⟨m',m1,m2,m3⟩:=h4.keys j e hj;exact⟨m',by rw[aho,if_neg mo];exact m1,m2,m3 (λKv h=>by cases h;exact mo rfl)⟩) (λj m1 h=>by
    obtain⟨m0,hm0,xJ⟩:=born j m1 h;rw[←xJ];exact h4.TL j m0 hm0) (λj j' m1 m2 h h' oP=>by
    obtain⟨n1,tf,mr⟩:=born j m1 h;obtain⟨n2,vw,vg⟩:=born j' m2 h';exact h4.inj j j' n1 n2 tf vw (by rw[mr,vg,oP]))
   refine⟨E,_,?_,ex,g'⟩;have Pk:ms.toList[i]? =some m:=by simpa using hm
   have E5:(Instr.keyThatStays m.key (.string s)).run P w= .ok (.string s) w:=by
    unfold Instr.keyThatStays;have:Instr.sameBits 10000 m.key (.string s)=true:=by
     rw[MO];show (e0.1==s)=true;rw[←um E4];exact nW _
    rw[this];rfl
   simp only[execOp,ho,Instr.mapUpdate,hpv,TE,Sem.run_bind,aj hT.ty,Result.andThen_ok,fx,aj (hT.MM false),dz,CL,Nat.sub_zero,Pk,ahs,hm,ahN,E5,jt,Sem.run_pure]
theorem Good.PC (g:Good E H w0 w){l:Nat}(hl:H[l]? =some (.map [])) (hφ:∃b,E.φ l=some b):Good E (H.set l (.rows [] none)) w0 w/\∀k x,owns E (H.set l (.rows [] none)) k x↔owns E H k x:=by
 have vr:l<H.length:=(ag5.1 hl).1;obtain⟨b,hb⟩:=hφ;obtain⟨h1,ms,ck,h3,h4⟩:=g.obj hl b hb;have Fk:(H.set l (.rows [] none))[l]? =some (.rows [] none):=ahd vr;have oW:∀k x,owns E (H.set l (.rows [] none)) k x↔owns E H k x:=by
  intro k x;by_cases hk:k=l
  ·subst hk;rw[rM Fk];unfold owns;rw[hl,hb];constructor
   ·rintro⟨y,hy,h|⟨i,ss,c,h,_⟩⟩
    ·rw[hy,h]
    ·simp[rowAt]at h
   ·intro h;exact⟨b,rfl,.inl (ahM h)⟩
  ·unfold owns;rw[ag7 (λe=>hk e.symm)]
 refine⟨⟨g.below,λh=>g.snap h,λ{k o'} hk=> ?_,λ{k1 k2 x} h1 h2=>g.sep ((oW _ _).1 h1) ((oW _ _).1 h2),λ{k} hk=>g.fresh (by simpa using hk),λh=>g.mb h⟩,oW⟩;by_cases jI:k=l
 ·subst jI;rw[Fk]at hk;cases hk;have rH:ms.size=0:=by simpa using h4.1
  refine⟨b,hb,h1,ms,ck,h3,⟨by simp[rH],λi e he=>by simp at he,λi m hm=>by have:=(aha.1 hm).1;omega,λi j m m' hm _ _=>by have:=(aha.1 hm).1;omega,λi ss h=>by simp[rowAt]at h,λi i' ss Kv x c c' h=>by simp[rowAt]at h,λi m _=> ?_⟩⟩;cases hG:E.G k (code i m)with
  |none=>rfl
  |some x=>
   obtain⟨_,m',jZ,_⟩:=h4.2.2.2.2 _ _ hG;have:=(aha.1 jZ).1;omega
 ·rw[ag7 (λe=>jI e.symm)]at hk;exact g.obj hk
end
def MV (m:MapEntry):ByteArray:=match m.key with
 | .string k=>k
 |_=>⟨#[]⟩
section
variable {P:Program}{o:Oper}{T:List AV}{H:aa}{E:Env}{w0 w:World}
theorem Fo {kt:TypeId}(aK:aB P (underlying kt)=some .string) (ms:Array MapEntry) (hk:∀(i:Nat) (m:MapEntry),ms[i]? =some m->∃k,m.key= .string k) (s:ByteArray) (w:World):
  (∃i m,ms[i]? =some m/\m.key= .string s/\(Instr.findKey kt (.string s) ms.toList).run P w= .ok (some (i,m.val)) w)∨((∀(i:Nat) (m:MapEntry),ms[i]? =some m->m.key≠.string s)/\(Instr.findKey kt (.string s) ms.toList).run P w= .ok none w):=by
 let es:List (Value×AV):=ms.toList.map λm=>(m.key,.any)
 have hko:KeysOf es ms.toList:=⟨by simp[es],λj e hj=>by
  simp only[es,ahy,ahE]at hj;obtain⟨m,hm,rfl⟩:=hj;exact⟨m,hm,rfl⟩⟩
 have hks:es.map (·.1)=(ms.toList.map MV).map Value.string:=by
  simp only[es,ain];refine ahV (λm hm=> ?_);obtain⟨i,hi⟩:=ahT hm;obtain⟨k,ix⟩:=hk i m (by simpa using hi);simp[MV,ix]
 obtain⟨dz,cO⟩:=jR aK hko (oU (P:=P) (kt:=kt) (s:=s) hks) w
 cases hf:nV (ms.toList.map MV) s with
 |none=>
  rw[hf]at dz;refine .inr ⟨λi m hm rH=> ?_,dz⟩;unfold nV at hf;rw[aih]at hf;have:=hf (MV m) (ahQ.2 ⟨m,by simpa using Array.mem_of_getElem? hm,rfl⟩);simp only[MV,rH]at this;rw[nW]at this;cases this
 |some i=>
  rw[hf]at dz;obtain⟨k,nz,w9⟩:=uk hf;simp only[ahy,ahE]at nz;obtain⟨m,hm,rfl⟩:=nz;have jZ:ms[i]? =some m:=by simpa using hm
  obtain⟨k',ix⟩:=hk i m jZ;have e:s=k':=by
   have:=um w9;rw[this];simp[MV,ix]
  refine .inl ⟨i,m,jZ,by rw[ix,e],?_⟩;simpa [CL,hm]using dz
theorem Fp {t kt et:TypeId}{z:Value}{p q:Operand}{l:Nat}{has:ByteArray->Bool}{val:ByteArray->AV}{s:ByteArray}(ho:o.op= .lookup t p q false) (hT:EZ P t kt et .string z (.string s)) (hp:bk T p= .cU l) (hl:H[l]? =some (.ez has val)) (hq:bk T q= .sc (.string s)){x:AV}
  (hx:x=if has s=true then val s else dB z):oH P o T H x:=by
 refine cL λE w0 w ρ hg ht=> ?_
 have hr:=ht p (by simp[ho,Op.operands]);rw[hp]at hr;have TE:ρ q= .string s:=oO (ht q (by simp[ho,Op.operands])) (by rw[hq];rfl);generalize hv:ρ p=v at hr
 cases hr with
 |cU l b hb=>
  obtain⟨h1,h2,ms,ck,h3,h4,h5⟩:=hg.obj hl b hb;have fx:(getObj b).run P w= .ok (.map ms ck) w:=by simp[getObj,Sem.run,h3]
  rcases Fo (P:=P) hT.kd ms (λi m hm=>let ⟨k,q1,_,_⟩:=h4 i m hm;⟨k,q1⟩) s w with ⟨i,m,hm,MO,dz⟩|⟨w8,dz⟩
  ·obtain⟨k,q1,q2,q3⟩:=h4 i m hm;rw[MO]at q1;cases q1;refine⟨m.val,?_,by rw[hx,if_pos q2];exact q3⟩;simp only[execOp,ho,Instr.lookup,hv,TE,Sem.run_bind,aj hT.ty,Result.andThen_ok,fx,Sem.run_pure,aj (hT.MM ms.isEmpty),dz];rfl
  ·have hs:¬has s=true:=λh=>by
    obtain⟨i,m,hm,MO⟩:=h5 s h;exact w8 i m hm MO
   refine⟨z,?_,by rw[hx,if_neg hs];exact fZ E _ z (ahP _)⟩;simp only[execOp,ho,Instr.lookup,hv,TE,Sem.run_bind,aj hT.ty,Result.andThen_ok,fx,Sem.run_pure,aj (hT.MM ms.isEmpty),dz,aj hT.zero];rfl
theorem Good.Uq (g:Good E H w0 w){l b:Nat}{has has':ByteArray->Bool}{val val':ByteArray->AV}{ms ms':Array MapEntry}{ck ck':Nat}(hl:H[l]? =some (.ez has val)) (hb:E.φ l=some b) (vA:w.heap[b]? =some (.map ms ck)) (Is:∀s,LF (val' s))
  (h4:∀(i:Nat) (m:MapEntry),ms'[i]? =some m->∃k,m.key= .string k/\has' k=true/\Rel E (val' k) m.val) (h5:∀s,has' s=true->∃(i:Nat) (m:MapEntry),ms'[i]? =some m/\m.key= .string s):
  Good E (H.set l (.ez has' val')) w0 { w with heap:=w.heap.setIfInBounds b (.map ms' ck')}/\Ext H.length (·∈[l]) E H w E (H.set l (.ez has' val')) { w with heap:=w.heap.setIfInBounds b (.map ms' ck')}:=by
 have vr:l<H.length:=(ag5.1 hl).1;have xf:b<w.heap.size:=(aha.1 vA).1;have iz:∀c,c≠b->({ w with heap:=w.heap.setIfInBounds b (.map ms' ck')}:World).heap[c]? =w.heap[c]? :=λc hc=>ahm (Ne.symm hc)
 have jO:w0.heap.size<=b:=(g.obj hl b hb).1;have AL:owns E H l b:=by unfold owns;rw[hl];exact hb
 have Fk:(H.set l (.ez has' val'))[l]? =some (.ez has' val'):=ahd vr;have PA:∀k,k≠l->(H.set l (.ez has' val'))[k]? =H[k]? :=λk hk=>ag7 (λe=>hk e.symm)
 have oW:∀k x,owns E (H.set l (.ez has' val')) k x↔owns E H k x:=by
  intro k x;by_cases hk:k=l
  ·subst hk;unfold owns;rw[Fk,hl]
  ·unfold owns;rw[PA k hk]
 refine⟨⟨g.below.trans ⟨rfl,rfl,rfl,by simp,λk hk=>iz k (by omega)⟩,λ{c o u} h=> ?_,λ{k o'} hk=> ?_,λ{k1 k2 x} h1 h2=>g.sep ((oW _ _).1 h1) ((oW _ _).1 h2),λ{k} hk=>g.fresh (by simpa using hk),λh=>by have:=g.mb h;simpa using this⟩,
  ⟨.refl E,⟨by simp,ag3 _⟩,by simp,λ{k} hk hw=>PA k (λe=>hw (by simp[e])),λ{k x} hk hw ho=>iz x (λe=>hw (by subst e;simp[g.sep ho AL])),λ_=>rfl,λ{x} hx h0=>⟨iz x (λe=>h0 l (e▸AL)),λk ho=>h0 k ((oW k x).1 ho),λ_=>rfl⟩⟩⟩
 ·have gX:c≠b:=λe=>by
   subst e;have:=g.snap h;simp[World.cell?,vA]at this
  rw[fF (iz c gX)];exact g.snap h
 ·by_cases jI:k=l
  ·subst jI;rw[Fk]at hk;cases hk;intro b2 vg;rw[hb]at vg;cases vg;exact⟨jO,Is,ms',ck',by simp[xf],h4,h5⟩
  ·rw[PA k jI]at hk;exact(g.obj hk).step hk (.refl E) (λ_ h=>h) (λ_=>rfl) (λ_ _ _ _ h=>h) (λx hx=>iz x (λe=>jI (g.sep hx (e▸AL))))
def Fq (has:ByteArray->Bool) (s:ByteArray):ByteArray->Bool:=λx=>x==s||has x
def CW (val:ByteArray->AV) (s:ByteArray) (y:AV):ByteArray->AV:=λx=>bif x==s then y else val x
theorem CX {E:Env}{b:Nat}{cs:List AV}(h:∀j y,cs[j]? =some y->∃u,E.S b j=some u/\Rel E.data y u):Rel E (.dO cs) (.pointer (some ⟨b,0,none⟩)):=by
 refine .dO cs b 0 (λj=>(E.S b j).getD undef) (λj x hj=> ?_) (λj x hj=> ?_)
 ·obtain⟨u,hu,_⟩:=h j x hj;rw[ahF,hu];rfl
 ·obtain⟨u,hu,hr⟩:=h j x hj;rw[hu];exact hr
theorem PD {t kt et:TypeId}{z:Value}{p q v:Operand}{l k:Nat}{has:ByteArray->Bool}{val:ByteArray->AV}{s:ByteArray}{cs:List AV}(ho:o.op= .mapUpdate t p q v) (hT:EZ P t kt et .string z (.string s)) (hp:bk T p= .cU l) (hl:H[l]? =some (.ez has val)) (hq:bk T q= .sc (.string s)) (hv:bk T v= .ptr k 0) (hk:H[k]? =some (.cells cs))
  (Is:∀x∈cs,LF x) (w8:has s=false):kX P o T H .any ((H.set k .dead).set l (.ez (Fq has s) (CW val s (.dO cs)))) [k,l]:=by
 refine qx λE w0 w ρ hg ht=> ?_
 have hr:=ht p (by simp[ho,Op.operands]);rw[hp]at hr;have TE:ρ q= .string s:=oO (ht q (by simp[ho,Op.operands])) (by rw[hq];rfl);have Jh:=ht v (by simp[ho,Op.operands]);rw[hv]at Jh;have jI:k≠l:=λe=>by subst e;rw[hk]at hl;cases hl
 generalize hpv:ρ p=pv at hr
 cases hr with
 |cU l b AJ=>
  generalize hρ:ρ v=u at Jh
  cases Jh with
  |ptr k' o' b1 mr=>
   obtain⟨gk,sF⟩:=oQ hg k;obtain⟨_,WN,arr,Ty,hh,EJ⟩:=hg.obj hk b1 mr;have Un:owns E H k b1:=by unfold owns;rw[hk];exact mr
   have eU:∀j,¬owns E (H.set k .dead) j b1:=λj hj=>(sF j b1 hj).2 (hg.sep (sF j b1 hj).1 Un)
   have g1:=gk.stay (b:=b1) (f:=(arr[·]?)) eU (λo u h=>by unfold World.cell?;rw[hh];simpa using h);have hle:E.le (E.fW b1 (arr[·]?)):=j4 E b1 (arr[·]?);have Z1:∀o,(E.fW b1 (arr[·]?)).S b1 o=arr[o]? :=λo=>by simp[Env.fW,WN o]
   have hrel:Rel (E.fW b1 (arr[·]?)) (.dO cs) (.pointer (some ⟨b1,0,none⟩)):=CX (λj y hj=>by
    obtain⟨u,hu,hrel⟩:=EJ j y hj;exact⟨u,(Z1 j).trans hu,hrel.lf (Is y (ahf hj)) (λh=>hle.S h)⟩)
   have TV:(H.set k bu.dead)[l]? =some (.ez has val):=by rw[ag7 jI];exact hl
   generalize OO:E.fW b1 (arr[·]?)=E1 at*;have XX:E1.φ l=some b:=hle.φ AJ;obtain⟨_,hlv,ms,ck,h3,h4,h5⟩:=g1.obj TV b XX;have fx:(getObj b).run P w= .ok (.map ms ck) w:=by simp[getObj,Sem.run,h3]
   have jt:∀o',(setObj b o').run P w= .ok () { w with heap:=w.heap.setIfInBounds b o'}:=λo'=>by simp[setObj,Sem.run,h3]
   have dz:(Instr.findKey kt (.string s) ms.toList).run P w= .ok none w:=by
    rcases Fo (P:=P) hT.kd ms (λi m hm=>let ⟨k,q1,_,_⟩:=h4 i m hm;⟨k,q1⟩) s w with ⟨i,m,hm,MO,_⟩|⟨_,dz⟩
    ·obtain⟨k2,q1,q2,_⟩:=h4 i m hm;rw[MO]at q1;cases q1;rw[w8]at q2;cases q2
    ·exact dz
   obtain⟨g2,iK⟩:=g1.Uq (has':=Fq has s) (val':=CW val s (.dO cs)) (ms':=ms.push { key:= .string s,val:= .pointer (some ⟨b1,0,none⟩),born:=ck}) (ck':=ck+1) TV XX h3 (λx=>by
    unfold CW;cases (x==s)with
    |true=>exact .dO _
    |false=>exact hlv x) (λi m hm=>by
    rw[ahS]at hm;split at hm
    ·cases hm;exact⟨s,rfl,by unfold Fq;rw[nW];rfl,by unfold CW;rw[nW];exact hrel⟩
    ·obtain⟨k2,q1,q2,q3⟩:=h4 i m hm;have gX:(k2==s)=false:=by
      cases hc:(k2==s)with
      |false=>rfl
      |true=>
       have:=um hc;subst this;rw[w8]at q2;cases q2
     exact⟨k2,q1,by unfold Fq;rw[q2];simp,by unfold CW;rw[gX];exact q3⟩) (λx hx=>by
    unfold Fq at hx;cases hc:(x==s)with
    |true=>
     have:=um hc;subst this;exact⟨ms.size,_,Array.getElem?_push_size,rfl⟩
    |false=>
     rw[hc,Bool.false_or]at hx;obtain⟨i,m,hm,MO⟩:=h5 x hx;have hi:=(aha.1 hm).1;exact⟨i,m,by rw[ahS,if_neg (by omega)];exact hm,MO⟩)
   refine⟨E1,_,?_,?_,g2⟩
   ·simp only[execOp,ho,Instr.mapUpdate,hpv,TE,hρ,Sem.run_bind,aj hT.ty,Result.andThen_ok,fx,aj (hT.MM false),dz,jt,Sem.run_pure]
   ·have nw:Ext H.length (·∈[k,l]) E H w E1 (H.set k .dead) w:=by
     refine⟨hle,.refl _,by simp,λ{j} hj hw=>ag7 (λe=>hw (by simp[e])),λ_ _ _=>rfl,λ{j} _=>by rw[←OO];rfl,λ{x} hx h0=>⟨rfl,λj hj=> ?_,λo=> ?_⟩⟩
     ·have su:owns E (H.set k .dead) j x:=by rw[←OO]at hj;exact hj
      exact h0 j (sF j x su).1
     ·have gX:x≠b1:=λe=>h0 k (e▸Un)
      rw[←OO];simp[Env.fW,gX]
    exact nw.trans (iK.weaken (by simp) (λj _ hj=>by simp only[aiy]at hj;subst hj;simp))
theorem Ji {t kt et:TypeId}{p:Operand}{l:Nat}{es:List (ByteArray×List ByteArray)}(ho:o.op= .range t p) (hu:aB P (underlying t)=some (.map kt et)) (hp:bk T p= .cU l) (hl:H[l]? =some (.rows es none)):kX P o T H (.ptr H.length 0) (H++[.iter l]) []:=by
 refine fV λE w0 w ρ hg ht=> ?_
 have hr:=ht p (by simp[ho,Op.operands]);rw[hp]at hr;generalize hv:ρ p=v at hr
 cases hr with
 |cU l b hb=>
  obtain⟨b',iw,h1,ms,ck,h3,h4⟩:=hg.obj hl;rw[hb]at iw;cases iw;have cO:l<H.length:=(ag5.1 hl).1;refine⟨E.ej H.length w.heap.size,.pointer (some ⟨w.heap.size,0,none⟩),w.alloc (.mapIter (some b) ck #[] ck),?_,j3 _ _ (ag3 _) hg _ _,?_,.ptr _ _ _ (cV _ _ _)⟩
  ·have fx:(getObj b).run P w= .ok (.map ms ck) w:=by simp[getObj,Sem.run,h3]
   simp only[execOp,ho,Instr.range,hv,Sem.run_bind,aj hu,Result.andThen_ok,fx,newObj,Sem.run,Sem.run_pure,pure_bind];rfl
  ·refine(hg.push (.mapIter (some b) ck #[] ck)).Ba (by rw[eK];omega) (λl ho=>absurd (hg.fG ho) (ahZ _)) (λ_ _=>by simp) ?_;intro c hc;rw[cV]at hc;simp only[ag6]at hc;subst hc;exact⟨hg.below.size,b,ck,(Env.j2 (hg.fresh (ag3 _)).1).φ hb,heap_alloc_new w _⟩
theorem Good.PE (g:Good E H w0 w){l:Nat}(hl:H[l]? =some (.map [])) (val:ByteArray->AV) (hv:∀s,LF (val s)):Good E (H.set l (.ez (λ_=>false) val)) w0 w/\∀k x,owns E (H.set l (.ez (λ_=>false) val)) k x↔owns E H k x:=by
 have vr:l<H.length:=(ag5.1 hl).1;have Fk:(H.set l (.ez (λ_=>false) val))[l]? =some (.ez (λ_=>false) val):=ahd vr;have oW:∀k x,owns E (H.set l (.ez (λ_=>false) val)) k x↔owns E H k x:=by
  intro k x;by_cases hk:k=l
  ·subst hk;unfold owns;rw[Fk,hl]
  ·unfold owns;rw[ag7 (λe=>hk e.symm)]
 refine⟨⟨g.below,λh=>g.snap h,λ{k o'} hk=> ?_,λ{k1 k2 x} h1 h2=>g.sep ((oW _ _).1 h1) ((oW _ _).1 h2),λ{k} hk=>g.fresh (by simpa using hk),λh=>g.mb h⟩,oW⟩;by_cases jI:k=l
 ·subst jI;rw[Fk]at hk;cases hk;intro b hb;obtain⟨h1,ms,ck,h3,h4⟩:=g.obj hl b hb;have rH:ms.size=0:=by simpa using h4.1
  exact⟨h1,hv,ms,ck,h3,λi m hm=>by have:=(aha.1 hm).1;omega,λs h=>by cases h⟩
 ·rw[ag7 (λe=>jI e.symm)]at hk;exact g.obj hk
end
end Go.Proofs.YtiipaliigpkfhaaGreat.Ab
