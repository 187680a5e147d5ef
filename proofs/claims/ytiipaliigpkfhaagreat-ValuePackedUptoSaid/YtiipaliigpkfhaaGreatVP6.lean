/- Lemmas 6. -/
import Derived.Test.YtiipaliigpkfhaaGreatVP5
set_option maxRecDepth 100000
namespace Go.Proofs.YtiipaliigpkfhaaGreat.Ab
open Go Go.RowKit
section
variable {E:Env}{H:aa}{w0 w:World}
theorem pa {w:World}{b c:Nat}(o':Obj) (h:c≠b):(w.putObj b o').heap[c]? =w.heap[c]? :=World.putObj_heap_other h
theorem Good.K1 (g:Good E H w0 w){b:Nat}(jO:w0.heap.size<=b) (eU:∀k,¬owns E H k b) (hS:∀o,E.S b o=none) (o':Obj):Good E H w0 (w.putObj b o'):=by
 have ga:(w.putObj b o').heap.size=w.heap.size:=by simp
 refine⟨g.below.trans ⟨rfl,rfl,rfl,by rw[ga];exact ag3 _,λk hk=>pa o' (by omega)⟩,λ{c o u} h=> ?_,λ{k q} h=> ?_,g.sep,g.fresh,λh=>by rw[ga];exact g.mb h⟩
 ·have gX:c≠b:=λe=>by subst e;rw[hS]at h;cases h
  rw[fF (pa o' gX)];exact g.snap h
 ·exact(g.obj h).step h (.refl E) (λ_ h=>h) (λ_=>rfl) (λ_ _ _ _ h=>h) (λc hc=>pa o' (λe=>eU k (e▸hc)))
theorem Good.X7 (g:Good E H w0 w){l b:Nat}{o:bu}(hl:H[l]? =some .dead) (hb:E.φ l=some b) (eU:∀k,¬owns E H k b) (dC:∀n sz,o≠.tail n sz) (acZ:∀es pd,o≠.rows es pd) (ac0:∀k,o≠.cu k) (ho:lE E l o w0.heap.size w):Good E (H.set l o) w0 w/\∀k c,owns E (H.set l o) k c->owns E H k c∨(k=l/\c=b):=by
 have cO:=(ag5.1 hl).1;have key:∀k c,owns E (H.set l o) k c->owns E H k c∨(k=l/\c=b):=by
  intro k c h;by_cases hk:l=k
  ·subst hk;refine .inr ⟨rfl,?_⟩;unfold owns at h;rw[ahd cO]at h
   cases o with
   |dead=>exact h.elim
   |cells cs=>exact ahM (h.symm.trans hb)
   |map es=>exact ahM (h.symm.trans hb)
   |iter m=>exact ahM (h.symm.trans hb)
   |mark k=>exact ahM (h.symm.trans hb)
   |ez f v=>exact ahM (h.symm.trans hb)
   |cN=>exact h.elim
   |rows es pd=>exact absurd rfl (acZ es pd)
   |tail n sz=>exact absurd rfl (dC n sz)
   |cu n=>exact absurd rfl (ac0 n)
  ·refine .inl ?_;unfold owns at h ⊢;rwa [ag7 hk]at h
 refine⟨⟨g.below,λh=>g.snap h,λ{k q} h=> ?_,λ{k k' c} h1 h2=> ?_,λ{k} h=>g.fresh (by simpa using h),λh=>g.mb h⟩,key⟩
 ·by_cases hk:l=k
  ·subst hk;rw[ahd cO]at h;cases h;exact ho
  ·rw[ag7 hk]at h;exact g.obj h
 ·rcases key _ _ h1 with a|⟨a,a'⟩<;>rcases key _ _ h2 with c|⟨c,c'⟩
  ·exact g.sep a c
  ·subst c';exact absurd a (eU _)
  ·subst a';exact absurd c (eU _)
  ·rw[a,c]
end
def xL (P:Program) (l:Nat) (xs:List AV) (H:aa) (v:Bool) (H':aa) (Wr:List Nat):Prop:=
 (∀(E:Env) (w0 w:World) (vs:Array Value) (b:Nat),Good E H w0 w->ji E xs vs->E.φ l=some b->∃fn tmps as bd,(Instr.yield b vs).run P w= .ok (.round b fn tmps as bd) w/\
  RoundIn Fence.wide 0 P b fn tmps as bd w (λe w'=>e= .returned (.bool v)/\∃E',Ext H.length (·∈Wr) E H w E' H' w'/\Good E' H' w0 w'))/\cQ H H' Wr
def tv (T:List AV):List Tmp->List AV->List AV
 |p::ps,x::xs=>tv (T.set p x) ps xs
 |_,_=>T
theorem yU {E:Env}:∀(ps:List Tmp) (xs:List AV) (vs:List Value) (T:List AV) (tmps:Array Value),xs.length=ps.length->vs.length=ps.length->(∀i x,xs[i]? =some x->Rel E x (vs.getD i undef))->eJ E T tmps->
  eJ E (tv T ps xs) ((ps.zip vs).foldl (λt (p,v)=>t.setIfInBounds p v) tmps)
 |[],_,_,T,tmps,_,_,_,ht=>by simpa [tv]using ht
 |p::ps,[],_,T,tmps,h,_,_,ht=>by simp at h
 |p::ps,x::xs,[],T,tmps,_,h,_,ht=>by simp at h
 |p::ps,x::xs,v::vs,T,tmps,h1,h2,hr,ht=>by
  simp only[tv,List.zip_cons_cons,ah7];refine yU ps xs vs _ _ (by simpa using h1) (by simpa using h2) (λi y hy=>by simpa using hr (i+1) y (by simpa using hy)) ?_;have hx:=hr 0 x rfl;have Au:Rel E x v:=by simpa using hx
  refine⟨by simp[ht.1],λi y hy=> ?_⟩;by_cases hi:p=i
  ·subst hi;have cO:p<T.length:=by have:=(ag5.1 hy).1;simpa using this
   rw[ahd cO]at hy;cases hy;have:p<tmps.size:=by rw[ht.1];exact cO
   simpa [ahh,this]using Au
  ·rw[ag7 hi]at hy;have:=ht.2 i y hy;simpa [ahh,ahm hi]using this
inductive Left:bj->Option Code->Bool->Prop where
 |normal:Left .normal none true
 |ret:Left .ret (some .ret) false
 |exit (i:Nat):Left (.exit i) (some (.exit i)) false
theorem PS {P:Program}{l:Nat}{T:List AV}{ps:Array Tmp}{as bd:Code}{xs:List AV}{H H2 H3:aa}{T2 T3:List AV}{W2 W3:List Nat}{x:bj}{st:Option Code}{v:Bool}
  (hl:H[l]? =some (.mark (.loop T ps as bd none))) (hx:xs.length=ps.size) (h1:rO P as (tv T ps.toList xs) (H.set l .dead) .normal T2 H2 W2) (h2:rO P bd T2 H2 x T3 H3 W3) (hd:H3[l]? =some .dead) (hv:Left x st v):
  xL P l xs H v (H3.set l (.mark (.loop T ps as bd st))) (l::(W2++W3)):=by
 have cO:l<H.length:=(ag5.1 hl).1;have aam:=h1.2.trans h2.2;refine⟨λE w0 w vs b hg hrel hφ=> ?_,⟨by have:=aam.1;simpa using this,λk hk hm=> ?_⟩⟩
 ·obtain⟨jO,ob,Zo,r,rfl,hT,hps,has,hbd,hpe,gY⟩:=hg.obj hl b hφ;have dI:owns E H l b:=by unfold owns;rw[hl];exact hφ
  obtain⟨gk,kill⟩:=oQ hg l;have eU:∀k,¬owns E (H.set l .dead) k b:=λk hk=>(kill k b hk).2 (hg.sep (kill k b hk).1 dI)
  have xf:b<w.heap.size:=(aha.1 Zo).1;have WN:∀o,E.S b o=none:=λo=>by
   cases hs:E.S b o with
   |none=>rfl
   |some u=>have:=hg.snap hs;simp[World.cell?,Zo]at this
  have X8:r.state= .ready:=by rw[gY];rfl
  have ga:vs.size=r.params.size:=by rw[hps,←hx];exact hrel.1
  refine⟨r.fn,(ps.zip vs).foldl (λt (p,v)=>t.setIfInBounds p v) r.tmps,as,bd,?_,?_⟩
  ·have:=run_yield (P:=P) (w:=w) (l:=b) (args:=vs) Zo ga;rw[this,has,hbd,hps]
  ·have TD:eJ E (tv T ps.toList xs) ((ps.zip vs).foldl (λt (p,v)=>t.setIfInBounds p v) r.tmps):=by
    have:=yU (E:=E) ps.toList xs vs.toList T r.tmps (by simpa using hx) (by rw[Array.length_toList,hrel.1,hx];simp) (λi y hy=>by simpa [ag4,ahh]using hrel.2 i y hy) hT;have e:(ps.zip vs).foldl (λt (p,v)=>t.setIfInBounds p v) r.tmps=(ps.toList.zip vs.toList).foldl (λt (p,v)=>t.setIfInBounds p v) r.tmps:=by
     rw[←Array.toList_zip,Array.foldl_toList]
    rw[e];exact this
   refine roundIn_of_wpIn (F:=Fence.wide) trivial ?_;refine wpIn_mono (h1.1 b H.length (·∈l::(W2++W3)) (by simp) (λk hk _=>ahn _ (ahk _ hk)) E w0 w { tmps:=_,defers:=[]} [] (by simp) gk TD rfl) ?_;rintro e a1 w1 ⟨E1,y,T',H',⟨rfl,rfl,rfl⟩,rx,nw,g1,t1,d1⟩;cases rx;obtain⟨s1,s2,s3⟩:=nw.stay xf eU;have aan:w1.heap[b]? =some (.loop r):=s1.trans Zo;have hS1:∀o,E1.S b o=none:=λo=>(s3 o).trans (WN o)
   refine⟨_,run_beginRound aan X8,?_⟩;have g2:=g1.K1 jO s2 hS1 (.loop { r with state:= .busy});refine wpIn_mono (h2.1 b H.length (·∈l::(W2++W3)) (by have:=h1.2.1;simpa using this) (λk hk _=>ahn _ (ahj _ hk)) E1 w0 _ a1 [] (by have:=h1.2.1;simpa using this) g2 t1 d1) ?_;rintro e a3 w3 ⟨E3,y,T',H',⟨rfl,rfl,rfl⟩,rx,Nb,g3,t3,d3⟩;have aao:(w1.putObj b (.loop { r with state:= .busy})).heap.size=w1.heap.size:=by simp
   have mr:b<w1.heap.size:=(aha.1 aan).1;obtain⟨q1,q2,q3⟩:=Nb.stay (by rw[aao];exact mr) s2;have aap:w3.heap[b]? =some (.loop { r with state:= .busy}):=q1.trans (World.putObj_heap_same mr);have hS3:∀o,E3.S b o=none:=λo=>(q3 o).trans (hS1 o)
   have hφ3:E3.φ l=some b:=Nb.le.φ (nw.le.φ hφ);have fin:∀(jump:Option Code) (vv:Bool),Left y jump vv->(Instr.endRound b jump).run P w3= .ok (.bool jump.isNone) (w3.putObj b (.loop { { r with state:= .busy} with state:=if jump.isNone then .ready else .done,pending:=jump}))/\
     (.returned (.bool jump.isNone):Ending)= .returned (.bool vv)/\∃E',Ext H.length (·∈l::(W2++W3)) E H w E' (H'.set l (.mark (.loop T ps as bd jump))) (w3.putObj b (.loop { { r with state:= .busy} with state:=if jump.isNone then .ready else .done,pending:=jump}))/\
      Good E' (H'.set l (.mark (.loop T ps as bd jump))) w0 (w3.putObj b (.loop { { r with state:= .busy} with state:=if jump.isNone then .ready else .done,pending:=jump})):=by
    intro jump vv hv';refine⟨run_endRound jump aap,by cases hv'<;>rfl,E3,?_⟩;generalize ho4:Obj.loop { { r with state:= .busy} with state:=if jump.isNone then .ready else .done,pending:=jump}=o4;have g4:=g3.K1 jO q2 hS3 o4;have TF:b<w3.heap.size:=(aha.1 aap).1;obtain⟨g5,ac2⟩:=g4.X7 (o:= .mark (.loop T ps as bd jump)) hd hφ3 q2 (λ_ _=>by simp) (λ_ _=>by simp) (λ_=>by simp) (by
     intro c hc;rw[hφ3]at hc;cases hc;refine⟨jO,o4,World.putObj_heap_same TF,_,ho4.symm,hT.mono (nw.le.trans Nb.le),hps,has,hbd,rfl,?_⟩;cases jump<;>rfl)
    refine⟨⟨nw.le.trans Nb.le,?_,?_,λ{k} hk hw=> ?_,λ{k c} hk hw ho=> ?_,λ{k} hk=> ?_,λ{c} hc h=> ?_⟩,g5⟩
    ·exact⟨by have:=nw.size.heap;have:=Nb.size.heap;simp at*;omega,ahx nw.size.drawn Nb.size.drawn⟩
    ·have:=nw.len;have:=Nb.len;simp at*;omega
    ·have jI:l≠k:=λe=>hw (by simp[e])
     rw[ag7 jI,Nb.same hk hw,nw.same hk hw,ag7 jI]
    ·have jI:l≠k:=λe=>hw (by simp[e])
     have r5:owns E (H.set l .dead) k c:=by unfold owns at ho ⊢;rwa [ag7 jI]
     have Zp:c≠b:=λe=>by subst e;exact eU k r5
     have XP:=r5.step nw.le (nw.same hk hw);rw[pa _ Zp,Nb.iX hk hw XP,pa _ Zp,nw.iX hk hw r5]
    ·rw[Nb.lL (ahz (by simpa using hk) nw.len),nw.lL (by simpa using hk)]
    ·have Zp:c≠b:=λe=>by subst e;exact h l dI
     have h0:∀k,¬owns E (H.set l .dead) k c:=λk ho=>h k (kill k c ho).1
     obtain⟨u1,u2,u3⟩:=nw.stay hc h0;obtain⟨v1,v2,v3⟩:=Nb.stay (by rw[aao];exact ahz hc nw.size.heap) u2;refine⟨by rw[pa _ Zp,v1,pa _ Zp,u1],λk ho=> ?_,λo=>(v3 o).trans (u3 o)⟩;rcases ac2 k c ho with ho|⟨_,e⟩
     ·exact v2 k ho
     ·exact Zp e
   cases hv with
   |normal=>
    cases rx;obtain⟨f1,f2,f3⟩:=fin none true .normal;exact⟨_,_,f1,f2,f3⟩
   |ret=>
    cases rx;obtain⟨f1,f2,f3⟩:=fin (some .ret) false .ret;exact⟨_,_,f1,f2,f3⟩
   |exit i=>
    cases rx;obtain⟨f1,f2,f3⟩:=fin (some (.exit i)) false (.exit i);exact⟨_,_,f1,f2,f3⟩
 ·have jI:l≠k:=λe=>hm (by simp[e])
  have jZ:k∉W2++W3:=λh=>hm (ahn _ h)
  rw[ag7 jI,aam.2 k (by simpa using hk) jZ,ag7 jI]
theorem C4 {P:Program}{id k:Nat}{ops:Array Oper}{T T1 T':List AV}{H H1 H2 H':aa}{W1 W2 W3:List Nat}{o:Oper}{c:Call}{f:Operand}{l:Nat}{v:Bool}(lU:ja ops=true)
  (pre:qg P ops (List.range k) T H T1 H1 W1) (nz:cQ H H1 W1) (ho:ops[k]? =some o) (hw:dx ops T1 o=some true) (s7:o.op= .call c) (jH:c.callee= .value f) (hf:bk T1 f= .kq l)
  (hr:xL P l (c.args.toList.map (bk T1)) H1 v H2 W2) (post:qg P ops ((List.range (ops.size-(k+1))).map (k+1+·)) (gK T1 o.dst (.sc (.bool v))) H2 T' H' W3) (bo:cQ H2 H' W3):
  an P (.region id ops false) T H .normal T' H' (W1++(W2++W3)):=by
 refine⟨λn0 W hn hW E w0 w a D hn hg ht hd=>(wpIn_wide (n:=0)).1 (wpIn_region ?_),nz.trans (hr.2.trans bo)⟩;have jI:k<ops.size:=(aha.1 ho).1;have e:List.range ops.size=List.range k++(k::(List.range (ops.size-(k+1))).map (k+1+·)):=by
  have e1:ops.size=k+(ops.size-(k+1)+1):=by omega
  rw[e1,List.range_add,aib];simp only[ahJ,ain,aik];congr 2;have e2:k+(k+(ops.size-(k+1)+1)-(k+1)+1)-(k+1)=ops.size-(k+1):=by omega
  have e3:k+(ops.size-(k+1)+1)-(k+1)=ops.size-(k+1):=by omega
  rw[e3];refine ahV (λa _=> ?_);simp only[Function.comp];omega
 rw[e];refine pre.xK vC (n:=0) lU _ hn hg ht (λE1 a1 w1 nw g1 t1 d1=> ?_);simp only[wpOpsIn,ho,fm t1 hw,if_true];refine⟨λf _=>trivial,?_⟩;rw[Oper.semAt_eq _ _ _ (nf lU ho)];have hrel:=kN t1 f;rw[hf]at hrel;generalize hv:a1.eval f=u at hrel
 cases hrel with
 |kq l b hφ=>
  have dn:ji E1 (c.args.toList.map (bk T1)) (c.args.map a1.eval):=nS c.args (λy hy=>kN t1 y);obtain⟨fn,tmps,as,bd,hy,X9⟩:=hr.1 E1 w0 w1 _ b g1 dn hφ;have dz:(execOp a1.eval o).run P w1= .ok (.round b fn tmps as bd) w1:=by
   simp only[execOp,s7,resolve,jH,hv,Deferred.ofValue,pure_bind,Sem.run_pure,Sem.run_bind,Result.andThen_ok,invoke];have e2:(#[]:Array Value)++c.args.map a1.eval=c.args.map a1.eval:=by simp
   rw[e2];exact hy
  rw[dz,Oper.uponIn_round];refine⟨λhs=>by simp[Fence.wide]at hs,X9.mono ?_⟩;rintro e w2 ⟨rfl,E2,iK,g2⟩;have tf:n0<=H1.length:=ahx hn nz.1;have vw:n0<=H2.length:=ahx tf hr.2.1;have:=post.xK vC (n:=0) lU (Q:=nQ n0 W (λy T2 H2=>y= .normal/\T2=T'/\H2=H') E H w0 w D) [] (n0:=n0) (E:=E2) (w0:=w0) (w:=w2) (a:=a1.put o.dst (.bool v)) vw g2 (fU (t1.mono iK.le) o.dst (.sc _ rfl)) (λE3 a3 w3 Nb g3 t3 d3=> ?_)
  ·rwa [ah3]at this
  ·refine⟨E3,_,T',H',⟨rfl,rfl,rfl⟩,.normal,?_,g3,t3,d3.trans ((cg _ _ _).trans (d1.trans hd))⟩;refine(nw.weaken (ag3 _) (λl hl hm=>hW l (ahk _ hm) hl)).trans ((iK.weaken tf (λl hl hm=>hW l (ahj _ (ahk _ hm)) hl)).trans (Nb.weaken (ag3 _) (λl hl hm=>hW l (ahj _ (ahj _ hm)) hl)))
theorem Jx {P:Program}{call:cZ}{si:lM}(hc:cx P call) (KZ:oX P si){id k:Nat}{ops:Array Oper}{T T1 T':List AV}{H H1 H2 H':aa}{L1 L3:Log}{W2:List Nat}{o:Oper}{c:Call}{f:Operand}{l:Nat}{v:Bool}(lU:ja ops=true)
  (h1:(ql P call si ops (ops.toList.take k) none T H).eR=some (T1,H1,L1)) (ho:ops[k]? =some o) (hw:dx ops T1 o=some true) (s7:o.op= .call c) (jH:c.callee= .value f) (hf:bk T1 f= .kq l)
  (hr:xL P l (c.args.toList.map (bk T1)) H1 v H2 W2) (h3:(ql P call si ops (ops.toList.drop (k+1)) none (gK T1 o.dst (.sc (.bool v))) H2).eR=some (T',H',L3)):
  an P (.region id ops false) T H .normal T' H' (r6 L1++(W2++r6 L3)):=by
 have jI:k<ops.size:=(aha.1 ho).1;obtain⟨c1,k1⟩:=fo hc KZ (ops.toList.take k) 0 none T H _ _ _ (λj q hq=>by
  rw[ahI]at hq;split at hq
  ·simpa using hq
  ·cases hq) h1
 obtain⟨c3,k3⟩:=fo hc KZ (ops.toList.drop (k+1)) (k+1) none _ H2 _ _ _ (λj q hq=>by
  rw[aij]at hq;simpa using hq) h3
 have e1:(List.range (ops.toList.take k).length).map (0+·)=List.range k:=by
  have:(ops.toList.take k).length=k:=by simp;omega
  rw[this];simp
 have e3:(ops.toList.drop (k+1)).length=ops.size-(k+1):=by simp
 rw[e1]at c1;rw[e3]at c3;exact C4 lU c1.run k1 ho hw s7 jH hf hr c3.run k3
def leftOf:bj->Option (Option Code×Bool)
 | .normal=>some (none,true)
 | .ret=>some (some .ret,false)
 | .exit i=>some (some (.exit i),false)
 |_=>none
theorem Nc {x:bj}{st:Option Code}{v:Bool}(h:leftOf x=some (st,v)):Left x st v:=by
 cases x<;>simp only[leftOf,ag6,ahe,reduceCtorEq]at h
 ·obtain⟨rfl,rfl⟩:=h;exact .normal
 ·obtain⟨rfl,rfl⟩:=h;exact .exit _
 ·obtain⟨rfl,rfl⟩:=h;exact .ret
def Jy (P:Program) (call:cZ) (n l:Nat) (xs:List AV) (H:aa):Tree (Bool×aa×List Nat):=
 match H[l]? with
 |some (.mark (.loop T ps as bd none))=>if (decide (xs.length=ps.size)&&il as&&il bd)=true then
   (iP P call aN (λ_ _ _=> .bad) n as (tv T ps.toList xs) (H.set l .dead)).bind λa=>match a.1 with
    | .normal=>(iP P call aN (λ_ _ _=> .bad) n bd a.2.1 a.2.2.1).bind λb=>match leftOf b.1,b.2.2.1[l]? with
     |some (st,v),some .dead=> .leaf (v,b.2.2.1.set l (.mark (.loop T ps as bd st)),l::(a.2.2.2++b.2.2.2))
     |_,_=> .bad
    |_=> .bad
  else .bad
 |_=> .bad
theorem Nd {P:Program}(hm:P.follows .mixedOrders=true){call:cZ}(hc:cx P call){n l:Nat}{xs:List AV}{H H':aa}{v:Bool}{W:List Nat}(h:(Jy P call n l xs H).eR=some (v,H',W)):xL P l xs H v H' W:=by
 unfold Jy at h;split at h
 ·rename_i T ps as bd hl;split at h
  ·rename_i hk;simp only[ahp,decide_eq_true_eq]at hk;obtain⟨⟨y,T2,H2,W2⟩,h1,h⟩:=aW h;have fq:=kD hm hc n as hk.1.2 _ _ _ _ _ _ h1;split at h
   ·rename_i hy;simp only at hy;subst hy;obtain⟨⟨z,T3,H3,W3⟩,h2,h⟩:=aW h;have oS:=kD hm hc n bd hk.2 _ _ _ _ _ _ h2;split at h
    ·rename_i st v' Is hd;have:=Tree.aE h;simp only[ahe]at this;obtain⟨rfl,rfl,rfl⟩:=this;exact PS hl hk.1.1 fq oS hd (Nc Is)
    ·exact(Tree.aZ h).elim
   ·exact(Tree.aZ h).elim
  ·exact(Tree.aZ h).elim
 ·exact(Tree.aZ h).elim
def WX (o:Oper) (T:List AV):Option (Nat×List AV):=
 match o.op with
 | .call c=>match c.callee with
  | .value f=>match bk T f with
   | .kq l=>some (l,c.args.toList.map (bk T))
   |_=>none
  |_=>none
 |_=>none
def evY (P:Program) (call:cZ) (n k:Nat) (ops:Array Oper) (T:List AV) (H:aa):Tree gm:=
 if ja ops=true then
  (ql P call (λ_ _ _ _=>none) ops (ops.toList.take k) none T H).bind λq=>match ops[k]? with
   |some o=>match dx ops q.1 o,WX o q.1 with
    |some true,some (l,xs)=>(Jy P call n l xs q.2.1).bind λr=>
     (ql P call (λ_ _ _ _=>none) ops (ops.toList.drop (k+1)) none (gK q.1 o.dst (.sc (.bool r.1))) r.2.1).bind λp=> .leaf (.normal,p.1,p.2.1,r6 q.2.2++(r.2.2++r6 p.2.2))
    |_,_=> .bad
   |none=> .bad
 else .bad
theorem Ya {P:Program}(hm:P.follows .mixedOrders=true){call:cZ}(hc:cx P call){id n k:Nat}{ops:Array Oper}{T T':List AV}{H H':aa}{x:bj}{W:List Nat}(h:(evY P call n k ops T H).eR=some (x,T',H',W)):an P (.region id ops false) T H x T' H' W:=by
 unfold evY at h;split at h
 ·rename_i lU;obtain⟨⟨T1,H1,L1⟩,h1,h⟩:=aW h;split at h
  ·rename_i o ho;split at h
   ·rename_i l xs hw hy;obtain⟨⟨v,H2,W2⟩,h2,h⟩:=aW h;obtain⟨⟨T3,H3,L3⟩,h3,h⟩:=aW h;have:=Tree.aE h;simp only[ahe]at this;obtain⟨rfl,rfl,rfl,rfl⟩:=this;unfold WX at hy;split at hy
    ·rename_i c s7;split at hy
     ·rename_i f jH;split at hy
      ·rename_i l' hf;simp only[ag6,ahe]at hy;obtain⟨rfl,rfl⟩:=hy;exact Jx hc rN lU h1 ho hw s7 jH hf (Nd hm hc h2) h3
      ·cases hy
     ·cases hy
    ·cases hy
   ·exact(Tree.aZ h).elim
  ·exact(Tree.aZ h).elim
 ·exact(Tree.aZ h).elim
noncomputable def Bx (P:Program) (call:cZ) (n:Nat) (ys:List (Nat×Nat)) (ls:List Bt) (cs:List Bu):bX:=
 {told P ls cs with Ex:=λid ops T H=>match ys.find? (·.1==id)with
  |some (_,k)=>some (evY P call n k ops T H)
  |none=>none}
theorem mD {P:Program}(hm:P.follows .mixedOrders=true){call:cZ}(hc:cx P call){n:Nat}{ys:List (Nat×Nat)}{ls:List Bt}{cs:List Bu}:bA P (Bx P call n ys ls cs):=by
 refine⟨(aF (ls:=ls) (cs:=cs)).loop,(aF (ls:=ls) (cs:=cs)).site,λid ops T H t x T' H' Wr h hr=> ?_⟩;unfold Bx at h;simp only at h;split at h
 ·cases h;exact Ya hm hc hr
 ·cases h
theorem Ext.PT {n0:Nat}{W:Nat->Prop}{E E':Env}{H H':aa}{w w':World}(h:Ext n0 W E H w E' H' w'){l:Nat}(hl:n0<=l):Ext n0 W E H w E' (H'.set l .dead) w':=by
 refine⟨h.le,h.size,by simpa using h.len,λ{k} hk hw=> ?_,λhk hw ho=>h.iX hk hw ho,h.lL,λ{b} hb h0=> ?_⟩
 ·rw[ag7 (by omega)];exact h.same hk hw
 ·obtain⟨q1,q2,q3⟩:=h.stay hb h0;exact⟨q1,λk ho=>q2 k (jU ho).1,q3⟩
theorem an.aar {P:Program}{c:Code}{T T':List AV}{H H':aa}{x:bj}{W:List Nat}(h:an P c T H x T' H' W){l:Nat}(hl:H.length<=l):an P c T H x T' (H'.set l .dead) W:=by
 refine⟨λn0 W0 hn hW E w0 w a D s6 hg ht hd=> ?_,⟨by simpa using h.2.1,λk hk hm=> ?_⟩⟩
 ·refine wp_mono (h.1 n0 W0 hn hW E w0 w a D s6 hg ht hd) ?_;rintro e a' w' ⟨E',ax,T2,H2,⟨rfl,rfl,rfl⟩,r,ex,g,t,d⟩;exact⟨E',ax,_,_,⟨rfl,rfl,rfl⟩,r,ex.PT (ahx s6 hl),g.rL l,t,d⟩
 ·rw[ag7 (by omega)];exact h.2.2 k hk hm
def dc (ks:List Nat) (H:aa):aa:=ks.foldl (λH l=>H.set l .dead) H
theorem an.kill {P:Program}{c:Code}{T T':List AV}{H:aa}{x:bj}{W:List Nat}:∀(ks:List Nat) (H':aa),an P c T H x T' H' W->(∀l∈ks,H.length<=l)->an P c T H x T' (dc ks H') W
 |[],_,h,_=>h
 |k::ks,H',h,hk=>an.kill ks _ (h.aar (hk k (ahD ..))) (λl hl=>hk l (ahn _ hl))
def cz (ks:List Nat) (kl:List Nat) (n:Nat) (r:gm):Tidy:=⟨r.1,lC 0 ks r.2.1,(dc kl r.2.2.1).take n,below n r.2.2.2,dG n (lC 0 ks r.2.1)&&((dc kl r.2.2.1).take n).all (cH n)&&jC r.1⟩
theorem cE {P:Program}(hm:P.follows .mixedOrders=true){call:cZ}(hc:cx P call){lo:bX}{k n:Nat}{c:Code}{T T1:List AV}{H H1:aa}{ks kl:List Nat}{x:bj}{W1:List Nat}{F:Option Tidy}(hl:bA P lo) (h:(iH P call lo k c T H).via (cz ks kl n)=F)
  (hF:F=some ⟨x,T1,H1,W1,true⟩) (hn:H.length<=n) (jI:∀l∈kl,H.length<=l):an P c T H x T1 H1 W1:=by
 obtain⟨⟨y,T2,H2,W2⟩,hr,hg⟩:=cv h hF;have dC:=kT hm hc hl k c _ _ _ _ _ _ hr;simp only[cz,Tidy.mk.injEq,ahp]at hg;obtain⟨rfl,rfl,rfl,rfl,⟨h1,h2⟩,h3⟩:=hg;exact(((dC.kill kl _ jI).eB (dL _ _ _)).trim hn h1 (by simpa using h2) h3).wr (λl hl cO=>dt (by omega) hl)
structure PU where
 key:Nat
 ks:List Nat
 x:bj
 T:List AV
 H:aa
 W:List Nat
open Classical in
noncomputable def cj (P:Program) (c:Code) (T:List AV) (H:aa) (x:bj) (T':List AV) (H':aa) (W:List Nat):Bool:=decide (an P (.loop c) T H x T' H' W)
theorem bc {P:Program}{c:Code}{T T':List AV}{H H':aa}{x:bj}{W:List Nat}(h:an P (.loop c) T H x T' H' W):cj P c T H x T' H' W=true:=by simp only[cj,decide_eq_true_eq];exact h
noncomputable def cJ (P:Program) (xs:List PU) (lo:bX):bX:=
 {lo with loop:=λc T H=>match (kz c).bind (λi=>xs.find? (·.key==i))with
  |some e=>some (.br (cj P c (lC 0 e.ks T) H e.x e.T e.H e.W) (.leaf (e.x,e.T,e.H,e.W)) .bad)
  |none=>lo.loop c T H}
theorem ba {P:Program}{xs:List PU}{lo:bX}(hl:bA P lo):bA P (cJ P xs lo):=by
 refine⟨λc T H t x T' H' Wr h hr=> ?_,hl.site,hl.Ex⟩;unfold cJ at h;simp only at h;split at h
 ·cases h;rcases Tree.df hr with ⟨hb,hr⟩|⟨_,hr⟩
  ·have:=Tree.aE hr;simp only[ahe]at this;obtain⟨rfl,rfl,rfl,rfl⟩:=this;simp only[cj,decide_eq_true_eq]at hb;exact hb.ik (dL T 0 _)
  ·exact(Tree.aZ hr).elim
 ·exact hl.loop _ _ _ _ _ _ _ _ h hr
def qM:iD:=λ_ _ _=> .bad []
theorem By {P:Program}:ke P qM:=λg args H x H1 Wr h=>by cases h
theorem wE {P:Program}(hm:P.follows .mixedOrders=true){call:iD}(hc:ke P call){n:Nat}{g:FuncId}{fn:Func}{c:Code}{args:List AV}{y:bj}{T:List AV}{x:AV}{H H1 H2:aa}{W1 W2:List Nat}{D:jl}(mX:P.funcs[g]? =some fn) (gj:(fn.name=="runtime.NumGoroutine")=false) (gO:fn.body=some c)
  (oP:eF P c (kA fn args) H [] y T H1 W1 D) (hy:y= .normal∨y= .ret) (hq:xh P call n D H1= .ok (H2,W2)) (hz:ig P H2 fn T=some x):bZ P g args x H H2 (below H.length (W1++W2)):=by
 have hk:=(rJ (fn:=fn) (tmps:= #[]) (R:=λ_ _=>True) hm hc D _ _ _ hq).1;have pP:=oP.2.trans hk;refine⟨⟨fn,c,mX,gj,gO⟩,?_,pP.1,λl hl hn=>pP.2 l hl (λhm=>hn (dt hl hm))⟩;intro E w0 w vs hg hr;refine nc mX gO ?_;have ht:eJ E (kA fn args) (vs++Array.replicate (fn.ntmps-vs.size) undef):=by
  have h0:=eg hr (k:=(⟨by simp[hr.1],λi x hx=>by
   have:=ahf hx;rw[ah6]at this;rw[this.2];exact .any _⟩:ji E (List.replicate (fn.ntmps-args.length) .any) (Array.replicate (fn.ntmps-vs.size) undef)))
  exact h0
 refine wp_mono (oP.1 E w0 w ⟨_,[]⟩ hg ht .nil) ?_;rintro e a1 w1 ⟨E1,rx,nw,g1,t1,d1⟩;have ti:oT P fn a1.tmps (λe w'=>∃E',Mw E' (.ret x) e/\Ext H.length (·∈below H.length (W1++W2)) E H w E' H2 w'/\Good E' H2 w0 w') a1.defers w1:=by
  refine(rJ (fn:=fn) (tmps:=a1.tmps) hm hc D _ _ _ hq).2 E1 w0 w1 _ g1 d1 (λE2 w2 iK g2=> ?_);obtain⟨v,hv,hrel⟩:=jT g2 (t1.mono iK.le) hz;refine⟨v,hv,E2,.ret _ _ hrel,?_,g2⟩;exact(nw.weaken (ag3 _) (λl hl hm=>dt hl (ahk _ hm))).trans (iK.weaken oP.2.1 (λl hl hm=>dt hl (ahj _ hm)))
 rcases hy with rfl|rfl
 ·cases rx;exact⟨.inl rfl,ti⟩
 ·cases rx;exact⟨.inr rfl,ti⟩
theorem ev.row {nl:Bool}{sz n:Nat}{el Io:Nat->List AV}{own:Own}(h:∀i,i<n->el i=Io i):ev (.aY nl sz n el own) (.aY nl sz n Io .dA):=by
 intro E v hr
 cases hr with
 |fw sz el own ho=>exact .fw sz _ .dA (.inl rfl)
 |gG sz el own a ho=>exact .gG sz _ .dA a (.inl rfl)
 |aY sz n el own b off c u hn ho hc hl h1 hS hk=>
  exact .aY sz n Io .dA b off c u hn (by cases own with
   |dA=>exact ho
   |tight=>exact Nat.le_of_eq ho.symm
   |tok t=>exact ho.2.2
   |off t k=>exact ho.2) hc (λi hi=>h i hi▸hl i hi) (λi hi=>h i hi▸h1 i hi) (λi hi=>h i hi▸hS i hi) (λi hi=>h i hi▸hk i hi)
theorem ev.bq {cs cs':List AV}(h:Wk cs cs'):ev (.bq cs) (.bq cs'):=by
 intro E v hr
 cases hr with
 |bq cs us hs hk=>exact .bq cs' us (hs.trans h.1) (λj y hy=>by obtain⟨x,hx,k⟩:=h.2 j y hy;exact k _ _ (hk j x hx))
def iQ (P:Program) (g:FuncId) (args:List AV) (x:AV) (H H1:aa) (Wr:List Nat):Prop:=
 kP P g/\s4 P g args (.AA x) H H1 (·∈Wr)/\cQ H H1 Wr
theorem Jz {P:Program}{o:Oper}{T:List AV}{g:FuncId}{args:List AV}(hg:lW o T=some (g,args)) (hb:kP P g){E:Env}{ρ:Operand->Value}(w:World) (ht:Az E T o ρ):∃vs,(execOp ρ o).run P w= .ok (.enter g vs) w/\ji E args vs:=by
 unfold lW at hg;split at hg
 ·rename_i c ho;split at hg
  ·rename_i f hc;split at hg
   ·rename_i g' first fJ hf
    simp only[ag6,ahe]at hg;obtain⟨rfl,rfl⟩:=hg;have hr:=ht f (by simp[ho,Op.operands,Call.operands,hc]);rw[hf]at hr;generalize hv:ρ f=v at hr
    cases hr with
    |fn _ _ _ us vs h1 h2 k1 k2=>
     obtain⟨fn,cd,mX,gj,gO⟩:=hb;refine⟨us++c.args.map ρ++vs,?_,eg (eg ⟨h1,k1⟩ (nS c.args (λy hy=>ht y (by simp[ho,Op.operands,Call.operands,hy])))) ⟨h2,k2⟩⟩;simp only[execOp,ho,resolve,hc,hv,Deferred.ofValue,pure_bind,invoke];have h1:fn.name≠"runtime.NumGoroutine":=by simpa using gj
     simp[callFunc,mX,h1,gO]
   ·cases hg
  ·cases hg
 ·cases hg
def K2 (P:Program) (o:Oper) (T:List AV) (H:aa) (x:AV) (H':aa) (Wr:List Nat):Prop:=
 ∀(E:Env) (w0 w:World) (ρ:Operand->Value),Good E H w0 w->Az E T o ρ->
  (∃f vs,(execOp ρ o).run P w= .ok (.enter f vs) w/\Calls P f vs w (λe w'=>∃E',Mw E' (.AA x) e/\Ext H.length (·∈Wr) E H w E' H' w'/\Good E' H' w0 w'))∨
  (∃v,(execOp ρ o).run P w= .halt (.panic v) w/\Rel E x v/\H'=H)
theorem yV {P:Program}{o:Oper}{T:List AV}{H H1:aa}{x:AV}{g:FuncId}{args:List AV}{Wr:List Nat}(hg:lW o T=some (g,args)) (hc:iQ P g args x H H1 Wr):K2 P o T H x H1 Wr:=by
 intro E w0 w ρ Zm ht;obtain⟨vs,hr,hl⟩:=Jz hg hc.1 w ht;exact .inl ⟨g,vs,hr,hc.2.1 E w0 w vs Zm hl⟩
theorem FA {P:Program}{o:Oper}{T:List AV}{H:aa}{y:Operand}{t:TypeId}{x:AV}(ho:o.op= .panic y) (hy:bk T y= .lD t x):K2 P o T H (.lD t x) H []:=by
 intro E w0 w ρ Zm ht;have hr:=ht y (by simp[ho,Op.operands]);rw[hy]at hr;generalize hv:ρ y=v at hr
 cases hr with
 |lD t x v k=>
  refine .inr ⟨.iface t v,?_,.lD t x v k,rfl⟩;simp only[execOp,ho,hv,Instr.panic];rfl
theorem tw {P:Program}{id k:Nat}{ops:Array Oper}{T T1:List AV}{H H1 H2:aa}{W1 W2:List Nat}{o:Oper}{x:AV}(lU:ja ops=true)
  (pre:qg P ops (List.range k) T H T1 H1 W1) (nz:cQ H H1 W1) (ho:ops[k]? =some o) (hw:dx ops T1 o=some true) (hp:K2 P o T1 H1 x H2 W2) (w9:cQ H1 H2 W2):
  an P (.region id ops false) T H (.panic x) T1 H2 (W1++W2):=by
 refine⟨λn0 W hn hW E w0 w a D hn hg ht hd=>(wpIn_wide (n:=0)).1 (wpIn_region ?_),nz.trans w9⟩;have jI:k<ops.size:=(aha.1 ho).1;have e:List.range ops.size=List.range k++(k::(List.range (ops.size-(k+1))).map (k+1+·)):=by
  have e1:ops.size=k+(ops.size-(k+1)+1):=by omega
  rw[e1,List.range_add,aib];simp only[ahJ,ain,aik];congr 2;have e2:k+(k+(ops.size-(k+1)+1)-(k+1)+1)-(k+1)=ops.size-(k+1):=by omega
  have e3:k+(ops.size-(k+1)+1)-(k+1)=ops.size-(k+1):=by omega
  rw[e3];refine ahV (λa _=> ?_);simp only[Function.comp];omega
 rw[e];refine pre.xK vC (n:=0) lU _ hn hg ht (λE1 a1 w1 nw g1 t1 d1=> ?_);simp only[wpOpsIn,ho,fm t1 hw,if_true];refine⟨λf _=>trivial,?_⟩;rw[Oper.semAt_eq _ _ _ (nf lU ho)];have tf:n0<=H1.length:=ahx hn nz.1;rcases hp E1 w0 w1 a1.eval g1 (t1.o o)with ⟨f,vs,hr,hc⟩|⟨v,hr,hv,rfl⟩
 ·rw[hr,Oper.uponIn_enter];refine⟨λhs=>by simp[Fence.wide]at hs,callsIn_wide.2 (hc.mono ?_)⟩;rintro e w2 ⟨E2,re,iK,g2⟩
  cases re with
  |AA x v hv=>
   refine⟨E2,.panic x,T1,H2,⟨rfl,rfl,rfl⟩,.panic _ _ hv,?_,g2,t1.mono iK.le,d1.trans hd⟩;exact(nw.weaken (ag3 _) (λl hl hm=>hW l (ahk _ hm) hl)).trans (iK.weaken tf (λl hl hm=>hW l (ahj _ hm) hl))
 ·rw[hr];exact⟨E1,.panic x,T1,_,⟨rfl,rfl,rfl⟩,.panic _ _ hv,nw.weaken (ag3 _) (λl hl hm=>hW l (ahk _ hm) hl),g1,t1,d1.trans hd⟩
def PV (o:Oper) (T:List AV):Option AV:=
 match o.op with
 | .panic y=>match bk T y with
  | .lD t v=>some (.lD t v)
  |_=>none
 |_=>none
theorem PW {P:Program}{o:Oper}{T:List AV}{H:aa}{x:AV}(h:PV o T=some x):K2 P o T H x H []:=by
 unfold PV at h;split at h
 ·rename_i y ho;split at h
  ·rename_i t v hy;cases h;exact FA ho hy
  ·cases h
 ·cases h
open Classical in
noncomputable def PX (P:Program) (g:FuncId) (args:List AV) (H:aa) (x:AV):Bool:=decide (iQ P g args x H H [])
noncomputable def evP (P:Program) (call:cZ) (si:lM) (k:Nat) (x:AV) (ops:Array Oper) (T:List AV) (H:aa):Tree gm:=
 if ja ops=true then
  (ql P call si ops (ops.toList.take k) none T H).bind λq=>match ops[k]? with
   |some o=>match dx ops q.1 o with
    |some true=>match PV o q.1 with
     |some y=> .leaf (.panic y,q.1,q.2.1,r6 q.2.2)
     |none=>match lW o q.1 with
      |some (g,args)=> .br (PX P g args q.2.1 x) (.leaf (.panic x,q.1,q.2.1,r6 q.2.2)) .bad
      |none=> .bad
    |_=> .bad
   |none=> .bad
 else .bad
theorem Yb {P:Program}{call:cZ}{si:lM}(hc:cx P call) (KZ:oX P si){id k:Nat}{x:AV}{ops:Array Oper}{T T':List AV}{H H':aa}{y:bj}{W:List Nat}(h:(evP P call si k x ops T H).eR=some (y,T',H',W)):an P (.region id ops false) T H y T' H' W:=by
 unfold evP at h;split at h
 ·rename_i lU;obtain⟨⟨T1,H1,L1⟩,h1,h⟩:=aW h;split at h
  ·rename_i o ho;have jI:k<ops.size:=(aha.1 ho).1;obtain⟨c1,k1⟩:=fo hc KZ (ops.toList.take k) 0 none T H _ _ _ (λj q hq=>by
    rw[ahI]at hq;split at hq
    ·simpa using hq
    ·cases hq) h1
   have e1:(List.range (ops.toList.take k).length).map (0+·)=List.range k:=by
    have:(ops.toList.take k).length=k:=by simp;omega
    rw[this];simp
   rw[e1]at c1;split at h
   ·rename_i hw;split at h
    ·rename_i z hz;have:=Tree.aE h;simp only[ahe]at this;obtain⟨rfl,rfl,rfl,rfl⟩:=this;have:=tw (id:=id) lU c1.run k1 ho hw (PW hz) (.refl _ _);rwa [ah3]at this
    ·split at h
     ·rename_i g args hg;rcases Tree.df h with ⟨hb,h⟩|⟨_,h⟩
      ·have:=Tree.aE h;simp only[ahe]at this;obtain⟨rfl,rfl,rfl,rfl⟩:=this;simp only[PX,decide_eq_true_eq]at hb;have:=tw (id:=id) lU c1.run k1 ho hw (yV hg hb) (.refl _ _);rwa [ah3]at this
      ·exact(Tree.aZ h).elim
     ·exact(Tree.aZ h).elim
   ·exact(Tree.aZ h).elim
  ·exact(Tree.aZ h).elim
 ·exact(Tree.aZ h).elim
noncomputable def FB (P:Program) (call:cZ) (ps:List (Nat×Nat×AV)) (lo:bX):bX:=
 {lo with Ex:=λid ops T H=>match ps.find? (·.1==id)with
  |some (_,k,x)=>some (evP P call lo.site k x ops T H)
  |none=>lo.Ex id ops T H}
theorem PY {P:Program}{call:cZ}(hc:cx P call){ps:List (Nat×Nat×AV)}{lo:bX}(hl:bA P lo):bA P (FB P call ps lo):=by
 refine⟨hl.loop,hl.site,λid ops T H t x T' H' Wr h hr=> ?_⟩;unfold FB at h;simp only at h;split at h
 ·cases h;exact Yb hc hl.site hr
 ·exact hl.Ex _ _ _ _ _ _ _ _ _ h hr
theorem yW {P:Program}{g:FuncId}{fn:Func}{c:Code}{args:List AV}{T:List AV}{x:AV}{H H1:aa}{W:List Nat}(mX:P.funcs[g]? =some fn) (gj:(fn.name=="runtime.NumGoroutine")=false) (gO:fn.body=some c)
  (dC:an P c (kA fn args) H (.panic x) T H1 W):iQ P g args x H H1 (below H.length W):=by
 refine⟨⟨fn,c,mX,gj,gO⟩,?_,dC.2.1,λl hl hn=>dC.2.2 l hl (λhm=>hn (dt hl hm))⟩;intro E w0 w vs hg hr;refine calls_of_wp mX gO ?_;have ht:eJ E (kA fn args) (vs++Array.replicate (fn.ntmps-vs.size) undef):=by
  have h0:=eg hr (k:=(⟨by simp[hr.1],λi x hx=>by
   have:=ahf hx;rw[ah6]at this;rw[this.2];exact .any _⟩:ji E (List.replicate (fn.ntmps-args.length) .any) (Array.replicate (fn.ntmps-vs.size) undef)))
  exact h0
 refine wp_mono (dC.1 H.length (·∈below H.length W) (ag3 _) (λl hl hn=>dt hn hl) E w0 w ⟨_,[]⟩ [] (ag3 _) hg ht rfl) ?_;rintro e a' w' ⟨E',ax,T',H2,⟨rfl,rfl,rfl⟩,r,ex,g',t,d⟩
 cases r with
 |panic x v hv=>exact⟨d,E',.AA _ _ hv,ex,g'⟩
structure nY where
 x:AV
 H:aa
 W:List Nat
open Classical in
noncomputable def cW (P:Program) (g:FuncId) (args:List AV) (H:aa) (x:AV) (H1:aa) (W:List Nat):Bool:=decide (bZ P g args x H H1 W)
theorem bS {P:Program}{g:FuncId}{args:List AV}{x:AV}{H H1:aa}{W:List Nat}(h:bZ P g args x H H1 W):cW P g args H x H1 W=true:=by simp only[cW,decide_eq_true_eq];exact h
def JA:Option Code->Option bj
 |none=>some .normal
 |some .ret=>some .ret
 |some (.exit i)=>some (.exit i)
 |_=>none
theorem Nf {st:Option Code}{y:bj}(h:JA st=some y):Jump st y:=by
 unfold JA at h;split at h
 ·cases h;exact .none
 ·cases h;exact .ret
 ·cases h;exact .exit _
 ·cases h
noncomputable def C5 (P:Program) (e:nY) (g:Operand) (ps:Array Tmp) (assign body:Code) (T:List AV) (H:aa) (D:jl):Tree Jc:=
 match bk T g with
 | .fn (.func gf) first fJ=> .br (cW P gf (first++[.kq (H.length+1)]++fJ) ((H++[.mark .defs])++[.mark (.loop T ps assign body none)]) e.x e.H e.W)
  (match e.H[H.length+1]? with
  |some (.mark (.loop _ _ _ _ st))=>match JA st with
   |some y=> .leaf (y,T,e.H.set (H.length+1) .dead,e.W++[H.length+1],.mark H.length::D)
   |none=> .bad
  |_=> .bad) .bad
 |_=> .bad
theorem Bz {P:Program}{e:nY}{g:Operand}{ps:Array Tmp}{assign body:Code}{T T':List AV}{H H':aa}{D D':jl}{x:bj}{Wr:List Nat}(h:(C5 P e g ps assign body T H D).eR=some (x,T',H',Wr,D')):eF P (.rangeFunc g ps assign body) T H D x T' H' Wr D':=by
 unfold C5 at h;split at h
 ·rename_i gf first fJ XW
  rcases Tree.df h with ⟨hb,h⟩|⟨_,h⟩
  ·simp only[cW,decide_eq_true_eq]at hb;split at h
   ·rename_i h1;split at h
    ·rename_i y hj;have:=Tree.aE h;simp only[ahe]at this;obtain⟨rfl,rfl,rfl,rfl,rfl⟩:=this;exact Fe XW hb h1 (Nf hj)
    ·exact(Tree.aZ h).elim
   ·exact(Tree.aZ h).elim
  ·exact(Tree.aZ h).elim
 ·exact(Tree.aZ h).elim
noncomputable def xk (P:Program) (call:cZ) (lo:bX) (rt:nY) (n:Nat):Code->List AV->aa->jl->Tree Jc
 | .rangeFunc g ps assign body,T,H,D=>C5 P rt g ps assign body T H D
 | .seq a b,T,H,D=>(xk P call lo rt n a T H D).bind λr=>match r.1 with
  | .normal=>(xk P call lo rt n b r.2.1 r.2.2.1 r.2.2.2.2).bind λq=> .leaf (q.1,q.2.1,q.2.2.1,r.2.2.2.1++q.2.2.2.1,q.2.2.2.2)
  |_=> .leaf r
 | .block i c,T,H,D=>(xk P call lo rt n c T H D).bind λr=> .leaf (rI i r.1,r.2)
 | .cond c a b,T,H,D=>M4 (Js T c) T λT=>match bk T c with
  | .sc (.bool t)=> .br t (xk P call lo rt n a T H D) (xk P call lo rt n b T H D)
  |_=> .bad
 | .region id ops false,T,H,D=>match yJ P ops T H with
  |some (T',g,args)=> .leaf (.normal,T',H,[],.call g args::D)
  |none=>(iH P call lo n (.region id ops false) T H).bind λr=> .leaf (r.1,r.2.1,r.2.2.1,r.2.2.2,D)
 |c,T,H,D=>(iH P call lo n c T H).bind λr=> .leaf (r.1,r.2.1,r.2.2.1,r.2.2.2,D)
theorem Uu {P:Program}(hm:P.follows .mixedOrders=true){call:cZ}(hc:cx P call){lo:bX}(hl:bA P lo) (rt:nY) (n:Nat):∀(c:Code) (T:List AV) (H:aa) (D:jl) (x:bj) (T':List AV) (H':aa) (Wr:List Nat) (D':jl),(xk P call lo rt n c T H D).eR=some (x,T',H',Wr,D')->eF P c T H D x T' H' Wr D':=by
 have other:∀(c:Code) (T:List AV) (H:aa) (D:jl) (x:bj) (T':List AV) (H':aa) (Wr:List Nat) (D':jl),((iH P call lo n c T H).bind λr=>(.leaf (r.1,r.2.1,r.2.2.1,r.2.2.2,D):Tree Jc)).eR=some (x,T',H',Wr,D')->eF P c T H D x T' H' Wr D':=by
  intro c T H D x T' H' Wr D' h;obtain⟨⟨y,T1,H1,W1⟩,h1,h⟩:=aW h;have:=Tree.aE h;simp only[ahe]at this;obtain⟨rfl,rfl,rfl,rfl,rfl⟩:=this;exact .of (kT hm hc hl n c _ _ _ _ _ _ h1) _
 intro c
 induction c with
 |seq a b MS Ps=>
  intro T H D x T' H' Wr D' h;unfold xk at h;obtain⟨⟨y,T1,H1,W1,D1⟩,h1,h⟩:=aW h;have Uv:y≠.normal->(x,T',H',Wr,D')=(y,T1,H1,W1,D1)->eF P (.seq a b) T H D x T' H' Wr D':=by
   intro gX e;cases e;exact(MS _ _ _ _ _ _ _ _ h1).XV gX
  cases y with
  |normal=>
   obtain⟨⟨z,T2,H2,W2,D2⟩,h2,h⟩:=aW h;have:=Tree.aE h;simp only[ahe]at this;obtain⟨rfl,rfl,rfl,rfl,rfl⟩:=this;exact(MS _ _ _ _ _ _ _ _ h1).seq (Ps _ _ _ _ _ _ _ _ h2)
  |exit i=>exact Uv (by simp) (Tree.aE h)
  |goto i=>exact Uv (by simp) (Tree.aE h)
  |ret=>exact Uv (by simp) (Tree.aE h)
  |panic v=>exact Uv (by simp) (Tree.aE h)
 |block i c ih=>
  intro T H D x T' H' Wr D' h;unfold xk at h;obtain⟨⟨y,T1,H1,W1,D1⟩,h1,h⟩:=aW h;have:=Tree.aE h;simp only[ahe]at this;obtain⟨rfl,rfl,rfl,rfl,rfl⟩:=this;exact(ih _ _ _ _ _ _ _ _ h1).block
 |cond c a b MS Ps=>
  intro T H D x T' H' Wr D' h;unfold xk at h;have h:=nX (λb d=>qJ) h;split at h
  ·rename_i t ht;rcases Tree.df h with ⟨rfl,h⟩|⟨rfl,h⟩
   ·exact .cond ht (MS _ _ _ _ _ _ _ _ h)
   ·exact .cond ht (Ps _ _ _ _ _ _ _ _ h)
  ·exact(Tree.aZ h).elim
 |region id ops draw=>
  intro T H D x T' H' Wr D' h
  cases draw with
  |true=>exact other _ _ _ _ _ _ _ _ _ h
  |false=>
   unfold xk at h;split at h
   ·rename_i T2 g args hq;have:=Tree.aE h;simp only[ahe]at this;obtain⟨rfl,rfl,rfl,rfl,rfl⟩:=this;exact vy hq
   ·exact other _ _ _ _ _ _ _ _ _ h
 |rangeFunc g ps assign body _ _=>
  intro T H D x T' H' Wr D' h;unfold xk at h;exact Bz h
 |_=>intro T H D x T' H' Wr D' h;exact other _ _ _ _ _ _ _ _ _ h
noncomputable def C6 (P:Program) (call:cZ) (lo:bX) (rt:nY) (pS:iD) (n:Nat) (g:FuncId) (args:List AV) (H:aa):Tree (AV×aa×List Nat):=
 match P.funcs[g]? with
 |none=> .bad
 |some fn=>match fn.body with
  |none=> .bad
  |some c=>if (fn.name=="runtime.NumGoroutine")=true then .bad else
   (xk P call lo rt n c (kA fn args) H []).bind λr=>match r.1 with
    | .normal| .ret=>match xh P pS n r.2.2.2.2 r.2.2.1 with
     | .ok (H2,W2)=>match ig P H2 fn r.2.1 with
      |some x=> .leaf (x,H2,below H.length (r.2.2.2.1++W2))
      |none=> .bad
     | .bad _=> .bad
    |_=> .bad
theorem K3 {P:Program}(hm:P.follows .mixedOrders=true){call:cZ}(hc:cx P call){lo:bX}(hl:bA P lo){rt:nY}{pS:iD}(hce:ke P pS){n:Nat}{g:FuncId}{args:List AV}{H:aa}{r:AV×aa×List Nat}(h:(C6 P call lo rt pS n g args H).eR=some r):bZ P g args r.1 H r.2.1 r.2.2:=by
 unfold C6 at h;split at h
 ·exact(Tree.aZ h).elim
 ·rename_i fn mX;split at h
  ·exact(Tree.aZ h).elim
  ·rename_i c gO;split at h
   ·exact(Tree.aZ h).elim
   ·rename_i gj;obtain⟨⟨y,T,H1,W1,D⟩,h1,h⟩:=aW h;have oP:=Uu hm hc hl rt n c _ _ _ _ _ _ _ _ h1;have fin:(y= .normal∨y= .ret)->(match xh P pS n D H1 with
      | .ok (H2,W2)=>match ig P H2 fn T with
       |some x=>(.leaf (x,H2,below H.length (W1++W2)):Tree (AV×aa×List Nat))
       |none=> .bad
      | .bad _=> .bad).eR=some r->bZ P g args r.1 H r.2.1 r.2.2:=by
     intro hy h;split at h
     ·rename_i H2 W2 hq;split at h
      ·rename_i x hz;rw[Tree.aE h];exact wE hm hce mX (by simpa using gj) gO oP hy hq hz
      ·exact(Tree.aZ h).elim
     ·exact(Tree.aZ h).elim
    cases y with
    |normal=>exact fin (.inl rfl) h
    |ret=>exact fin (.inr rfl) h
    |exit i=>exact(Tree.aZ h).elim
    |goto i=>exact(Tree.aZ h).elim
    |panic v=>exact(Tree.aZ h).elim
def Uw (P:Program) (call:iD) (n:Nat) (g:FuncId) (args:List AV) (H:aa) (x:AV):Ev (aa×List Nat):=
 match P.funcs[g]? with
 |none=> .bad [9100,g]
 |some fn=>match fn.body with
  |some (.seq (.region id ops false) rest)=>match ops.toList with
   |o::r=>match o.guard,o.op with
    |none,.call { callee:= .builtin .recover,..}=>
     match Uh P call ops r none (gK (args++List.replicate (fn.ntmps-args.length) .any) o.dst x) H with
     | .ok (T1,H1,L)=>match XT P call n rest T1 H1 with
      | .ok (.normal,T2,H2,W)=>match ig P H2 fn T2 with
       |some _=> .ok (H2,r6 L++W)
       |none=> .bad [9103,g]
      | .ok _=> .bad [9104,g]
      | .bad tr=> .bad (10001::g::tr)
     | .bad tr=> .bad (10002::g::tr)
    |_,_=> .bad [9105,g]
   |[]=> .bad [9106,g]
  |_=> .bad [9107,g]
theorem Ux {P:Program}{call:iD}(hm:P.follows .mixedOrders=true) (hc:ke P call){n:Nat}{g:FuncId}{args:List AV}{x:AV}{H H':aa}{Wr:List Nat}(h:Uw P call n g args H x= .ok (H',Wr)):
  (∀(E:Env) (w0 w:World) (vs:Array Value) (z:Value),Good E H w0 w->ji E args vs->Rel E x z->CallsD P g vs (.panicking [{ v:=z,recovered:=false}]) w λe u' w'=>u'= .panicking [{ v:=z,recovered:=true}]/\(∃v,e= .returned v)/\∃E',Ext H.length (·∈Wr) E H w E' H' w'/\Good E' H' w0 w')/\cQ H H' Wr:=by
 unfold Uw at h;split at h
 ·cases h
 ·rename_i fn mX;split at h
  ·rename_i id ops rest gO;split at h
   ·rename_i o r Pq;split at h
    ·rename_i Z7 acN Zm s7;split at h
     ·rename_i T1 H1 L hr;split at h
      ·rename_i T2 H2 W Pu;split at h
       ·rename_i y lT;cases h;have ga:ops=(o::r).toArray:=by apply aiq;simpa using Pq
        have MT:∀(j:Nat) (q:Oper),r[j]? =some q->ops[1+j]? =some q:=λj q hq=>by
         rw[ga];simpa [Nat.add_comm]using hq
        obtain⟨Ul,nz⟩:=mf hc r 1 _ _ _ _ _ _ MT hr;have oS:=CR hm hc n rest _ _ _ _ _ _ Pu;refine⟨λE w0 w vs z hg hrel hz=> ?_,nz.trans oS.2⟩;refine callsD_of_wpS mX gO (λc₀ cs KV=> ?_);have TD:eJ E (args++List.replicate (fn.ntmps-args.length) .any) (vs++Array.replicate (fn.ntmps-vs.size) undef):=by
         have h0:=eg hrel (k:=(⟨by simp[hrel.1],λi x hx=>by
          have:=ahf hx;rw[ah6]at this;rw[this.2];exact .any _⟩:ji E (List.replicate (fn.ntmps-args.length) .any) (Array.replicate (fn.ntmps-vs.size) undef)))
         exact h0
        refine wpS_seq (wpS_region ?_);have Jd:List.range ops.size=0::(List.range r.length).map (1+·):=by
         rw[ga];simp only[aiu,ahv,aib];congr 1;refine ahV (λa _=> ?_);omega
        rw[Jd];have CQ:ops[0]? =some o:=by rw[ga];rfl
        have w1:∀t:Array Value,Region.wanted o (yielded ops t)=true:=λa=>by unfold Region.wanted;rw[Zm]
        simp only[wpOpsS,CQ,w1,if_true];have dz:∀a:Act,(execOp a.eval o).run P w= .ok .recover w:=λa=>by
         simp only[execOp,s7,resolve,pure_bind,invoke,builtin,Sem.run_pure]
        rw[dz];have Je:recoverD (c₀::cs)=some (z,{ c₀ with mode:= .panicking [{ v:=z,recovered:=true}]}::cs):=by simp[recoverD,KV]
        simp only[Je];refine Ul.run.Pt (ag3 _) hg (fU (a:={ tmps:=vs++Array.replicate (fn.ntmps-vs.size) undef,defers:=[]}) TD o.dst hz) (λE1 a1 w1 nw g1 t1 d1=> ?_);have d1':a1.defers=[]:=by rw[d1,cg]
        refine wpS_of_wp (wp_mono (oS.1 H.length (·∈W) nz.1 (λl hl _=>hl) E1 w0 w1 a1 [] nz.1 g1 t1 d1') ?_);rintro e a2 w2 ⟨E2,y,T3,H3,⟨rfl,rfl,rfl⟩,rx,iK,g2,t2,d2⟩;cases rx;obtain⟨v,hv,_⟩:=jT g2 t2 lT;refine⟨d2,.panicking [{ v:=z,recovered:=true}],rfl,v,hv,rfl,⟨v,rfl⟩,E2,?_,g2⟩;exact(nw.weaken (ag3 _) (λl _ hl=>ahk _ hl)).trans (iK.weaken (ag3 _) (λl _ hl=>ahj _ hl))
       ·cases h
      ·cases h
      ·cases h
     ·cases h
    ·cases h
   ·cases h
  ·cases h
theorem C7 {P:Program}(hm:P.follows .mixedOrders=true){call:iD}(hc:ke P call){n:Nat}{g q:FuncId}{fn:Func}{c:Code}{args FC:List AV}{T:List AV}{x y:AV}{H H1 H2:aa}{W1 W2:List Nat}(mX:P.funcs[g]? =some fn) (gj:(fn.name=="runtime.NumGoroutine")=false) (gO:fn.body=some c)
  (oP:eF P c (kA fn args) H [] (.panic x) T H1 W1 [.call q FC]) (hq:Uw P call n q FC H1 x= .ok (H2,W2)) (hz:ig P H2 fn T=some y):bZ P g args y H H2 (below H.length (W1++W2)):=by
 obtain⟨yH,hk⟩:=Ux hm hc hq;have pP:=oP.2.trans hk;refine⟨⟨fn,c,mX,gj,gO⟩,?_,pP.1,λl hl hn=>pP.2 l hl (λhm=>hn (dt hl hm))⟩;intro E w0 w vs hg hr;refine calls_of_wp_defers mX gO ?_;have ht:eJ E (kA fn args) (vs++Array.replicate (fn.ntmps-vs.size) undef):=by
  have h0:=eg hr (k:=(⟨by simp[hr.1],λi x hx=>by
   have:=ahf hx;rw[ah6]at this;rw[this.2];exact .any _⟩:ji E (List.replicate (fn.ntmps-args.length) .any) (Array.replicate (fn.ntmps-vs.size) undef)))
  exact h0
 refine wp_mono (oP.1 E w0 w ⟨_,[]⟩ hg ht .nil) ?_;rintro e a1 w1 ⟨E1,rx,nw,g1,t1,d1⟩
 cases rx with
 |panic x v hv=>
  generalize Ew:a1.defers=ds at d1
  cases d1 with
  | @cons q' d D ds hd ac5=>
   cases ac5;obtain⟨⟨Z6,c',XS,s6,iw⟩,cap,TA,MU,rfl,hrel⟩:=hd;obtain⟨target,Pw⟩:=d;simp only at MU;subst MU;show Leaves P fn a1.tmps _ a1.defers (.panicking [{ v:=v,recovered:=false}]) w1;rw[Ew];refine⟨by simp,_,_,q,Pw++cap,rfl,?_,?_⟩
   ·have h1:Z6.name≠"runtime.NumGoroutine":=by simpa using s6
    simp[invoke,callFunc,XS,h1,iw]
   ·refine(yH E1 w0 w1 _ v g1 hrel hv).mono ?_;rintro e u' w2 ⟨rfl,⟨u,rfl⟩,E2,iK,g2⟩;obtain⟨r,Xw,Pp⟩:=jT g2 (t1.mono iK.le) hz;refine⟨r,Xw,E2,.ret _ _ Pp,?_,g2⟩;exact(nw.weaken (ag3 _) (λl hl hm=>dt hl (ahk _ hm))).trans (iK.weaken oP.2.1 (λl hl hm=>dt hl (ahj _ hm)))
structure WY where
 site:Nat
 x:AV
 H:aa
 W:List Nat
noncomputable def eV (P:Program) (es:List WY) (lo:bX):bX:=
 {lo with site:=λd g args H=>match es.find? (·.site==d)with
  |some e=>some (.br (cW P g args H e.x e.H e.W) (.leaf (e.x,e.H,e.W)) .bad)
  |none=>lo.site d g args H}
theorem bx {P:Program}{es:List WY}{lo:bX}(hl:bA P lo):bA P (eV P es lo):=by
 refine⟨hl.loop,λd g args H t r h hr=> ?_,hl.Ex⟩;unfold eV at h;simp only at h;split at h
 ·cases h;rcases Tree.df hr with ⟨hb,hr⟩|⟨_,hr⟩
  ·simp only[cW,decide_eq_true_eq]at hb;rw[Tree.aE hr];exact hb
  ·exact(Tree.aZ hr).elim
 ·exact hl.site _ _ _ _ _ _ h hr
inductive Zq:bu->bu->Prop where
 |dead (o:bu):Zq o .dead
 |refl (o:bu):Zq o o
 |cells {cs cs':List AV} (h:Wk cs cs'):Zq (.cells cs) (.cells cs')
def Yc (H H':aa):Prop:=H.length=H'.length/\∀(l:Nat) (o':bu),H'[l]? =some o'->∃o,H[l]? =some o/\Zq o o'
theorem qN {E:Env}{H H':aa}(h:Yc H H'){k b:Nat}(ho:owns E H' k b):owns E H k b:=by
 unfold owns at ho ⊢
 cases hk:H'[k]? with
 |none=>rw[hk]at ho;exact ho.elim
 |some o'=>
  obtain⟨o,h1,h2⟩:=h.2 k o' hk;rw[hk]at ho;rw[h1]
  cases h2 with
  |dead=>exact ho.elim
  |refl=>exact ho
  |cells=>exact ho
theorem Good.WZ {E:Env}{H H':aa}{w0 w:World}(g:Good E H w0 w) (h:Yc H H'):Good E H' w0 w:=by
 refine⟨g.below,λhs=>g.snap hs,λ{l o'} hl=> ?_,λ{l l' b} h1 h2=>g.sep (qN h h1) (qN h h2),λ{l} hl=>g.fresh (by rw[h.1];exact hl),λhl=>g.mb hl⟩;obtain⟨o,h1,h2⟩:=h.2 l o' hl;have ho:=g.obj h1
 cases h2 with
 |dead=>exact trivial
 |refl=>exact ho
 | @cells cs cs' hw=>
  intro b hb;obtain⟨q1,q2,arr,t,q3,q4⟩:=ho b hb;refine⟨q1,q2,arr,t,q3,λj x hj=> ?_⟩;obtain⟨y,hy,k⟩:=hw.2 j x hj;obtain⟨u,hu,hr⟩:=q4 j y hy;exact⟨u,hu,k _ _ hr⟩
def FD (P:Program) (n:Nat):iD:=X3 P (λ_ _ _=>none) n
theorem PZ {P:Program}(hm:P.follows .mixedOrders=true) (n:Nat):ke P (FD P n):=Jf hm (λ_ _ _ _ _ _ h=>by cases h) n
theorem iE {P:Program}{c:Code}(S:Nat->List AV->aa->Prop) (Q:bj->List AV->aa->Prop) (lo:Nat)
  (step:∀m T H,S m T H->∃x T1 H1 W,an P c T H x T1 H1 W/\(∀l∈W,lo<=l)/\((x= .normal/\∃m',m'<m/\S m' T1 H1)∨(x≠.normal/\Q x T1 H1))):
  ∀m T H,S m T H->∃x T' H' W,an P (.loop c) T H x T' H' W/\(∀l∈W,lo<=l)/\Q x T' H':=by
 have key:∀m T H,S m T H->∃x T' H' k W,dX P c x T' H' k T H W/\(∀l∈W,lo<=l)/\Q x T' H':=by
  intro m
  induction m using Nat.strongRecOn with
  |_ m ih=>
   intro T H h;obtain⟨x,T1,H1,W,dC,hW,hx|hx⟩:=step m T H h
   ·obtain⟨rfl,m',hm,hs⟩:=hx;obtain⟨x,T',H',k,W',hr,hW',hq⟩:=ih m' hm T1 H1 hs;refine⟨x,T',H',k+1,_,.next dC hr,λl hl=> ?_,hq⟩;rcases ahC.1 hl with hl|hl
    ·exact hW l hl
    ·exact hW' l hl
   ·exact⟨x,T1,H1,0,W,.out dC hx.1,hW,hx.2⟩
 intro m T H h;obtain⟨x,T',H',k,W,hr,hW,hq⟩:=key m T H h;exact⟨x,T',H',W,hr.ok,hW,hq⟩
def P0 (b:Bool):Value->Value->AV
 | .bool p,.bool q=> .sc (.bool (bif b then p else q))
 | .int k p,.int k' q=>if k=k' then .sc (.int k (bif b then p else q))else .any
 | .string p,.string q=> .sc (.string (bif b then p else q))
 |_,_=> .any
def BA (b:Bool):AV->AV->AV
 | .sc u,.sc v=>P0 b u v
 | .ptr l o,.ptr l' o'=>if l=l'/\o=o' then .ptr l o else .any
 |_,_=> .any
theorem Uy (x y:AV):ev x (BA true x y):=by
 unfold BA;split
 ·unfold P0;split
  ·exact .refl _
  ·split
   ·rename_i h;subst h;exact .refl _
   ·exact .any _
  ·exact .refl _
  ·exact .any _
 ·split
  ·exact .refl _
  ·exact .any _
 ·exact .any _
theorem Uz (x y:AV):ev y (BA false x y):=by
 unfold BA;split
 ·unfold P0;split
  ·exact .refl _
  ·split
   ·rename_i h;subst h;exact .refl _
   ·exact .any _
  ·exact .refl _
  ·exact .any _
 ·split
  ·rename_i h;obtain⟨rfl,rfl⟩:=h;exact .refl _
  ·exact .any _
 ·exact .any _
def pT (b:Bool) (ws:List Nat):Nat->List AV->List AV->List AV->List AV
 |i,x::T,y::T1,z::T0=>(if ws.contains i=true then BA b y z else x)::pT b ws (i+1) T T1 T0
 |_,_,_,_=>[]
def gP (ws:List Nat) (T T':List AV):Prop:=T'.length=T.length/\∀i,i∉ws->T'[i]? =T[i]?
theorem gP.refl (ws:List Nat) (T:List AV):gP ws T T:=⟨rfl,λ_ _=>rfl⟩
theorem gP.trans {ws:List Nat}{T T1 T2:List AV}(h:gP ws T T1) (k:gP ws T1 T2):gP ws T T2:=⟨k.1.trans h.1,λi hi=>(k.2 i hi).trans (h.2 i hi)⟩
theorem gP.more {ws ws':List Nat}{T T':List AV}(h:gP ws T T') (hs:∀i∈ws,i∈ws'):gP ws' T T':=⟨h.1,λi hi=>h.2 i (λhm=>hi (hs i hm))⟩
theorem gP.put (T:List AV) (d:Option Tmp) (x:AV){ws:List Nat}(h:∀i,d=some i->i∈ws):gP ws T (gK T d x):=by
 cases d with
 |none=>exact .refl _ _
 |some d=>exact⟨by simp[gK],λi hi=>by simp only[gK];exact ag7 (λe=>hi (by have:=h d rfl;rwa [e]at this))⟩
theorem yX (b:Bool) (ws:List Nat) (T T1 T0:List AV) (h1:T1.length=T.length) (h0:T0.length=T.length):gP ws T (pT b ws 0 T T1 T0):=by
 have key:∀(T T1 T0:List AV) (k:Nat),T1.length=T.length->T0.length=T.length->(pT b ws k T T1 T0).length=T.length/\∀i,(k+i)∉ws->(pT b ws k T T1 T0)[i]? =T[i]? :=by
  intro T
  induction T with
  |nil=>intro T1 T0 k h1 h0;exact⟨by simp[pT],λi _=>by simp[pT]⟩
  |cons x T ih=>
   intro T1 T0 k h1 h0
   cases T1 with
   |nil=>simp at h1
   |cons y T1=>
    cases T0 with
    |nil=>simp at h0
    |cons z T0=>
     obtain⟨q1,q2⟩:=ih T1 T0 (k+1) (by simpa using h1) (by simpa using h0);refine⟨by simp[pT,q1],λi hi=> ?_⟩
     cases i with
     |zero=>
      have:¬ws.contains k=true:=by simpa using hi
      simp only[pT,if_neg this,ahw]
     |succ i=>
      simp only[pT,ahL];exact q2 i (by rwa [show k+1+i=k+(i+1) by omega])
 obtain⟨q1,q2⟩:=key T T1 T0 0 h1 h0;exact⟨q1,λi hi=>q2 i (by rwa [ahF])⟩
theorem FE (b:Bool) (ws:List Nat) (T T1 T0:List AV) (l1:T1.length=T.length) (l0:T0.length=T.length) (h1:b=true->gP ws T T1) (h0:b=false->gP ws T T0):Wk (bif b then T1 else T0) (pT b ws 0 T T1 T0):=by
 have key:∀(T T1 T0:List AV) (k:Nat),T1.length=T.length->T0.length=T.length->(b=true->∀i,(k+i)∉ws->T1[i]? =T[i]?)->(b=false->∀i,(k+i)∉ws->T0[i]? =T[i]?)->Wk (bif b then T1 else T0) (pT b ws k T T1 T0):=by
  intro T
  induction T with
  |nil=>
   intro T1 T0 k h1 h0 _ _;have e1:T1=[]:=by simpa using h1
   have e0:T0=[]:=by simpa using h0
   subst e1 e0;cases b<;>exact .nil
  |cons x T ih=>
   intro T1 T0 k h1 h0 e1 e0
   cases T1 with
   |nil=>simp at h1
   |cons y T1=>
    cases T0 with
    |nil=>simp at h0
    |cons z T0=>
     have q:=ih T1 T0 (k+1) (by simpa using h1) (by simpa using h0) (λhb i hi=>by have:=e1 hb (i+1) (by rwa [show k+(i+1)=k+1+i by omega]);simpa using this) (λhb i hi=>by have:=e0 hb (i+1) (by rwa [show k+(i+1)=k+1+i by omega]);simpa using this);have hx:ev (bif b then y else z) (if ws.contains k=true then BA b y z else x):=by
      by_cases hk:ws.contains k=true
      ·rw[if_pos hk];cases b
       ·exact Uz _ _
       ·exact Uy _ _
      ·rw[if_neg hk];have ix:(k+0)∉ws:=by simpa using hk
       cases b with
       |true=>
        have a1:=e1 rfl 0 ix;simp only[ahw,ag6]at a1;subst a1;exact .refl _
       |false=>
        have a0:=e0 rfl 0 ix;simp only[ahw,ag6]at a0;subst a0;exact .refl _
     cases b
     ·exact .cons hx q
     ·exact .cons hx q
 exact key T T1 T0 0 l1 l0 (λhb i hi=>(h1 hb).2 i (by rwa [ahF]at hi)) (λhb i hi=>(h0 hb).2 i (by rwa [ahF]at hi))
def one {α:Type}:Tree α->Option (List Bool×α)
 | .leaf a=>some ([],a)
 | .bad=>none
 | .br b t f=>match f with
  | .bad=>match one t with
   |some r=>some (b::r.1,r.2)
   |none=>none
  |_=>none
def JB {α:Type}:List Bool->Tree α->Tree α
 |[],t=>t
 |b::r,t=> .br b (JB r t) .bad
theorem yY {α:Type}{t:Tree α}{r:α}(bs:List Bool):(JB bs t).eR=some r->(∀b∈bs,b=true)/\t.eR=some r:=by
 induction bs with
 |nil=>exact λh=>⟨λb hb=>by simp at hb,h⟩
 |cons b bs ih=>
  intro h;rcases Tree.df h with ⟨hb,h⟩|⟨_,h⟩
  ·obtain⟨h1,h2⟩:=ih h;refine⟨λc hc=> ?_,h2⟩;rcases ahl.1 hc with hc|hc
   ·rw[hc];exact hb
   ·exact h1 c hc
  ·exact(Tree.aZ h).elim
theorem xM {α:Type}:∀{t:Tree α}{bs:List Bool}{a:α},one t=some (bs,a)->(∀b∈bs,b=true)->t.eR=some a
 | .leaf x,bs,a,h,_=>by simp only[one,ag6,ahe]at h;rw[←h.2];rfl
 | .bad,bs,a,h,_=>by simp[one]at h
 | .br b t f,bs,a,h,hb=>by
  unfold one at h;split at h
  ·split at h
   ·rename_i r hr;simp only[ag6,ahe]at h;obtain⟨rfl,rfl⟩:=h;have h1:b=true:=hb b (ahD ..);subst h1;show t.eR=some r.2;exact xM (bs:=r.1) (t:=t) (a:=r.2) (by rw[hr]) (λc hc=>hb c (ahn _ hc))
   ·cases h
  ·cases h
def BB (b:Bool) (ws:List Nat) (T:List AV) (H:aa) (t1 t0:Option (List Bool×(List AV×aa×List Nat))):Option (Tree (List AV×aa×List Nat)):=
 match t1,t0 with
 |some (c1,T1,H1,[]),some (c0,T0,H0,[])=>if T1.length=T.length/\T0.length=T.length then
  some (JB (c1.map (λc=>bif b then c else true)++c0.map (λc=>bif b then true else c)) (.leaf (pT b ws 0 T T1 T0,H++List.replicate ((H1.length-H.length)+(H0.length-H.length)) .dead,[])))else none
 |_,_=>none
theorem vD {E:Env}{H:aa}{k l b:Nat}(h:owns E (H++List.replicate k .dead) l b):l<H.length/\owns E H l b:=by
 by_cases hl:l<H.length
 ·refine⟨hl,?_⟩;unfold owns at h ⊢;rwa [ahb hl]at h
 ·unfold owns at h;rw[ahi (by omega),List.getElem?_replicate]at h;split at h
  ·rename_i h2;split at h2<;>cases h2
  ·rename_i h2;split at h2<;>cases h2
  ·rename_i h2;split at h2<;>cases h2
  ·rename_i h2;split at h2<;>cases h2
  ·rename_i h2;split at h2<;>cases h2
  ·rename_i h2;split at h2<;>cases h2
  ·rename_i h2;split at h2<;>cases h2
  ·rename_i h2;split at h2<;>cases h2
  ·exact h.elim
theorem pb {E:Env}{H H1:aa}(hk:cQ H H1 []){l b:Nat}(hl:l<H.length) (h:owns E H l b):owns E H1 l b:=by
 unfold owns at h ⊢;rwa [hk.2 l hl (by simp)]
theorem Good.tail {E:Env}{H H1:aa}{w0 w:World}{k:Nat}(g:Good E H1 w0 w) (hk:cQ H H1 []) (hl:H1.length<=H.length+k):Good E (H++List.replicate k .dead) w0 w:=by
 refine⟨g.below,λh=>g.snap h,λ{l o} h=> ?_,λ{l l' b} h1 h2=> ?_,λ{l} h=>g.fresh (by simp at h;omega),λh=>g.mb h⟩
 ·by_cases cO:l<H.length
  ·rw[ahb cO,←hk.2 l cO (by simp)]at h;exact g.obj h
  ·rw[ahi (by omega),List.getElem?_replicate]at h;split at h
   ·cases h;exact trivial
   ·cases h
 ·obtain⟨q1,q2⟩:=vD h1;obtain⟨q3,q4⟩:=vD h2;exact g.sep (pb hk q1 q2) (pb hk q3 q4)
theorem Ext.tail {n0:Nat}{W:Nat->Prop}{E0 E:Env}{H0 H H1:aa}{w0 w:World}{k:Nat}(h:Ext n0 W E0 H0 w0 E H1 w) (hk:cQ H H1 []) (hn:n0<=H0.length) (h0:H0.length<=H.length):Ext n0 W E0 H0 w0 E (H++List.replicate k .dead) w:=by
 refine⟨h.le,h.size,by simp;omega,λ{l} hl hw=> ?_,λhl hw ho=>h.iX hl hw ho,h.lL,λ{b} hb hf=> ?_⟩
 ·rw[ahb (by omega),←hk.2 l (by omega) (by simp)];exact h.same hl hw
 ·obtain⟨q1,q2,q3⟩:=h.stay hb hf;exact⟨q1,λl ho=>q2 l (by obtain⟨p1,p2⟩:=vD ho;exact pb hk p1 p2),q3⟩
def lH (P:Program) (ops:Array Oper) (is:List Nat) (T:List AV) (H:aa) (T':List AV) (H':aa) (Wr:List Nat):Prop:=
 ∀(rest:List Nat) (Q:Exit->Act->World->Prop) (n0:Nat) (E:Env) (w0 w:World) (a:Act),n0<=H.length->Good E H w0 w->eJ E T a.tmps->
  (∀(E':Env) (a':Act) (w':World),Ext n0 (·∈Wr) E H w E' H' w'->Good E' H' w0 w'->eJ E' T' a'.tmps->a'.defers=a.defers->wpOps P ops Q rest a' w')->wpOps P ops Q (is++rest) a w
section
variable {P:Program}{ops:Array Oper}
theorem lH.nil (T:List AV) (H:aa):lH P ops [] T H T H []:=λrest Q n0 E w0 w a hn hg ht hk=>hk E a w (.refl _ _ _ _ _) hg ht rfl
theorem lH.skip {i:Nat}{o:Oper}{T:List AV}{H:aa}(ho:ops[i]? =some o) (hw:dx ops T o=some false):lH P ops [i] T H (gK T o.dst mV) H []:=by
 intro rest Q n0 E w0 w a hn hg ht hk;simp only[ah8,List.nil_append,wpOps,ho,fm ht hw,if_false,ahA];exact hk E _ w (.refl _ _ _ _ _) hg (fU ht o.dst (nP _)) (cg _ _ _)
theorem lH.step {i:Nat}{o:Oper}{x:AV}{T:List AV}{H H1:aa}{W1:List Nat}(ho:ops[i]? =some o) (hw:dx ops T o=some true) (hs:kX P o T H x H1 W1):lH P ops [i] T H (gK T o.dst x) H1 W1:=by
 intro rest Q n0 E w0 w a hn hg ht hk;simp only[ah8,List.nil_append,wpOps,ho,fm ht hw,if_true];refine .inl ((hs E w0 w a.eval hg (ht.o o)).wp ?_);rintro v w' ⟨E',he,qw,hv⟩;exact hk E' _ w' (he.weaken hn (λ_ _ h=>h)) qw (fU (ht.mono he.le) o.dst hv) (cg _ _ _)
theorem lH.app {is js:List Nat}{T T1 T2:List AV}{H H1 H2:aa}{W1 W2:List Nat}(h:lH P ops is T H T1 H1 W1) (k:lH P ops js T1 H1 T2 H2 W2):lH P ops (is++js) T H T2 H2 (W1++W2):=by
 intro rest Q n0 E w0 w a hn hg ht hk;rw[aio];refine h (js++rest) Q n0 E w0 w a hn hg ht (λE1 a1 w1 nw g1 t1 d1=> ?_);refine k rest Q n0 E1 w0 w1 a1 (ahx hn nw.len) g1 t1 (λE2 a2 w2 iK g2 t2 d2=> ?_);exact hk E2 a2 w2 ((nw.weaken (ag3 _) (λl _ hl=>ahk _ hl)).trans (iK.weaken (ag3 _) (λl _ hl=>ahj _ hl))) g2 t2 (d2.trans d1)
theorem lH.eB {is:List Nat}{T T1 T2:List AV}{H H1:aa}{W:List Nat}(h:lH P ops is T H T1 H1 W) (w:Wk T1 T2):lH P ops is T H T2 H1 W:=
 λrest Q n0 E w0 w1 a hn hg ht hk=>h rest Q n0 E w0 w1 a hn hg ht (λE' a' w' ex g t d=>hk E' a' w' ex g (t.wk w) d)
theorem lH.tail {is:List Nat}{T T1:List AV}{H H1:aa}{k:Nat}(h:lH P ops is T H T1 H1 []) (hk:cQ H H1 []) (hl:H1.length<=H.length+k):lH P ops is T H T1 (H++List.replicate k .dead) []:=
 λrest Q n0 E w0 w1 a hn hg ht q=>h rest Q n0 E w0 w1 a hn hg ht (λE' a' w' ex g t d=>q E' a' w' (ex.tail hk hn (ag3 _)) (g.tail hk hl) t d)
theorem lH.code {id:Nat}{T T':List AV}{H H':aa}{W:List Nat}(h:lH P ops (List.range ops.size) T H T' H' W) (hk:cQ H H' W):an P (.region id ops false) T H .normal T' H' W:=by
 refine⟨λn0 W0 hn hW E w0 w a D s6 hg ht hd=>wp_region ?_,hk⟩;have:=h [] (nQ n0 W0 (λy T2 H2=>y= .normal/\T2=T'/\H2=H') E H w0 w D) n0 E w0 w a hn hg ht (λE' a' w' ex g t d=>⟨E',_,T',H',⟨rfl,rfl,rfl⟩,.normal,ex.weaken (ag3 _) (λl hl hm=>hW l hm hl),g,t,d.trans hd⟩);rwa [ah3]at this
end
theorem cQ.tail {H H1:aa}(hk:cQ H H1 []) (k:Nat):cQ H (H++List.replicate k .dead) []:=⟨by simp,λl hl _=>ahb hl⟩
theorem Ng {P:Program}{ops:Array Oper}{is:List Nat}{b:Bool}{ws:List Nat}{T:List AV}{H:aa}{t1 t0:Tree (List AV×aa×List Nat)}{t:Tree (List AV×aa×List Nat)}{r:List AV×aa×List Nat}(hj:BB b ws T H (one t1) (one t0)=some t) (hr:t.eR=some r)
  (h1:b=true->∀a,t1.eR=some a->lH P ops is T H a.1 a.2.1 a.2.2/\cQ H a.2.1 a.2.2/\gP ws T a.1) (h0:b=false->∀a,t0.eR=some a->lH P ops is T H a.1 a.2.1 a.2.2/\cQ H a.2.1 a.2.2/\gP ws T a.1):
  lH P ops is T H r.1 r.2.1 r.2.2/\cQ H r.2.1 r.2.2/\gP ws T r.1:=by
 unfold BB at hj;split at hj
 ·rename_i c1 T1 H1 c0 T0 H0 e1 e0;split at hj
  ·rename_i hlen;cases hj;obtain⟨hc,hr⟩:=yY _ hr;rw[Tree.aE hr];have s1:b=true->t1.eR=some (T1,H1,[]):=λhb=>xM e1 (λc IK=>by
    have:=hc (bif b then c else true) (ahk _ (ahQ.2 ⟨c,IK,rfl⟩));simpa [hb]using this)
   have s0:b=false->t0.eR=some (T0,H0,[]):=λhb=>xM e0 (λc IK=>by
    have:=hc (bif b then true else c) (ahj _ (ahQ.2 ⟨c,IK,rfl⟩));simpa [hb]using this)
   have w:=FE b ws T T1 T0 hlen.1 hlen.2 (λhb=>(h1 hb _ (s1 hb)).2.2) (λhb=>(h0 hb _ (s0 hb)).2.2);refine⟨?_,.tail (.refl _ _) _,yX b ws T T1 T0 hlen.1 hlen.2⟩
   cases b with
   |true=>
    obtain⟨q1,q2,_⟩:=h1 rfl _ (s1 rfl);exact(q1.eB w).tail q2 (by have:=q2.1;simp only at this ⊢;omega)
   |false=>
    obtain⟨q1,q2,_⟩:=h0 rfl _ (s0 rfl);exact(q1.eB w).tail q2 (by have:=q2.1;simp only at this ⊢;omega)
  ·cases hj
 ·cases hj
def P6 (o:Oper):Bool:=match o.op with
 | .pick _ _ _=>true
 |_=>false
def vE (j:Nat):List Oper->Nat
 |[]=>0
 |o::r=>match o.guard with
  |some (k,_)=>if j<=k then vE j r+1 else(if P6 o=true then 1 else 0)
  |none=>if P6 o=true then 1 else 0
def dstsOf (os:List Oper):List Nat:=os.filterMap (·.dst)
def Yd (K:List Nat) (ops:Array Oper) (T:List AV) (o:Oper):Option (Nat×Bool×Nat):=
 match o.guard with
 |none=>none
 |some (j,_)=>if K.contains j=true then none else match Ut ops T o with
  |some (b,d)=>some (j,b,d)
  |none=>none
theorem P7 {K:List Nat}{ops:Array Oper}{T:List AV}{o:Oper}{j:Nat}{b:Bool}{d:Nat}(h:Yd K ops T o=some (j,b,d)):T[d]? =some (.sc (.bool b)):=by
 unfold Yd at h;split at h
 ·cases h
 ·split at h
  ·cases h
  ·split at h
   ·rename_i hq;cases h;exact yO hq
   ·cases h
abbrev Nh:=List AV×aa×List Nat
def P8 (t:Bool):AV->AV->Option AV
 | .sc (.bool p),.sc (.bool q)=>some (.sc (.bool (bif t then p else q)))
 | .sc (.int k p),.sc (.int k' q)=>if k=k' then some (.sc (.int k (bif t then p else q)))else none
 | .sc (.string p),.sc (.string q)=>some (.sc (.string (bif t then p else q)))
 |_,_=>none
theorem P9 {t:Bool}{x y z:AV}(h:P8 t x y=some z):z=if t=true then x else y:=by
 unfold P8 at h;split at h
 ·cases h;cases t<;>rfl
 ·split at h
  ·rename_i hk;subst hk;cases h;cases t<;>rfl
  ·cases h
 ·cases h;cases t<;>rfl
 ·cases h
def Ye (K:List Nat) (ops:Array Oper):Operand->Bool
 | .tmp t=>K.any λj=>(ops[j]?).bind (·.dst)==some t
 |_=>false
def W4 (K:List Nat) (ops:Array Oper) (o:Oper) (T:List AV):Option AV:=
 match o.op with
 | .pick c a b=>match bk T c with
  | .sc (.bool t)=>if Ye K ops c=true then some (match t with
   |true=>bk T a
   |false=>bk T b)else P8 t (bk T a) (bk T b)
  |_=>none
 |_=>none
def Qa (P:Program) (call:cZ) (si:lM) (K:List Nat) (ops:Array Oper) (o:Oper) (T:List AV) (H:aa):Tree pR:=
 match W4 K ops o T with
 |some x=> .leaf (x,H,true,tc o T,[])
 |none=>stepT P call si none o T H
theorem Qb {P:Program}{call:cZ}{si:lM}{K:List Nat}{ops:Array Oper}(hc:cx P call) (hs:oX P si){o:Oper}{T:List AV}{H:aa}{r:pR}(h:(Qa P call si K ops o T H).eR=some r):Jr P none o T H r:=by
 unfold Qa at h;split at h
 ·rename_i x hp;rw[Tree.aE h];unfold W4 at hp;split at hp
  ·rename_i c a b ho;split at hp
   ·rename_i t ht;have:x=if t=true then bk T a else bk T b:=by
     split at hp
     ·cases hp;cases t<;>rfl
     ·exact P9 hp
    refine .inl ⟨x,_,rfl,na ?_,λ_=>rfl⟩;unfold kZ;rw[ho];simp only[ht];rw[this]
   ·cases hp
  ·cases hp
 ·exact Fv hc hs h
def OP (P:Program) (call:cZ) (si:lM) (ops:Array Oper):Nat->List Nat->List Oper->List AV->aa->Tree Nh
 |0,_,_,_,_=> .bad
 |_+1,_,[],T,H=> .leaf (T,H,[])
 |n+1,K,o::r,T,H=>
  match Yd K ops T o with
  |some (j,b,d)=>
   match BB b (dstsOf ((o::r).take (vE j (o::r)))) T H (one (OP P call si ops n (j::K) ((o::r).take (vE j (o::r))) (ur T d true) H)) (one (OP P call si ops n (j::K) ((o::r).take (vE j (o::r))) (ur T d false) H))with
   |some t=>t.bind λq=>(OP P call si ops n K ((o::r).drop (vE j (o::r))) q.1 q.2.1).bind λp=> .leaf (p.1,p.2.1,q.2.2++p.2.2)
   |none=> .br b (OP P call si ops n (j::K) (o::r) (ur T d true) H) (OP P call si ops n (j::K) (o::r) (ur T d false) H)
  |none=>match dx ops T o with
   |none=> .bad
   |some false=>OP P call si ops n K r (gK T o.dst mV) H
   |some true=>(Qa P call si K ops o T H).bind λe=>(OP P call si ops n K r (gK T o.dst e.1) e.2.1).bind λq=> .leaf (q.1,q.2.1,e.2.2.2.2++q.2.2)
theorem Qc {P:Program}{call:cZ}{si:lM}(hc:cx P call) (KZ:oX P si){ops:Array Oper}:∀(n:Nat) (K:List Nat) (r:List Oper) (k:Nat) (T:List AV) (H:aa) (a:Nh),(∀(j:Nat) (o:Oper),r[j]? =some o->ops[k+j]? =some o)->(OP P call si ops n K r T H).eR=some a->
  lH P ops (List.range' k r.length) T H a.1 a.2.1 a.2.2/\cQ H a.2.1 a.2.2/\gP (dstsOf r) T a.1
 |0,K,r,k,T,H,a,ho,h=>by unfold OP at h;exact(Tree.aZ h).elim
 |n+1,K,[],k,T,H,a,ho,h=>by
  unfold OP at h;rw[Tree.aE h];exact⟨.nil T H,.refl _ _,.refl _ _⟩
 |n+1,K,o::r,k,T,H,a,ho,h=>by
  have ih:=Qc hc KZ (ops:=ops) n;unfold OP at h;split at h
  ·rename_i j b d hg;have C8:∀v,b=v->ur T d v=T:=λv hv=>C2 (hv▸P7 hg)
   split at h
   ·rename_i t hj;obtain⟨q,hq,h⟩:=aW h;obtain⟨p,hp,h⟩:=aW h;rw[Tree.aE h];generalize hm:vE j (o::r)=m at*;have aat:∀(i:Nat) (x:Oper),((o::r).take m)[i]? =some x->ops[k+i]? =some x:=λi x hx=>by
     rw[ahI]at hx;split at hx
     ·exact ho i x hx
     ·cases hx
    have yK:∀(i:Nat) (x:Oper),((o::r).drop m)[i]? =some x->ops[k+((o::r).take m).length+i]? =some x:=λi x hx=>by
     rw[aij]at hx;have cO:=(ag5.1 hx).1;have:((o::r).take m).length=m:=by rw[List.length_take];omega
     rw[this];have:=ho (m+i) x hx;rwa [show k+m+i=k+(m+i) by omega]
    have e1:=Ng (is:=List.range' k ((o::r).take m).length) hj hq (λhb x hx=>by
     obtain⟨q1,q2,q3⟩:=ih (j::K) _ k _ H x aat hx;rw[C8 true hb]at q1 q3;exact⟨q1,q2,q3⟩) (λhb x hx=>by
     obtain⟨q1,q2,q3⟩:=ih (j::K) _ k _ H x aat hx;rw[C8 false hb]at q1 q3;exact⟨q1,q2,q3⟩)
    have e2:=ih K _ (k+((o::r).take m).length) _ _ p yK hp;have hlen:(o::r).length=((o::r).take m).length+((o::r).drop m).length:=by rw[←ahB,ait]
    have ac6:List.range' k (o::r).length=List.range' k ((o::r).take m).length++List.range' (k+((o::r).take m).length) ((o::r).drop m).length:=by
     rw[hlen,List.range'_append_1]
    have hd:dstsOf (o::r)=dstsOf ((o::r).take m)++dstsOf ((o::r).drop m):=by
     unfold dstsOf;rw[←List.filterMap_append,ait]
    rw[ac6,hd];exact⟨e1.1.app e2.1,e1.2.1.trans e2.2.1,(e1.2.2.more (λi hi=>ahk _ hi)).trans (e2.2.2.more (λi hi=>ahj _ hi))⟩
   ·rcases Tree.df h with ⟨hb,h⟩|⟨hb,h⟩
    ·have:=ih (j::K) (o::r) k _ H a ho h;rwa [C8 true hb]at this
    ·have:=ih (j::K) (o::r) k _ H a ho h;rwa [C8 false hb]at this
  ·have CQ:ops[k]? =some o:=ho 0 o rfl;have WR:∀(j:Nat) (q:Oper),r[j]? =some q->ops[k+1+j]? =some q:=λj q hq=>by
    have:=ho (j+1) q (by simpa using hq);rw[show k+1+j=k+(j+1) by omega];exact this
   have hr:List.range' k (o::r).length=[k]++List.range' (k+1) r.length:=by
    rw[ahv,List.range'_succ];rfl
   have Uk:∀i,o.dst=some i->i∈dstsOf (o::r):=λi hi=>by simp[dstsOf,hi]
   have WU:∀i∈dstsOf r,i∈dstsOf (o::r):=λi hi=>by
    unfold dstsOf at hi ⊢;rw[List.filterMap_cons];split
    ·exact hi
    ·exact ahn _ hi
   rw[hr];split at h
   ·exact(Tree.aZ h).elim
   ·rename_i hw;obtain⟨q1,q2,q3⟩:=ih K r (k+1) _ H a WR h;exact⟨(lH.skip CQ hw).app q1,q2,(gP.put T o.dst mV Uk).trans (q3.more WU)⟩
   ·rename_i hw;obtain⟨e,he,h⟩:=aW h;obtain⟨q,hq,h⟩:=aW h;rw[Tree.aE h];obtain⟨q1,q2,q3⟩:=ih K r (k+1) _ _ q WR hq;have hk:=(gP.put T o.dst e.1 Uk).trans (q3.more WU);rcases Qb hc KZ he with ⟨x,rd,rfl,hf,hn⟩|⟨x,H1,Wr,sf,rfl,s7,KH,Zl⟩
    ·have s7:kX P o T H x H []:=by
      refine MJ.a ?_;have:=hf H (λ_ _=> .inl rfl);rwa [hn rfl]at this
     exact⟨(lH.step CQ hw s7).app q1,q2,hk⟩
    ·exact⟨(lH.step CQ hw s7).app q1,KH.trans q2,hk⟩
def yZ:Code->Option (List Nat)
 | .skip| .label _| .exit _| .goto _| .ret=>some []
 | .seq a b=>match yZ a,yZ b with
  |some x,some y=>some (x++y)
  |_,_=>none
 | .block _ c=>yZ c
 | .cond _ a b=>match yZ a,yZ b with
  |some x,some y=>some (x++y)
  |_,_=>none
 | .region _ ops _=>some (dstsOf ops.toList)
 |_=>none
def vF (t:Tree gm):Option (List Bool×Nh):=
 match one t with
 |some (c,.normal,T,H,W)=>some (c,T,H,W)
 |_=>none
def gz (P:Program) (call:cZ) (lo:bX) (nL:Code->List AV->aa->Tree gm) (nj:List Nat) (n:Nat):Code->List AV->aa->Tree gm
 | .skip,T,H=> .leaf (.normal,T,H,[])
 | .label _,T,H=> .leaf (.normal,T,H,[])
 | .exit i,T,H=> .leaf (.exit i,T,H,[])
 | .goto i,T,H=> .leaf (.goto i,T,H,[])
 | .ret,T,H=> .leaf (.ret,T,H,[])
 | .seq a b,T,H=>(gz P call lo nL nj n a T H).bind λr=>match r.1 with
  | .normal=>(gz P call lo nL nj n b r.2.1 r.2.2.1).bind λq=> .leaf (q.1,q.2.1,q.2.2.1,r.2.2.2++q.2.2.2)
  |_=> .leaf r
 | .block i c,T,H=>(gz P call lo nL nj n c T H).bind λr=>match r.1 with
  | .exit j=>if j=i then .leaf (.normal,r.2)else .leaf r
  |_=> .leaf r
 | .cond c a b,T,H=>match Js T c with
  |some (t,d)=>match (if nj.contains d=true then none else match yZ a,yZ b with
    |some x,some y=>BB t (x++y) T H (vF (gz P call lo nL nj n a (ur T d true) H)) (vF (gz P call lo nL nj n b (ur T d false) H))
    |_,_=>none)with
   |some q=>q.bind λp=> .leaf (.normal,p)
   |none=> .br t (gz P call lo nL nj n a (ur T d true) H) (gz P call lo nL nj n b (ur T d false) H)
  |none=>match bk T c with
   | .sc (.bool t)=> .br t (gz P call lo nL nj n a T H) (gz P call lo nL nj n b T H)
   |_=> .bad
 | .region id ops false,T,H=>(OP P call lo.site ops (2*ops.size+2) [] ops.toList T H).bind λq=> .leaf (.normal,q)
 | .region id ops true,T,H=>(ql P call lo.site ops ops.toList (some H.length) T (H++cN P ops.toList)).bind λq=>if oN ops H.length (H++cN P ops.toList).length q.2.2=true then .leaf (.normal,q.1,q.2.1,r6 q.2.2)else .bad
 | .loop c,T,H=>match lo.loop c T H with
  |some t=>t
  |none=>Bq (gz P call lo nL nj n c) n T H
 | .rangeFunc _ _ _ _,_,_=> .bad
 | .scope c,T,H=>nL c T H
 | .refuse _,_,_=> .bad
def db (P:Program) (call:cZ) (lo:bX) (nj:List Nat):Nat->Code->List AV->aa->Tree gm
 |0=>gz P call lo (λ_ _ _=> .bad) nj 0
 |n+1=>gz P call lo (λc T H=>Fw (db P call lo nj n) c n c T H) nj (n+1)
theorem vG {P:Program}{call:cZ}{si:lM}{ops:Array Oper}:∀(r:List Oper) (nx:Option Nat) (T:List AV) (H:aa) (a:List AV×aa×Log),(ql P call si ops r nx T H).eR=some a->gP (dstsOf r) T a.1
 |[],nx,T,H,a,h=>by unfold ql at h;rw[Tree.aE h];exact .refl _ _
 |o::r,nx,T,H,a,h=>by
  have Uk:∀i,o.dst=some i->i∈dstsOf (o::r):=λi hi=>by simp[dstsOf,hi]
  have WU:∀i∈dstsOf r,i∈dstsOf (o::r):=λi hi=>by
   unfold dstsOf at hi ⊢;rw[List.filterMap_cons];split
   ·exact hi
   ·exact ahn _ hi
  unfold ql at h;have h:=nX (λb d=>yO) h;obtain⟨w,hw,h⟩:=aW h
  cases w with
  |false=>
   obtain⟨q,hq,h⟩:=aW h;rw[Tree.aE h];exact(gP.put T o.dst mV Uk).trans ((vG r _ _ _ q hq).more WU)
  |true=>
   obtain⟨e,he,h⟩:=aW h;obtain⟨q,hq,h⟩:=aW h;rw[Tree.aE h];exact(gP.put T o.dst e.1 Uk).trans ((vG r _ _ _ q hq).more WU)
theorem an.tail {P:Program}{c:Code}{T T1:List AV}{H H1:aa}{x:bj}{k:Nat}(h:an P c T H x T1 H1 []) (hl:H1.length<=H.length+k):an P c T H x T1 (H++List.replicate k .dead) []:=by
 refine⟨λn0 W hn hW E w0 w1 a D s6 hg ht hd=>wp_mono (h.1 n0 W hn hW E w0 w1 a D s6 hg ht hd) ?_,h.2.tail k⟩;rintro e a' w' ⟨E',ax,T2,H2,⟨rfl,rfl,rfl⟩,r,ex,g,t,d⟩;exact⟨E',ax,_,_,⟨rfl,rfl,rfl⟩,r,ex.tail h.2 hn (ag3 _),g.tail h.2 hl,t,d⟩
theorem y0 {t:Tree gm}{bs:List Bool}{a:Nh}(h:vF t=some (bs,a)) (hb:∀b∈bs,b=true):t.eR=some (.normal,a):=by
 unfold vF at h;split at h
 ·rename_i c T H W ho;cases h;exact xM ho hb
 ·cases h
theorem JC {P:Program}{c:Code}{b:Bool}{ws:List Nat}{T:List AV}{H:aa}{t1 t0:Tree gm}{t:Tree Nh}{r:Nh}(hj:BB b ws T H (vF t1) (vF t0)=some t) (hr:t.eR=some r)
  (h1:b=true->∀x a,t1.eR=some (x,a)->an P c T H x a.1 a.2.1 a.2.2/\gP ws T a.1) (h0:b=false->∀x a,t0.eR=some (x,a)->an P c T H x a.1 a.2.1 a.2.2/\gP ws T a.1):
  an P c T H .normal r.1 r.2.1 r.2.2/\gP ws T r.1:=by
 unfold BB at hj;split at hj
 ·rename_i c1 T1 H1 c0 T0 H0 e1 e0;split at hj
  ·rename_i hlen;cases hj;obtain⟨hc,hr⟩:=yY _ hr;rw[Tree.aE hr];have s1:b=true->t1.eR=some (.normal,T1,H1,[]):=λhb=>y0 e1 (λc IK=>by
    have:=hc (bif b then c else true) (ahk _ (ahQ.2 ⟨c,IK,rfl⟩));simpa [hb]using this)
   have s0:b=false->t0.eR=some (.normal,T0,H0,[]):=λhb=>y0 e0 (λc IK=>by
    have:=hc (bif b then true else c) (ahj _ (ahQ.2 ⟨c,IK,rfl⟩));simpa [hb]using this)
   have w:=FE b ws T T1 T0 hlen.1 hlen.2 (λhb=>(h1 hb _ _ (s1 hb)).2) (λhb=>(h0 hb _ _ (s0 hb)).2);refine⟨?_,yX b ws T T1 T0 hlen.1 hlen.2⟩
   cases b with
   |true=>
    obtain⟨q1,_⟩:=h1 rfl _ _ (s1 rfl);exact(q1.eB w).tail (by have:=q1.2.1;simp only at this ⊢;omega)
   |false=>
    obtain⟨q1,_⟩:=h0 rfl _ _ (s0 rfl);exact(q1.eB w).tail (by have:=q1.2.1;simp only at this ⊢;omega)
  ·cases hj
 ·cases hj
abbrev sG (c:Code) (T T':List AV):Prop:=∀ws,yZ c=some ws->gP ws T T'
theorem la {P:Program}{call:cZ}{lo:bX}(hm:P.follows .mixedOrders=true) (hc:cx P call) (hl:bA P lo){nL:Code->List AV->aa->Tree gm}(hs:∀c T H x T' H' Wr,(nL c T H).eR=some (x,T',H',Wr)->an P (.scope c) T H x T' H' Wr) (nj:List Nat) (n:Nat):∀(c:Code) (T:List AV) (H:aa) (x:bj) (T':List AV) (H':aa) (Wr:List Nat),(gz P call lo nL nj n c T H).eR=some (x,T',H',Wr)->an P c T H x T' H' Wr/\sG c T T'
 | .skip,T,H,x,T',H',Wr,h=>by unfold gz at h;cases Tree.aE h;exact⟨⟨λ_ _ _ _=>yi ⟨rfl,rfl,rfl⟩,.refl _ _⟩,λ_ _=> .refl _ _⟩
 | .label _,T,H,x,T',H',Wr,h=>by unfold gz at h;cases Tree.aE h;exact⟨⟨λ_ _ _ _=>vh ⟨rfl,rfl,rfl⟩,.refl _ _⟩,λ_ _=> .refl _ _⟩
 | .exit _,T,H,x,T',H',Wr,h=>by unfold gz at h;cases Tree.aE h;exact⟨⟨λ_ _ _ _=>yj ⟨rfl,rfl,rfl⟩,.refl _ _⟩,λ_ _=> .refl _ _⟩
 | .goto _,T,H,x,T',H',Wr,h=>by unfold gz at h;cases Tree.aE h;exact⟨⟨λ_ _ _ _=>yk ⟨rfl,rfl,rfl⟩,.refl _ _⟩,λ_ _=> .refl _ _⟩
 | .ret,T,H,x,T',H',Wr,h=>by unfold gz at h;cases Tree.aE h;exact⟨⟨λ_ _ _ _=>Cy ⟨rfl,rfl,rfl⟩,.refl _ _⟩,λ_ _=> .refl _ _⟩
 | .seq a b,T,H,x,T',H',Wr,h=>by
  unfold gz at h;obtain⟨⟨y,T1,H1,W1⟩,h1,h⟩:=aW h;obtain⟨fq,kp1⟩:=la hm hc hl hs nj n a _ _ _ _ _ _ h1;have aau:∀ws,yZ (.seq a b)=some ws->∃p q,yZ a=some p/\yZ b=some q/\ws=p++q:=by
   intro ws sH;unfold yZ at sH;split at sH
   ·rename_i p q hp hq;cases sH;exact⟨p,q,hp,hq,rfl⟩
   ·cases sH
  have other:y≠.normal->(x,T',H',Wr)=(y,T1,H1,W1)->an P (.seq a b) T H x T' H' Wr/\sG (.seq a b) T T':=by
   intro gX e;cases e;refine⟨⟨λn0 W hn hw=>rC (fq.then hn hw ?_),fq.2⟩,λws sH=> ?_⟩
   ·cases x with
    |normal=>exact absurd rfl gX
    |exit i=>exact⟨rfl,rfl,rfl⟩
    |goto i=>exact⟨rfl,rfl,rfl⟩
    |ret=>exact⟨rfl,rfl,rfl⟩
    |panic y=>exact⟨rfl,rfl,rfl⟩
   ·obtain⟨p,q,hp,hq,rfl⟩:=aau ws sH;exact(kp1 p hp).more (λi hi=>ahk _ hi)
  cases y with
  |normal=>
   obtain⟨⟨z,T2,H2,W2⟩,h2,h⟩:=aW h;cases Tree.aE h;obtain⟨oS,kp2⟩:=la hm hc hl hs nj n b _ _ _ _ _ _ h2;refine⟨⟨λn0 W hn hw=>rC (fq.then hn (λl hl=>hw l (ahk _ hl)) (oS.1 n0 W (ahx hn fq.2.1) (λl hl=>hw l (ahj _ hl)))),fq.2.trans oS.2⟩,λws sH=> ?_⟩;obtain⟨p,q,hp,hq,rfl⟩:=aau ws sH;exact((kp1 p hp).more (λi hi=>ahk _ hi)).trans ((kp2 q hq).more (λi hi=>ahj _ hi))
  |exit i=>exact other (by simp) (Tree.aE h)
  |goto i=>exact other (by simp) (Tree.aE h)
  |ret=>exact other (by simp) (Tree.aE h)
  |panic v=>exact other (by simp) (Tree.aE h)
 | .block i c,T,H,x,T',H',Wr,h=>by
  unfold gz at h;obtain⟨⟨y,T1,H1,W1⟩,h1,h⟩:=aW h;obtain⟨fq,kp1⟩:=la hm hc hl hs nj n c _ _ _ _ _ _ h1;have kb:sG (.block i c) T T1:=λws sH=>kp1 ws (by unfold yZ at sH;exact sH)
  have other:(∀j,y≠.exit j)->(x,T',H',Wr)=(y,T1,H1,W1)->an P (.block i c) T H x T' H' Wr/\sG (.block i c) T T':=by
   intro gX e;cases e;refine⟨⟨λn0 W hn hw=>iY (fq.then hn hw ?_),fq.2⟩,kb⟩
   cases x with
   |normal=>exact⟨rfl,rfl,rfl⟩
   |exit i=>exact absurd rfl (gX _)
   |goto i=>exact⟨rfl,rfl,rfl⟩
   |ret=>exact⟨rfl,rfl,rfl⟩
   |panic y=>exact⟨rfl,rfl,rfl⟩
  cases y with
  |exit j=>
   simp only at h;split at h
   ·rename_i hj;cases Tree.aE h;exact⟨⟨λn0 W hn hw=>iY (fq.then hn hw (by simp[bj.inBlock,hj])),fq.2⟩,kb⟩
   ·rename_i hj;cases Tree.aE h;exact⟨⟨λn0 W hn hw=>iY (fq.then hn hw (by simp[bj.inBlock,hj])),fq.2⟩,kb⟩
  |normal=>exact other (by simp) (Tree.aE h)
  |goto i=>exact other (by simp) (Tree.aE h)
  |ret=>exact other (by simp) (Tree.aE h)
  |panic v=>exact other (by simp) (Tree.aE h)
 | .cond c a b,T,H,x,T',H',Wr,h=>by
  have Qd:∀ws,yZ (.cond c a b)=some ws->∃p q,yZ a=some p/\yZ b=some q/\ws=p++q:=by
   intro ws sH;unfold yZ at sH;split at sH
   ·rename_i p q hp hq;cases sH;exact⟨p,q,hp,hq,rfl⟩
   ·cases sH
  have ka:∀T1 T2,sG a T1 T2->sG (.cond c a b) T1 T2:=λT1 T2 k ws sH=>by
   obtain⟨p,q,hp,hq,rfl⟩:=Qd ws sH;exact(k p hp).more (λi hi=>ahk _ hi)
  have kb:∀T1 T2,sG b T1 T2->sG (.cond c a b) T1 T2:=λT1 T2 k ws sH=>by
   obtain⟨p,q,hp,hq,rfl⟩:=Qd ws sH;exact(k q hq).more (λi hi=>ahj _ hi)
  have MS:∀t,bk T c= .sc (.bool t)->t=true->∀T1 H1 x W,(gz P call lo nL nj n a T H).eR=some (x,T1,H1,W)->an P (.cond c a b) T H x T1 H1 W/\sG (.cond c a b) T T1:=λt ht hb T1 H1 x W h=>by
   obtain⟨fq,k1⟩:=la hm hc hl hs nj n a _ _ _ _ _ _ h;exact⟨⟨λn0 W hn hw=>nR ht (by rw[hb,if_pos rfl];exact fq.1 n0 W hn hw),fq.2⟩,ka _ _ k1⟩
  have Ps:∀t,bk T c= .sc (.bool t)->t=false->∀T1 H1 x W,(gz P call lo nL nj n b T H).eR=some (x,T1,H1,W)->an P (.cond c a b) T H x T1 H1 W/\sG (.cond c a b) T T1:=λt ht hb T1 H1 x W h=>by
   obtain⟨fq,k1⟩:=la hm hc hl hs nj n b _ _ _ _ _ _ h;exact⟨⟨λn0 W hn hw=>nR ht (by rw[hb,if_neg (by simp)];exact fq.1 n0 W hn hw),fq.2⟩,kb _ _ k1⟩
  unfold gz at h;split at h
  ·rename_i t d hq;have fx:=qJ hq;have C8:∀v,t=v->ur T d v=T:=λv hv=>C2 (hv▸fx)
   have ht:bk T c= .sc (.bool t):=by
    unfold Js at hq;split at hq
    ·rename_i t';split at hq
     ·rename_i b' iw;cases hq;simp only[bk,ag4,iw,ahN]
     ·cases hq
    ·cases hq
   split at h
   ·rename_i q hj;obtain⟨p,hp,h⟩:=aW h;cases Tree.aE h;split at hj
    ·cases hj
    ·split at hj
     ·rename_i ws1 ws2 TG hw2;have:=JC (P:=P) (c:= .cond c a b) hj hp (λhb x z hz=>by
       rw[C8 true hb]at hz;obtain⟨q1,q2⟩:=MS t ht hb _ _ _ _ hz;exact⟨q1,q2 _ (by unfold yZ;rw[TG,hw2])⟩) (λhb x z hz=>by
       rw[C8 false hb]at hz;obtain⟨q1,q2⟩:=Ps t ht hb _ _ _ _ hz;exact⟨q1,q2 _ (by unfold yZ;rw[TG,hw2])⟩)
      refine⟨this.1,λws sH=> ?_⟩;obtain⟨p',q',Tz,hq',rfl⟩:=Qd ws sH;rw[TG]at Tz;rw[hw2]at hq';cases Tz;cases hq';exact this.2
     ·cases hj
   ·rcases Tree.df h with ⟨hb,h⟩|⟨hb,h⟩
    ·rw[C8 true hb]at h;exact MS t ht hb _ _ _ _ h
    ·rw[C8 false hb]at h;exact Ps t ht hb _ _ _ _ h
  ·split at h
   ·rename_i t ht;rcases Tree.df h with ⟨hb,h⟩|⟨hb,h⟩
    ·exact MS t ht hb _ _ _ _ h
    ·exact Ps t ht hb _ _ _ _ h
   ·exact(Tree.aZ h).elim
 | .region id ops false,T,H,x,T',H',Wr,h=>by
  unfold gz at h;obtain⟨q,h1,h⟩:=aW h;cases Tree.aE h;obtain⟨h2,h3,h4⟩:=Qc hc hl.site _ _ ops.toList 0 T H _ (λj o hj=>by simpa using hj) h1;have e:List.range' 0 ops.toList.length=List.range ops.size:=by rw[List.range_eq_range'];simp
  rw[e]at h2;exact⟨h2.code h3,λws sH=>by unfold yZ at sH;cases sH;exact h4⟩
 | .region id ops true,T,H,x,T',H',Wr,h=>by
  unfold gz at h;obtain⟨⟨T1,H1,L⟩,h1,h⟩:=aW h;have hk:=vG _ _ _ _ _ h1;split at h
  ·rename_i hd;cases Tree.aE h;obtain⟨h2,h3⟩:=fo hc hl.site ops.toList 0 _ T _ _ _ _ (λj o hj=>by simpa using hj) h1;have e:(List.range ops.toList.length).map (0+·)=List.range ops.size:=by simp
   rw[e]at h2;exact⟨⟨λn0 W hn hw=>mz hm (me P _) h2 hw hd ⟨rfl,rfl,rfl⟩,h3.KS⟩,λws sH=>by unfold yZ at sH;cases sH;exact hk⟩
  ·exact(Tree.aZ h).elim
 | .loop c,T,H,x,T',H',Wr,h=>by
  unfold gz at h;refine⟨?_,λws sH=>by simp[yZ]at sH⟩;split at h
  ·rename_i t ht;exact hl.loop _ _ _ _ _ _ _ _ ht h
  ·exact Fx (λT H x T' H' Wr h=>(la hm hc hl hs nj n c T H x T' H' Wr h).1) n T H x T' H' Wr h
 | .rangeFunc _ _ _ _,T,H,x,T',H',Wr,h=>by unfold gz at h;exact(Tree.aZ h).elim
 | .scope c,T,H,x,T',H',Wr,h=>by unfold gz at h;exact⟨hs _ _ _ _ _ _ _ h,λws sH=>by simp[yZ]at sH⟩
 | .refuse _,T,H,x,T',H',Wr,h=>by unfold gz at h;exact(Tree.aZ h).elim
theorem lX {P:Program}{call:cZ}{lo:bX}(hm:P.follows .mixedOrders=true) (hc:cx P call) (hl:bA P lo) (nj:List Nat):∀(n:Nat) (c:Code) (T:List AV) (H:aa) (x:bj) (T':List AV) (H':aa) (Wr:List Nat),(db P call lo nj n c T H).eR=some (x,T',H',Wr)->an P c T H x T' H' Wr
 |0=>λc T H x T' H' Wr h=>(la hm hc hl (λ_ _ _ _ _ _ _ h=>(Tree.aZ h).elim) nj 0 c T H x T' H' Wr h).1
 |n+1=>λc T H x T' H' Wr h=>(la hm hc hl (λc T H x T' H' Wr h=>(yP (λd T H x T' H' Wr h=>lX hm hc hl nj n d T H x T' H' Wr h) c n c T H x T' H' Wr h).ok) nj (n+1) c T H x T' H' Wr h).1
def W5 (P:Program) (call:cZ) (lo:bX) (nj:List Nat) (n:Nat) (fn:Func) (args:List AV) (H:aa):Tree (AV×aa×List Nat):=
 match fn.body with
 |none=> .bad
 |some c=>(db P call lo nj n c (kA fn args) H).bind (M5 P fn H)
def eb (P:Program) (call:cZ) (lo:bX) (nj:List Nat) (n:Nat) (g:FuncId) (args:List AV) (H:aa):Tree (AV×aa×List Nat):=
 match P.funcs[g]? with
 |none=> .bad
 |some fn=>if (fn.name=="runtime.NumGoroutine")=true then .bad else W5 P call lo nj n fn args H
theorem gQ {P:Program}(hm:P.follows .mixedOrders=true){call:cZ}(hc:cx P call){lo:bX}(hl:bA P lo){nj:List Nat}{n:Nat}{g:FuncId}{args:List AV}{H:aa}{r:AV×aa×List Nat}(h:(eb P call lo nj n g args H).eR=some r):bZ P g args r.1 H r.2.1 r.2.2:=by
 unfold eb at h;split at h
 ·exact(Tree.aZ h).elim
 ·rename_i fn mX;split at h
  ·exact(Tree.aZ h).elim
  ·rename_i gj;unfold W5 at h;split at h
   ·exact(Tree.aZ h).elim
   ·rename_i c hb;obtain⟨⟨y,T,H1,W⟩,h1,h⟩:=aW h;have dC:=lX hm hc hl nj n c _ _ _ _ _ _ h1;unfold M5 at h;split at h
    ·rename_i hy;simp only at hy;split at h
     ·rename_i x hx;rw[Tree.aE h];exact jV mX (by simpa using gj) hb dC (.inl hy) hx
     ·exact(Tree.aZ h).elim
    ·rename_i hy;simp only at hy;split at h
     ·rename_i x hx;rw[Tree.aE h];exact jV mX (by simpa using gj) hb dC (.inr hy) hx
     ·exact(Tree.aZ h).elim
    ·exact(Tree.aZ h).elim
def C9 (f:Nat->Nat):Own->Own
 | .tok t=> .tok (f t)
 | .off t k=> .off (f t) k
 |o=>o
mutual
def fK (f:Nat->Nat):AV->AV
 | .any=> .any
 | .sc v=> .sc v
 | .dO cs=> .dO cs
 | .ptr l o=> .ptr (f l) o
 | .cU l=> .cU (f l)
 | .fp l i=> .fp (f l) i
 | .nK l sz n=> .nK (f l) sz n
 | .qv l sz n=> .qv (f l) sz n
 | .kq l=> .kq (f l)
 | .fY l i n=> .fY (f l) i n
 | .aY nl sz n el own=> .aY nl sz n el (C9 f own)
 | .fn g a b=> .fn g (kr f a) (kr f b)
 | .lD t x=> .lD t (fK f x)
 | .agg cs=> .agg (kr f cs)
 | .bq cs=> .bq (kr f cs)
def kr (f:Nat->Nat):List AV->List AV
 |[]=>[]
 |x::r=>fK f x::kr f r
end
def kf (f:Nat->Nat):bu->bu
 | .cells cs=> .cells (kr f cs)
 | .map es=> .map (es.map λe=>(e.1,fK f e.2))
 |o=>o
def gn:bu->Bool
 | .iter _=>false
 | .mark _=>false
 |_=>true
theorem gu (f:Nat->Nat):∀(l:List AV) (i:Nat),(kr f l)[i]? =l[i]?.map (fK f)
 |[],i=>by simp[kr]
 |x::r,0=>by simp[kr]
 |x::r,i+1=>by simp[kr,gu f r i]
theorem iy (f:Nat->Nat):∀(l:List AV),(kr f l).length=l.length
 |[]=>rfl
 |x::r=>by simp[kr,iy f r]
theorem Rel.UA {E E2:Env}{f:Nat->Nat}(hφ:∀l b,E.φ l=some b->E2.φ (f l)=some b) (hG:∀t n z,E.G t n=some z->E2.G (f t) n=some z) (hS:E2.S=E.S){x:AV}{v:Value}(h:Rel E x v):Rel E2 (fK f x) v:=by
 have hd:E.data=E2.data:=by unfold Env.data;rw[hS]
 induction h with
 |any v=>exact .any v
 |sc v h=>exact .sc v h
 |ptr l o b h=>exact .ptr _ o b (hφ _ _ h)
 |dO cs b off u h k ih=>exact .dO cs b off u (λj x hj=>by rw[hS];exact h j x hj) (λj x hj=>hd▸k j x hj)
 |fw sz el own h=>exact .fw sz el _ (by rcases h with rfl|rfl;exact .inl rfl;exact .inr rfl)
 |gG sz el own a h=>exact .gG sz el _ a (by rcases h with rfl|rfl;exact .inl rfl;exact .inr rfl)
 |aY sz n el own b off c u hn ho hc hl h1 h k ih=>
  refine .aY sz n el _ b off c u hn ?_ hc hl h1 (λi hi j x hj=>by rw[hS];exact h i hi j x hj) (λi hi j x hj=>hd▸k i hi j x hj)
  cases own with
  |dA=>exact ho
  |tight=>exact ho
  |tok t=>exact⟨hG _ _ _ ho.1,ho.2⟩
  |off t k=>exact⟨ho.1.imp id (hG _ _ _),ho.2⟩
 |fn f' first fJ us vs h1 h2 k1 k2 i1 i2=>
  refine .fn f' _ _ us vs (by rw[h1,iy]) (by rw[h2,iy]) (λj x hj=> ?_) (λj x hj=> ?_)
  ·rw[gu]at hj
   cases hx:first[j]? with
   |none=>rw[hx]at hj;cases hj
   |some y=>rw[hx]at hj;cases hj;exact i1 j y hx hφ hG hS hd
  ·rw[gu]at hj
   cases hx:fJ[j]? with
   |none=>rw[hx]at hj;cases hj
   |some y=>rw[hx]at hj;cases hj;exact i2 j y hx hφ hG hS hd
 |lD t x v k ih=>exact .lD t _ v (ih hφ hG hS hd)
 |agg cs us h k ih=>
  refine .agg _ us (by rw[h,iy]) (λj x hj=> ?_);rw[gu]at hj
  cases hx:cs[j]? with
  |none=>rw[hx]at hj;cases hj
  |some y=>rw[hx]at hj;cases hj;exact ih j y hx hφ hG hS hd
 |bq cs us h k ih=>
  refine .bq _ us (by rw[h,iy]) (λj x hj=> ?_);rw[gu]at hj
  cases hx:cs[j]? with
  |none=>rw[hx]at hj;cases hj
  |some y=>rw[hx]at hj;cases hj;exact ih j y hx hφ hG hS hd
 |cU l b h=>exact .cU _ b (hφ _ _ h)
 |fp l i n h=>exact .fp _ i n (hG _ _ _ h)
 |nK l sz n b h hn=>exact .nK _ sz n b (hφ _ _ h) hn
 |qv l sz n b c h hn=>exact .qv _ sz n b c (hφ _ _ h) hn
 |kq l b h=>exact .kq _ b (hφ _ _ h)
 |jq l i=>exact .jq _ i
 |fY l i n b c h h0 hn=>exact .fY _ i n b c (hG _ _ _ h) h0 hn
theorem Rel.y3 {E Es:Env}{f:Nat->Nat}{k:Nat}(hφ:∀l,l<k->Es.φ l=E.φ (f l)) (hG:∀t n,t<k->Es.G t n=E.G (f t) n) (hS:Es.S=E.S){y:AV}{v:Value}(h:Rel E y v):∀x,fK f x=y->ff k x=true->Rel Es x v:=by
 have hd:E.data=Es.data:=by unfold Env.data;rw[hS]
 induction h with
 |any v=>intro x e hl;cases x<;>simp[fK]at e;exact .any v
 |sc v h=>intro x e hl;cases x<;>simp[fK]at e;subst e;exact .sc _ h
 |ptr l o b h=>
  intro x e hl;cases x<;>simp[fK]at e
  obtain⟨rfl,rfl⟩:=e;simp only[ff,decide_eq_true_eq]at hl;exact .ptr _ _ b ((hφ _ hl).trans h)
 |dO cs b off u h k' ih=>
  intro x e hl;cases x<;>simp[fK]at e
  subst e;exact .dO _ b off u (λj x hj=>by rw[hS];exact h j x hj) (λj x hj=>hd▸k' j x hj)
 |fw sz el own h=>
  intro x e hl;cases x<;>simp[fK]at e
  rename_i nl' mO n' Io nT;obtain⟨rfl,rfl,rfl,rfl,e⟩:=e;exact .fw _ _ nT (by cases nT<;>simp[C9]at e<;>subst e<;>simp at h ⊢)
 |gG sz el own a h=>
  intro x e hl;cases x<;>simp[fK]at e
  rename_i nl' mO n' Io nT;obtain⟨rfl,rfl,rfl,rfl,e⟩:=e;exact .gG _ _ nT a (by cases nT<;>simp[C9]at e<;>subst e<;>simp at h ⊢)
 |aY sz n el own b off c u hn ho hc hlen h1 h k' ih=>
  intro x e hl;cases x<;>simp[fK]at e
  rename_i nl' mO n' Io nT;obtain⟨rfl,rfl,rfl,rfl,e⟩:=e;refine .aY _ _ _ nT b off c u hn ?_ hc hlen h1 (λi hi j x hj=>by rw[hS];exact h i hi j x hj) (λi hi j x hj=>hd▸k' i hi j x hj)
  cases nT with
  |dA=>simp[C9]at e;subst e;exact ho
  |tight=>simp[C9]at e;subst e;exact ho
  |tok t=>
   simp[C9]at e;subst e;simp only[ff,uh,decide_eq_true_eq]at hl;exact⟨(hG _ _ hl).trans ho.1,ho.2⟩
  |off t k=>
   simp[C9]at e;subst e;simp only[ff,uh,decide_eq_true_eq]at hl;exact⟨ho.1.imp id (λh=>(hG _ _ hl).trans h),ho.2⟩
 |fn f' first fJ us vs h1 h2 k1 k2 i1 i2=>
  intro x e hl;cases x<;>simp[fK]at e
  obtain⟨rfl,rfl,rfl⟩:=e;simp only[ff,ahp]at hl;refine .fn _ _ _ us vs (by rw[h1,iy]) (by rw[h2,iy]) (λj x hj=> ?_) (λj x hj=> ?_)
  ·exact i1 j (fK f x) (by rw[gu,hj];rfl) hφ hG hS hd x rfl (fi hl.1 x (ahf hj))
  ·exact i2 j (fK f x) (by rw[gu,hj];rfl) hφ hG hS hd x rfl (fi hl.2 x (ahf hj))
 |lD t y v k' ih=>
  intro x e hl;cases x<;>simp[fK]at e
  obtain⟨rfl,rfl⟩:=e;simp only[ff]at hl;exact .lD _ _ v (ih hφ hG hS hd _ rfl hl)
 |agg cs us h k' ih=>
  intro x e hl;cases x<;>simp[fK]at e
  subst e;simp only[ff]at hl;exact .agg _ us (by rw[h,iy]) (λj x hj=>ih j (fK f x) (by rw[gu,hj];rfl) hφ hG hS hd x rfl (fi hl x (ahf hj)))
 |bq cs us h k' ih=>
  intro x e hl;cases x<;>simp[fK]at e
  subst e;simp only[ff]at hl;exact .bq _ us (by rw[h,iy]) (λj x hj=>ih j (fK f x) (by rw[gu,hj];rfl) hφ hG hS hd x rfl (fi hl x (ahf hj)))
 |cU l b h=>
  intro x e hl;cases x<;>simp[fK]at e
  subst e;simp only[ff,decide_eq_true_eq]at hl;exact .cU _ b ((hφ _ hl).trans h)
 |fp l i n h=>
  intro x e hl;cases x<;>simp[fK]at e
  obtain⟨rfl,rfl⟩:=e;simp only[ff,decide_eq_true_eq]at hl;exact .fp _ _ n ((hG _ _ hl).trans h)
 |nK l sz n b h hn=>
  intro x e hl;cases x<;>simp[fK]at e
  obtain⟨rfl,rfl,rfl⟩:=e;simp only[ff,decide_eq_true_eq]at hl;exact .nK _ _ _ b ((hφ _ hl).trans h) hn
 |qv l sz n b c h hn=>
  intro x e hl;cases x<;>simp[fK]at e
  obtain⟨rfl,rfl,rfl⟩:=e;simp only[ff,decide_eq_true_eq]at hl;exact .qv _ _ _ b c ((hφ _ hl).trans h) hn
 |kq l b h=>
  intro x e hl;cases x<;>simp[fK]at e
  subst e;simp only[ff,decide_eq_true_eq]at hl;exact .kq _ b ((hφ _ hl).trans h)
 |jq l i=>
  intro x e hl;cases x<;>simp[fK]at e
  obtain⟨rfl,rfl,rfl⟩:=e;exact .jq _ _
 |fY l i n b c h h0 hn=>
  intro x e hl;cases x<;>simp[fK]at e
  obtain⟨rfl,rfl,rfl⟩:=e;simp only[ff,decide_eq_true_eq]at hl;exact .fY _ _ _ b c ((hG _ _ hl).trans h) h0 hn
theorem j1.UA {E E':Env}{l l' b base:Nat}{es:List (ByteArray×List ByteArray)}{pd:Option (Nat×List ByteArray)}{ms:Array MapEntry}{ck:Nat}{w:Array Obj}(h:j1 E l b base es pd ms ck w) (hG:∀n,E'.G l' n=E.G l n) (hS:∀x o,E'.S x o=E.S x o):j1 E' l' b base es pd ms ck w:=by
 refine⟨h.size,λi e he=> ?_,h.TL,h.inj,λi ss hs=> ?_,λi i' ss Kv x c c' h1 h2 h3 h4=>h.sep i i' ss Kv x c c' h1 h2 ((hG _).symm.trans h3) ((hG _).symm.trans h4),λi m hm=>(hG _).trans (h.free i m hm)⟩
 ·obtain⟨m,h1,h2,h3⟩:=h.keys i e he;exact⟨m,h1,h2,λhp=>let ⟨b',c,q1,q2⟩:=h3 hp;⟨b',c,(hG _).trans q1,q2⟩⟩
 ·obtain⟨h0,b',c,arr,T,q1,q2,q3,q4,q5,q6,q7,q8,q9⟩:=h.lB i ss hs;exact⟨h0,b',c,arr,T,(hG _).trans q1,q2,q3,q4,q5,q6,q7,λo=>(hS _ _).trans (q8 o),q9⟩
theorem lE.UA {E E2:Env}{f:Nat->Nat}{i base:Nat}{w:World}{o:bu}(hφ:∀l b,E.φ l=some b->E2.φ (f l)=some b) (hG:∀t n z,E.G t n=some z->E2.G (f t) n=some z) (hS:E2.S=E.S) (hφi:E2.φ (f i)=E.φ i) (Yf:∀n,E2.G (f i) n=E.G i n) (hs:gn o=true) (h:lE E i o base w):lE E2 (f i) (kf f o) base w:=by
 cases o with
 |dead=>exact trivial
 |cells cs=>
  intro b hb;obtain⟨h1,h2,arr,t,h3,h4⟩:=h b (hφi▸hb);refine⟨h1,λo=>by rw[hS];exact h2 o,arr,t,h3,λj x hj=> ?_⟩;rw[gu]at hj
  cases hx:cs[j]? with
  |none=>rw[hx]at hj;cases hj
  |some y=>
   rw[hx]at hj;cases hj;obtain⟨u,hu,hr⟩:=h4 j y hx;exact⟨u,hu,hr.UA hφ hG hS⟩
 |tail n sz=>
  obtain⟨b,c,arr,t,h1,h2,h3,h4,h5,h6,h7,h8⟩:=h;exact⟨b,c,arr,t,(Yf n).trans h1,h2,h3,h4,h5,h6,λo ho=>by rw[hS];exact h7 o ho,λm hm=>(Yf m).trans (h8 m hm)⟩
 |cu n=>
  obtain⟨b,c,arr,t,h1,h2,h3,⟨e,h4,h5,h6,h7⟩,h8⟩:=h;exact⟨b,c,arr,t,(Yf n).trans h1,h2,h3,⟨e,h4,h5,h6,λo ho=>by rw[hS];exact h7 o ho⟩,λm hm=>(Yf m).trans (h8 m hm)⟩
 |map es=>
  intro b hb;obtain⟨h1,ms,ck,h3,h4,h5,h6,h7,h8⟩:=h b (hφi▸hb);refine⟨h1,ms,ck,h3,by simpa using h4,λj e hj=> ?_,h6,h7,λq x hx=>h8 q x ((Yf q).symm.trans hx)⟩;rw[ahy]at hj
  cases hx:es[j]? with
  |none=>rw[hx]at hj;cases hj
  |some y=>
   rw[hx]at hj;cases hj;obtain⟨m,hm,ue,hr⟩:=h5 j y hx;exact⟨m,hm,ue,hr.UA hφ hG hS⟩
 |cN=>exact⟨hφi.trans h.1,λn=>(Yf n).trans (h.2 n)⟩
 |ez f' v=>
  intro b hb;obtain⟨h1,h2,ms,ck,h3,h4,h5⟩:=h b (hφi▸hb);exact⟨h1,h2,ms,ck,h3,λi m hm=>let ⟨k,q1,q2,q3⟩:=h4 i m hm;⟨k,q1,q2,q3.lf (h2 k) (λ{b o u} h=>by rw[hS];exact h)⟩,h5⟩
 |rows es pd=>
  obtain⟨b,hb,h1,ms,ck,h3,h4⟩:=h;exact⟨b,hφi.trans hb,h1,ms,ck,h3,h4.UA Yf (λx o=>by rw[hS])⟩
 |iter m=>simp[gn]at hs
 |mark k=>simp[gn]at hs
theorem lE.y3 {E Es:Env}{f:Nat->Nat}{k i base:Nat}{w:World}{o:bu}(hφ:∀l,l<k->Es.φ l=E.φ (f l)) (hG:∀t n,t<k->Es.G t n=E.G (f t) n) (hS:Es.S=E.S) (hi:i<k) (hs:gn o=true) (hl:cH k o=true) (h:lE E (f i) (kf f o) base w):lE Es i o base w:=by
 cases o with
 |dead=>exact trivial
 |cells cs=>
  intro b hb;obtain⟨h1,h2,arr,t,h3,h4⟩:=h b ((hφ i hi).symm.trans hb);refine⟨h1,λo=>by rw[hS];exact h2 o,arr,t,h3,λj x hj=> ?_⟩;obtain⟨u,hu,hr⟩:=h4 j (fK f x) (by rw[gu,hj];rfl);exact⟨u,hu,hr.y3 hφ hG hS x rfl (fi hl x (ahf hj))⟩
 |tail n sz=>
  obtain⟨b,c,arr,t,h1,h2,h3,h4,h5,h6,h7,h8⟩:=h;exact⟨b,c,arr,t,(hG i n hi).trans h1,h2,h3,h4,h5,h6,λo ho=>by rw[hS];exact h7 o ho,λm hm=>(hG i m hi).trans (h8 m hm)⟩
 |cu n=>
  obtain⟨b,c,arr,t,h1,h2,h3,⟨e,h4,h5,h6,h7⟩,h8⟩:=h;exact⟨b,c,arr,t,(hG i n hi).trans h1,h2,h3,⟨e,h4,h5,h6,λo ho=>by rw[hS];exact h7 o ho⟩,λm hm=>(hG i m hi).trans (h8 m hm)⟩
 |map es=>
  intro b hb;obtain⟨h1,ms,ck,h3,h4,h5,h6,h7,h8⟩:=h b ((hφ i hi).symm.trans hb);refine⟨h1,ms,ck,h3,by simpa using h4,λj e hj=> ?_,h6,h7,λq x hx=>h8 q x ((hG i q hi).symm.trans hx)⟩;obtain⟨m,hm,ue,hr⟩:=h5 j (e.1,fK f e.2) (by rw[ahy,hj];rfl);simp only[cH,ahq]at hl;exact⟨m,hm,ue,hr.y3 hφ hG hS e.2 rfl (hl e (ahf hj))⟩
 |cN=>exact⟨(hφ i hi).trans h.1,λn=>(hG i n hi).trans (h.2 n)⟩
 |ez f' v=>
  intro b hb;obtain⟨h1,h2,ms,ck,h3,h4,h5⟩:=h b ((hφ i hi).symm.trans hb);exact⟨h1,h2,ms,ck,h3,λi m hm=>let ⟨k,q1,q2,q3⟩:=h4 i m hm;⟨k,q1,q2,q3.lf (h2 k) (λ{b o u} h=>by rw[hS];exact h)⟩,h5⟩
 |rows es pd=>
  obtain⟨b,hb,h1,ms,ck,h3,h4⟩:=h;exact⟨b,(hφ i hi).trans hb,h1,ms,ck,h3,h4.UA (λn=>hG i n hi) (λx o=>by rw[hS])⟩
 |iter m=>simp[gn]at hs
 |mark k=>simp[gn]at hs
end Go.Proofs.YtiipaliigpkfhaaGreat.Ab
