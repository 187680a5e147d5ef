/- Lemmas 2. -/
import Derived.Test.YtiipaliigpkfhaaGreatVP1
set_option maxRecDepth 100000
namespace Go.Proofs.YtiipaliigpkfhaaGreat.Ab
open Go Go.RowKit
def MG (v:Value):Prop:=(∀cs,v≠.agg cs)/\∀cs,v≠.tuple cs
theorem EG {v:Value}(h:MG v){α:Type}(P:Program) (m:Mode) (a:Addr) (k:Sem α) (w:World):
  (Sem.store m a v k).run P w=match w.cell? a with
   |some _=>if w.frozen? a then .halt (.unsupported (.unsafePointer "a write to bytes that a string shares")) w else k.run P (w.setCell a v)
   |none=>match w.farStore P a v (m== .atomic)with
    | .ok (w,_)=>k.run P w
    | .error h=> .halt h w:=by
 cases v with
 |agg cs=>exact absurd rfl (h.1 cs)
 |tuple cs=>exact absurd rfl (h.2 cs)
 |_=>rfl
theorem Kx {E:Env}{x:AV}{v:Value}(h:Rel E x v) (hx:lQ x=true):MG v:=by
 cases h with
 |any v=>simp[lQ]at hx
 |agg cs us hl k=>simp[lQ]at hx
 |bq cs us hl k=>simp[lQ]at hx
 |sc v hp=>cases v<;>first|(exfalso;simp[plain]at hp;done)|exact⟨λ_=>by simp,λ_=>by simp⟩
 |_=>exact⟨λ_=>by simp,λ_=>by simp⟩
section
variable {P:Program}{o:Oper}{T:List AV}{H:aa}{E:Env}{w0 w:World}
theorem Good.drew (g:Good E H w0 w):Good E H w0 w.drew:=
 ⟨g.below.drew,λh=>g.snap h,λh=>g.obj h,g.sep,g.fresh,g.mb⟩
theorem qA (n0:Nat) (W:Nat->Prop):Ext n0 W E H w E H w.drew:=⟨.refl E,⟨ag3 _,Nat.le_succ _⟩,ag3 _,λ_ _=>rfl,λ_ _ _=>rfl,λ_=>rfl,λ_ h=>⟨rfl,h,λ_=>rfl⟩⟩
theorem Good.TY (g:Good E H w0 w){t n sz b c j:Nat}(hH:H[t]? =some (.tail n sz)) (hG:E.G t n=some (b,c)) (hj:n*sz<=j) (v:Value):Good E H w0 (w.setCell ⟨b,j,none⟩ v):=by
 obtain⟨b',c',arr,Ty,h1,h2,h3,h4,h5,h6,h7,h8⟩:=g.obj hH;rw[hG]at h1;simp only[ag6,ahe]at h1;obtain⟨rfl,rfl⟩:=h1;have dI:owns E H t b:=by unfold owns;rw[hH];exact⟨c,hG⟩
 refine⟨g.below.setCell h2 v,?_,?_,g.sep,g.fresh,λh=>by have:=g.mb h;simpa [World.setCell]using this⟩
 ·intro x o u h;by_cases hx:x=b
  ·subst hx;have cO:o<n*sz:=by
    rcases ail o (n*sz)with h'|h'
    ·exact h'
    ·rw[h7 o h']at h;cases h
   have:=g.snap h;rw[gL h3]at this;have hb:(w.setCell ⟨x,j,none⟩ v).heap[x]? =some (.cells (arr.setIfInBounds j v) Ty (0,0)):=by simp[World.setCell,aho,h3]
   rw[gL hb,ahm (by omega)];exact this
  ·rw[fF (Below.heap_setCell w ⟨b,j,none⟩ v x hx)];exact g.snap h
 ·intro l o h;by_cases hl:l=t
  ·subst hl;rw[hH]at h;simp only[ag6]at h;subst h;refine⟨b,c,arr.setIfInBounds j v,Ty,hG,h2,?_,by simp[h4],h5,h6,h7,h8⟩;simp[World.setCell,aho,h3]
  ·refine(g.obj h).step h (.refl E) (λ_ h=>h) (λ_=>rfl) (λ_ _ _ _ h=>h) (λx hx=> ?_);refine Below.heap_setCell w ⟨b,j,none⟩ v x (λe=>hl ?_);simp only at e;subst e;exact g.sep hx dI
theorem EH {n0:Nat}{W:Nat->Prop}(g:Good E H w0 w){t n sz b c j:Nat}(hH:H[t]? =some (.tail n sz)) (hG:E.G t n=some (b,c)) (hW:t<n0->W t) (v:Value):Ext n0 W E H w E H (w.setCell ⟨b,j,none⟩ v):=by
 have dI:owns E H t b:=by unfold owns;rw[hH];exact⟨c,hG⟩
 refine⟨.refl E,⟨by simp[World.setCell],ag3 _⟩,ag3 _,λ_ _=>rfl,λ{l x} hl hw ho=> ?_,λ_=>rfl,λ{x} hx h=>⟨Below.heap_setCell w ⟨b,j,none⟩ v x (λe=>by simp only at e;subst e;exact h _ dI),h,λ_=>rfl⟩⟩;refine Below.heap_setCell w ⟨b,j,none⟩ v x (λe=> ?_);simp only at e;subst e;have:=g.sep ho dI;subst this;exact hw (hW hl)
theorem sy {t n sz b c n0:Nat}{W:Nat->Prop}{Ty:TypeId}(hH:H[t]? =some (.tail n sz)) (hG:E.G t n=some (b,c)) (hW:t<n0->W t):∀(vs:List Value) (off i:Nat) (w:World) (arr:Array Value),
  Good E H w0 w->w.heap[b]? =some (.cells arr Ty (0,0))->(∀v∈vs,MG v)->n*sz<=off+i->off+i+vs.length<=arr.size->
  ∃w' lF,(storeCells ⟨b,off,none⟩ vs i).run P w= .ok () w'/\Good E H w0 w'/\Ext n0 W E H w E H w'/\w'.heap[b]? =some (.cells lF Ty (0,0))/\lF.size=arr.size/\
   ∀j,lF[j]? =if off+i<=j/\j<off+i+vs.length then vs[j-(off+i)]? else arr[j]?
 |[],off,i,w,arr,g,hb,hs,hn,hl=>⟨w,arr,rfl,g,.refl _ _ _ _ _,hb,rfl,λj=>by rw[if_neg (by simp)]⟩
 |v::r,off,i,w,arr,g,hb,hs,hn,hl=>by
  simp only[ahv]at hl;have mr:(w.setCell ⟨b,off+i,none⟩ v).heap[b]? =some (.cells (arr.setIfInBounds (off+i) v) Ty (0,0)):=by simp[World.setCell,aho,hb]
  obtain⟨w',lF,dz,g',e',iw,IM,fx⟩:=sy hH hG hW r off (i+1) _ _ (g.TY hH hG (j:=off+i) hn v) mr (λx hx=>hs x (ahn _ hx)) (by omega) (by simp;omega);refine⟨w',lF,?_,g',(EH g hH hG hW v).trans e',iw,by simpa using IM,λj=> ?_⟩
  ·unfold storeCells;rw[Sem.run_bind];have h1:(store ((⟨b,off,none⟩:Addr).add i) v).run P w= .ok () (w.setCell ⟨b,off+i,none⟩ v):=by
    rw[dV];unfold store;rw[EG (hs v ahD),gL hb,vi hb];have cO:off+i<arr.size:=by omega
    simp[cO,Sem.run]
   rw[h1];exact dz
  ·rw[fx j];by_cases hj:j=off+i
   ·subst hj;have cO:off+i<arr.size:=by omega
    rw[if_neg (by omega),if_pos (by simp)];simp[cO]
   ·by_cases h1:off+(i+1)<=j/\j<off+(i+1)+r.length
    ·rw[if_pos h1,if_pos (by simp;omega)];rw[show j-(off+i)=(j-(off+(i+1)))+1 by omega];simp
    ·rw[if_neg h1,if_neg (by simp;omega),ahm (Ne.symm hj)]
theorem s5 {qh cap:Nat}(h:cap<qh):Builtin.nextslicecap qh cap<=2*qh:=by
 unfold Builtin.nextslicecap;split
 ·omega
 ·split
  ·omega
  ·have step:∀c,256<=c->c<qh->c+(c+768) / 4<=2*qh:=by intro c h1 h2;omega
   have key:∀(k c:Nat),256<=c->c<=2*qh->Builtin.growBy qh k c<=2*qh:=by
    intro k
    induction k with
    |zero=>intro c _ h;exact h
    |succ k ih=>
     intro c h1 h2;unfold Builtin.growBy;split
     ·exact h2
     ·exact ih _ (by omega) (step c h1 (by omega))
   exact key 4 cap (by omega) (by omega)
theorem kO {α:Type}(qh lL:Nat) (elem:TypeId) (k:Nat->Sem α) (w:World) (hn:qh<2 ^ 63):
  ∃c,qh<=c/\c<=maxLen/\(choose (.appendCap qh lL elem)>>=k).run P w=(k c).run P w.drew:=by
 refine⟨qh+w.tape w.drawn (.appendCap qh lL elem) % (2 ^ 63-qh),Nat.le_add_right _ _,?_,?_⟩
 ·have:w.tape w.drawn (.appendCap qh lL elem) % (2 ^ 63-qh)<2 ^ 63-qh:=Nat.mod_lt _ (by omega);unfold maxLen;omega
 ·rw[Sem.run_bind];simp only[choose,Sem.run,Question.forced,Question.cut,ahA,if_false,Result.andThen_ok];rfl
structure xa (P:Program) (c:Call) (p q:Operand) (sz bytes:Nat):Prop where
 callee:c.callee= .builtin .append
 args:c.args= #[p,q]
 ty:∃t t2 elem i z d,c.argTypes= #[t,t2]/\aB P (underlying t)=some (.slice elem)/\aB P (Go.sizeOf elem)=some sz/\aB P (typeInfo elem)=some i/\i.bytes=bytes/\
  aB P (zeroValue elem)=some z/\z.cells.size=sz/\aB P (underlying t2)=some d/\∀k,d≠.int k
theorem j8 (z:Array Value) (n:Nat):(Builtin.zeroCells z n).size=n*z.size:=by simp[Builtin.zeroCells]
theorem lR {c:Call}{p q:Operand}{sz bytes:Nat}(hc:xa P c p q sz bytes){ρ:Operand->Value}(mW:Rel E (bk T q) (ρ q)) (g:Good E H w0 w){nl:Bool}{n m k:Nat}{el el2:Nat->List AV}{own:Own}{A:Option Addr}(ho:o.op= .call c)
  (hp:Rel E (.aY nl sz n el own) (ρ p)) (hv:ρ p= .slice A n k) (hq:jj sz (bk T q)=some (m,el2)) (hk:k<n+m) (j9:(n+m)*bytes<=2 ^ 46) (hlen:n+m<2 ^ 62) {t n0:Nat} {W:Nat->Prop} (sx:n0<=H.length)
  (oE:t<=H.length) (hW:t<n0->W t) (hG:∀j,n+m<=j->E.G t j=none):
  ∃E' v w',(execOp ρ o).run P w= .ok (.value v) w'/\Ext n0 W E H w E' (ic H t (.tail (n+m) sz)) w'/\Good E' (ic H t (.tail (n+m) sz)) w0 w'/\
   Rel E' (.aY false sz (n+m) (λi=>if i<n then el i else el2 (i-n)) (.tok t)) v:=by
 obtain⟨jH,dn,ty,t2,elem,i,z,d,AF,hu,hs,hi,OX,hz,OY,yq,hd⟩:=hc;have yl:∀(w:World),(underlying t2).run P w= .ok d w:=aj yq;have tZ:jj sz (.aY nl sz n el own)=some (n,el):=by simp[jj]
 obtain⟨c',AG,OZ,we⟩:=kO (P:=P) (n+m) k elem (λmu=>do
   askRoom (mu*(←typeInfo elem).bytes)
   let lL ←Builtin.firstCells sz n (.slice A n k)
   let new ←Builtin.firstCells sz m (ρ q)
   let rest:=Builtin.zeroCells (←zeroValue elem).cells (mu-(n+m))
   pure (Value.slice (some (←newRow elem (lL++new++rest))) (n+m) mu)) w (by omega)
 have g1:Good E H w0 w.drew:=g.drew;obtain⟨-,us,CE,Ip,vl,EI⟩:=iB (P:=P) g1 hp tZ;obtain⟨mw,-⟩:=iB (P:=P) g mW hq;obtain⟨-,vs,xG,O0,Iq,Ir⟩:=iB (P:=P) g1 mW hq;rw[hv]at Ip
 let arr:Array Value:=us.toArray++vs.toArray++Builtin.zeroCells z.cells (c'-(n+m))
 have ga:arr.size=c'*sz:=by
  simp only[arr,Array.size_append,aiu,j8,CE,xG,OY];rw[←aic,←aic];congr 1;omega
 have g2:Good E H w0 (w.drew.alloc (.cells arr elem)):=g1.push _;have hb:(w.drew.alloc (.cells arr elem)).heap[w.drew.heap.size]? =some (.cells arr elem (0,0)):=heap_alloc_new _ _;have eU:∀l,owns E H l w.drew.heap.size->l=t:=λl hl=>absurd (g1.fG hl) (ahZ _)
 have TZ:∀o,E.S w.drew.heap.size o=none:=λo=>kx g1 o
 refine⟨E.grown w.drew.heap.size arr ((n+m)*sz) t (n+m) c',.slice (some ⟨w.drew.heap.size,0,none⟩) (n+m) c',w.drew.alloc (.cells arr elem),?_,?_,?_,?_⟩
 ·have dz:(Builtin.append_ c.argTypes o.type #[ρ p,ρ q]).run P w= .ok (.slice (some ⟨w.drew.heap.size,0,none⟩) (n+m) c') (w.drew.alloc (.cells arr elem)):=by
   rw[AF,hv];unfold Builtin.append_;simp only[aie,ahw,ahL,Sem.run_bind,aj hu,aj hs,Result.andThen_ok,yl,Sem.run_pure];have XB:(match d with| .int _=>true|_=>false)=false:=by
    cases d<;>first|rfl|exact absurd rfl (hd _)
   have OM:=we;simp only[ahA,if_false,ais,if_true,Sem.run_bind,mw,Result.andThen_ok];rw[if_neg (by omega:¬n+m<=k)];simp only[Sem.run_bind,aj hi,Result.andThen_ok];have O1:¬(((n+m:Nat):Int)>IntKind.i64.max/\(False∨i.bytes=0)):=by
    intro h;have:(IntKind.i64.max:Int)=9223372036854775807:=by decide
    rw[this]at h;omega
   rw[if_neg O1];simp only[Sem.run_bind,aj hi,Result.andThen_ok];have vm:¬(Builtin.nextslicecap (n+m) k*i.bytes>2 ^ 48):=by
    have h1:=s5 hk;have h2:Builtin.nextslicecap (n+m) k*i.bytes<=2*(n+m)*i.bytes:=ahY _ h1;rw[Nat.mul_assoc,OX]at h2;rw[OX];omega
   rw[if_neg vm];simp only[Sem.run_bind]at OM ⊢;rw[OM];simp only[aj hi,Result.andThen_ok];unfold askRoom;have IN:∀b:Bool,(Sem.run P (if c'*i.bytes>roomBytes then mark Mark.noRoom else pure ()) w.drew)= .ok () w.drew:=by
    intro _;split
    ·rfl
    ·rfl
   rw[IN true];simp only[Result.andThen_ok];rw[Ip];simp only[Result.andThen_ok];rw[O0];simp only[Result.andThen_ok,aj hz];simp only[newRow,newObj,Sem.run_bind,Sem.run,Sem.run_pure,Result.andThen_ok];rfl
  simp only[execOp,ho,resolve,jH,dn,invoke,builtin,pure_bind];rw[Sem.run_bind];have e:(#[p,q]:Array Operand).map ρ= #[ρ p,ρ q]:=by simp
  rw[e,dz];rfl
 ·exact(qA n0 W).trans (yp g1 _ oE hW sx (hG _ (ag3 _)))
 ·exact g2.IJ oE eU g1.below.size hb ga AG OZ (λo _=>TZ o) hG
 ·refine Be (us:=us) (vs:=vs) (hG _ (ag3 _)) OZ AG (λo h=>absurd (TZ o) h) CE xG (λj hj=> ?_) vl EI Iq Ir;have rE:j<(us++vs).length:=by rw[ahB,CE,xG,←aic];exact hj
  have e:arr=(us++vs).toArray++Builtin.zeroCells z.cells (c'-(n+m)):=by
   simp only[arr];congr 1;simp
  rw[e,ah1 (by simpa using rE)];simp
theorem IP {c:Call}{p q:Operand}{sz bytes:Nat}(hc:xa P c p q sz bytes){ρ:Operand->Value}(mW:Rel E (bk T q) (ρ q)) (g:Good E H w0 w){nl:Bool}{n m k:Nat}{el el2:Nat->List AV}{own:Own}{A:Option Addr}(ho:o.op= .call c)
  (hp:Rel E (.aY nl sz n el own) (ρ p)) (hv:ρ p= .slice A n k) (hq:jj sz (bk T q)=some (m,el2)) (hk:k<n+m) (j9:(n+m)*bytes<=2 ^ 46) (hlen:n+m<2 ^ 62):
  ∃(c':Nat) (us vs:List Value) (Z:Array Value) (elem:TypeId),n+m<=c'/\us.length=n*sz/\vs.length=m*sz/\(∀i,i<m->(el2 i).length=sz/\∀x,x∈el2 i->lQ x=true)/\(∀i,i<m->∀j x,(el2 i)[j]? =some x->Rel E.data x (vs.getD (i*sz+j) undef))/\
   (execOp ρ o).run P w= .ok (.value (.slice (some ⟨w.drew.heap.size,0,none⟩) (n+m) c')) (w.drew.alloc (.cells (us.toArray++vs.toArray++Z) elem)):=by
 obtain⟨jH,dn,ty,t2,elem,i,z,d,AF,hu,hs,hi,OX,hz,OY,yq,hd⟩:=hc;have yl:∀(w:World),(underlying t2).run P w= .ok d w:=aj yq;have tZ:jj sz (.aY nl sz n el own)=some (n,el):=by simp[jj]
 obtain⟨c',AG,OZ,we⟩:=kO (P:=P) (n+m) k elem (λmu=>do
   askRoom (mu*(←typeInfo elem).bytes)
   let lL ←Builtin.firstCells sz n (.slice A n k)
   let new ←Builtin.firstCells sz m (ρ q)
   let rest:=Builtin.zeroCells (←zeroValue elem).cells (mu-(n+m))
   pure (Value.slice (some (←newRow elem (lL++new++rest))) (n+m) mu)) w (by omega)
 have g1:Good E H w0 w.drew:=g.drew;obtain⟨-,us,CE,Ip,vl,EI⟩:=iB (P:=P) g1 hp tZ;obtain⟨mw,-⟩:=iB (P:=P) g mW hq;obtain⟨-,vs,xG,O0,Iq,Ir⟩:=iB (P:=P) g1 mW hq;rw[hv]at Ip
 let arr:Array Value:=us.toArray++vs.toArray++Builtin.zeroCells z.cells (c'-(n+m))
 have ga:arr.size=c'*sz:=by
  simp only[arr,Array.size_append,aiu,j8,CE,xG,OY];rw[←aic,←aic];congr 1;omega
 refine⟨c',us,vs,Builtin.zeroCells z.cells (c'-(n+m)),elem,AG,CE,xG,Iq,Ir,?_⟩;show (execOp ρ o).run P w= .ok (.value (.slice (some ⟨w.drew.heap.size,0,none⟩) (n+m) c')) (w.drew.alloc (.cells arr elem))
 ·have dz:(Builtin.append_ c.argTypes o.type #[ρ p,ρ q]).run P w= .ok (.slice (some ⟨w.drew.heap.size,0,none⟩) (n+m) c') (w.drew.alloc (.cells arr elem)):=by
   rw[AF,hv];unfold Builtin.append_;simp only[aie,ahw,ahL,Sem.run_bind,aj hu,aj hs,Result.andThen_ok,yl,Sem.run_pure];have XB:(match d with| .int _=>true|_=>false)=false:=by
    cases d<;>first|rfl|exact absurd rfl (hd _)
   have OM:=we;simp only[ahA,if_false,ais,if_true,Sem.run_bind,mw,Result.andThen_ok];rw[if_neg (by omega:¬n+m<=k)];simp only[Sem.run_bind,aj hi,Result.andThen_ok];have O1:¬(((n+m:Nat):Int)>IntKind.i64.max/\(False∨i.bytes=0)):=by
    intro h;have:(IntKind.i64.max:Int)=9223372036854775807:=by decide
    rw[this]at h;omega
   rw[if_neg O1];simp only[Sem.run_bind,aj hi,Result.andThen_ok];have vm:¬(Builtin.nextslicecap (n+m) k*i.bytes>2 ^ 48):=by
    have h1:=s5 hk;have h2:Builtin.nextslicecap (n+m) k*i.bytes<=2*(n+m)*i.bytes:=ahY _ h1;rw[Nat.mul_assoc,OX]at h2;rw[OX];omega
   rw[if_neg vm];simp only[Sem.run_bind]at OM ⊢;rw[OM];simp only[aj hi,Result.andThen_ok];unfold askRoom;have IN:∀b:Bool,(Sem.run P (if c'*i.bytes>roomBytes then mark Mark.noRoom else pure ()) w.drew)= .ok () w.drew:=by
    intro _;split
    ·rfl
    ·rfl
   rw[IN true];simp only[Result.andThen_ok];rw[Ip];simp only[Result.andThen_ok];rw[O0];simp only[Result.andThen_ok,aj hz];simp only[newRow,newObj,Sem.run_bind,Sem.run,Sem.run_pure,Result.andThen_ok];rfl
  simp only[execOp,ho,resolve,jH,dn,invoke,builtin,pure_bind];rw[Sem.run_bind];have e:(#[p,q]:Array Operand).map ρ= #[ρ p,ρ q]:=by simp
  rw[e,dz];rfl
theorem ua {c:Call}{p q:Operand}{sz bytes:Nat}(hc:xa P c p q sz bytes){ρ:Operand->Value}(mW:Rel E (bk T q) (ρ q)) (g:Good E H w0 w){n m k b t:Nat}{el el2:Nat->List AV}(ho:o.op= .call c)
  (hp:Rel E (.aY false sz n el (.tok t)) (.slice (some ⟨b,0,none⟩) n k)) (hv:ρ p= .slice (some ⟨b,0,none⟩) n k) (XC:E.G t n=some (b,k)) (hH:H[t]? =some (.tail n sz)) (hq:jj sz (bk T q)=some (m,el2)) (hm:0<m) (hk:n+m<=k):
  ∃E' v w',(execOp ρ o).run P w= .ok (.value v) w'/\Ext H.length (·∈[t]) E H w E' (ic H t (.tail (n+m) sz)) w'/\Good E' (ic H t (.tail (n+m) sz)) w0 w'/\
   Rel E' (.aY false sz (n+m) (λi=>if i<n then el i else el2 (i-n)) (.tok t)) v:=by
 obtain⟨jH,dn,ty,t2,elem,i,z,d,AF,hu,hs,hi,OX,hz,OY,yq,hd⟩:=hc;have yl:∀(w:World),(underlying t2).run P w= .ok d w:=aj yq;have tZ:jj sz (.aY false sz n el (.tok t))=some (n,el):=by simp[jj]
 obtain⟨-,us,CE,Ip,vl,EI⟩:=iB (P:=P) g hp tZ;obtain⟨mw,vs,xG,O0,Iq,Ir⟩:=iB (P:=P) g mW hq;obtain⟨b',c',arr,Ty,h1,h2,h3,h4,h5,h6,h7,h8⟩:=g.obj hH;rw[XC]at h1;simp only[ag6,ahe]at h1;obtain⟨rfl,rfl⟩:=h1;have dI:owns E H t b:=by unfold owns;rw[hH];exact⟨k,XC⟩
 have oE:t<H.length:=(ag5.1 hH).1;have hmul:(n+m)*sz=n*sz+m*sz:=aic _ _ _;have hle:(n+m)*sz<=k*sz:=ahY _ hk;have O2:∀v∈vs,MG v:=by
  intro v hvm;obtain⟨j,hj,rfl⟩:=ah0 hvm;rw[xG]at hj;have ga:0<sz:=by
   rcases Nat.eq_zero_or_pos sz with h0|h0
   ·subst h0;simp at hj
   ·exact h0
  have sY:j / sz<m:=(Nat.div_lt_iff_lt_mul ga).2 hj;have xb:j % sz<(el2 (j / sz)).length:=by rw[(Iq _ sY).1];exact Nat.mod_lt _ ga
  have hrel:=Ir _ sY (j % sz) _ (ahc xb);have e:j / sz*sz+j % sz=j:=by rw[Nat.mul_comm];exact Nat.div_add_mod j sz
  rw[e]at hrel;have e2:vs.getD j undef=vs[j]:=by simp[ag4,xG,hj]
  rw[e2]at hrel;exact Kx hrel ((Iq _ sY).2 _ (ahG xb))
 obtain⟨w',lF,O3,g',e',iw,IM,fx⟩:=sy (P:=P) (n0:=H.length) (W:=(·∈[t])) hH XC (λ_=>by simp) vs (n*sz) 0 w arr g h3 O2 (by omega) (by rw[h4,xG];omega);have Ky:∀j,n+m<=j->E.G t j=none:=λj hj=>h8 j (by omega)
 have TZ:∀o,(n+m)*sz<=o->E.S b o=none:=λo ho=>h7 o (by omega)
 refine⟨E.grown b lF ((n+m)*sz) t (n+m) k,.slice (some ⟨b,0,none⟩) (n+m) k,w',?_,?_,?_,?_⟩
 ·have dz:(Builtin.append_ c.argTypes o.type #[ρ p,ρ q]).run P w= .ok (.slice (some ⟨b,0,none⟩) (n+m) k) w':=by
   rw[AF,hv];unfold Builtin.append_;simp only[aie,ahw,ahL,Sem.run_bind,aj hu,aj hs,Result.andThen_ok,yl,Sem.run_pure];have XB:(match d with| .int _=>true|_=>false)=false:=by
    cases d<;>first|rfl|exact absurd rfl (hd _)
   simp only[ahA,if_false,ais,if_true,Sem.run_bind,mw,Result.andThen_ok];rw[if_pos hk];simp only[Sem.run_bind,O0,Result.andThen_ok,dV,ahF];rw[O3];simp only[Result.andThen_ok,Sem.run_pure]
  simp only[execOp,ho,resolve,jH,dn,invoke,builtin,pure_bind];rw[Sem.run_bind];have e:(#[p,q]:Array Operand).map ρ= #[ρ p,ρ q]:=by simp
  rw[e,dz];rfl
 ·exact e'.trans (IL dI (aim oE) (λ_=>by simp) (ag3 _) (Ky _ (ag3 _)))
 ·exact g'.IJ (aim oE) (λl hl=>g.sep hl dI) h2 iw (by rw[IM,h4]) hk h6 TZ Ky
 ·refine Be (us:=us) (vs:=vs) (Ky _ (ag3 _)) h6 hk (λo h=> ?_) CE xG (λj hj=> ?_) vl EI Iq Ir
  ·cases T5:E.S b o with
   |none=>exact absurd T5 h
   |some u=>have:=g'.snap T5;rw[gL iw]at this;exact this.symm
  ·rw[fx j,aik];by_cases sv:j<n*sz
   ·rw[if_neg (by omega),ahb (by omega)];have aeQ:0<sz:=by
     rcases Nat.eq_zero_or_pos sz with h0|h0
     ·subst h0;simp at sv
     ·exact h0
    have hold:∀j,j<n*sz->w.cell? ⟨b,j,none⟩=us[j]? :=by
     intro j hj
     cases hp with
     |gG=>exact absurd hj (by simp)
     |aY _ _ _ _ _ _ _ u s6 r5 tV sZ Xx hS' ix=>
      have EJ:=mq g sZ hS';have hlen:j<((List.range (n*sz)).map λk=>u (k / sz) (k % sz)).length:=by simpa using hj
      have h0:=g.snap (EJ j _ (ahc hlen));have Xw:=gx (P:=P) (w:=w) (b:=b) (off:=0) (n*sz) 0 #[] ((List.range (n*sz)).map λk=>u (k / sz) (k % sz)) (by simp) (λj v hj=>by
       rw[ahF];exact g.snap (EJ j v hj))
      simp only[Builtin.firstCells,loadCells,Xw]at Ip;simp only[Result.ok.injEq,and_true]at Ip;have XD:(List.range (n*sz)).map (λk=>u (k / sz) (k % sz))=us:=by simpa using Ip
      rw[ahF]at h0;rw[h0,←XD,ahc hlen]
    rw[←hold j sv,gL h3]
   ·rw[if_pos (by omega),ahi (by omega),CE]
end
section
variable {P:Program}{o:Oper}{T:List AV}{H:aa}
def bI (n:Nat) (el el2:Nat->List AV):Nat->List AV:=λi=>if i<n then el i else el2 (i-n)
theorem yr {c:Call}{p q:Operand}{sz bytes n m t:Nat}{nl:Bool}{el el2:Nat->List AV}(hc:xa P c p q sz bytes) (ho:o.op= .call c) (hp:bk T p= .aY nl sz n el (.tok t)) (hq:jj sz (bk T q)=some (m,el2))
  (hH:H[t]? =some (.tail n sz)) (hm:0<m) (j9:(n+m)*bytes<=2 ^ 46) (hlen:n+m<2 ^ 62):kX P o T H (.aY false sz (n+m) (bI n el el2) (.tok t)) (H.set t (.tail (n+m) sz)) [t]:=by
 refine fV λE w0 w ρ hg ht=> ?_
 have hr:=ht p (by simp[ho,Op.operands,Call.operands,hc.args]);rw[hp]at hr;have oE:t<H.length:=(ag5.1 hH).1;have jt:ic H t (.tail (n+m) sz)=H.set t (.tail (n+m) sz):=by unfold ic;rw[if_pos oE]
 generalize hv:ρ p=v at hr
 cases hr with
 |fw _ _ _ h=>rcases h with h|h<;>cases h
 |gG _ _ _ _ h=>rcases h with h|h<;>cases h
 |aY _ _ _ _ b off k u hn r5 O4 hl h1 hS ix=>
  obtain⟨hG,rfl,_⟩:=r5;have xb:Rel E (.aY false sz n el (.tok t)) (.slice (some ⟨b,0,none⟩) n k):= .aY sz n el _ b 0 k u hn ⟨hG,rfl,O4⟩ O4 hl h1 hS ix;by_cases vm:n+m<=k
  ·have:=ua hc (ht q (by simp[ho,Op.operands,Call.operands,hc.args])) hg ho xb hv hG hH hq hm vm;rw[jt]at this;exact this
  ·obtain⟨b',c',arr,Ty,Xx,Zj,h3',h4',h5',h6',h7',h8'⟩:=hg.obj hH;have:=lR (W:=(·∈[t])) hc (ht q (by simp[ho,Op.operands,Call.operands,hc.args])) hg ho (hv▸xb) hv hq (by omega) j9 hlen (ag3 H.length) (aim oE) (λ_=>by simp) (λj hj=>h8' j (by omega));rw[jt]at this;exact this
theorem qB {c:Call}{p q:Operand}{sz bytes n m:Nat}{nl:Bool}{el el2:Nat->List AV}{own:Own}{mO:Nat}(hc:xa P c p q sz bytes) (ho:o.op= .call c) (hp:bk T p= .aY nl mO n el own) (hq:jj sz (bk T q)=some (m,el2))
  (dI:own= .tight∨nl=true) (ga:n=0∨mO=sz) (hm:0<m) (j9:(n+m)*bytes<=2 ^ 46) (hlen:n+m<2 ^ 62):kX P o T H (.aY false sz (n+m) (bI n el el2) (.tok H.length)) (H++[.tail (n+m) sz]) []:=by
 refine fV λE w0 w ρ hg ht=> ?_
 have hr:=ht p (by simp[ho,Op.operands,Call.operands,hc.args]);rw[hp]at hr;have jt:ic H H.length (.tail (n+m) sz)=H++[.tail (n+m) sz]:=by unfold ic;rw[if_neg (ahZ _)]
 generalize hv:ρ p=v at hr;have key:∃A k nT,v= .slice A n k/\k<n+m/\Rel E (.aY nl sz n el nT) v:=by
  cases hr with
  |fw _ _ _ h=>exact⟨_,_,own,rfl,by omega,.fw _ _ _ h⟩
  |gG _ _ _ a h=>exact⟨_,_,own,rfl,by omega,.gG _ _ _ a h⟩
  |aY _ _ _ _ b off k u hn r5 O4 hl h1 hS ix=>
   rcases dI with rfl|h
   ·have:k=n:=r5;subst this;rcases ga with rfl|rfl
    ·exact⟨_,_,.tight,rfl,by omega,.aY sz 0 el _ b off 0 u hn rfl (ag3 _) (λi hi=>by omega) (λi hi=>by omega) (λi hi=>by omega) (λi hi=>by omega)⟩
    ·exact⟨_,_,.tight,rfl,by omega,.aY mO _ el _ b off _ u hn rfl O4 hl h1 hS ix⟩
   ·cases h
 obtain⟨A,k,nT,rfl,hk,xb⟩:=key;have:=lR (W:=(·∈[])) hc (ht q (by simp[ho,Op.operands,Call.operands,hc.args])) hg ho (hv▸xb) hv hq hk j9 hlen (ag3 H.length) (ag3 _) (λh=>absurd h (ahZ _)) (λj _=>(hg.fresh (ag3 _)).2 j);rw[jt]at this;exact this
theorem xc {c:Call}{p q:Operand}{sz bytes n:Nat}{nl:Bool}{el el2:Nat->List AV}{own:Own}{mO:Nat}(hc:xa P c p q sz bytes) (ho:o.op= .call c) (hp:bk T p= .aY nl mO n el own) (hq:jj sz (bk T q)=some (0,el2)):
  oH P o T H (.aY nl mO n el own):=by
 refine cL λE w0 w ρ hg ht=> ?_
 have hr:=ht p (by simp[ho,Op.operands,Call.operands,hc.args]);rw[hp]at hr;generalize hv:ρ p=v at hr;refine⟨v,?_,hr⟩;obtain⟨A,k,rfl,hk,_⟩:=j6 hr;obtain⟨jH,dn,ty,t2,elem,i,z,d,AF,hu,hs,hi,OX,hz,OY,yq,hd⟩:=hc;have yl:∀(w:World),(underlying t2).run P w= .ok d w:=aj yq;obtain⟨mw,vs,xG,O0,Iq,Ir⟩:=iB (P:=P) hg (ht q (by simp[ho,Op.operands,Call.operands,dn])) hq;have Mz:vs=[]:=ahK.1 (by rw[xG];simp);subst Mz;have dz:(Builtin.append_ c.argTypes o.type #[ρ p,ρ q]).run P w= .ok (.slice A n k) w:=by
  rw[AF,hv];unfold Builtin.append_;simp only[aie,ahw,ahL,Sem.run_bind,aj hu,aj hs,Result.andThen_ok,yl,Sem.run_pure];have XB:(match d with| .int _=>true|_=>false)=false:=by
   cases d<;>first|rfl|exact absurd rfl (hd _)
  simp only[ahA,if_false,ais,if_true,Sem.run_bind,mw,Result.andThen_ok];rw[if_pos (by omega)];simp only[Sem.run_bind,O0,Result.andThen_ok]
  cases A with
  |none=>simp
  |some ad=>simp[storeCells]
 simp only[execOp,ho,resolve,jH,dn,invoke,builtin,pure_bind];rw[Sem.run_bind];have e:(#[p,q]:Array Operand).map ρ= #[ρ p,ρ q]:=by simp
 rw[e,dz];rfl
theorem CF {src dst elem:TypeId}{p:Operand}{s:ByteArray}(ho:o.op= .convert src dst p) (vl:aB P (underlying src)=some .string) (yq:aB P (underlying dst)=some (.slice elem)) (hu3:aB P (underlying elem)=some (.int .u8))
  (hp:bk T p= .sc (.string s)) (hs:s.size<2 ^ 62):kX P o T H (.aY false 1 s.size (pN s) .dA) H []:=by
 refine fV λE w0 w ρ hg ht=> ?_
 have hr:=ht p (by simp[ho,Op.operands]);rw[hp]at hr;generalize hv:ρ p=v at hr
 cases hr with
 |sc v Xz=>
  obtain⟨c,AG,OZ,we⟩:=kO (P:=P) s.size 0 elem (λcap=>do
   let elems:Array Value:=s.data.map λb=> .int .u8 b.toNat
   let a ←newRow elem (elems++Array.replicate (cap-s.size) (.int .u8 0))
   markStringish a
   pure (Value.slice (some a) s.size cap)) w (by omega)
  let arr:Array Value:=(s.data.map λb=> .int .u8 b.toNat)++Array.replicate (c-s.size) (.int .u8 0)
  have g1:=hg.drew;have nw:=qA (E:=E) (H:=H) (w:=w) H.length (·∈([]:List Nat));generalize w.drew=wd at*
  let w1:=(wd.alloc (.cells arr elem)).freeze ⟨wd.heap.size,arr.size,none⟩ 1
  have hblk:w1.heap[wd.heap.size]? =some (.cells arr elem (arr.size,arr.size+1)):=by
   have h0:=heap_alloc_new wd (.cells arr elem);show ((wd.alloc (.cells arr elem)).freeze ⟨wd.heap.size,arr.size,none⟩ 1).heap[wd.heap.size]? =_;unfold World.freeze;rw[if_neg (by omega)];simp only[aho,if_true,h0,ahs];simp
  have iz:∀b,b≠wd.heap.size->w1.heap[b]? =(wd.alloc (.cells arr elem)).heap[b]? :=by
   intro b hb;simp[w1,World.freeze,aho,Ne.symm hb]
  have hold:∀b,b<wd.heap.size->w1.heap[b]? =wd.heap[b]? :=λb hb=>(iz b (by omega)).trans (Below.heap_alloc _ _ _ hb)
  have Bf:w1.heap.size=wd.heap.size+1:=by
   have:=eK wd (.cells arr elem);simp[w1,World.freeze]
  have g2:Good E H w0 w1:=by
   refine⟨?_,?_,?_,g1.sep,g1.fresh,λh=>by have:=g1.mb h;omega⟩
   ·refine g1.below.trans ⟨rfl,rfl,rfl,by omega,λk hk=>hold k (ahz hk g1.below.size)⟩
   ·intro b o u h;rw[fF (hold b (g1.ZG h))];exact g1.snap h
   ·intro l o h;exact(g1.obj h).step h (.refl E) (λ_ h=>h) (λ_=>rfl) (λ_ _ _ _ h=>h) (λb hb=>hold b (g1.fG hb))
  have wb:∀o u,arr[o]? =some u->w1.cell? ⟨wd.heap.size,o,none⟩=some u:=by
   intro o u h;unfold World.cell?;rw[hblk];simpa using h
  have g3:=g2.stay (b:=wd.heap.size) (f:=(arr[·]?)) (λl hl=>absurd (g1.fG hl) (ahZ _)) wb;have e2:Ext H.length (·∈([]:List Nat)) E H wd (E.fW wd.heap.size (arr[·]?)) H w1:=⟨j4 _ _ _,⟨by omega,ag3 _⟩,ag3 _,λ_ _=>rfl,λ_ _ hl=>hold _ (g1.fG hl),λ_=>rfl,λ{x} hb h=>⟨hold _ hb,h,λo=>(by have Au:x≠wd.heap.size:=(by omega);simp[Env.fW,Au])⟩⟩
  refine⟨E.fW wd.heap.size (arr[·]?),.slice (some ⟨wd.heap.size,0,none⟩) s.size c,w1,?_,nw.trans e2,g3,?_⟩
  ·simp only[execOp,ho,hv,convert,Sem.run_bind,aj vl,aj yq,aj hu3,Result.andThen_ok,Conv.stringToBytes];simp only[Sem.run_bind]at we;rw[we];simp only[newRow,newObj,Sem.run_bind,Sem.run,Sem.run_pure,Result.andThen_ok,markStringish,shape,freeze];have h0:=heap_alloc_new wd (.cells arr elem);have hsh:World.shape? { wd with heap:=wd.heap.push (.cells arr elem)} wd.heap.size=some (elem,arr.size):=by
    unfold World.shape?;have:({ wd with heap:=wd.heap.push (.cells arr elem)}:World).heap[wd.heap.size]? =some (.cells arr elem):=h0;rw[this]
   simp only[arr]at hsh;simp only[hsh,Sem.run,Result.andThen_ok];rfl
  ·have hS:∀o,(E.fW wd.heap.size (arr[·]?)).S wd.heap.size o=arr[o]? :=λo=>by simp[Env.fW,kx g1]
   refine .aY 1 s.size (pN s) .dA _ 0 c (λi j=> .int .u8 ((s.data.toList.getD i 0).toNat:Int)) OZ AG AG (λi hi=>rfl) (λi hi x hx=>by simp[pN]at hx;subst hx;rfl) (λi hi j x hj=> ?_) (λi hi j x hj=> ?_)
   ·cases j with
    |succ j=>simp[pN]at hj
    |zero=>
     rw[hS];have sY:i<s.data.size:=hi;have XE:i<s.data.toList.length:=by simpa using sY
     simp only[arr,ahF,Nat.mul_one,aik];rw[ah1 (by simpa using sY),Array.getElem?_map];have e3:s.data[i]? =some (s.data.toList.getD i 0):=by
      rw[ag4,ahc XE];simp[sY]
     rw[e3];rfl
   ·cases j with
    |succ j=>simp[pN]at hj
    |zero=>
     simp[pN]at hj;subst hj;have e2:s.data[i]?.getD 0=s.data.toList.getD i 0:=by simp
     rw[e2];exact Rel.sc (.int .u8 _) rfl
end
section
variable {P:Program}{o:Oper}{T:List AV}{H:aa}
def kP (P:Program) (g:FuncId):Prop:=∃fn c,P.funcs[g]? =some fn/\(fn.name=="runtime.NumGoroutine")=false/\fn.body=some c
theorem vn {xs ys:Array Value}{i:Nat}(h:i<xs.size):(xs++ys).getD i undef=xs.getD i undef:=by
 simp[ahh,Array.getElem?_append,h]
theorem ub {xs ys:Array Value}{i:Nat}(h:xs.size<=i):(xs++ys).getD i undef=ys.getD (i-xs.size) undef:=by
 simp[ahh,Array.getElem?_append,Nat.not_lt.2 h]
theorem eg {E:Env}{xs ys:List AV}{us vs:Array Value}(h:ji E xs us) (k:ji E ys vs):ji E (xs++ys) (us++vs):=by
 refine⟨by simp[h.1,k.1],λi x hx=> ?_⟩;rcases ail i xs.length with hi|hi
 ·rw[ahb hi]at hx;rw[vn (by rw[h.1];exact hi)];exact h.2 i x hx
 ·rw[ahi hi]at hx;rw[ub (by rw[h.1];exact hi),h.1];exact k.2 _ x hx
theorem O5 {c:Call}{f:Operand}{g:FuncId}{first fJ:List AV}{x:AV}{H':aa}{W:Nat->Prop}{Wr:List Nat}(ho:o.op= .call c) (hc:c.callee= .value f) (hf:bk T f= .fn (.func g) first fJ) (hb:kP P g)
  (h:s4 P g (first++c.args.toList.map (bk T)++fJ) (.ret x) H H' W) (hW:∀l,l<H.length->W l->l∈Wr):kX P o T H x H' Wr:=by
 intro E w0 w ρ hg ht;have hr:=ht f (by simp[ho,Op.operands,Call.operands,hc]);rw[hf]at hr;generalize hv:ρ f=v at hr
 cases hr with
 |fn _ _ _ us vs h1 h2 k1 k2=>
  obtain⟨fn,cd,mX,gj,gO⟩:=hb;have dn:ji E (first++c.args.toList.map (bk T)++fJ) (us++c.args.map ρ++vs):=
   eg (eg ⟨h1,k1⟩ (nS c.args (λy hy=>ht y (by simp[ho,Op.operands,Call.operands,hy])))) ⟨h2,k2⟩
  have dz:(execOp ρ o).run P w= .ok (.enter g (us++c.args.map ρ++vs)) w:=by
   simp only[execOp,ho,resolve,hc,hv,Deferred.ofValue,pure_bind,invoke];have h1:fn.name≠"runtime.NumGoroutine":=by simpa using gj
   simp[callFunc,mX,h1,gO]
  unfold Eu;rw[dz];refine(h E w0 w _ hg dn).mono ?_;rintro e w' ⟨E',re,ex,g'⟩
  cases re with
  |ret x v hv'=>exact⟨E',ex.weaken (ag3 _) hW,g',hv'⟩
theorem Kz {op:BinOp}{t t2:TypeId}{p q:Operand}{r:Value}(ho:o.op= .binOp op t p q t2) (hr:plain r=true)
  (h:∀(E:Env) (v u:Value),Rel E (bk T p) v->Rel E (bk T q) u->aB P (do eqGuard op t p q v u;binOp op t v u)=some r):oH P o T H (.sc r):=by
 refine cL λE w0 w ρ hg ht=>⟨r,?_,.sc r hr⟩
 have:=aj (h E _ _ (ht p (by simp[ho,Op.operands,Call.operands])) (ht q (by simp[ho,Op.operands,Call.operands]))) w;simp only[execOp,ho];rw[Sem.run_bind,this];rfl
theorem dQ {α β:Type}{s:Sem α}{f:α->Sem β}{x:α}(h:aB P s=some x):aB P (s>>=f)=aB P (f x):=by
 show aB P (s.bind f)=_
 induction s with
 |pure a=>simp only[aB,ag6]at h;subst h;rfl
 |program k ih=>simp only[aB]at h;simp only[Sem.bind,aB];exact ih P h
 |mark m k ih=>simp only[aB]at h;simp only[Sem.bind,aB];exact ih h
 |_=>simp[aB]at h
def T6:AV->AV->Option Bool
 | .ptr _ _,.sc (.pointer none)=>some false
 | .dO _,.sc (.pointer none)=>some false
 | .sc (.pointer none),.sc (.pointer none)=>some true
 | .aY nl _ _ _ _,.aY true _ 0 _ _=>some nl
 | .fn _ _ _,.sc .nilFunc=>some false
 | .cU _,.sc (.map none)=>some false
 | .lD _ _,.sc .nilIface=>some false
 |_,_=>none
def sA:AV->TypeDesc->Bool
 | .ptr _ _,.pointer _=>true
 | .dO _,.pointer _=>true
 | .sc (.pointer none),.pointer _=>true
 | .aY _ _ _ _ _,.slice _=>true
 | .fn _ _ _,.func _ _ _=>true
 | .cU _,.map _ _=>true
 | .lD _ _,.interface _=>true
 |_,_=>false
theorem T7 {E:Env}{nl:Bool}{sz n:Nat}{el:Nat->List AV}{own:Own}{v:Value}(h:Rel E (.aY nl sz n el own) v):∃A k,v= .slice A n k/\A.isNone=nl:=by
 cases h<;>exact⟨_,_,rfl,rfl⟩
theorem KA {op:BinOp}{t t2:TypeId}{p q:Operand}{d:TypeDesc}{b:Bool}(ho:o.op= .binOp op t p q t2) (s7:op= .eql∨op= .neq) (hu:aB P (underlying t)=some d) (hd:sA (bk T p) d=true)
  (hb:T6 (bk T p) (bk T q)=some b):oH P o T H (.sc (.bool (if op= .neq then !b else b))):=by
 refine Kz ho rfl λE v u hv T8=> ?_
 generalize bk T p=x at*;generalize bk T q=y at*;have key:∀(v u:Value),(∀c,v≠.agg c)->v≠.nilIface->(∀k n,v≠.int k n)->(∀k n,v≠.float k n)->(∀k n m,v≠.complex k n m)->(∀s,v≠.string s)->aB P (Op.equal t v u)=some b->
   aB P (do eqGuard op t p q v u;binOp op t v u)=some (.bool (if op= .neq then !b else b)):=by
  intro v u h1 h2 h3 h4 h5 h6 h;have hg:aB P (eqGuard op t p q v u)=some ():=by
   unfold eqGuard;rcases s7 with rfl|rfl<;>cases v<;>first|exact absurd rfl (h1 _)|exact absurd rfl h2|rfl
  rw[dQ hg];have e1:aB P (do pure (Value.bool (←Op.equal t v u)))=some (.bool b):=by rw[dQ h];rfl
  have e2:aB P (do pure (Value.bool (!(←Op.equal t v u))))=some (.bool (!b)):=by rw[dQ h];rfl
  rcases s7 with rfl|rfl
  ·unfold binOp;cases v<;>first|exact absurd rfl (h3 _ _)|exact absurd rfl (h4 _ _)|exact absurd rfl (h5 _ _ _)|exact absurd rfl (h6 _)|exact e1
  ·unfold binOp;cases v<;>first|exact absurd rfl (h3 _ _)|exact absurd rfl (h4 _ _)|exact absurd rfl (h5 _ _ _)|exact absurd rfl (h6 _)|exact e2
 have fin:∀(v u:Value),aB P (Op.equal t v u)=aB P (Op.equal t v u):=λ_ _=>rfl
 clear fin;unfold T6 at hb;split at hb<;>simp only[ag6,reduceCtorEq]at hb
 ·subst hb
  cases hv with
  |ptr l o' bb iw=>
   cases T8;refine key _ _ (by simp) (by simp) (by simp) (by simp) (by simp) (by simp) ?_;cases d<;>simp[sA]at hd
   unfold Op.equal Op.maxDepth Op.equalIn;rw[dQ hu];rfl
 ·subst hb
  cases hv with
  |dO cs bb off uu hs hk=>
   cases T8;refine key _ _ (by simp) (by simp) (by simp) (by simp) (by simp) (by simp) ?_;cases d<;>simp[sA]at hd
   unfold Op.equal Op.maxDepth Op.equalIn;rw[dQ hu];rfl
 ·subst hb;cases hv;cases T8;refine key _ _ (by simp) (by simp) (by simp) (by simp) (by simp) (by simp) ?_;cases d<;>simp[sA]at hd
  unfold Op.equal Op.maxDepth Op.equalIn;rw[dQ hu];rfl
 ·subst hb;obtain⟨A,k,rfl,hA⟩:=T7 hv
  cases T8 with
  |fw=>
   refine key _ _ (by simp) (by simp) (by simp) (by simp) (by simp) (by simp) ?_;cases d<;>simp[sA]at hd
   unfold Op.equal Op.maxDepth Op.equalIn;rw[dQ hu];subst hA;cases A<;>rfl
 ·subst hb
  cases hv with
  |fn=>
   cases T8;refine key _ _ (by simp) (by simp) (by simp) (by simp) (by simp) (by simp) ?_;cases d<;>simp[sA]at hd
   unfold Op.equal Op.maxDepth Op.equalIn;rw[dQ hu];rfl
 ·subst hb
  cases hv with
  |cU=>
   cases T8;refine key _ _ (by simp) (by simp) (by simp) (by simp) (by simp) (by simp) ?_;cases d<;>simp[sA]at hd
   unfold Op.equal Op.maxDepth Op.equalIn;rw[dQ hu];rfl
 ·subst hb
  cases hv with
  |lD=>
   cases T8;refine key _ _ (by simp) (by simp) (by simp) (by simp) (by simp) (by simp) ?_;cases d<;>simp[sA]at hd
   unfold Op.equal Op.maxDepth Op.equalIn;rw[dQ hu];rfl
end
section
variable {P:Program}{o:Oper}{T:List AV}{H:aa}
def CG:Option Value->Option AV
 |some v=>if plain v then some (.sc v)else none
 |none=>none
theorem rF {r:Option Value}{x:AV}(h:CG r=some x):∃v,r=some v/\plain v=true/\x= .sc v:=by
 cases r with
 |none=>cases h
 |some v=>
  simp only[CG]at h;split at h
  ·rename_i hp;exact⟨v,rfl,hp,(ahM h).symm⟩
  ·cases h
theorem EK {E:Env}{x:AV}{v u:Value}(h:Mx x=some u) (hr:Rel E x v):v=u:=by
 rw[TR h]at hr;cases hr;rfl
def XF (P:Program) (op:BinOp) (t:TypeId) (p q:Operand) (v u:Value):Option Value:=aB P (do eqGuard op t p q v u;binOp op t v u)
def unE (P:Program) (op:UnOp) (v:Value):Option Value:=aB P (Op.unary op v)
def cvE (P:Program) (s d:TypeId) (v:Value):Option Value:=aB P (convert s d v)
def ixE (P:Program) (t:TypeId) (v u:Value):Option Value:=aB P (Instr.index t v u)
def T9 (P:Program) (op:BinOp) (t:TypeId) (p q:Operand) (x y:AV):Option AV:=
 match x,y with
 | .sc v,.sc u=>CG (XF P op t p q v u)
 |x,y=>
  match op with
  | .eql=>match aB P (underlying t),T6 x y with
   |some d,some b=>if sA x d then some (.sc (.bool b))else none
   |_,_=>none
  | .neq=>match aB P (underlying t),T6 x y with
   |some d,some b=>if sA x d then some (.sc (.bool (!b)))else none
   |_,_=>none
  |_=>none
theorem IQ {op:BinOp}{t t2:TypeId}{p q:Operand}{x:AV}(ho:o.op= .binOp op t p q t2) (h:T9 P op t p q (bk T p) (bk T q)=some x):oH P o T H x:=by
 unfold T9 at h;split at h
 ·rename_i v u hv hu;obtain⟨r,hr,hp,rfl⟩:=rF h;refine Kz ho hp λE v' u' h1 h2=> ?_
  rw[hv]at h1;rw[hu]at h2;cases h1;cases h2;exact hr
 ·split at h
  ·split at h
   ·rename_i d b hd hb;split at h
    ·rename_i hn;simp only[ag6]at h;subst h;have:=KA (H:=H) ho (.inl rfl) hd hn hb;simpa using this
    ·cases h
   ·cases h
  ·split at h
   ·rename_i d b hd hb;split at h
    ·rename_i hn;simp only[ag6]at h;subst h;have:=KA (H:=H) ho (.inr rfl) hd hn hb;simpa using this
    ·cases h
   ·cases h
  ·cases h
theorem KB {p:Operand}{x:AV}{f:Value->Sem Value}(dz:∀ρ,execOp ρ o=(do pure (.value (←f (ρ p))))) (oJ:p∈o.op.operands){v:Value}(hv:bk T p= .sc v) (h:CG (aB P (f v))=some x):oH P o T H x:=by
 obtain⟨r,hr,hp,rfl⟩:=rF h;refine cL λE w0 w ρ hg ht=>⟨r,?_,.sc r hp⟩
 have hx:=ht p oJ;rw[hv]at hx;generalize hq:ρ p=u at hx;cases hx;rw[dz,hq,Sem.run_bind,aj hr];rfl
theorem Ua {p q:Operand}{x:AV}{f:Value->Value->Sem Value}(dz:∀ρ,execOp ρ o=(do pure (.value (←f (ρ p) (ρ q))))) (oJ:p∈o.op.operands) (ZK:q∈o.op.operands){v u:Value}(hv:bk T p= .sc v) (hu:bk T q= .sc u)
  (h:CG (aB P (f v u))=some x):oH P o T H x:=by
 obtain⟨r,hr,hp,rfl⟩:=rF h;refine cL λE w0 w ρ hg ht=>⟨r,?_,.sc r hp⟩
 have hx:=ht p oJ;rw[hv]at hx;have hy:=ht q ZK;rw[hu]at hy;generalize hq:ρ p=a at hx;generalize Zk:ρ q=b at hy;cases hx;cases hy;rw[dz,hq,Zk,Sem.run_bind,aj hr];rfl
def EL (P:Program) (b:Builtin) (argTypes:Array TypeId) (ty:TypeId) (vs:Array Value):Option Value:=
 match aB P (builtin b argTypes ty (vs.map λ_=>false) vs)with
 |some (.value v)=>some v
 |_=>none
def EM (T:List AV):List Operand->Option (List Value)
 |[]=>some []
 |x::r=>match Mx (bk T x),EM T r with
  |some v,some vs=>some (v::vs)
  |_,_=>none
theorem EN {E:Env}{ρ:Operand->Value}:∀{xs:List Operand}{vs:List Value},(∀x∈xs,Rel E (bk T x) (ρ x))->EM T xs=some vs->xs.map ρ=vs
 |[],vs,_,h=>by simp[EM]at h;rw[h];rfl
 |x::r,vs,ht,h=>by
  simp only[EM]at h;split at h
  ·rename_i v us hv XD;simp only[ag6]at h;subst h;rw[ahJ,EK hv (ht x ahD),EN (λy hy=>ht y (ahn _ hy)) XD]
  ·cases h
def IS:Builtin->Bool
 | .len| .max| .min=>true
 |_=>false
theorem yt (b:Builtin) (hb:IS b=true) (at_:Array TypeId) (ty:TypeId) (cs cs':Array Bool) (vs:Array Value):builtin b at_ ty cs vs=builtin b at_ ty cs' vs:=by
 cases b<;>first|rfl|simp[IS]at hb
def O6 (P:Program) (o:Oper) (c:Call) (T:List AV):Option AV:=
 match c.callee with
 | .builtin b=>
  if IS b then
   match EM T c.args.toList with
   |some vs=>CG (EL P b c.argTypes o.type vs.toArray)
   |none=>match b,c.args.toList,c.argTypes[0]? with
    | .len,[p],some t=>match bk T p,aB P (underlying t)with
     | .aY _ _ n _ _,some (.slice _)=>some (.sc (.int .i64 n))
     | .nK _ _ n,some (.slice _)=>some (.sc (.int .i64 n))
     | .qv _ _ n,some (.slice _)=>some (.sc (.int .i64 n))
     |_,_=>none
    |_,_,_=>none
  else none
 |_=>none
theorem EO {c:Call}{x:AV}(ho:o.op= .call c) (h:O6 P o c T=some x):oH P o T H x:=by
 unfold O6 at h;split at h
 ·rename_i b hb;split at h
  ·rename_i hq;split at h
   ·rename_i vs Mz;obtain⟨r,hr,hp,rfl⟩:=rF h;refine cL λE w0 w ρ hg ht=>⟨r,?_,.sc r hp⟩
    have dn:c.args.map ρ=vs.toArray:=by
     have:=EN (λx hx=>ht x (by simp only[ho,Op.operands,Call.operands,hb];simpa using hx)) Mz;apply aiq;simpa using this
    unfold EL at hr;split at hr
    ·rename_i v hv;simp only[ag6]at hr;subst hr;simp only[execOp,ho,resolve,hb,pure_bind,invoke,dn];rw[yt b hq _ _ _ (vs.toArray.map λ_=>false)];exact aj hv w
    ·cases hr
   ·split at h
    ·rename_i b' p t dn AF;split at h
     ·rename_i nl sz n el own e hp hu;simp only[ag6]at h;subst h;exact TU ho hb (by apply aiq;simpa using dn) AF ⟨e,hu⟩ hp
     ·rename_i l sz n e hp hu;simp only[ag6]at h;subst h;exact IC ho hb (by apply aiq;simpa using dn) AF ⟨e,hu⟩ hp
     ·rename_i l sz n e hp hu;simp only[ag6]at h;subst h;exact ID ho hb (by apply aiq;simpa using dn) AF ⟨e,hu⟩ hp
     ·cases h
    ·cases h
  ·cases h
 ·cases h
def IT (P:Program) (t:TypeId) (x y:AV):Option AV:=
 match x,y with
 | .sc v,.sc u=>CG (ixE P t v u)
 |_,_=>none
def kZ (P:Program) (o:Oper) (T:List AV) (H:aa):Option AV:=
 match o.op with
 | .move x=>some (bk T x)
 | .assign x=>some (bk T x)
 | .pick c a b=>match bk T c with
  | .sc (.bool t)=>some (if t then bk T a else bk T b)
  |_=>none
 | .load t p=>(iL H (bk T p)).bind (EE P t)
 | .fieldAddr s p f=>(tW P s f).bind λn=>Bc n (bk T p)
 | .nilCheck p=>match bk T p with
  | .ptr l o=>some (.ptr l o)
  | .dO cs=>some (.dO cs)
  | .fn (.func f) a b=>some (.fn (.func f) a b)
  |_=>none
 | .extract t i=>match bk T t with
  | .bq xs=>xs[i]?
  |_=>none
 | .makeFunc fn first fJ=>some (.fn fn (first.toList.map (bk T)) (fJ.toList.map (bk T)))
 | .makeInterface t p=>match aB P (underlying t)with
  |some (.interface _)=>none
  |some _=>some (.lD t (bk T p))
  |none=>none
 | .indexAddr t p q=>match aB P (underlying t),bk T p,bk T q with
  |some (.slice e),.aY _ sz n el _,.sc (.int _ i)=>if aB P (Go.sizeOf e)=some sz/\0<=i/\i<n then some (.dO (el i.toNat))else none
  |some (.slice e),.nK l sz n,.sc (.int _ i)=>if aB P (Go.sizeOf e)=some sz/\0<=i/\i<n then some (.ptr l (i.toNat*sz))else none
  |some (.slice e),.qv l sz n,.sc (.int _ i)=>if aB P (Go.sizeOf e)=some sz/\0<=i/\i<n then some (.ptr l (i.toNat*sz))else none
  |_,_,_=>none
 | .slice t p lo hi mx=>match aB P (underlying t),bk T p with
  |some (.slice e),.aY nl sz n el _=>
   match dW T lo,dW T hi,dW T mx with
   |some l,some h,some none=>
    if aB P (Go.sizeOf e)=some sz/\0<=l.getD 0/\l.getD 0<=h.getD n/\h.getD n<=n then some (.aY nl sz ((h.getD n).toNat-(l.getD 0).toNat) (λi=>el (i+(l.getD 0).toNat)) .dA)else none
   |some l,some (some h),some (some m)=>
    if aB P (Go.sizeOf e)=some sz/\0<=l.getD 0/\l.getD 0<=h/\h=m/\m<=n then some (.aY nl sz (h.toNat-(l.getD 0).toNat) (λi=>el (i+(l.getD 0).toNat)) .tight)else none
   |_,_,_=>none
  |some .string,.sc (.string s)=>
   match dW T lo,dW T hi,dW T mx with
   |some l,some h,some none=>if 0<=l.getD 0/\l.getD 0<=h.getD s.size/\h.getD s.size<=s.size then some (.sc (.string (s.extract (l.getD 0).toNat (h.getD s.size).toNat)))else none
   |_,_,_=>none
  |_,_=>none
 | .build t ps=>match aB P (zeroValue t),yn P t with
  |some z,some pl=>match dB z with
   | .agg zs=>(sw (λi=>pl[i]?) zs (ps.toList.map λ(i,x)=>(i,bk T x))).map .agg
   |_=>none
  |_,_=>none
 | .binOp op t p q _=>T9 P op t p q (bk T p) (bk T q)
 | .unOp op _ p=>match bk T p with
  | .sc v=>CG (unE P op v)
  |_=>none
 | .convert src dst p=>match bk T p with
  | .sc v=>CG (cvE P src dst v)
  |_=>none
 | .index t p q=>IT P t (bk T p) (bk T q)
 | .call c=>O6 P o c T
 |_=>none
theorem xd {E:Env}{ρ:Operand->Value}{w:World}{lo hi:Option Operand}(oE:∀x,lo=some x->Rel E (bk T x) (ρ x)) (hth:∀x,hi=some x->Rel E (bk T x) (ρ x)){l h:Option Int}(hl:dW T lo=some l) (hh:dW T hi=some h){n:Nat}
  (h1:0<=l.getD 0) (h2:l.getD 0<=h.getD n) (h3:h.getD n<=n):(Instr.sliceBounds false n n (lo.map ρ) (hi.map ρ) none).run P w= .ok ((l.getD 0).toNat,(h.getD n).toNat,n) w:=by
 unfold Instr.sliceBounds;rcases iM hth hh with ⟨rfl,rfl⟩|⟨x,k,i,rfl,rfl,hx⟩<;>rcases iM oE hl with ⟨rfl,rfl⟩|⟨y,k',i',rfl,rfl,hy⟩
 ·simp
 ·simp only[ahs,ahU,hy,ahN,aif]at*;simp only[Sem.run_bind,Sem.run_pure,Result.andThen_ok,pure_bind];rw[eE (by omega) (by omega)];simp
 ·simp only[ahs,ahU,hx,ahN,aif]at*;simp only[Sem.run_bind,Sem.run_pure,Result.andThen_ok,pure_bind];rw[eE (by omega) (by omega)];simp
 ·simp only[ahs,ahU,hx,hy,ahN,aif]at*;simp only[Sem.run_bind,Sem.run_pure,Result.andThen_ok,pure_bind];rw[eE (by omega) (by omega)];simp only[Result.andThen_ok,Sem.run_bind];rw[eE (by omega) (by omega)];simp
theorem CH {t:TypeId}{p:Operand}{lo hi:Option Operand}{s:ByteArray}{l h:Option Int}(ho:o.op= .slice t p lo hi none)
  (hu:aB P (underlying t)=some .string) (hp:bk T p= .sc (.string s)) (hl:dW T lo=some l) (hh:dW T hi=some h)
  (h1:0<=l.getD 0) (h2:l.getD 0<=h.getD s.size) (h3:h.getD s.size<=s.size):oH P o T H (.sc (.string (s.extract (l.getD 0).toNat (h.getD s.size).toNat))):=by
 refine cL λE w0 w ρ hg ht=> ?_
 have hr:=ht p (by simp[ho,Op.operands]);rw[hp]at hr;generalize hv:ρ p=v at hr;cases hr;refine⟨_,?_,.sc _ rfl⟩;simp only[execOp,ho,Instr.sliceAt,hv,Sem.run_bind,aj hu,Result.andThen_ok,Instr.slice,ahU,Option.isSome_none,ahA,if_false];rw[xd (λx e=>ht x (by simp[ho,Op.operands,e])) (λx e=>ht x (by simp[ho,Op.operands,e])) hl hh h1 h2 h3];simp only[Result.andThen_ok,Sem.run_pure,Sem.run_bind]
theorem wg {q:Option Operand}(h:dW T q=some none):q=none:=by
 cases q with
 |none=>rfl
 |some x=>simp only[dW]at h;split at h<;>simp at h
theorem wh {q:Option Operand}{i:Int}(h:dW T q=some (some i)):∃x,q=some x:=by
 cases q with
 |none=>simp[dW]at h
 |some x=>exact⟨x,rfl⟩
theorem wj {x:AV}(h:kZ P o T H=some x):oH P o T H x:=by
 unfold kZ at h;split at h
 ·rename_i y ho;cases h;exact ED (.inl ho)
 ·rename_i y ho;cases h;exact ED (.inr ho)
 ·rename_i c a b ho;split at h
  ·rename_i t hc;cases h;exact OV ho hc
  ·cases h
 ·rename_i t p ho;cases hc:iL H (bk T p)with
  |none=>rw[hc]at h;cases h
  |some cs=>rw[hc]at h;exact OW ho hc h
 ·rename_i s p f ho
  cases hn:tW P s f with
  |none=>rw[hn]at h;cases h
  |some n=>rw[hn]at h;exact AB ho hn h
 ·rename_i p ho;split at h
  ·rename_i l o' hp;cases h;exact oI ho hp (.inl ⟨_,_,rfl⟩)
  ·rename_i cs hp;cases h;exact oI ho hp (.inr (.inl ⟨_,rfl⟩))
  ·rename_i f a b hp;cases h;exact oI ho hp (.inr (.inr ⟨_,_,_,rfl⟩))
  ·cases h
 ·rename_i t i ho;split at h
  ·rename_i xs hx;exact EF ho hx h
  ·cases h
 ·rename_i fn first fJ ho;cases h;exact CA ho
 ·rename_i t p ho;split at h
  ·cases h
  ·rename_i d gX hd;cases h;exact tX ho ⟨_,hd,λms e=>gX ms e⟩
  ·cases h
 ·rename_i t p q ho;split at h
  ·rename_i e nl sz n el own k i hu hp hq;split at h
   ·rename_i hc;cases h;exact AD ho hu hc.1 hp hq hc.2.1 hc.2.2
   ·cases h
  ·rename_i e l sz n k i hu hp hq;split at h
   ·rename_i hc;cases h;exact CB ho hu hc.1 hp hq hc.2.1 hc.2.2
   ·cases h
  ·rename_i e l sz n k i hu hp hq;split at h
   ·rename_i hc;cases h;exact CC ho hu hc.1 hp hq hc.2.1 hc.2.2
   ·cases h
  ·cases h
 ·rename_i t p lo hi mx ho;split at h
  ·rename_i e nl sz n el own hu hp;split at h
   ·rename_i l h' hl hh hm;have:=wg hm;subst this;split at h
    ·rename_i hc;cases h;exact MF ho hu hc.1 hp hl hh hc.2.1 hc.2.2.1 hc.2.2.2
    ·cases h
   ·rename_i l h' m hl hh hm;obtain⟨q1,rfl⟩:=wh hh;obtain⟨q2,rfl⟩:=wh hm;split at h
    ·rename_i hc;cases h;exact IH ho hu hc.1 hp hl hh hm hc.2.1 hc.2.2.1 hc.2.2.2.1 hc.2.2.2.2
    ·cases h
   ·cases h
  ·rename_i s hu hp;split at h
   ·rename_i l h' hl hh hm;have:=wg hm;subst this;split at h
    ·rename_i hc;cases h;exact CH ho hu hp hl hh hc.1 hc.2.1 hc.2.2
    ·cases h
   ·cases h
  ·cases h
 ·rename_i t ps ho;split at h
  ·rename_i z pl hz Xz;split at h
   ·rename_i zs OY;rw[ahE]at h;obtain⟨cs,EJ,rfl⟩:=h;exact MD ho hz OY Xz EJ
   ·cases h
  ·cases h
 ·rename_i op t p q t2 ho;exact IQ ho h
 ·rename_i op t p ho;split at h
  ·rename_i v hv;exact KB (f:=Op.unary op) (fun ρ=>by simp[execOp,ho]) (by simp[ho,Op.operands]) hv h
  ·cases h
 ·rename_i s d p ho;split at h
  ·rename_i v hv;exact KB (f:=convert s d) (fun ρ=>by simp[execOp,ho]) (by simp[ho,Op.operands]) hv h
  ·cases h
 ·rename_i t p q ho;unfold IT at h;split at h
  ·rename_i v u hv hu;exact Ua (f:=Instr.index t) (fun ρ=>by simp[execOp,ho]) (by simp[ho,Op.operands]) (by simp[ho,Op.operands]) hv hu h
  ·cases h
 ·rename_i c ho;exact EO ho h
 ·cases h
end
def wm:AV->AV
 | .aY nl sz n el (.tok _)=> .aY nl sz n el .dA
 | .aY nl sz n el (.off _ _)=> .aY nl sz n el .dA
 |x=>x
theorem MH {E:Env}{x:AV}{v:Value}(h:Rel E x v):Rel E (wm x) v:=by
 cases h with
 |fw sz el own h=>rcases h with rfl|rfl<;>exact .fw sz el _ (by simp)
 |gG sz el own a h=>rcases h with rfl|rfl<;>exact .gG sz el _ a (by simp)
 |aY sz n el own b off c u hn ho hc hl h1 hS hk=>
  cases own with
  |dA=>exact .aY sz n el _ b off c u hn ho hc hl h1 hS hk
  |tight=>exact .aY sz n el _ b off c u hn ho hc hl h1 hS hk
  |tok t=>exact .aY sz n el .dA b off c u hn hc hc hl h1 hS hk
  |off t k=>exact .aY sz n el .dA b off c u hn hc hc hl h1 hS hk
 |any v=>exact .any v
 |sc v h=>exact .sc v h
 |ptr l o b h=>exact .ptr l o b h
 |dO cs b off u h k=>exact .dO cs b off u h k
 |fn f a b us vs h1 h2 k1 k2=>exact .fn f a b us vs h1 h2 k1 k2
 |lD t x v k=>exact .lD t x v k
 |agg cs us h k=>exact .agg cs us h k
 |bq cs us h k=>exact .bq cs us h k
 |cU l b h=>exact .cU l b h
 |fp l i n h=>exact .fp l i n h
 |nK l sz n b h hn=>exact .nK l sz n b h hn
 |qv l sz n b c h hn=>exact .qv l sz n b c h hn
 |kq l b h=>exact .kq l b h
 |jq l i=>exact .jq l i
 |fY l i n b c h h0 hn=>exact .fY l i n b c h h0 hn
def O7:AV->Bool
 | .sc _=>true
 | .dO _=>true
 | .aY _ _ _ _ own=>match own with
  | .tok _=>false
  | .off _ _=>false
  |_=>true
 |_=>false
theorem IU {x:AV}(h:O7 x=true):LF x:=by
 cases x with
 |sc v=>exact .sc v
 |dO cs=>exact .dO cs
 |aY nl sz n el own=>exact .aY nl sz n el own (by cases own<;>simp[O7]at h ⊢)
 |_=>simp[O7]at h
theorem KC {x:AV}(h:O7 x=true):lQ x=true:=by
 cases x<;>simp[O7]at h<;>rfl
section
variable {P:Program}{o:Oper}{T:List AV}{H:aa}
theorem xe {t elem:TypeId}{n sz:Nat}{ps:Array (Nat×Operand)}{z:Value}{zs cs:List AV}(ho:o.op= .buildSlice t n ps) (hu:aB P (underlying t)=some (.slice elem)) (hs:aB P (Go.sizeOf elem)=some sz)
  (hz:aB P (zeroValue elem)=some z) (Xy:(dB z).cells=zs) (ZL:jG (dB z)=true) (ZM:0<zs.length) (j9:n*sz<=2 ^ 24)
  (hf:sw (λi=>some (i*sz,sz)) ((List.range (n*sz)).map λi=>zs.getD (i % zs.length) .any) (ps.toList.map λ(i,x)=>(i,bk T x))=some cs)
  (XG:cs.length=n*sz) (Is:∀x∈cs,O7 (wm x)=true) (hn:n<=maxLen):kX P o T H (.aY false sz n (rowOf sz (cs.map wm)) .tight) H []:=by
 refine fV λE w0 w ρ hg ht=> ?_
 have Zi:=fZ E _ z (ahP _);have IF:RA E zs z.cells:=Xy▸jN Zi ZL;obtain⟨hl,hr⟩:=vj ps (λy hy=>ht y.2 (by simp only[ho,Op.operands];simp only[List.mem_toArray,ahQ];exact⟨y,by simpa using hy,rfl⟩));obtain⟨out,CD,Ub⟩:=xF _ _ _ _ _ (yo IF (n*sz) (.inr ZM)) hl hr hf;have MC:RA E (cs.map wm) out:=⟨by simpa using Ub.1,λj x hj=>by
  rw[ahy]at hj
  cases hc:cs[j]? with
  |none=>rw[hc]at hj;cases hj
  |some y=>rw[hc]at hj;cases hj;exact MH (Ub.2 j y hc)⟩
 have ZN:∀x∈cs.map wm,O7 x=true:=by
  intro x hx;rw[ahQ]at hx;obtain⟨y,hy,rfl⟩:=hx;exact Is y hy
 have ZO:(cs.map wm).length=n*sz:=by simpa using XG
 refine⟨E.fW w.heap.size (out[·]?),.slice (some ⟨w.heap.size,0,none⟩) n n,w.alloc (.cells out elem),?_,TO _ _ hg out elem,hg.row out elem,?_⟩
 ·simp only[execOp,ho,Instr.buildSlice,Sem.run_bind,aj hu,aj hs,Result.andThen_ok];rw[if_neg (by omega)];by_cases h0:n*sz=0
  ·simp only[h0,if_true,Sem.run_pure,Result.andThen_ok];have e:(Array.range 0).map ((#[]:Array Value)[·% (#[]:Array Value).size]!)=(Array.range (n*sz)).map (z.cells[·% z.cells.size]!):=by rw[h0];simp
   simp only[Sem.run_bind,Sem.run_pure,Result.andThen_ok]at*;rw[e,CD];simp only[newRow,newObj,Sem.run_bind,Sem.run,Sem.run_pure,Result.andThen_ok];rfl
  ·simp only[h0,if_false,Sem.run_bind,aj hz,Sem.run_pure,Result.andThen_ok];rw[CD];simp only[newRow,newObj,Sem.run_bind,Sem.run,Sem.run_pure,Result.andThen_ok];rfl
 ·have hos:out.size=n*sz:=by rw[MC.1,ZO]
  have hle:=j4 E w.heap.size (out[·]?);refine .aY sz n _ .tight w.heap.size 0 n (λi j=>out.getD (i*sz+j) undef) hn rfl (ag3 _) (λi hi=>tY ZO hi) (λi hi x hx=>KC (ZN x (List.mem_of_mem_drop (List.mem_of_mem_take hx)))) (λi hi j x hj=> ?_) (λi hi j x hj=> ?_)
  ·have su:=rD hj;rw[ZI hg,ahF];have cO:i*sz+j<out.size:=by rw[MC.1];exact(ag5.1 su).1
   simp[ahh,cO]
  ·have su:=rD hj;exact((MC.2 _ x su).data (IU (ZN x (ahf su)))).mono hle.data
theorem AH {t elem:TypeId}{p q:Operand}{k k2:IntKind}{n sz:Nat}{i:TypeInfo}{z:Value}{zs:List AV}(ho:o.op= .makeSlice t p q) (hu:aB P (underlying t)=some (.slice elem)) (hs:aB P (Go.sizeOf elem)=some sz)
  (hi:aB P (typeInfo elem)=some i) (hz:aB P (zeroValue elem)=some z) (Xy:(dB z).cells=zs) (ZL:jG (dB z)=true) (ZM:0<zs.length) (hp:bk T p= .sc (.int k n)) (hq:bk T q= .sc (.int k2 n))
  (j9:i.bytes*n<=2 ^ 24/\n<=2 ^ 24/\0<n*sz):kX P o T H (.nK H.length sz n) (H++[.cells ((List.range (n*sz)).map λi=>zs.getD (i % zs.length) .any)]) []:=by
 refine fV λE w0 w ρ hg ht=> ?_
 have hrp:=ht p (by simp[ho,Op.operands]);rw[hp]at hrp;have mW:=ht q (by simp[ho,Op.operands]);rw[hq]at mW;generalize hv:ρ p=v at hrp;generalize hw:ρ q=u at mW;cases hrp;cases mW;have IF:RA E zs z.cells:=Xy▸jN (fZ E _ z (ahP _)) ZL;have MC:=yo IF (n*sz) (.inr ZM);have ZP:IntKind.wrap .i64 (n:Int)=n:=by
  have:(n:Int) % 18446744073709551616=n:=Int.emod_eq_of_lt (by omega) (by omega);simp only[IntKind.wrap,IntKind.bits,IntKind.signed];simp[this];omega
 refine⟨E.ej H.length w.heap.size,.slice (some ⟨w.heap.size,0,none⟩) n n,w.alloc (.cells ((Array.range (n*sz)).map (z.cells[·% z.cells.size]!)) elem),?_,j3 _ _ (ag3 _) hg _ _,hg.new elem MC.cells,.nK _ _ _ _ (cV _ _ _) (by unfold maxLen;omega)⟩;have XH:¬((i.bytes:Int)*(n:Int)>2 ^ 48):=by
  have:((i.bytes*n:Nat):Int)=(i.bytes:Int)*(n:Int):=by simp
  omega
 have acx:¬((n:Int)<0):=by omega
 have EP:¬((n:Int)>(n:Int)):=by omega
 have gX:¬(n*sz=0):=by omega
 simp only[execOp,ho,Instr.makeSlice,hv,hw,asInt,asIntOf,Sem.run_bind,aj hu,aj hs,aj hi,aj hz,Result.andThen_ok,Sem.run_pure,ZP];simp only[acx,XH,EP,decide_false,Bool.or_false,ahA,if_false];have IN:(Sem.run P (askRoom (n*i.bytes)) w)= .ok () w:=by
  unfold askRoom;split
  ·rfl
  ·rfl
 simp only[Int.toNat_natCast,IN,Result.andThen_ok,gX,if_false,Sem.run_bind,aj hz,aj hs,Sem.run_pure];simp only[newRow,newObj,Sem.run_bind,Sem.run,Sem.run_pure,Result.andThen_ok];rfl
def O8:TypeDesc->Bool
 | .int _=>false
 |_=>true
def IV (P:Program) (e:TypeId):Bool:=
 match aB P (underlying e)with
 |some (.int .u8)=>true
 |_=>false
theorem CI {e:TypeId}(h:IV P e=true):aB P (underlying e)=some (.int .u8):=by
 unfold IV at h;split at h
 ·assumption
 ·cases h
def WI (P:Program) (t t2:TypeId):Option (Nat×Nat):=
 match aB P (underlying t),aB P (underlying t2)with
 |some (.slice elem),some d=>
  match aB P (Go.sizeOf elem),aB P (typeInfo elem),aB P (zeroValue elem)with
  |some sz,some i,some z=>if z.cells.size=sz/\O8 d=true then some (sz,i.bytes)else none
  |_,_,_=>none
 |_,_=>none
def IW (P:Program) (c:Call):Option (Nat×Nat):=
 match c.argTypes.toList with
 |[t,t2]=>WI P t t2
 |_=>none
theorem xH {c:Call}{p q:Operand}{sz bytes:Nat}(jH:c.callee= .builtin .append) (dn:c.args.toList=[p,q]) (h:IW P c=some (sz,bytes)):xa P c p q sz bytes:=by
 unfold IW at h;split at h
 ·rename_i t t2 AF;unfold WI at h;split at h
  ·rename_i elem d hu hd;split at h
   ·rename_i mO i z hs hi hz;split at h
    ·rename_i hc;cases h;refine⟨jH,by apply aiq;simpa using dn,t,t2,elem,i,z,d,by apply aiq;simpa using AF,hu,hs,hi,rfl,hz,hc.1,hd,λk e=> ?_⟩;subst e;simp[O8]at hc
    ·cases h
   ·cases h
  ·cases h
 ·cases h
def MI (P:Program) (c:Call) (T:List AV) (H:aa):Option (AV×aa×List Nat):=
 match c.args.toList,IW P c with
 |[p,q],some (sz,bytes)=>
  match bk T p,jj sz (bk T q)with
  | .aY nl mO n el own,some (m,el2)=>
   if m=0 then some (.aY nl mO n el own,H,[])
   else if (n+m)*bytes<=2 ^ 46/\n+m<2 ^ 62 then
    match own with
    | .tok t=>match H[t]? with
     |some (.tail n' ZQ)=>if n'=n/\ZQ=sz/\mO=sz then some (.aY false sz (n+m) (bI n el el2) (.tok t),H.set t (.tail (n+m) sz),[t])else none
     |_=>none
    | .tight=>if n=0∨mO=sz then some (.aY false sz (n+m) (bI n el el2) (.tok H.length),H++[.tail (n+m) sz],[])else none
    | .dA=>if nl=true/\(n=0∨mO=sz)then some (.aY false sz (n+m) (bI n el el2) (.tok H.length),H++[.tail (n+m) sz],[])else none
    | .off _ _=>none
   else none
  |_,_=>none
 |_,_=>none
theorem IX {c:Call}{x:AV}{H':aa}{Wr:List Nat}(ho:o.op= .call c) (jH:c.callee= .builtin .append) (h:MI P c T H=some (x,H',Wr)):kX P o T H x H' Wr:=by
 unfold MI at h;split at h
 ·rename_i p q sz bytes dn hT;have hA:=xH jH dn hT;split at h
  ·rename_i nl mO n el own m el2 hp hq;split at h
   ·rename_i hm;subst hm;cases h;exact(xc hA ho hp hq).a
   ·rename_i hm;split at h
    ·rename_i hb;split at h
     ·rename_i t;split at h
      ·rename_i n' ZQ hH;split at h
       ·rename_i hc;obtain⟨rfl,rfl,rfl⟩:=hc;cases h;exact yr hA ho hp hq hH (by omega) hb.1 hb.2
       ·cases h
      ·cases h
     ·split at h
      ·rename_i hc;cases h;exact qB hA ho hp hq (.inl rfl) hc (by omega) hb.1 hb.2
      ·cases h
     ·split at h
      ·rename_i hc;cases h;exact qB hA ho hp hq (.inr hc.1) hc.2 (by omega) hb.1 hb.2
      ·cases h
     ·cases h
    ·cases h
  ·cases h
 ·cases h
def pO (P:Program) (o:Oper) (T:List AV) (H:aa):Option (AV×aa×List Nat):=
 match o.op with
 | .box _ q=>if jG (bk T q)then some (.ptr H.length 0,H++[.cells (bk T q).cells],[])else none
 | .alloc t=>match aB P (zeroValue t)with
  |some z=>if jG (dB z)then some (.ptr H.length 0,H++[.cells (dB z).cells],[])else none
  |none=>none
 | .store t p q=>match bk T p with
  | .ptr l off=>match H[l]? with
   |some (.cells cs)=>
    if jG (bk T q)=true/\aB P (Go.sizeOf t)=some (bk T q).cells.length/\(bk T q).cells.all lQ=true/\off+(bk T q).cells.length<=cs.length then
     some (.any,H.set l (.cells (setMany cs off (bk T q).cells)),[l])else none
   |_=>none
  |_=>none
 | .buildSlice t n ps=>match aB P (underlying t)with
  |some (.slice elem)=>match aB P (Go.sizeOf elem),aB P (zeroValue elem)with
   |some sz,some z=>
    match sw (λi=>some (i*sz,sz)) ((List.range (n*sz)).map λi=>(dB z).cells.getD (i % (dB z).cells.length) .any) (ps.toList.map λ(i,x)=>(i,bk T x))with
    |some cs=>if jG (dB z)=true/\0<(dB z).cells.length/\n*sz<=2 ^ 24/\cs.length=n*sz/\cs.all (λx=>O7 (wm x))=true/\n<=maxLen then some (.aY false sz n (rowOf sz (cs.map wm)) .tight,H,[])else none
    |none=>none
   |_,_=>none
  |_=>none
 | .convert src dst p=>match aB P (underlying src),aB P (underlying dst),bk T p with
  |some .string,some (.slice e),.sc (.string s)=>if IV P e=true/\s.size<2 ^ 62 then some (.aY false 1 s.size (pN s) .dA,H,[])else none
  |_,_,_=>none
 | .call c=>match c.callee with
  | .builtin .append=>MI P c T H
  |_=>none
 | .makeSlice t p q=>match aB P (underlying t),bk T p,bk T q with
  |some (.slice elem),.sc (.int _ (.ofNat n)),.sc (.int _ (.ofNat n2))=>match aB P (Go.sizeOf elem),aB P (typeInfo elem),aB P (zeroValue elem)with
   |some sz,some i,some z=>if n2=n/\jG (dB z)=true/\0<(dB z).cells.length/\i.bytes*n<=2 ^ 24/\n<=2 ^ 24/\0<n*sz then
     some (.nK H.length sz n,H++[.cells ((List.range (n*sz)).map λi=>(dB z).cells.getD (i % (dB z).cells.length) .any)],[])else none
   |_,_,_=>none
  |_,_,_=>none
 |_=>none
theorem mY {x:AV}{H':aa}{Wr:List Nat}(h:pO P o T H=some (x,H',Wr)):kX P o T H x H' Wr:=by
 unfold pO at h;split at h
 ·rename_i t q ho;split at h
  ·rename_i hn;cases h;exact TW ho rfl hn
  ·cases h
 ·rename_i t ho;split at h
  ·rename_i z hz;split at h
   ·rename_i hn;cases h;exact MB ho hz rfl hn
   ·cases h
  ·cases h
 ·rename_i t p q ho;split at h
  ·rename_i l off hp;split at h
   ·rename_i cs hl;split at h
    ·rename_i hc;cases h;exact MA ho hp hl rfl hc.1 hc.2.1 (by simpa using hc.2.2.1) hc.2.2.2
    ·cases h
   ·cases h
  ·cases h
 ·rename_i t n ps ho;split at h
  ·rename_i elem hu;split at h
   ·rename_i sz z hs hz;split at h
    ·rename_i cs hf;split at h
     ·rename_i hc;cases h;exact xe ho hu hs hz rfl hc.1 hc.2.1 hc.2.2.1 hf hc.2.2.2.1 (by simpa using hc.2.2.2.2.1) hc.2.2.2.2.2
     ·cases h
    ·cases h
   ·cases h
  ·cases h
 ·rename_i src dst p ho;split at h
  ·rename_i e s vl yq hp;split at h
   ·rename_i hc;cases h;exact CF ho vl yq (CI hc.1) hp hc.2
   ·cases h
  ·cases h
 ·rename_i c ho;split at h
  ·rename_i hc;exact IX ho hc h
  ·cases h
 ·rename_i t p q ho;split at h
  ·rename_i elem k n k2 n2 hu hp hq;split at h
   ·rename_i sz i z hs hi hz;split at h
    ·rename_i hc;obtain⟨rfl,h1,h2,h3⟩:=hc;cases h;exact AH ho hu hs hi hz rfl h1 h2 hp hq h3
    ·cases h
   ·cases h
  ·cases h
 ·cases h
end
def s8 (o:Oper) (acc:List Nat):Nat:=o.after.toList.foldl (λs e=>if Region.binds .any e then s|||(2 ^ e.on|||acc.getD e.on 0)else s) 0
def lS:List Oper->List Nat->List Nat
 |[],acc=>acc
 |o::r,acc=>lS r (acc++[s8 o acc])
def nU (ops:Array Oper):List Nat:=lS ops.toList []
def lt (M:List Nat) (a b:Nat):Bool:=(M.getD b 0).testBit a
theorem yu (r:List Oper):∀acc:List Nat,∃t,lS r acc=acc++t/\t.length=r.length:=by
 induction r with
 |nil=>exact λacc=>⟨[],by simp[lS],rfl⟩
 |cons o r ih=>
  intro acc;obtain⟨t,h,hl⟩:=ih (acc++[s8 o acc]);exact⟨s8 o acc::t,by rw[lS,h];simp,by simp[hl]⟩
theorem ER:∀(r:List Oper) (acc:List Nat) (k:Nat) (o:Oper),r[k]? =some o->(lS r acc).getD (acc.length+k) 0=s8 o ((lS r acc).take (acc.length+k)):=by
 intro r
 induction r with
 |nil=>intro acc k o h;simp at h
 |cons p r ih=>
  intro acc k o h
  cases k with
  |zero=>
   simp at h;subst h;rw[lS];obtain⟨t,ht,_⟩:=yu r (acc++[s8 p acc]);rw[ht];simp[ag4]
  |succ k=>
   have:=ih (acc++[s8 p acc]) k o (by simpa using h);rw[lS];rw[show acc.length+(k+1)=(acc++[s8 p acc]).length+k by simp;omega];exact this
theorem O9 (acc:List Nat) (a:Nat):∀(es:List Edge) (s:Nat),(es.foldl (λs e=>if Region.binds .any e then s|||(2 ^ e.on|||acc.getD e.on 0)else s) s).testBit a=true->
  s.testBit a=true∨∃e∈es,Region.binds .any e=true/\(a=e.on∨(acc.getD e.on 0).testBit a=true):=by
 intro es
 induction es with
 |nil=>exact λs h=> .inl h
 |cons e r ih=>
  intro s h;rw[ah7]at h;rcases ih _ h with h1|⟨e',he,hb,hx⟩
  ·by_cases hb:Region.binds .any e=true
   ·rw[if_pos hb,Nat.testBit_or,Bool.or_eq_true,Nat.testBit_or,Bool.or_eq_true]at h1;rcases h1 with h1|h1|h1
    ·exact .inl h1
    ·refine .inr ⟨e,ahD,hb,.inl ?_⟩;rw[Nat.testBit_two_pow]at h1;have:=aht h1;omega
    ·exact .inr ⟨e,ahD,hb,.inr h1⟩
   ·rw[if_neg hb]at h1;exact .inl h1
  ·exact .inr ⟨e',ahn _ he,hb,hx⟩
theorem KD {ops:Array Oper}{a b:Nat}{o:Oper}(ho:ops[b]? =some o) (h:lt (nU ops) a b=true):∃e∈o.after,Region.binds .any e=true/\(a=e.on∨(e.on<b/\lt (nU ops) a e.on=true)):=by
 unfold lt nU at h;have hg:=ER ops.toList [] b o (by simpa using ho);simp only[aiz,ahF]at hg;rw[hg]at h;rcases O9 _ a _ 0 h with h1|⟨e,he,hb,hx⟩
 ·simp at h1
 ·refine⟨e,by simpa using he,hb,?_⟩;rcases hx with hx|hx
  ·exact .inl hx
  ·rcases ail e.on b with cO|XA
   ·refine .inr ⟨cO,?_⟩;unfold lt nU;rw[ag4,ahI,if_pos cO,←ag4]at hx;exact hx
   ·rw[ag4,ahI,if_neg (by omega)]at hx;simp at hx
def s9 (ops:Array Oper) (C:Nat->Bool):Prop:=∀b o,ops[b]? =some o->C b=true->∀e∈o.after,Region.binds .any e=true->C e.on=true
theorem vo {ops:Array Oper}{C:Nat->Bool}(hc:s9 ops C):∀(b:Nat),b<ops.size->C b=true->∀a,lt (nU ops) a b=true->C a=true:=by
 intro b
 induction b using Nat.strongRecOn with
 |_ b ih=>
  intro hb hC a hl;have ho:ops[b]? =some ops[b]:=by simp[hb]
  obtain⟨e,he,Uc,hx⟩:=KD ho hl;have:=hc b _ ho hC e he Uc;rcases hx with rfl|⟨h1,h2⟩
  ·exact this
  ·exact ih e.on h1 (by omega) this a h2
theorem yv {ops:Array Oper}{C:Nat->Bool}(hc:s9 ops C){b:Nat}{o:Oper}(ho:ops[b]? =some o) (hr:∀e∈o.after,Region.binds .any e=true->C e.on=true) (a:Nat) (h:lt (nU ops) a b=true):C a=true:=by
 obtain⟨e,he,Uc,hx⟩:=KD ho h;have hb:=(aha.1 ho).1;rcases hx with rfl|⟨h1,h2⟩
 ·exact hr e he Uc
 ·exact vo hc e.on (by omega) (hr e he Uc) a h2
def looks (ops:Array Oper) (o:Oper):List Nat:=
 o.dst.toList++(o.op.operands.toList.filterMap fun| .tmp t=>some t|_=>none)++(match o.guard with
  |some (j,_)=>((ops[j]?).bind (·.dst)).toList
  |none=>[])
def fX (ops:Array Oper) (x:Nat->AV) (C:Nat->Bool):List Nat->List AV->List AV
 |[],T=>T
 |i::r,T=>fX ops x C r (if C i then(match ops[i]? with|some o=>gK T o.dst (x i)|none=>T)else T)
theorem jP (T:List AV) (d:Option Tmp) (x:AV):(gK T d x).length=T.length:=by cases d<;>simp[gK]
theorem wo {T:List AV}{d:Option Tmp}{x:AV}{t:Nat}(h:d≠some t):(gK T d x)[t]? =T[t]? :=by
 cases d with
 |none=>rfl
 |some d=>exact ag7 (λe=>h (by rw[e]))
theorem kQ {T:List AV}{x:AV}{t:Nat}(h:t<T.length):(gK T (some t) x)[t]? =some x:=ahd h
theorem ie (ops:Array Oper) (x:Nat->AV) (C:Nat->Bool):∀(l:List Nat) (T:List AV),(fX ops x C l T).length=T.length
 |[],T=>rfl
 |i::r,T=>by
  rw[fX,ie ops x C r];split
  ·split
   ·exact jP _ _ _
   ·rfl
  ·rfl
theorem oK {ops:Array Oper}{x:Nat->AV}{C D:Nat->Bool}{t:Nat}:∀(l:List Nat) (T T':List AV),T.length=T'.length->T[t]? =T'[t]?->(∀i∈l,∀o,ops[i]? =some o->o.dst=some t->C i=D i)->(fX ops x C l T)[t]? =(fX ops x D l T')[t]?
 |[],T,T',_,h,_=>h
 |i::r,T,T',hl,h,hc=>by
  rw[fX,fX];refine oK r _ _ ?_ ?_ (λj hj=>hc j (ahn _ hj))
  ·split<;>split<;>(first|exact hl|(split<;>simp[jP,hl]))
  ·cases ho:ops[i]? with
   |none=>simpa using h
   |some o=>
    by_cases hd:o.dst=some t
    ·rw[hc i ahD o ho hd];split
     ·simp only[hd];by_cases cO:t<T.length
      ·rw[kQ cO,kQ (by omega)]
      ·rw[ahu (by rw[jP];omega),ahu (by rw[jP];omega)]
     ·exact h
    ·have e1:∀(b:Bool) (S:List AV),(if b=true then gK S o.dst (x i)else S)[t]? =S[t]? :=by
      intro b S;cases b
      ·rfl
      ·exact wo hd
     simp only[e1,h]
theorem my {E:Env}{H:aa}{l b:Nat}(h:owns E H l b):l<H.length:=by
 unfold owns at h
 cases hl:H[l]? with
 |none=>rw[hl]at h;exact h.elim
 |some o=>exact(ag5.1 hl).1
structure ZR (al:Option Nat) (E:Env) (H:aa) (w:World) (E':Env) (w':World):Prop where
 le:E.le E'
 size:nN w w'
 iX:∀{l b},owns E H l b->w'.heap[b]? =w.heap[b]?
 lL:∀{l},l<H.length->al≠some l->E'.φ l=E.φ l
 stay:∀{b},b<w.heap.size->(∀l,¬owns E H l b)->w'.heap[b]? =w.heap[b]?/\(∀l,¬owns E' H l b)/\∀o,E'.S b o=E.S b o
def MJ (P:Program) (o:Oper) (T:List AV) (H:aa) (x:AV) (al:Option Nat):Prop:=
 ∀(E:Env) (w0 w:World) (ρ:Operand->Value),Good E H w0 w->(∀l,al=some l->E.φ l=none)->Az E T o ρ->
  Eu P o ρ w λv w'=>∃E',ZR al E H w E' w'/\Good E' H w0 w'/\Rel E' x v
theorem Eu.mono {P:Program}{o:Oper}{ρ:Operand->Value}{w:World}{K K':Value->World->Prop}(h:Eu P o ρ w K) (hk:∀v w',K v w'->K' v w'):Eu P o ρ w K':=by
 unfold Eu at*;split at h
 ·exact hk _ _ h
 ·exact hk _ _ h
 ·refine h.mono ?_;intro e sr he
  cases e with
  |returned v=>exact hk _ _ he
  |panicked c=>exact he.elim
  |outgrown=>exact he.elim
 ·exact h.elim
theorem kX.f {P:Program}{o:Oper}{T:List AV}{H:aa}{x:AV}(h:kX P o T H x H []):MJ P o T H x none:=by
 intro E w0 w ρ hg _ ht;refine(h E w0 w ρ hg ht).mono ?_;rintro v w' ⟨E',ex,g,r⟩;exact⟨E',⟨ex.le,ex.size,λho=>ex.iX (my ho) (by simp) ho,λhl _=>ex.lL hl,ex.stay⟩,g,r⟩
theorem MJ.a {P:Program}{o:Oper}{T:List AV}{H:aa}{x:AV}(h:MJ P o T H x none):kX P o T H x H []:=by
 intro E w0 w ρ hg ht;refine(h E w0 w ρ hg (λl e=>by cases e) ht).mono ?_;rintro v w' ⟨E',ex,g,r⟩;exact⟨E',⟨ex.le,ex.size,ag3 _,λ_ _=>rfl,λ_ _ ho=>ex.iX ho,λhl=>ex.lL hl (by simp),ex.stay⟩,g,r⟩
theorem Ext.ZS {n0:Nat}{W:Nat->Prop}{E0 E E':Env}{H0 H:aa}{w0 w w':World}{al:Option Nat}(h:Ext n0 W E0 H0 w0 E H w) (k:ZR al E H w E' w') (ha:∀l,al=some l->H0.length<=l):Ext n0 W E0 H0 w0 E' H w':=
  ⟨h.le.trans k.le,h.size.trans k.size,h.len,h.same,λhl hw ho=>(k.iX (ho.step h.le (h.same hl hw))).trans (h.iX hl hw ho),
   λ{l} hl=>(k.lL (ahz hl h.len) (λe=>by have:=ha l e;omega)).trans (h.lL hl),
   λhb h0=>⟨(k.stay (ahz hb h.size.heap) (h.stay hb h0).2.1).1.trans (h.stay hb h0).1,(k.stay (ahz hb h.size.heap) (h.stay hb h0).2.1).2.1,λo=>((k.stay (ahz hb h.size.heap) (h.stay hb h0).2.1).2.2 o).trans ((h.stay hb h0).2.2 o)⟩⟩
theorem ES {E:Env}{H:aa}{l x k b:Nat}(hnr:∀es pd,H[l]?≠some (.rows es pd)) (h:owns (E.ej l x) H k b):owns E H k b∨b=x:=by
 by_cases hk:k=l
 ·subst hk;have e:(E.ej k x).φ k=some x:=cV _ _ _;unfold owns at h ⊢
  cases ix:H[k]? with
  |none=>rw[ix]at h;exact h.elim
  |some o=>
   rw[ix]at h
   cases o with
   |dead=>exact h.elim
   |cells cs=>exact .inr (ahM (e.symm.trans h)).symm
   |tail n sz=>exact .inl h
   |cu n=>exact .inl h
   |map es=>exact .inr (ahM (e.symm.trans h)).symm
   |iter m=>exact .inr (ahM (e.symm.trans h)).symm
   |mark k=>exact .inr (ahM (e.symm.trans h)).symm
   |ez f v=>exact .inr (ahM (e.symm.trans h)).symm
   |cN=>exact h.elim
   |rows es pd=>exact absurd ix (hnr es pd)
 ·refine .inl ?_;have e:(E.ej l x).φ k=E.φ k:=gN E hk;unfold owns at h ⊢
  cases ix:H[k]? with
  |none=>rw[ix]at h;exact h.elim
  |some o=>
   rw[ix]at h
   cases o with
   |dead=>exact h
   |cells cs=>exact e.symm.trans h
   |tail n sz=>exact h
   |cu n=>exact h
   |map es=>exact e.symm.trans h
   |iter m=>exact e.symm.trans h
   |mark k=>exact e.symm.trans h
   |ez f v=>exact e.symm.trans h
   |cN=>exact h
   |rows es pd=>
    obtain⟨y,hy,h⟩:=h;exact⟨y,e.symm.trans hy,h⟩
theorem Good.settle {E:Env}{H:aa}{w0 w:World}(g:Good E H w0 w){l:Nat}{cs:List AV}{arr:Array Value}(T:TypeId) (hl:H[l]? =some (.cells cs)) (hφ:E.φ l=none) (hr:mn E cs arr):
  Good (E.ej l w.heap.size) H w0 (w.alloc (.cells arr T)):=by
 have hle:E.le (E.ej l w.heap.size):=Env.j2 hφ;have gp:=g.push (.cells arr T);have back:∀k b,owns (E.ej l w.heap.size) H k b->k≠l->owns E H k b:=by
  intro k b ho hk;unfold owns at ho ⊢
  cases ix:H[k]? with
  |none=>rw[ix]at ho;exact ho.elim
  |some o=>
   rw[ix]at ho;have e:(E.ej l w.heap.size).φ k=E.φ k:=gN E hk
   cases o with
   |dead=>exact ho
   |cells cs=>exact e.symm.trans ho
   |tail n sz=>exact ho
   |cu n=>exact ho
   |map es=>exact e.symm.trans ho
   |iter m=>exact e.symm.trans ho
   |mark k=>exact e.symm.trans ho
   |ez f v=>exact e.symm.trans ho
   |cN=>exact ho
   |rows es pd=>
    obtain⟨y,hy,h⟩:=ho;exact⟨y,e.symm.trans hy,h⟩
 have self:∀b,owns (E.ej l w.heap.size) H l b->b=w.heap.size:=by
  intro b ho;unfold owns at ho;rw[hl]at ho;have:(E.ej l w.heap.size).φ l=some w.heap.size:=cV _ _ _;rw[this]at ho;exact(ahM ho).symm
 refine⟨gp.below,λh=>gp.snap h,λ{k o} hk=> ?_,λ{k k' b} h1 h2=> ?_,λ{k} hk=> ?_,λ{k b} hk=> ?_⟩
 ·by_cases jI:k=l
  ·subst jI;rw[hl]at hk;cases hk;intro b hb;rw[cV]at hb;simp only[ag6]at hb;subst hb;refine⟨g.below.size,λc=>kx g c,arr,T,heap_alloc_new w _,λj x hj=> ?_⟩;obtain⟨u,hu,h⟩:=hr j x hj;exact⟨u,hu,h.mono hle⟩
  ·refine(gp.obj hk).step hk hle (λb hb=> ?_) (λm=>rfl) (λb c hb hc hn=>hn) (λb hb=>rfl);rw[gN E jI]at hb;exact hb
 ·by_cases h1l:k=l
  ·by_cases ZT:k'=l
   ·rw[h1l,ZT]
   ·subst h1l;have:=self b h1;have:=g.fG (back k' b h2 ZT);omega
  ·by_cases ZT:k'=l
   ·subst ZT;have:=self b h2;have:=g.fG (back k b h1 h1l);omega
   ·exact g.sep (back k b h1 h1l) (back k' b h2 ZT)
 ·have jI:k≠l:=λe=>by have:=(ag5.1 hl).1;omega
  have:=g.fresh hk;exact⟨(gN E jI).trans this.1,this.2⟩
 ·by_cases jI:k=l
  ·subst jI;rw[cV]at hk;simp only[ag6]at hk;subst hk;rw[eK];omega
  ·rw[gN E jI]at hk;exact gp.mb hk
structure Seq (P:Program) (ops:Array Oper) (T0:List AV) (H0:aa) (T':List AV) (H':aa) where
 Ts:Nat->List AV
 Hs:Nat->aa
 x:Nat->AV
 fl:Nat->Bool
 rd:Nat->List Nat
 alt:Nat->Nat->Option bu
 al:Nat->Option Nat
 Wr:Nat->List Nat
 t0:Ts 0=T0
 h0:Hs 0=H0
 tn:Ts ops.size=T'
 hn:Hs ops.size=H'
 next:∀i o,ops[i]? =some o->Ts (i+1)=gK (Ts i) o.dst (x i)
 step:∀i o,ops[i]? =some o->(dx ops (Ts i) o=some false/\x i=mV/\fl i=true/\Hs (i+1)=Hs i)∨
  (dx ops (Ts i) o=some true/\fl i=true/\Hs (i+1)=Hs i/\∀H:aa,(∀l∈rd i,H[l]? =(Hs i)[l]?∨∃ob,alt i l=some ob/\H[l]? =some ob)->MJ P o (Ts i) H (x i) (al i))∨
  (dx ops (Ts i) o=some true/\fl i=false/\kX P o (Ts i) (Hs i) (x i) (Hs (i+1)) (Wr i)/\(Hs i).length<=(Hs (i+1)).length/\∀l,l<(Hs i).length->l∉Wr i->(Hs (i+1))[l]? =(Hs i)[l]?)
structure uc (ops:Array Oper) (fl:Nat->Bool) (rd:Nat->List Nat) (alt:Nat->Nat->Option bu) (Hs:Nat->aa) (Wr:Nat->List Nat) (H0:aa):Prop where
 WJ:∀i o,ops[i]? =some o->∀t∈looks ops o,∀j q,ops[j]? =some q->q.dst=some t->j≠i->lt (nU ops) (min i j) (max i j)=true
 Ud:∀i j,i<j->j<ops.size->fl i=false->fl j=false->lt (nU ops) i j=true
 before:∀i j l,j<i->i<ops.size->fl i=true->fl j=false->l∈rd i->l∈Wr j->lt (nU ops) j i=true
 behind:∀i j l,i<j->j<ops.size->fl i=true->fl j=false->l∈rd i->l∈Wr j->lt (nU ops) i j=true∨∃ob,alt i l=some ob/\(Hs (j+1))[l]? =some ob
 known:∀i l,i<ops.size->l∈rd i->l<H0.length
 ZU:∀i o,ops[i]? =some o->∀e∈o.after,Region.binds .any e=true->e.on<i
section
variable {P:Program}{ops:Array Oper}{T0 T':List AV}{H0 H':aa}
theorem oL (x:Nat->AV) (C:Nat->Bool):∀(l1 l2:List Nat) (T:List AV),fX ops x C (l1++l2) T=fX ops x C l2 (fX ops x C l1 T)
 |[],l2,T=>rfl
 |i::r,l2,T=>by rw[ah8,fX,oL x C r,fX]
theorem qC (x:Nat->AV) (C:Nat->Bool):∀(l:List Nat) (T:List AV),(∀i∈l,C i=false)->fX ops x C l T=T
 |[],T,_=>rfl
 |i::r,T,h=>by
  rw[fX,h i ahD];exact qC x C r T (λj hj=>h j (ahn _ hj))
theorem qD (x:Nat->AV) (C D:Nat->Bool):∀(l:List Nat) (T:List AV),(∀i∈l,C i=D i)->fX ops x C l T=fX ops x D l T
 |[],T,_=>rfl
 |i::r,T,h=>by
  rw[fX,fX,h i ahD];exact qD x C D r _ (λj hj=>h j (ahn _ hj))
theorem Seq.xI (S:Seq P ops T0 H0 T' H'):∀k,k<=ops.size->S.Ts k=fX ops S.x (λj=>decide (j<k)) (List.range ops.size) T0:=by
 have key:∀k,k<=ops.size->S.Ts k=fX ops S.x (λ_=>true) (List.range k) T0:=by
  intro k
  induction k with
  |zero=>intro _;rw[S.t0];rfl
  |succ k ih=>
   intro hk;rw[List.range_succ,oL,←ih (by omega)];have ho:ops[k]? =some ops[k]:=by simp[show k<ops.size by omega]
   rw[S.next k _ ho,fX,fX];simp[ho]
 intro k hk;have hr:List.range ops.size=List.range k++(List.range (ops.size-k)).map (k+·):=by
  rw[←List.range_add];congr 1;omega
 rw[hr,oL,key k hk,qC _ _ ((List.range (ops.size-k)).map (k+·))]
 ·exact qD _ _ _ _ _ (λi hi=>by simp at hi;simp[hi])
 ·intro i hi;simp at hi;obtain⟨a,_,rfl⟩:=hi;simp
theorem Seq.KE (S:Seq P ops T0 H0 T' H'){p:Nat}:∀q,p<=q->q<=ops.size->(∀i,p<=i->i<q->S.fl i=true)->S.Hs q=S.Hs p:=by
 intro q
 induction q with
 |zero=>
  intro h _ _;have:p=0:=by omega
  subst this;rfl
 |succ q ih=>
  intro h1 h2 h3;rcases ail q p with h|h
  ·have:p=q+1:=by omega
   subst this;rfl
  ·rw[←ih h (by omega) (λi hi hq=>h3 i hi (by omega))];have ho:ops[q]? =some ops[q]:=by simp[show q<ops.size by omega]
   have hf:=h3 q h (by omega);rcases S.step q _ ho with ⟨_,_,_,h4⟩|⟨_,_,h4,_⟩|⟨_,h4,_⟩
   ·exact h4
   ·exact h4
   ·rw[hf]at h4;cases h4
theorem Seq.yw (S:Seq P ops T0 H0 T' H'):∀q,q<=ops.size->H0.length<=(S.Hs q).length:=by
 intro q
 induction q with
 |zero=>intro _;rw[S.h0];exact ag3 _
 |succ q ih=>
  intro h;have ho:ops[q]? =some ops[q]:=by simp[show q<ops.size by omega]
  have:=ih (by omega);rcases S.step q _ ho with ⟨_,_,_,h4⟩|⟨_,_,h4,_⟩|⟨_,_,_,h4,_⟩
  ·rw[h4];exact this
  ·rw[h4];exact this
  ·omega
theorem Seq.ET (S:Seq P ops T0 H0 T' H'){l:Nat}(hl:l<H0.length){p:Nat}:∀q,p<=q->q<=ops.size->(∀i,p<=i->i<q->S.fl i=false->l∉S.Wr i)->(S.Hs q)[l]? =(S.Hs p)[l]? :=by
 intro q
 induction q with
 |zero=>
  intro h _ _;have:p=0:=by omega
  subst this;rfl
 |succ q ih=>
  intro h1 h2 h3;rcases ail q p with h|h
  ·have:p=q+1:=by omega
   subst this;rfl
  ·rw[←ih h (by omega) (λi hi hq=>h3 i hi (by omega))];have ho:ops[q]? =some ops[q]:=by simp[show q<ops.size by omega]
   rcases S.step q _ ho with ⟨_,_,_,h4⟩|⟨_,_,h4,_⟩|⟨_,h4,_,_,h5⟩
   ·rw[h4]
   ·rw[h4]
   ·exact h5 l (ahz hl (S.yw q (by omega))) (h3 q h (by omega) h4)
theorem ny {T1 T2:List AV}{o:Oper}(h:∀t∈looks ops o,T1[t]? =T2[t]?):dx ops T1 o=dx ops T2 o:=by
 unfold dx
 cases hg:o.guard with
 |none=>rfl
 |some g=>
  obtain⟨j,want⟩:=g;simp only;congr 1;unfold nO;cases hd:(ops[j]?).bind (·.dst)with
  |none=>rfl
  |some d=>
   simp only[ahH];rw[h d (by unfold looks;rw[hg];simp[hd])]
theorem IY {T1 T2:List AV}{o:Oper}(h:∀t∈looks ops o,T1[t]? =T2[t]?){p:Operand}(hp:p∈o.op.operands):bk T1 p=bk T2 p:=by
 cases p with
 |tmp t=>
  simp only[bk,ag4];rw[h t (by
   unfold looks;refine ahk _ (ahj _ ?_);rw[List.mem_filterMap];exact⟨.tmp t,by simpa using hp,rfl⟩)]
 |_=>rfl
variable (S:Seq P ops T0 H0 T' H') (dC:uc ops S.fl S.rd S.alt S.Hs S.Wr H0)
include dC
theorem Seq.KF {C:Nat->Bool}(hc:s9 ops C){i:Nat}{o:Oper}(ho:ops[i]? =some o) (hi:C i=false) (hr:∀e∈o.after,Region.binds .any e=true->C e.on=true){t:Nat}(ht:t∈looks ops o){j:Nat}{q:Oper}(hq:ops[j]? =some q) (hd:q.dst=some t):
  C j=decide (j<i):=by
 have hj:=(aha.1 hq).1;rcases Nat.lt_trichotomy j i with h|h|h
 ·have:=dC.WJ i o ho t ht j q hq hd (by omega);rw[Nat.min_eq_right (by omega),Nat.max_eq_left (by omega)]at this;rw[yv hc ho hr j this];simp[h]
 ·subst h;simp[hi]
 ·have:=dC.WJ i o ho t ht j q hq hd (by omega);rw[Nat.min_eq_left (by omega),Nat.max_eq_right (by omega)]at this
  cases hC:C j with
  |false=>simp;omega
  |true=>
   have:=vo hc j hj hC i this;rw[hi]at this;cases this
theorem Seq.Ue {C:Nat->Bool}(hc:s9 ops C){i:Nat}{o:Oper}(ho:ops[i]? =some o) (hi:C i=false) (hr:∀e∈o.after,Region.binds .any e=true->C e.on=true){t:Nat}(ht:t∈looks ops o):
  (fX ops S.x C (List.range ops.size) T0)[t]? =(S.Ts i)[t]? :=by
 have mP:=(aha.1 ho).1;rw[S.xI i (aim mP)];exact oK _ _ _ rfl rfl (λj hj q hq hd=>S.KF dC hc ho hi hr ht hq hd)
theorem Seq.Pa {C:Nat->Bool}(hc:s9 ops C){i:Nat}{o:Oper}(ho:ops[i]? =some o) (hi:C i=false) (hr:∀e∈o.after,Region.binds .any e=true->C e.on=true) (t:Nat):
  (fX ops S.x (λk=>if k=i then true else C k) (List.range ops.size) T0)[t]? =(gK (fX ops S.x C (List.range ops.size) T0) o.dst (S.x i))[t]? :=by
 have mP:=(aha.1 ho).1;by_cases hd:o.dst=some t
 ·have oE:t∈looks ops o:=by unfold looks;simp[hd]
  by_cases cO:t<T0.length
  ·rw[hd,kQ (by rw[ie];exact cO)];have e:(fX ops S.x (λk=>if k=i then true else C k) (List.range ops.size) T0)[t]? =(fX ops S.x (λk=>decide (k<i+1)) (List.range ops.size) T0)[t]? :=by
    refine oK _ _ _ rfl rfl (λj hj q hq yl=> ?_);by_cases qi:j=i
    ·subst qi;simp
    ·have:=S.KF dC hc ho hi hr oE hq yl;simp only[qi,if_false,this];have:j<i↔j<i+1:=by omega
     simp[this]
   rw[e,←S.xI (i+1) mP,S.next i o ho,hd];exact kQ (by rw[S.xI i (by omega),ie];exact cO)
  ·rw[ahu (by rw[ie];omega),ahu (by rw[jP,ie];omega)]
 ·rw[wo hd];refine oK _ _ _ rfl rfl (λj hj q hq yl=> ?_);have:j≠i:=λe=>by subst e;rw[ho]at hq;cases hq;exact hd yl
  simp[this]
end
def idle:bu->Bool
 | .cells _=>true
 | .dead=>true
 |_=>false
theorem oM {E:Env}{H res:aa}{w0 w:World}(g:Good E H w0 w) (lT:∀o∈res,idle o=true){l b:Nat}(h:owns E (H++res) l b):owns E H l b:=by
 by_cases hl:l<H.length
 ·unfold owns at h ⊢;rwa [ahb hl]at h
 ·have hf:=g.fresh (ah9 hl);unfold owns at h;rw[ahi (ah9 hl)]at h
  cases ho:res[l-H.length]? with
  |none=>rw[ho]at h;exact h.elim
  |some o=>
   rw[ho]at h;have:=lT o (ahf ho)
   cases o with
   |cells cs=>rw[hf.1]at h;cases h
   |dead=>exact h.elim
   |tail n sz=>simp[idle]at this
   |cu n=>simp[idle]at this
   |map es=>simp[idle]at this
   |iter m=>simp[idle]at this
   |mark k=>simp[idle]at this
   |ez f v=>simp[idle]at this
   |cN=>simp[idle]at this
   |rows es pd=>simp[idle]at this
theorem Good.CJ {E:Env}{H:aa}{w0 w:World}(g:Good E H w0 w) (res:aa) (lT:∀o∈res,idle o=true):Good E (H++res) w0 w:=by
 refine⟨g.below,λh=>g.snap h,λ{l o} h=> ?_,λ{l l' b} h1 h2=>g.sep (oM g lT h1) (oM g lT h2),λ{l} h=>g.fresh (by simp at h;omega),λh=>g.mb h⟩;by_cases hl:l<H.length
 ·rw[ahb hl]at h;exact g.obj h
 ·have hf:=g.fresh (ah9 hl);rw[ahi (ah9 hl)]at h;have:=lT o (ahf h)
  cases o with
  |cells cs=>intro b hb;rw[hf.1]at hb;cases hb
  |dead=>exact trivial
  |tail n sz=>simp[idle]at this
  |cu n=>simp[idle]at this
  |map es=>simp[idle]at this
  |iter m=>simp[idle]at this
  |mark k=>simp[idle]at this
  |ez f v=>simp[idle]at this
  |cN=>simp[idle]at this
  |rows es pd=>simp[idle]at this
theorem Ext.CJ {n0:Nat}{W:Nat->Prop}{E:Env}{H res:aa}{w0 w:World}(g:Good E H w0 w) (lT:∀o∈res,idle o=true) (hn:n0<=H.length):Ext n0 W E H w E (H++res) w:=
 ⟨.refl E,.refl _,by simp,λ{l} hl _=>ahb (by omega),λ_ _ _=>rfl,λ_=>rfl,λ_ h=>⟨rfl,λl ho=>h l (oM g lT ho),λ_=>rfl⟩⟩
section
variable {P:Program}{ops:Array Oper}{T0 T':List AV}{H0 H':aa}
structure KG (S:Seq P ops T0 H0 T' H') (AI:aa) (C:Nat->Bool) (n0:Nat) (W:Nat->Prop) (E0:Env) (w00 w0:World) (ds:List Deferred) (a:Act) (w:World):Prop where
 ex:∃p E,p<=ops.size/\(∀i,i<p->S.fl i=false->C i=true)/\(∀i,p<=i->i<ops.size->S.fl i=false->C i=false)/\
  Good E (S.Hs p) w0 w/\Ext n0 W E0 AI w00 E (S.Hs p) w/\eJ E (fX ops S.x C (List.range ops.size) T0) a.tmps/\∀i l,i<ops.size->C i=false->S.al i=some l->E.φ l=none
 ds:a.defers=ds
theorem ta {E:Env}{T1 T2:List AV}{tmps:Array Value}(h:eJ E T1 tmps) (hl:T2.length=T1.length) (hs:∀t:Nat,T2[t]? =T1[t]?):eJ E T2 tmps:=
 ⟨by rw[h.1,hl],λi x hx=>h.2 i x (by rw[←hs i];exact hx)⟩
structure Kept (S:Seq P ops T0 H0 T' H') (AI:aa):Prop where
 len:AI.length<=H0.length
 lo:∀i l,i<ops.size->S.al i=some l->AI.length<=l/\l<H0.length
 inj:∀i j l,i<ops.size->j<ops.size->S.al i=some l->S.al j=some l->i=j
theorem Seq.one (S:Seq P ops T0 H0 T' H'){AI:aa}(KH:Kept S AI) (dC:uc ops S.fl S.rd S.alt S.Hs S.Wr H0){C:Nat->Bool}(hc:s9 ops C){n0:Nat}{W:Nat->Prop}(sx:n0<=AI.length) (hW:∀i l,S.fl i=false->l∈S.Wr i->l<n0->W l){E0:Env}{w00 w0:World}{ds:List Deferred}{a:Act}{w:World}
  (hu:KG S AI C n0 W E0 w00 w0 ds a w) {i:Nat} {o:Oper} (ho:ops[i]? =some o) (hi:C i=false) (hr:∀e∈o.after,Region.binds .any e=true->C e.on=true) {Q:Exit->Act->World->Prop} {K:Act->World->Prop}
  (hK:∀a' w',KG S AI (λk=>if k=i then true else C k) n0 W E0 w00 w0 ds a' w'->K a' w'):wpOp P ops Q i K a w:=by
 obtain⟨⟨p,E,hp,Uf,XI,hg,hex,ht,WH⟩,Ew⟩:=hu;have XJ:∀j,(if j=i then true else C j)=false->j≠i/\C j=false:=λj h=>by
  by_cases qi:j=i
  ·simp[qi]at h
  ·simp only[qi,if_false]at h;exact⟨qi,h⟩
 have mP:=(aha.1 ho).1;have KI:∀t∈looks ops o,(fX ops S.x C (List.range ops.size) T0)[t]? =(S.Ts i)[t]? :=λt oE=>S.Ue dC hc ho hi hr oE
 have IZ:=S.Pa dC hc ho hi hr;have hlen:(fX ops S.x (λk=>if k=i then true else C k) (List.range ops.size) T0).length=(gK (fX ops S.x C (List.range ops.size) T0) o.dst (S.x i)).length:=by rw[ie,jP,ie]
 have WK:Az E (S.Ts i) o a.eval:=λq hq=>by rw[←IY KI hq];exact kN ht q
 unfold wpOp;simp only[ho];rcases S.step i o ho with ⟨hw,hx,hf,hh⟩|⟨hw,hf,hh,hs⟩|⟨hw,hf,hs,WL,pP⟩
 ·
  rw[←ny KI]at hw;rw[fm ht hw];simp only[ahA,if_false];refine hK _ _ ⟨⟨p,E,hp,λj hj sB=> ?_,λj hj sv sB=> ?_,hg,hex,?_,λj l sv hj hl=>WH j l sv (XJ j hj).2 hl⟩,by rw[cg];exact Ew⟩
  ·have:j≠i:=λe=>by subst e;rw[hf]at sB;cases sB
   simp[this,Uf j hj sB]
  ·have:j≠i:=λe=>by subst e;rw[hf]at sB;cases sB
   simp[this,XI j hj sv sB]
  ·refine ta (fU ht o.dst (nP _)) (by rw[hlen,hx]) (λt=>by rw[IZ t,hx])
 ·
  rw[←ny KI]at hw;rw[fm ht hw];simp only[if_true];refine .inl ?_;have MK:∀l∈S.rd i,(S.Hs p)[l]? =(S.Hs i)[l]?∨∃ob,S.alt i l=some ob/\(S.Hs p)[l]? =some ob:=by
   intro l hl;have cO:=dC.known i l mP hl;rcases ail i p with hip|hip
   ·have key:∀q,i<=q->q<=p->(S.Hs q)[l]? =(S.Hs i)[l]?∨∃ob,S.alt i l=some ob/\(S.Hs q)[l]? =some ob:=by
     intro q
     induction q with
     |zero=>
      intro h1 _;have:i=0:=by omega
      subst this;exact .inl rfl
     |succ q ih=>
      intro h1 h2;rcases ail q i with h|h
      ·have:i=q+1:=by omega
       subst this;exact .inl rfl
      ·have hq:ops[q]? =some ops[q]:=by simp[show q<ops.size by omega]
       have Pb:=ih h (by omega);rcases S.step q _ hq with ⟨_,_,_,h4⟩|⟨_,_,h4,_⟩|⟨_,hfq,_,_,h5⟩
       ·rw[h4];exact Pb
       ·rw[h4];exact Pb
       ·by_cases hm:l∈S.Wr q
        ·have hiq:i≠q:=λe=>by subst e;rw[hf]at hfq;cases hfq
         rcases dC.behind i q l (by omega) (by omega) hf hfq hl hm with ho|ho
         ·have:=vo hc q (by omega) (Uf q (by omega) hfq) i ho;rw[hi]at this;cases this
         ·exact .inr ho
        ·rw[h5 l (ahz cO (S.yw q (by omega))) hm];exact Pb
    exact key p (aim hip) (ag3 _)
   ·refine .inl (S.ET cO i hip (by omega) (λj h1 h2 h3 hm=> ?_)).symm;have:=yv hc ho hr j (dC.before i j l h2 mP hf h3 hl hm);rw[XI j h1 (by omega) h3]at this;cases this
  refine(hs (S.Hs p) MK E w0 w a.eval hg (λl hl=>WH i l mP hi hl) WK).wp ?_;rintro v w' ⟨E',XK,qw,hx⟩;refine hK _ _ ⟨⟨p,E',hp,λj hj sB=> ?_,λj hj sv sB=> ?_,qw,hex.ZS XK (λl hl=>(KH.lo i l mP hl).1),?_,λj l sv hj hl=> ?_⟩,by rw[cg];exact Ew⟩
  ·have:j≠i:=λe=>by subst e;rw[hf]at sB;cases sB
   simp[this,Uf j hj sB]
  ·have:j≠i:=λe=>by subst e;rw[hf]at sB;cases sB
   simp[this,XI j hj sv sB]
  ·exact ta (fU (ht.mono XK.le) o.dst hx) hlen IZ
  ·have su:=XJ j hj;rw[XK.lL (ahz (KH.lo j l sv hl).2 (S.yw p hp)) (λe=>su.1 (KH.inj j i l sv mP hl e))];exact WH j l sv su.2 hl
 ·
  rw[←ny KI]at hw;rw[fm ht hw];simp only[if_true];refine .inl ?_;have hpi:p<=i:=by
   rcases ail i p with h|h
   ·have:=Uf i h hf;rw[hi]at this;cases this
   ·exact h
  have EU:∀j,p<=j->j<i->S.fl j=true:=by
   intro j h1 h2
   cases sB:S.fl j with
   |true=>rfl
   |false=>
    have:=dC.Ud j i h2 mP sB hf;have:=yv hc ho hr j this;rw[XI j h1 (by omega) sB]at this;cases this
  have hHs:S.Hs i=S.Hs p:=S.KE i hpi (by omega) EU;rw[hHs]at hs pP WL;refine(hs E w0 w a.eval hg WK).wp ?_;rintro v w' ⟨E',XM,qw,hx⟩;refine hK _ _ ⟨⟨i+1,E',mP,λj hj sB=> ?_,λj hj sv sB=> ?_,qw,?_,?_,λj l sv hj hl=> ?_⟩,by rw[cg];exact Ew⟩
  ·by_cases qi:j=i
   ·simp[qi]
   ·rcases ail j p with h|h
    ·simp[qi,Uf j h sB]
    ·have:=EU j h (by omega);rw[sB]at this;cases this
  ·have:j≠i:=by omega
   simp[this,XI j (by omega) sv sB]
  ·refine hex.trans (XM.weaken ?_ (λl hl hm=>hW i l hf hm hl));exact ahx sx (ahx KH.len (S.yw p hp))
  ·exact ta (fU (ht.mono XM.le) o.dst hx) hlen IZ
  ·rw[XM.lL (ahz (KH.lo j l sv hl).2 (S.yw p hp))];exact WH j l sv (XJ j hj).2 hl
theorem Seq.any (S:Seq P ops T0 H0 T' H'){AI:aa}(KH:Kept S AI) (dC:uc ops S.fl S.rd S.alt S.Hs S.Wr H0){n0:Nat}{W:Nat->Prop}(sx:n0<=AI.length) (hW:∀i l,S.fl i=false->l∈S.Wr i->l<n0->W l){E0:Env}{w00 w0:World}{ds:List Deferred}{Q:Exit->Act->World->Prop}
  (hQ:∀(E':Env) (a':Act) (w':World),Ext n0 W E0 AI w00 E' H' w'->Good E' H' w0 w'->eJ E' T' a'.tmps->a'.defers=ds->Q .normal a' w'):
  ∀(fuel:Nat) (du:Array Bool) (a:Act) (w:World),du.size=ops.size->((List.range ops.size).filter λi=> !du.getD i true).length=fuel->s9 ops (λi=>du.getD i false)->KG S AI (λi=>du.getD i false) n0 W E0 w00 w0 ds a w->wpAny P .any ops Q fuel du a w:=by
 have getD_eq:∀(du:Array Bool) (i:Nat),du.size=ops.size->i<ops.size->du.getD i true=du.getD i false:=by
  intro l i h hi;simp[ahh,h,hi]
 have done:∀(du:Array Bool) (a:Act) (w:World),du.size=ops.size->(∀i,i<ops.size->du.getD i false=true)->KG S AI (λi=>du.getD i false) n0 W E0 w00 w0 ds a w->Q .normal a w:=by
  intro du a w ga fy hu;obtain⟨⟨p,E,hp,Uf,XI,hg,hex,ht,_⟩,Ew⟩:=hu;have hH:S.Hs p=H':=by
   refine Eq.trans ?_ S.hn;exact(S.KE ops.size hp (ag3 _) (λi h1 h2=>by
    cases hf:S.fl i with
    |true=>rfl
    |false=>have:=XI i h1 h2 hf;rw[fy i h2]at this;cases this)).symm
  rw[hH]at hg hex;refine hQ E a w hex hg ?_ Ew;have:fX ops S.x (λi=>du.getD i false) (List.range ops.size) T0=T':=by
   refine Eq.trans ?_ ((S.xI ops.size (ag3 _)).symm.trans S.tn);exact qD _ _ _ _ _ (λi hi=>by simp at hi;simp[fy i hi,hi])
  rwa [this]at ht
 have ZV:∀(du:Array Bool),du.size=ops.size->Region.ready .any ops du=[]->∀i,i<ops.size->du.getD i false=true:=by
  intro du ga ZW i
  induction i using Nat.strongRecOn with
  |_ i ih=>
   intro mP
   cases hl:du.getD i false with
   |true=>rfl
   |false=>
    have ho:ops[i]? =some ops[i]:=by simp[mP]
    have:i∈Region.ready .any ops du:=by
     rw[mem_ready];refine⟨by rw[getD_eq du i ga mP];exact hl,ops[i],ho,λe he hb=> ?_⟩;have:=dC.ZU i _ ho e he hb;exact ih e.on this (by omega)
    rw[ZW]at this;cases this
 intro fuel
 induction fuel with
 |zero=>
  intro du a w ga Pc hc hu;have fy:∀i,i<ops.size->du.getD i false=true:=by
   intro i hi;have acz:((List.range ops.size).filter λi=> !du.getD i true)=[]:=ahK.1 Pc;have:=List.filter_eq_nil_iff.1 acz i (by simp[hi]);rw[←getD_eq du i ga hi];simpa using this
  refine⟨?_,done du a w ga fy hu⟩;unfold Region.ready;rw[List.filter_eq_nil_iff];intro i hi;simp only[List.mem_range]at hi;rw[getD_eq du i ga hi,fy i hi];simp
 |succ fuel ih=>
  intro du a w ga Pc hc hu;refine⟨λZW=>done du a w ga (ZV du ga ZW) hu,λi hi=> ?_⟩;obtain⟨ZX,o,ho,hr⟩:=mem_ready.1 hi;have mP:=(aha.1 ho).1;rw[getD_eq du i ga mP]at ZX;have jt:∀k,(du.setIfInBounds i true).getD k false=(λk=>if k=i then true else du.getD k false) k:=by
   intro k;by_cases hk:k=i
   ·subst hk;simp[ahh,ga,mP]
   ·simp[ahh,ahm (Ne.symm hk),hk]
  refine S.one KH dC hc sx hW hu ho ZX (λe he hb=>hr e he hb) (λa' w' T8=> ?_);refine ih _ a' w' (by simpa using ga) ?_ ?_ ?_
  ·
   have acA:∀(l:List Nat),i∈l->l.Nodup->(l.filter λk=> !(du.setIfInBounds i true).getD k true).length+1=(l.filter λk=> !du.getD k true).length:=by
    intro l
    induction l with
    |nil=>intro h;cases h
    |cons k r ihr=>
     intro hm lU;have WM:∀k,k≠i->(du.setIfInBounds i true).getD k true=du.getD k true:=λk hk=>by
      simp[ahh,ahm (Ne.symm hk)]
     have EP:(du.setIfInBounds i true).getD i true=true:=by simp[ahh,ga,mP]
     rw[List.nodup_cons]at lU;by_cases Pd:k=i
     ·subst Pd;have acB:du.getD k true=false:=by rw[getD_eq du k ga mP];exact ZX
      rw[List.filter_cons_of_neg (by simp[EP]),List.filter_cons_of_pos (by simp[acB])];rw[ahv];congr 2;refine List.filter_congr (λj hj=> ?_);rw[WM j (λe=>lU.1 (e▸hj))]
     ·have hmr:i∈r:=by
       rcases ahl.1 hm with h|h
       ·exact absurd h.symm Pd
       ·exact h
      rw[List.filter_cons,List.filter_cons,WM k Pd];split
      ·rw[ahv,ahv,ihr hmr lU.2]
      ·exact ihr hmr lU.2
   have:=acA (List.range ops.size) (by simp[mP]) List.nodup_range;omega
  ·intro b q hq hb e he Uc;have hb:=(jt b).symm.trans hb;refine(jt e.on).trans ?_;by_cases ZY:b=i
   ·subst ZY;rw[ho]at hq;cases hq;have:=hr e he Uc;dsimp only;split
    ·rfl
    ·exact this
   ·simp only[ZY,if_false]at hb;have:=hc b q hq hb e he Uc;dsimp only;split
    ·rfl
    ·exact this
  ·have e:(λk=>(du.setIfInBounds i true).getD k false)=(λk=>if k=i then true else du.getD k false):=funext jt;rw[e];exact T8
theorem Pe {n0:Nat}{W:Nat->Prop}{Q:bj->List AV->aa->Prop}{AI:aa}{res:List bu}(S:Seq P ops T0 H0 T' H') (KH:Kept S AI) (hH:H0=AI++res) (lT:∀o∈res,idle o=true) (dC:uc ops S.fl S.rd S.alt S.Hs S.Wr H0) (hW:∀i l,S.fl i=false->l∈S.Wr i->l<n0->W l) (h:Q .normal T' H'):
  ∀(E:Env) (w0 w:World) (a:Act) (D:List Deferred),n0<=AI.length->Good E AI w0 w->eJ E T0 a.tmps->a.defers=D->wpAny P .any ops (nQ n0 W Q E AI w0 w D) ops.size (Array.replicate ops.size false) a { w with drawn:=w.drawn+1}:=by
 intro E w0 w a D hn hg ht hd;have e:∀i,(Array.replicate ops.size false).getD i false=false:=by
  intro i;simp only[ahh,Array.getElem?_replicate];split<;>rfl
 refine S.any KH dC hn hW (E0:=E) (w00:=w.drew) (w0:=w0) (ds:=D) (λE' a' w' hex qw EA Ew=> ?_) ops.size _ a _ (by simp) ?_ ?_ ?_
 ·exact⟨E',_,T',H',h,.normal,(qA n0 W).trans hex,qw,EA,Ew⟩
 ·have:((List.range ops.size).filter λi=> !(Array.replicate ops.size false).getD i true)=List.range ops.size:=by
   rw[List.filter_eq_self];intro i hi;simp only[List.mem_range]at hi;simp[ahh,hi]
  rw[this];simp
 ·intro b o _ hb;have hb:false=true:=(e b).symm.trans hb;cases hb
 ·refine⟨⟨0,E,ag9 _,λi hi=>by omega,λi _ _ _=>e i,?_,?_,?_,λi l hi _ hl=>(hg.fresh (KH.lo i l hi hl).1).1⟩,hd⟩
  ·rw[S.h0,hH];exact hg.drew.CJ res lT
  ·rw[S.h0,hH];exact .CJ hg.drew lT hn
  ·rw[qC _ _ _ _ (λi _=>e i)];exact ht
end
end Go.Proofs.YtiipaliigpkfhaaGreat.Ab
