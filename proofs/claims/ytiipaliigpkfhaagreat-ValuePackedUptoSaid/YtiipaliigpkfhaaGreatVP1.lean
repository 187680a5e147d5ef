/- Lemmas 1. -/
import Derived.OrdersHeld
import Derived.Below
import Derived.Laws.AppendOwn
import Derived.ScopeJumps
import Derived.Conc.MuLone
set_option maxRecDepth 100000
namespace Go.Proofs.YtiipaliigpkfhaaGreat.Ab
abbrev ag2:=@decide_eq_true
abbrev ag3:=@Nat.le_refl
abbrev ag4:=@List.getD_eq_getElem?_getD
abbrev ag5:=@List.getElem?_eq_some_iff
abbrev ag6:=@Option.some.injEq
abbrev ag7:=@List.getElem?_set_ne
abbrev ag8:=@decide_eq_false
abbrev ag9:=@Nat.zero_le
abbrev aha:=@Array.getElem?_eq_some_iff
abbrev ahb:=@List.getElem?_append_left
abbrev ahc:=@List.getElem?_eq_getElem
abbrev ahd:=@List.getElem?_set_self
abbrev ahe:=@Prod.mk.injEq
abbrev ahf:=@List.mem_of_getElem?
abbrev ahg:=@Nat.not_lt_zero
abbrev ahh:=@Array.getD_eq_getD_getElem?
abbrev ahi:=@List.getElem?_append_right
abbrev ahj:=@List.mem_append_right
abbrev ahk:=@List.mem_append_left
abbrev ahl:=@List.mem_cons
abbrev ahm:=@Array.getElem?_setIfInBounds_ne
abbrev ahn:=@List.mem_cons_of_mem
abbrev aho:=@Array.getElem?_modify
abbrev ahp:=@Bool.and_eq_true
abbrev ahq:=@List.all_eq_true
abbrev ahr:=@List.not_mem_nil
abbrev ahs:=@Option.map_some
abbrev aht:=@of_decide_eq_true
abbrev ahu:=@List.getElem?_eq_none
abbrev ahv:=@List.length_cons
abbrev ahw:=@List.getElem?_cons_zero
abbrev ahx:=@Nat.le_trans
abbrev ahy:=@List.getElem?_map
abbrev ahz:=@Nat.lt_of_lt_of_le
abbrev ahA:=@Bool.false_eq_true
abbrev ahB:=@List.length_append
abbrev ahC:=@List.mem_append
abbrev ahD:=@List.mem_cons_self
abbrev ahE:=@Option.map_eq_some_iff
abbrev ahF:=@Nat.zero_add
abbrev ahG:=@List.getElem_mem
abbrev ahH:=@Option.bind_some
abbrev ahI:=@List.getElem?_take
abbrev ahJ:=@List.map_cons
abbrev ahK:=@List.length_eq_zero_iff
abbrev ahL:=@List.getElem?_cons_succ
abbrev ahM:=@Option.some.inj
abbrev ahN:=@Option.getD_some
abbrev ahO:=@or_false
abbrev ahP:=@Nat.lt_succ_self
abbrev ahQ:=@List.mem_map
abbrev ahR:=@List.take_length
abbrev ahS:=@Array.getElem?_push
abbrev ahT:=@List.getElem?_of_mem
abbrev ahU:=@Option.map_none
abbrev ahV:=@List.map_congr_left
abbrev ahW:=@Classical.byContradiction
abbrev ahX:=@Nat.sub_self
abbrev ahY:=@Nat.mul_le_mul_right
abbrev ahZ:=@Nat.lt_irrefl
abbrev ah0:=@List.getElem_of_mem
abbrev ah1:=@Array.getElem?_append_left
abbrev ah2:=@List.ext_getElem?
abbrev ah3:=@List.append_nil
abbrev ah4:=@List.findIdx?_eq_some_iff_getElem
abbrev ah5:=@List.take_succ_cons
abbrev ah6:=@List.mem_replicate
abbrev ah7:=@List.foldl_cons
abbrev ah8:=@List.cons_append
abbrev ah9:=@Nat.le_of_not_lt
abbrev aia:=@List.map_nil
abbrev aib:=@List.range_succ_eq_map
abbrev aic:=@Nat.add_mul
abbrev aid:=@List.eq_nil_of_length_eq_zero
abbrev aie:=@List.getElem?_toArray
abbrev aif:=@Option.getD_none
abbrev aih:=@List.findIdx?_eq_none_iff
abbrev aii:=@Array.getElem?_eq_getElem
abbrev aij:=@List.getElem?_drop
abbrev aik:=@Nat.add_zero
abbrev ail:=@Nat.lt_or_ge
abbrev aim:=@Nat.le_of_lt
abbrev ain:=@List.map_map
abbrev aio:=@List.append_assoc
abbrev aip:=@Classical.axiomOfChoice
abbrev aiq:=@Array.ext'
abbrev air:=@List.length_map
abbrev ais:=@Bool.not_false
abbrev ait:=@List.take_append_drop
abbrev aiu:=@List.size_toArray
abbrev aiv:=@List.getElem?_take_of_lt
abbrev aiw:=@Option.none_or
abbrev aiy:=@List.mem_singleton
abbrev aiz:=@List.length_nil
end Go.Proofs.YtiipaliigpkfhaaGreat.Ab
namespace Go.Proofs.YtiipaliigpkfhaaGreat.Ab
open Go Go.RowKit
inductive Own where
 |dA
 |tight
 |tok (t:Nat)
 |off (t k:Nat)
 deriving DecidableEq
inductive AV where
 |any
 |sc (v:Value)
 |ptr (l o:Nat)
 |dO (cs:List AV)
 |aY (nl:Bool) (sz n:Nat) (el:Nat->List AV) (own:Own)
 |fn (f:Fn) (first fJ:List AV)
 |lD (t:TypeId) (v:AV)
 |agg (cs:List AV)
 |bq (vs:List AV)
 |cU (l:Nat)
 |fp (l i:Nat)
 |nK (l sz n:Nat)
 |qv (l sz n:Nat)
 |kq (l:Nat)
 |fY (l i n:Nat)
structure Env where
 φ:Nat->Option Nat
 S:Nat->Nat->Option Value
 G:Nat->Nat->Option (Nat×Nat)
structure Env.le (E E':Env):Prop where
 φ:∀{l b},E.φ l=some b->E'.φ l=some b
 S:∀{b o u},E.S b o=some u->E'.S b o=some u
 G:∀{t n x},E.G t n=some x->E'.G t n=some x
theorem Env.le.refl (E:Env):E.le E:=⟨λh=>h,λh=>h,λh=>h⟩
theorem Env.le.trans {E E' ZE:Env}(h:E.le E') (k:E'.le ZE):E.le ZE:=⟨λx=>k.φ (h.φ x),λx=>k.S (h.S x),λx=>k.G (h.G x)⟩
def plain:Value->Bool
 | .bool _| .int _ _| .float _ _| .complex _ _ _| .string _| .nilFunc| .nilIface| .pointer none| .map none| .chan none=>true
 |_=>false
def code (i m:Nat):Nat:=(i+m)*(i+m)+i
theorem iJ {i m j k:Nat}(h:code i m=code j k):i=j/\m=k:=by
 unfold code at h;have key:∀a b x y:Nat,x<=a->y<=b->a*a+x=b*b+y->a<=b:=by
  intro a b x y hx hy h;apply ahW;intro hc;have h1:(b+1)*(b+1)<=a*a:=Nat.mul_le_mul (by omega) (by omega);have h2:(b+1)*(b+1)=b*b+b+b+1:=by rw[aic,Nat.mul_add];omega
  omega
 have h1:=key _ _ _ _ (Nat.le_add_right i m) (Nat.le_add_right j k) h;have h2:=key _ _ _ _ (Nat.le_add_right j k) (Nat.le_add_right i m) h.symm;have e:i+m=j+k:=by omega
 rw[e]at h;omega
def Own.ok (E:Env) (own:Own) (n:Nat) (b off c:Nat):Prop:=
 match own with
 | .dA=>n<=c
 | .tight=>c=n
 | .tok t=>E.G t n=some (b,c)/\off=0/\n<=c
 | .off t k=>(c=0∨E.G t k=some (b,code (off+n) (off+c)))/\n<=c
def Env.data (E:Env):Env:={ φ:=λ_=>none,S:=E.S,G:=λ_ _=>none}
theorem Env.xD (E:Env):E.data.le E:=⟨λh=>(by cases h),λh=>h,λh=>(by cases h)⟩
theorem Env.le.data {E E':Env}(h:E.le E'):E.data.le E'.data:=⟨λh=>(by cases h),λx=>h.S x,λh=>(by cases h)⟩
def lQ:AV->Bool
 | .any| .agg _| .bq _=>false
 |_=>true
inductive Rel:Env->AV->Value->Prop where
 |any {E:Env} (v:Value):Rel E .any v
 |sc {E:Env} (v:Value) (h:plain v=true):Rel E (.sc v) v
 |ptr {E:Env} (l o b:Nat) (h:E.φ l=some b):Rel E (.ptr l o) (.pointer (some ⟨b,o,none⟩))
 |dO {E:Env} (cs:List AV) (b off:Nat) (u:Nat->Value) (h:∀j x,cs[j]? =some x->E.S b (off+j)=some (u j))
   (k:∀j x,cs[j]? =some x->Rel E.data x (u j)):Rel E (.dO cs) (.pointer (some ⟨b,off,none⟩))
 |fw {E:Env} (sz:Nat) (el:Nat->List AV) (own:Own) (h:own= .dA∨own= .tight):Rel E (.aY true sz 0 el own) (.slice none 0 0)
 |gG {E:Env} (sz:Nat) (el:Nat->List AV) (own:Own) (a:Addr) (h:own= .dA∨own= .tight):Rel E (.aY false sz 0 el own) (.slice (some a) 0 0)
 |aY {E:Env} (sz n:Nat) (el:Nat->List AV) (own:Own) (b off c:Nat) (u:Nat->Nat->Value) (hn:c<=maxLen) (ho:own.ok E n b off c) (hc:n<=c)
   (hl:∀i,i<n->(el i).length=sz) (h1:∀i,i<n->∀x,x∈el i->lQ x=true) (h:∀i,i<n->∀j x,(el i)[j]? =some x->E.S b (off+i*sz+j)=some (u i j))
   (k:∀i,i<n->∀j x,(el i)[j]? =some x->Rel E.data x (u i j)):Rel E (.aY false sz n el own) (.slice (some ⟨b,off,none⟩) n c)
 |fn {E:Env} (f:Fn) (first fJ:List AV) (us vs:Array Value) (h1:us.size=first.length) (h2:vs.size=fJ.length)
   (k1:∀j x,first[j]? =some x->Rel E x (us.getD j undef)) (k2:∀j x,fJ[j]? =some x->Rel E x (vs.getD j undef)):Rel E (.fn f first fJ) (.func f us vs)
 |lD {E:Env} (t:TypeId) (x:AV) (v:Value) (k:Rel E x v):Rel E (.lD t x) (.iface t v)
 |agg {E:Env} (cs:List AV) (us:Array Value) (h:us.size=cs.length) (k:∀j x,cs[j]? =some x->Rel E x (us.getD j undef)):Rel E (.agg cs) (.agg us)
 |bq {E:Env} (cs:List AV) (us:Array Value) (h:us.size=cs.length) (k:∀j x,cs[j]? =some x->Rel E x (us.getD j undef)):Rel E (.bq cs) (.tuple us)
 |cU {E:Env} (l b:Nat) (h:E.φ l=some b):Rel E (.cU l) (.map (some b))
 |fp {E:Env} (l i n:Nat) (h:E.G l i=some (n,0)):Rel E (.fp l i) (.int .i64 n)
 |nK {E:Env} (l sz n b:Nat) (h:E.φ l=some b) (hn:n<=maxLen):Rel E (.nK l sz n) (.slice (some ⟨b,0,none⟩) n n)
 |qv {E:Env} (l sz n b c:Nat) (h:E.φ l=some b) (hn:n<=c):Rel E (.qv l sz n) (.slice (some ⟨b,0,none⟩) n c)
 |kq {E:Env} (l b:Nat) (h:E.φ l=some b):Rel E (.kq l) (.func (.yield b) #[] #[])
 |jq {E:Env} (l i:Nat):Rel E (.fY l i 0) (.slice none 0 0)
 |fY {E:Env} (l i n b c:Nat) (h:E.G l (code i n)=some (b,c)) (h0:0<n) (hn:n<=c):Rel E (.fY l i n) (.slice (some ⟨b,0,none⟩) n c)
theorem Own.ok.mono {E E':Env}{own:Own}{n b off c:Nat}(h:own.ok E n b off c) (he:E.le E'):own.ok E' n b off c:=by
 cases own with
 |dA=>exact h
 |tight=>exact h
 |tok t=>exact⟨he.G h.1,h.2⟩
 |off t k=>exact⟨h.1.imp id he.G,h.2⟩
theorem Rel.mono {E E':Env}{x:AV}{v:Value}(h:Rel E x v) (he:E.le E'):Rel E' x v:=by
 induction h generalizing E' with
 |any v=>exact .any v
 |sc v h=>exact .sc v h
 |ptr l o b h=>exact .ptr l o b (he.φ h)
 |dO cs b off u h k ih=>exact .dO cs b off u (λj x hj=>he.S (h j x hj)) (λj x hj=>ih j x hj he.data)
 |fw sz el own h=>exact .fw sz el own h
 |gG sz el own a h=>exact .gG sz el own a h
 |aY sz n el own b off c u hn ho hc hl h1 h k ih=>exact .aY sz n el own b off c u hn (ho.mono he) hc hl h1 (λi hi j x hj=>he.S (h i hi j x hj)) (λi hi j x hj=>ih i hi j x hj he.data)
 |fn f first fJ us vs h1 h2 k1 k2 i1 i2=>exact .fn f first fJ us vs h1 h2 (λj x hj=>i1 j x hj he) (λj x hj=>i2 j x hj he)
 |lD t x v k ih=>exact .lD t x v (ih he)
 |agg cs us h k ih=>exact .agg cs us h (λj x hj=>ih j x hj he)
 |bq cs us h k ih=>exact .bq cs us h (λj x hj=>ih j x hj he)
 |cU l b h=>exact .cU l b (he.φ h)
 |fp l i n h=>exact .fp l i n (he.G h)
 |nK l sz n b h hn=>exact .nK l sz n b (he.φ h) hn
 |qv l sz n b c h hn=>exact .qv l sz n b c (he.φ h) hn
 |kq l b h=>exact .kq l b (he.φ h)
 |jq l i=>exact .jq l i
 |fY l i n b c h h0 hn=>exact .fY l i n b c (he.G h) h0 hn
inductive LF:AV->Prop where
 |any:LF .any
 |sc (v:Value):LF (.sc v)
 |dO (cs:List AV):LF (.dO cs)
 |aY (nl:Bool) (sz n:Nat) (el:Nat->List AV) (own:Own) (h:own= .dA∨own= .tight):LF (.aY nl sz n el own)
 |fn (f:Fn) (first fJ:List AV) (h1:∀x∈first,LF x) (h2:∀x∈fJ,LF x):LF (.fn f first fJ)
 |lD (t:TypeId) (x:AV) (h:LF x):LF (.lD t x)
 |agg (cs:List AV) (h:∀x∈cs,LF x):LF (.agg cs)
 |bq (cs:List AV) (h:∀x∈cs,LF x):LF (.bq cs)
theorem Rel.lf {E E':Env}{x:AV}{v:Value}(h:Rel E x v) (hl:LF x) (hS:∀{b o u},E.S b o=some u->E'.S b o=some u):Rel E' x v:=by
 have hd:E.data.le E'.data:=⟨λh=>(by cases h),λh=>hS h,λh=>(by cases h)⟩
 induction h generalizing E' with
 |any v=>exact .any v
 |sc v h=>exact .sc v h
 |ptr l o b h=>cases hl
 |dO cs b off u h k ih=>exact .dO cs b off u (λj x hj=>hS (h j x hj)) (λj x hj=>(k j x hj).mono hd)
 |fw sz el own h=>exact .fw sz el own h
 |gG sz el own a h=>exact .gG sz el own a h
 |aY sz n el own b off c u hn ho hc hlen h1 h k ih=>
  cases hl with
  |aY nl sz n el own w8=>
   refine .aY sz n el own b off c u hn ?_ hc hlen h1 (λi hi j x hj=>hS (h i hi j x hj)) (λi hi j x hj=>(k i hi j x hj).mono hd)
   cases own with
   |dA=>exact ho
   |tight=>exact ho
   |tok t=>simp at w8
   |off t k=>simp at w8
 |fn f first fJ us vs h1 h2 k1 k2 i1 i2=>
  cases hl with
  |fn f first fJ l1 l2=>exact .fn f first fJ us vs h1 h2 (λj x hj=>i1 j x hj (l1 x (ahf hj)) hS hd) (λj x hj=>i2 j x hj (l2 x (ahf hj)) hS hd)
 |lD t x v k ih=>cases hl with|lD t x h=>exact .lD t x v (ih h hS hd)
 |agg cs us h k ih=>cases hl with|agg cs hl=>exact .agg cs us h (λj x hj=>ih j x hj (hl x (ahf hj)) hS hd)
 |bq cs us h k ih=>cases hl with|bq cs hl=>exact .bq cs us h (λj x hj=>ih j x hj (hl x (ahf hj)) hS hd)
 |cU l b h=>cases hl
 |fp l i n h=>cases hl
 |nK l sz n b h hn=>cases hl
 |qv l sz n b c h hn=>cases hl
 |kq l b h=>cases hl
 |jq l i=>cases hl
 |fY l i n b c h h0 hn=>cases hl
def eJ (E:Env) (T:List AV) (tmps:Array Value):Prop:=tmps.size=T.length/\∀i x,T[i]? =some x->Rel E x (tmps.getD i undef)
theorem eJ.mono {E E':Env}(he:E.le E'){T:List AV}{tmps:Array Value}(h:eJ E T tmps):eJ E' T tmps:=⟨h.1,λi x hx=>(h.2 i x hx).mono he⟩
inductive Mk where
 |defs
 |loop (T:List AV) (ps:Array Tmp) (assign body:Code) (st:Option Code)
inductive bu where
 |dead
 |cells (cs:List AV)
 |tail (n sz:Nat)
 |cu (k:Nat)
 |map (es:List (Value×AV))
 |iter (m:Nat)
 |mark (k:Mk)
 |cN
 |rows (es:List (ByteArray×List ByteArray)) (pd:Option (Nat×List ByteArray))
 |ez (has:ByteArray->Bool) (val:ByteArray->AV)
abbrev aa:=List bu
def rowAt (es:List (ByteArray×List ByteArray)) (pd:Option (Nat×List ByteArray)) (i:Nat):Option (List ByteArray):=
 match pd with
 |some (j,ss)=>if i=j then some ss else(es[i]?).map (·.2)
 |none=>(es[i]?).map (·.2)
def owns (E:Env) (H:aa) (l b:Nat):Prop:=
 match H[l]? with
 |some (.cells _)=>E.φ l=some b
 |some (.map _)=>E.φ l=some b
 |some (.iter _)=>E.φ l=some b
 |some (.mark _)=>E.φ l=some b
 |some (.ez _ _)=>E.φ l=some b
 |some (.tail n _)=>∃c,E.G l n=some (b,c)
 |some (.cu k)=>∃c,E.G l k=some (b,c)
 |some (.rows es pd)=>∃y,E.φ l=some y/\(y=b∨∃i ss c,rowAt es pd i=some ss/\E.G l (code i ss.length)=some (b,c))
 |_=>False
def mn (E:Env) (cs:List AV) (arr:Array Value):Prop:=∀(j:Nat) (x:AV),cs[j]? =some x->∃u:Value,arr[j]? =some u/\Rel E x u
def yf (E:Env) (l:Nat) (ms:Array MapEntry):Prop:=∀(i:Nat) (x:Nat×Nat),E.G l i=some x->x.2=0/\∃m:MapEntry,ms[i]? =some m/\m.born=x.1
def nu (E:Env) (l:Nat) (es:List (Value×AV)) (ms:Array MapEntry) (clock:Nat):Prop:=
 ms.size=es.length/\(∀(j:Nat) (e:Value×AV),es[j]? =some e->∃m:MapEntry,ms[j]? =some m/\m.key=e.1/\Rel E e.2 m.val)/\
 (∀(i:Nat) (m:MapEntry),ms[i]? =some m->m.born<clock)/\(∀(i j:Nat) (m m':MapEntry),ms[i]? =some m->ms[j]? =some m'->m.born=m'.born->i=j)/\yf E l ms
def yg (E:Env):Mk->Obj->Prop
 | .defs,o=>o= .deferred (some [])
 | .loop T ps as bd st,o=>∃r:Loop,o= .loop r/\eJ E T r.tmps/\r.params=ps/\r.assign=as/\r.body=bd/\r.pending=st/\r.state=(if st.isNone then .ready else .done)
theorem yg.mono {E E':Env}(he:E.le E'){k:Mk}{o:Obj}(h:yg E k o):yg E' k o:=by
 cases k with
 |defs=>exact h
 |loop T ps as bd st=>obtain⟨r,h1,h2,h3⟩:=h;exact⟨r,h1,h2.mono he,h3⟩
def Xu (E:Env) (l i:Nat) (ss:List ByteArray) (base b:Nat) (hp:Array Obj):Prop:=
 0<ss.length/\∃b' c arr T,E.G l (code i ss.length)=some (b',c)/\base<=b'/\b'≠b/\hp[b']? =some (.cells arr T (0,0))/\arr.size=c/\ss.length<=c/\c<=maxLen/\(∀o,E.S b' o=none)/\
  ∀(j:Nat) (s:ByteArray),ss[j]? =some s->arr[j]? =some (.string s)
structure j1 (E:Env) (l b base:Nat) (es:List (ByteArray×List ByteArray)) (pd:Option (Nat×List ByteArray)) (ms:Array MapEntry) (ck:Nat) (hp:Array Obj):Prop where
 size:ms.size=es.length
 keys:∀i e,es[i]? =some e->∃m:MapEntry,ms[i]? =some m/\m.key= .string e.1/\((∀ss,pd≠some (i,ss))->∃b' c,E.G l (code i e.2.length)=some (b',c)/\m.val= .slice (some ⟨b',0,none⟩) e.2.length c)
 TL:∀(i:Nat) (m:MapEntry),ms[i]? =some m->m.born<ck
 inj:∀(i j:Nat) (m m':MapEntry),ms[i]? =some m->ms[j]? =some m'->m.born=m'.born->i=j
 lB:∀i ss,rowAt es pd i=some ss->Xu E l i ss base b hp
 sep:∀i i' ss Kv x c c',rowAt es pd i=some ss->rowAt es pd i'=some Kv->E.G l (code i ss.length)=some (x,c)->E.G l (code i' Kv.length)=some (x,c')->i=i'
 free:∀i m,(∀ss,rowAt es pd i=some ss->ss.length<m)->E.G l (code i m)=none
theorem j1.step {E E':Env}{l b base:Nat}{es:List (ByteArray×List ByteArray)}{pd:Option (Nat×List ByteArray)}{ms:Array MapEntry}{ck:Nat}{hp Tz:Array Obj}(h:j1 E l b base es pd ms ck hp) (hG:∀n,E'.G l n=E.G l n)
  (hb:∀i ss x c,rowAt es pd i=some ss->E.G l (code i ss.length)=some (x,c)->Tz[x]? =hp[x]?/\∀o,E.S x o=none->E'.S x o=none):j1 E' l b base es pd ms ck Tz:=by
 refine⟨h.size,λi e he=> ?_,h.TL,h.inj,λi ss hs=> ?_,λi i' ss Kv x c c' h1 h2 h3 h4=>h.sep i i' ss Kv x c c' h1 h2 ((hG _).symm.trans h3) ((hG _).symm.trans h4),λi m hm=>(hG _).trans (h.free i m hm)⟩
 ·obtain⟨m,h1,h2,h3⟩:=h.keys i e he;exact⟨m,h1,h2,λhp=>let ⟨b',c,q1,q2⟩:=h3 hp;⟨b',c,(hG _).trans q1,q2⟩⟩
 ·obtain⟨h0,b',c,arr,T,q1,q2,q3,q4,q5,q6,q7,q8,q9⟩:=h.lB i ss hs;obtain⟨k1,k2⟩:=hb i ss b' c hs q1;exact⟨h0,b',c,arr,T,(hG _).trans q1,q2,q3,k1.trans q4,q5,q6,q7,λo=>k2 o (q8 o),q9⟩
def lE (E:Env) (l:Nat) (o:bu) (base:Nat) (w:World):Prop:=
 match o with
 | .dead=>True
 | .cells cs=>∀b,E.φ l=some b->base<=b/\(∀o,E.S b o=none)/\∃arr T,w.heap[b]? =some (.cells arr T (0,0))/\mn E cs arr
 | .tail n sz=>∃b c arr T,E.G l n=some (b,c)/\base<=b/\w.heap[b]? =some (.cells arr T (0,0))/\arr.size=c*sz/\n<=c/\c<=maxLen/\
   (∀o,n*sz<=o->E.S b o=none)/\∀m,n<m->E.G l m=none
 | .cu k=>∃b c arr T,E.G l k=some (b,c)/\base<=b/\w.heap[b]? =some (.cells arr T (0,0))/\(∃e,c=code e arr.size/\e<=arr.size/\arr.size<=maxLen/\∀o,e<=o->E.S b o=none)/\∀m,k<m->E.G l m=none
 | .map es=>∀b,E.φ l=some b->base<=b/\∃ms clock,w.heap[b]? =some (.map ms clock)/\nu E l es ms clock
 | .mark k=>∀b,E.φ l=some b->base<=b/\∃o,w.heap[b]? =some o/\yg E k o
 | .cN=>E.φ l=none/\∀n,E.G l n=none
 | .ez has val=>∀b,E.φ l=some b->base<=b/\(∀s,LF (val s))/\∃ms ck,w.heap[b]? =some (.map ms ck)/\(∀(i:Nat) (m:MapEntry),ms[i]? =some m->∃k,m.key= .string k/\has k=true/\Rel E (val k) m.val)/\
   ∀s,has s=true->∃(i:Nat) (m:MapEntry),ms[i]? =some m/\m.key= .string s
 | .rows es pd=>∃b,E.φ l=some b/\base<=b/\∃ms ck,w.heap[b]? =some (.map ms ck)/\j1 E l b base es pd ms ck w.heap
 | .iter m=>∀b,E.φ l=some b->base<=b/\∃r ck,E.φ m=some r/\w.heap[b]? =some (.mapIter (some r) ck #[] ck)
structure Good (E:Env) (H:aa) (w0 w:World):Prop where
 below:Below w0.heap.size w0 w
 snap:∀{b o u},E.S b o=some u->w.cell? ⟨b,o,none⟩=some u
 obj:∀{l o},H[l]? =some o->lE E l o w0.heap.size w
 sep:∀{l l' b},owns E H l b->owns E H l' b->l=l'
 fresh:∀{l},H.length<=l->E.φ l=none/\∀n,E.G l n=none
 mb:∀{l b},E.φ l=some b->b<w.heap.size
structure nN (w w':World):Prop where
 heap:w.heap.size<=w'.heap.size
 drawn:w.drawn<=w'.drawn
theorem nN.refl (w:World):nN w w:=⟨ag3 _,ag3 _⟩
theorem nN.trans {a b c:World}(h:nN a b) (k:nN b c):nN a c:=⟨ahx h.heap k.heap,ahx h.drawn k.drawn⟩
structure Ext (n0:Nat) (W:Nat->Prop) (E:Env) (H:aa) (w:World) (E':Env) (H':aa) (w':World):Prop where
 le:E.le E'
 size:nN w w'
 len:H.length<=H'.length
 same:∀{l},l<n0->¬W l->H'[l]? =H[l]?
 iX:∀{l b},l<n0->¬W l->owns E H l b->w'.heap[b]? =w.heap[b]?
 lL:∀{l},l<H.length->E'.φ l=E.φ l
 stay:∀{b},b<w.heap.size->(∀l,¬owns E H l b)->w'.heap[b]? =w.heap[b]?/\(∀l,¬owns E' H' l b)/\∀o,E'.S b o=E.S b o
theorem Ext.refl (n0:Nat) (W:Nat->Prop) (E:Env) (H:aa) (w:World):Ext n0 W E H w E H w:=
 ⟨.refl E,.refl _,ag3 _,λ_ _=>rfl,λ_ _ _=>rfl,λ_=>rfl,λ_ h=>⟨rfl,h,λ_=>rfl⟩⟩
theorem owns.step {E E':Env}{H H':aa}{l b:Nat}(h:owns E H l b) (he:E.le E') (hs:H'[l]? =H[l]?):owns E' H' l b:=by
 unfold owns at*;rw[hs];generalize H[l]? =o at*
 cases o with
 |none=>exact h
 |some o=>
  cases o with
  |dead=>exact h
  |cells cs=>exact he.φ h
  |tail n sz=>obtain⟨c,hc⟩:=h;exact⟨c,he.G hc⟩
  |cu n=>obtain⟨c,hc⟩:=h;exact⟨c,he.G hc⟩
  |map es=>exact he.φ h
  |iter m=>exact he.φ h
  |mark k=>exact he.φ h
  |ez f v=>exact he.φ h
  |cN=>exact h
  |rows es pd=>
   obtain⟨y,hy,h⟩:=h;refine⟨y,he.φ hy,?_⟩;rcases h with h|⟨i,ss,c,h1,h2⟩
   ·exact .inl h
   ·exact .inr ⟨i,ss,c,h1,he.G h2⟩
theorem Ext.trans {n0:Nat}{W:Nat->Prop}{E E' ZE:Env}{H H' H'':aa}{w w' sr:World}(h:Ext n0 W E H w E' H' w') (k:Ext n0 W E' H' w' ZE H'' sr):Ext n0 W E H w ZE H'' sr:=
  ⟨h.le.trans k.le,h.size.trans k.size,ahx h.len k.len,λhl hw=>(k.same hl hw).trans (h.same hl hw),
   λhl hw ho=>(k.iX hl hw (ho.step h.le (h.same hl hw))).trans (h.iX hl hw ho),λhl=>(k.lL (ahz hl h.len)).trans (h.lL hl),
   λhb h0=>⟨(k.stay (ahz hb h.size.heap) (h.stay hb h0).2.1).1.trans (h.stay hb h0).1,(k.stay (ahz hb h.size.heap) (h.stay hb h0).2.1).2.1,λo=>((k.stay (ahz hb h.size.heap) (h.stay hb h0).2.1).2.2 o).trans ((h.stay hb h0).2.2 o)⟩⟩
theorem Ext.weaken {n0 n1:Nat}{W W1:Nat->Prop}{E E':Env}{H H':aa}{w w':World}(h:Ext n0 W E H w E' H' w') (hn:n1<=n0) (hW:∀l,l<n1->W l->W1 l):Ext n1 W1 E H w E' H' w':=
 ⟨h.le,h.size,h.len,λhl hw=>h.same (by omega) (λx=>hw (hW _ hl x)),λhl hw ho=>h.iX (by omega) (λx=>hw (hW _ hl x)) ho,h.lL,h.stay⟩
def ji (E:Env) (xs:List AV) (vs:Array Value):Prop:=vs.size=xs.length/\∀i x,xs[i]? =some x->Rel E x (vs.getD i undef)
theorem ji.mono {E E':Env}(he:E.le E'){T:List AV}{tmps:Array Value}(h:ji E T tmps):ji E' T tmps:=⟨h.1,λi x hx=>(h.2 i x hx).mono he⟩
def aB {α:Type}(P:Program):Sem α->Option α
 | .pure a=>some a
 | .program k=>aB P (k P)
 | .mark _ k=>aB P k
 |_=>none
theorem aj {α:Type}{P:Program}{s:Sem α}{x:α}:aB P s=some x->∀w,s.run P w= .ok x w:=by
 induction s with
 |pure a=>intro h w;simp only[aB,ag6]at h;subst h;rfl
 |program k ih=>intro h w;simp only[aB]at h;simp only[Sem.run];exact ih P h w
 |mark m k ih=>intro h w;simp only[aB]at h;simp only[Sem.run];exact ih h w
 |_=>intro h w;simp[aB]at h
def AV.cells:AV->List AV
 | .agg cs=>cs
 |x=>[x]
mutual
def dB:Value->AV
 | .slice none 0 0=> .aY true 0 0 (λ_=>[]) .tight
 | .agg us=> .agg (mU us.toList)
 |v=>if plain v then .sc v else .any
def mU:List Value->List AV
 |[]=>[]
 |v::r=>dB v::mU r
end
theorem Ez (us:List Value):∀(j:Nat),(mU us)[j]? =us[j]?.map dB:=by
 induction us with
 |nil=>intro j;simp[mU]
 |cons v r ih=>
  intro j
  cases j with
  |zero=>simp[mU]
  |succ j=>simp[mU,ih j]
theorem yh (us:List Value):(mU us).length=us.length:=by
 induction us with
 |nil=>rfl
 |cons v r ih=>simp[mU,ih]
theorem Mt {E:Env}{v:Value}:Rel E (if plain v then .sc v else .any) v:=by
 by_cases h:plain v=true
 ·rw[if_pos h];exact .sc v h
 ·rw[if_neg h];exact .any v
theorem fZ (E:Env):∀(n:Nat) (v:Value),SizeOf.sizeOf v<n->Rel E (dB v) v
 |0,v,h=>absurd h (ahg _)
 |n+1,v,h=>by
  unfold dB;split
  ·exact .fw 0 _ _ (.inr rfl)
  ·rename_i us;refine .agg _ us (by simp[yh]) (λj x hj=> ?_);rw[Ez]at hj
   cases hu:us.toList[j]? with
   |none=>rw[hu]at hj;cases hj
   |some u=>
    rw[hu]at hj;simp only[ahs,ag6]at hj;subst hj;have su:us[j]? =some u:=by simpa using hu
    have e:us.getD j undef=u:=by simp[ahh,su]
    rw[e];refine fZ E n u ?_;have hm:u∈us:=Array.mem_of_getElem? su;have:=Array.sizeOf_lt_of_mem hm;simp at h;omega
  ·exact Mt
def bk (T:List AV):Operand->AV
 | .tmp t=>T.getD t .any
 | .const v=>dB v
 | .global _=> .any
 | .func f=> .fn (.func f) [] []
theorem kN {E:Env}{T:List AV}{a:Act}(h:eJ E T a.tmps) (x:Operand):Rel E (bk T x) (a.eval x):=by
 cases x with
 |tmp t=>
  simp only[bk,Act.eval]
  cases ht:T[t]? with
  |none=>rw[ag4,ht];exact .any _
  |some y=>rw[ag4,ht];exact h.2 t y ht
 |const v=>exact fZ E _ v (ahP _)
 |global g=>exact .any _
 |func f=>exact .fn _ _ _ _ _ rfl rfl (λj x hj=>by simp at hj) (λj x hj=>by simp at hj)
def gK (T:List AV) (d:Option Tmp) (x:AV):List AV:=
 match d with
 |some d=>T.set d x
 |none=>T
theorem fU {E:Env}{T:List AV}{a:Act}(h:eJ E T a.tmps) (d:Option Tmp){x:AV}{v:Value}(hx:Rel E x v):eJ E (gK T d x) (a.put d v).tmps:=by
 cases d with
 |none=>exact h
 |some d=>
  refine⟨by simp[gK,Act.put,h.1],λi y hy=> ?_⟩;simp only[gK,Act.put]at*;by_cases ZF:d=i
  ·subst ZF;rw[List.getElem?_set_self']at hy
   cases ht:T[d]? with
   |none=>rw[ht]at hy;cases hy
   |some z=>
    rw[ht]at hy;simp only[Functor.map,ahs,Function.const,ag6]at hy;subst hy;have cO:d<a.tmps.size:=by
     have:=(ag5.1 ht).1;rw[h.1];exact this
    have e:(a.tmps.setIfInBounds d v).getD d undef=v:=by simp[ahh,cO]
    rw[e];exact hx
  ·rw[ag7 ZF]at hy;have e:(a.tmps.setIfInBounds d v).getD i undef=a.tmps.getD i undef:=by
    simp[ahh,ahm ZF]
   rw[e];exact h.2 i y hy
theorem cg (a:Act) (d:Option Tmp) (v:Value):(a.put d v).defers=a.defers:=by cases d<;>rfl
def Az (E:Env) (T:List AV) (o:Oper) (ρ:Operand->Value):Prop:=∀x,x∈o.op.operands->Rel E (bk T x) (ρ x)
theorem eJ.o {E:Env}{T:List AV}{a:Act}(h:eJ E T a.tmps) (o:Oper):Az E T o a.eval:=λx _=>kN h x
def Eu (P:Program) (o:Oper) (ρ:Operand->Value) (w:World) (K:Value->World->Prop):Prop:=
 match (execOp ρ o).run P w with
 | .ok (.value v) w'=>K v w'
 | .ok .skip w'=>K undef w'
 | .ok (.enter f args) w'=>Calls P f args w' fun
   | .returned v,sr=>K v sr
   |_,_=>False
 |_=>False
theorem Eu.wp {P:Program}{o:Oper}{a:Act}{w:World}{K:Value->World->Prop}{next:Act->World->Prop}{Q:Exit->Act->World->Prop}(h:Eu P o a.eval w K) (hk:∀v w',K v w'->next (a.put o.dst v) w'):o.wp P a w next Q:=by
 unfold Eu at h;unfold Oper.wp;split at h
 ·rename_i v w' hr;rw[hr];exact hk _ _ h
 ·rename_i w' hr;rw[hr];exact hk _ _ h
 ·rename_i f args w' hr;rw[hr,Oper.upon_enter];refine h.mono ?_;intro e sr he
  cases e with
  |returned v=>exact hk _ _ he
  |panicked c=>exact he.elim
  |outgrown=>exact he.elim
 ·exact h.elim
def kX (P:Program) (o:Oper) (T:List AV) (H:aa) (x:AV) (H':aa) (Wr:List Nat):Prop:=
 ∀(E:Env) (w0 w:World) (ρ:Operand->Value),Good E H w0 w->Az E T o ρ->
  Eu P o ρ w λv w'=>∃E',Ext H.length (·∈Wr) E H w E' H' w'/\Good E' H' w0 w'/\Rel E' x v
def nO (ops:Array Oper) (T:List AV) (j:Nat):Option (Option Bool):=
 match ((ops[j]?).bind (·.dst)).bind (T[·]?)with
 |some (.sc (.bool b))=>some (some b)
 |some (.bq _)=>some none
 |_=>none
def mV:AV:= .bq []
theorem nP (E:Env):Rel E mV undef:= .bq [] #[] rfl (λj x hj=>by simp at hj)
def dx (ops:Array Oper) (T:List AV) (o:Oper):Option Bool:=
 match o.guard with
 |none=>some true
 |some (j,want)=>(nO ops T j).map (·==some want)
theorem Ix {E:Env}{T:List AV}{a:Act}{ops:Array Oper}(h:eJ E T a.tmps){j:Nat}{b:Option Bool}(hy:nO ops T j=some b):yielded ops a.tmps j=b:=by
 unfold nO at hy;unfold yielded;cases hd:(ops[j]?).bind (·.dst)with
 |none=>rw[hd]at hy;simp at hy
 |some d=>
  rw[hd]at hy;simp only[ahH]at hy ⊢
  cases ht:T[d]? with
  |none=>rw[ht]at hy;simp at hy
  |some x=>
   rw[ht]at hy;have cO:d<a.tmps.size:=by rw[h.1];exact(ag5.1 ht).1
   have hr:=h.2 d x ht;have e:a.tmps[d]? =some (a.tmps.getD d undef):=by simp[ahh,cO]
   rw[e];generalize a.tmps.getD d undef=v at hr
   cases hr with
   |sc v hp=>cases v<;>simp at hy ⊢;exact hy
   |bq cs us h k=>simp at hy;exact hy
   |_=>simp at hy
theorem fm {E:Env}{T:List AV}{a:Act}{ops:Array Oper}(h:eJ E T a.tmps){o:Oper}{b:Bool}(hw:dx ops T o=some b):Region.wanted o (yielded ops a.tmps)=b:=by
 unfold dx at hw;unfold Region.wanted
 cases hg:o.guard with
 |none=>rw[hg]at hw;simp at hw;simp[hw]
 |some g=>
  obtain⟨j,want⟩:=g;rw[hg]at hw;simp only[ahE]at hw;obtain⟨y,hy,rfl⟩:=hw;simp only[Ix h hy]
  try rfl
inductive qg (P:Program) (ops:Array Oper):List Nat->List AV->aa->List AV->aa->List Nat->Prop where
 |nil (T:List AV) (H:aa):qg P ops [] T H T H []
 |skip {i:Nat} {rest:List Nat} {o:Oper} {T T':List AV} {H H':aa} {W:List Nat} (ho:ops[i]? =some o) (hw:dx ops T o=some false)
   (hr:qg P ops rest (gK T o.dst mV) H T' H' W):qg P ops (i::rest) T H T' H' W
 |step {i:Nat} {rest:List Nat} {o:Oper} {x:AV} {T T':List AV} {H H1 H':aa} {W1 W:List Nat} (ho:ops[i]? =some o) (hw:dx ops T o=some true)
   (hs:kX P o T H x H1 W1) (hr:qg P ops rest (gK T o.dst x) H1 T' H' W):qg P ops (i::rest) T H T' H' (W1++W)
theorem qg.sound {P:Program}{ops:Array Oper}{Q:Exit->Act->World->Prop}{is:List Nat}{T T':List AV}{H H':aa}{W:List Nat}(h:qg P ops is T H T' H' W):
  ∀{n0:Nat} {E:Env} {w0 w:World} {a:Act},n0<=H.length->Good E H w0 w->eJ E T a.tmps->
   (∀(E':Env) (a':Act) (w':World),Ext n0 (·∈W) E H w E' H' w'->Good E' H' w0 w'->eJ E' T' a'.tmps->a'.defers=a.defers->Q .normal a' w')->
   wpOps P ops Q is a w:=by
 induction h with
 |nil T H=>
  intro n0 E w0 w a hn hg ht hk;exact hk E a w (.refl _ _ _ _ _) hg ht rfl
 | @skip i rest o T T' H H' W ho hw hr ih=>
  intro n0 E w0 w a hn hg ht hk;simp only[wpOps,ho,fm ht hw,if_false,ahA];refine ih hn hg (fU ht o.dst (nP _)) (λE' a' w' he qw EA hd=> ?_);exact hk E' a' w' he qw EA (hd.trans (cg _ _ _))
 | @step i rest o x T T' H H1 H' W1 W ho hw hs hr ih=>
  intro n0 E w0 w a hn hg ht hk;simp only[wpOps,ho,fm ht hw,if_true];refine .inl ((hs E w0 w a.eval hg (ht.o o)).wp ?_);rintro v w' ⟨E',he,qw,hv⟩;refine ih (ahx hn he.len) qw (fU (ht.mono he.le) o.dst hv) (λE2 a2 w2 Xv Iy Iz hd=> ?_);refine hk E2 a2 w2 ?_ Iy Iz (hd.trans (cg _ _ _));exact(he.weaken hn (λl _ hl=>ahk _ hl)).trans (Xv.weaken (ag3 _) (λl _ hl=>ahj _ hl))
inductive bj where
 |normal
 |exit (id:Nat)
 |goto (l:Nat)
 |ret
 |panic (x:AV)
inductive Cx (E:Env):bj->Exit->Prop where
 |normal:Cx E .normal .normal
 |exit (id:Nat):Cx E (.exit id) (.exit id)
 |goto (l:Nat):Cx E (.goto l) (.goto l)
 |ret:Cx E .ret .ret
 |panic (x:AV) (v:Value) (h:Rel E x v):Cx E (.panic x) (.panic [{ v,recovered:=false}])
def nQ (n0:Nat) (W:Nat->Prop) (Q:bj->List AV->aa->Prop) (E:Env) (H:aa) (w0 w:World) (D:List Deferred):Exit->Act->World->Prop:=
 λe a' w'=>∃E' x T' H',Q x T' H'/\Cx E' x e/\Ext n0 W E H w E' H' w'/\Good E' H' w0 w'/\eJ E' T' a'.tmps/\a'.defers=D
def xE (P:Program) (n0:Nat) (W:Nat->Prop) (c:Code) (Q:bj->List AV->aa->Prop) (T:List AV) (H:aa):Prop:=
 ∀(E:Env) (w0 w:World) (a:Act) (D:List Deferred),n0<=H.length->Good E H w0 w->eJ E T a.tmps->a.defers=D->c.wp P (nQ n0 W Q E H w0 w D) a w
section
variable {P:Program}{n0:Nat}{W:Nat->Prop}{Q:bj->List AV->aa->Prop}{T:List AV}{H:aa}
theorem EB {c:Code}{Q':bj->List AV->aa->Prop}(h:xE P n0 W c Q T H) (hq:∀x T H,Q x T H->Q' x T H):xE P n0 W c Q' T H:=
 λE w0 w a D hn hg ht hd=>wp_mono (h E w0 w a D hn hg ht hd) (λ_ _ _ ⟨E',x,T',H',q,r⟩=>⟨E',x,T',H',hq _ _ _ q,r⟩)
theorem yi (h:Q .normal T H):xE P n0 W .skip Q T H:=
 λE w0 w a D hn hg ht hd=>wp_skip ⟨E,_,T,H,h,.normal,.refl _ _ _ _ _,hg,ht,hd⟩
theorem vh {l:Nat}(h:Q .normal T H):xE P n0 W (.label l) Q T H:=
 λE w0 w a D hn hg ht hd=>wp_label ⟨E,_,T,H,h,.normal,.refl _ _ _ _ _,hg,ht,hd⟩
theorem yj {id:Nat}(h:Q (.exit id) T H):xE P n0 W (.exit id) Q T H:=
 λE w0 w a D hn hg ht hd=>wp_exit ⟨E,_,T,H,h,.exit id,.refl _ _ _ _ _,hg,ht,hd⟩
theorem yk {l:Nat}(h:Q (.goto l) T H):xE P n0 W (.goto l) Q T H:=
 λE w0 w a D hn hg ht hd=>wp_goto ⟨E,_,T,H,h,.goto l,.refl _ _ _ _ _,hg,ht,hd⟩
theorem Cy (h:Q .ret T H):xE P n0 W .ret Q T H:=
 λE w0 w a D hn hg ht hd=>wp_ret ⟨E,_,T,H,h,.ret,.refl _ _ _ _ _,hg,ht,hd⟩
theorem IA {id:Nat}{ops:Array Oper}{T':List AV}{H':aa}{Wr:List Nat}(hr:qg P ops (List.range ops.size) T H T' H' Wr) (hW:∀l,l∈Wr->l<n0->W l) (h:Q .normal T' H'):
  xE P n0 W (.region id ops false) Q T H:=
 λE w0 w a D hn hg ht hd=>wp_region (hr.sound hn hg ht (λE' a' w' he qw EA yl=>
  ⟨E',_,T',H',h,.normal,he.weaken (ag3 _) (λl hl hm=>hW l hm hl),qw,EA,yl.trans hd⟩))
def bj.then (K:List AV->aa->Prop) (Q:bj->List AV->aa->Prop):bj->List AV->aa->Prop
 | .normal,T,H=>K T H
 |x,T,H=>Q x T H
def bj.inBlock (id:Nat) (Q:bj->List AV->aa->Prop):bj->List AV->aa->Prop
 | .exit i,T,H=>if i=id then Q .normal T H else Q (.exit i) T H
 |x,T,H=>Q x T H
theorem nQ.chain {E E':Env}{H':aa}{w0 w w':World}(hx:Ext n0 W E H w E' H' w'){e:Exit}{a:Act}{sr:World}{D:List Deferred}(h:nQ n0 W Q E' H' w0 w' D e a sr):nQ n0 W Q E H w0 w D e a sr:=by
 obtain⟨E2,x,T2,H2,q,r,ex,g,t,d⟩:=h;exact⟨E2,x,T2,H2,q,r,hx.trans ex,g,t,d⟩
theorem rC {x y:Code}(h:xE P n0 W x (bj.then (λT H=>xE P n0 W y Q T H) Q) T H):xE P n0 W (.seq x y) Q T H:=by
 intro E w0 w a D hn hg ht hd;refine wp_seq (wp_mono (h E w0 w a D hn hg ht hd) ?_);rintro e a' w' ⟨E',ax,T',H',q,r,ex,g,t,d⟩
 cases r with
 |normal=>exact wp_mono (q E' w0 w' a' D (ahx hn ex.len) g t d) (λe a w hp=>hp.chain ex)
 |exit id=>exact⟨E',_,T',H',q,.exit id,ex,g,t,d⟩
 |goto l=>exact⟨E',_,T',H',q,.goto l,ex,g,t,d⟩
 |ret=>exact⟨E',_,T',H',q,.ret,ex,g,t,d⟩
 |panic x v hv=>exact⟨E',_,T',H',q,.panic x v hv,ex,g,t,d⟩
theorem nR {c:Operand}{x y:Code}{b:Bool}(hc:bk T c= .sc (.bool b)) (h:xE P n0 W (if b then x else y) Q T H):xE P n0 W (.cond c x y) Q T H:=by
 intro E w0 w a D hn hg ht hd;have hr:=kN ht c;rw[hc]at hr;generalize hv:a.eval c=v at hr
 cases hr with
 |sc v hp=>exact wp_cond hv (h E w0 w a D hn hg ht hd)
theorem iY {id:Nat}{c:Code}(h:xE P n0 W c (bj.inBlock id Q) T H):xE P n0 W (.block id c) Q T H:=by
 intro E w0 w a D hn hg ht hd;refine wp_block (wp_mono (h E w0 w a D hn hg ht hd) ?_);rintro e a' w' ⟨E',ax,T',H',q,r,ex,g,t,d⟩
 cases r with
 |normal=>exact⟨E',_,T',H',q,.normal,ex,g,t,d⟩
 |exit i=>
  by_cases hi:i=id
  ·simp only[Exit.inBlock,hi,if_true];simp only[bj.inBlock,hi,if_true]at q;exact⟨E',_,T',H',q,.normal,ex,g,t,d⟩
  ·simp only[Exit.inBlock,hi,if_false];simp only[bj.inBlock,hi,if_false]at q;exact⟨E',_,T',H',q,.exit i,ex,g,t,d⟩
 |goto l=>exact⟨E',_,T',H',q,.goto l,ex,g,t,d⟩
 |ret=>exact⟨E',_,T',H',q,.ret,ex,g,t,d⟩
 |panic x v hv=>exact⟨E',_,T',H',q,.panic x v hv,ex,g,t,d⟩
theorem EC {c:Code}(I:Nat->List AV->aa->Prop) (m:Nat) (h0:I m T H)
  (round:∀m T H,I m T H->xE P n0 W c (bj.then (λT' H'=>∃m',m'<m/\I m' T' H') Q) T H):xE P n0 W (.loop c) Q T H:=by
 intro E w0 w a D hn hg ht hd b k cs;have key:∀(m:Nat) (T:List AV) (H':aa) (E':Env) (w':World) (a:Act),I m T H'->Ext n0 W E H w E' H' w'->Good E' H' w0 w'->eJ E' T a.tmps->a.defers=D->
   ∃e a' sr,nQ n0 W Q E H w0 w D e a' sr/\Arrives P (lone (b.at a (.code c:: .inLoop c::k)) cs w') b k cs e a' sr:=by
  intro m
  induction m using Nat.strongRecOn with
  |_ m ih=>
   intro T H' E' w' a hi ex hg ht hd;obtain⟨e,a1,w1,hp,kv⟩:=round m T H' hi E' w0 w' a D (ahx hn ex.len) hg ht hd b (.inLoop c::k) cs;obtain⟨E2,ax,T2,H2,q,r,iK,g2,t2,d2⟩:=hp
   cases r with
   |normal=>
    obtain⟨m',hm,sY⟩:=q;obtain⟨e3,a3,w3,hp3,OT⟩:=ih m' hm T2 H2 E2 w1 a1 sY (ex.trans iK) g2 t2 d2;refine⟨e3,a3,w3,hp3,.of_steps (Steps.trans kv (.one step_inLoop)) OT⟩
   |exit i=>exact⟨_,a1,w1,⟨E2,_,T2,H2,q,.exit i,ex.trans iK,g2,t2,d2⟩,.pass (x:= .inLoop c) rfl (λ_ _=> .inl (by simp)) kv⟩
   |goto l=>exact⟨_,a1,w1,⟨E2,_,T2,H2,q,.goto l,ex.trans iK,g2,t2,d2⟩,.pass (x:= .inLoop c) rfl (λ_ _=> .inl (by simp)) kv⟩
   |ret=>exact⟨_,a1,w1,⟨E2,_,T2,H2,q,.ret,ex.trans iK,g2,t2,d2⟩,.pass (x:= .inLoop c) rfl (λ_ _=> .inl (by simp)) kv⟩
   |panic x v hv=>exact⟨_,a1,w1,⟨E2,_,T2,H2,q,.panic x v hv,ex.trans iK,g2,t2,d2⟩,.pass (x:= .inLoop c) rfl (λ_ _=> .inl (by simp)) kv⟩
 obtain⟨e,a',w',hp,kv⟩:=key m T H E w a h0 (.refl _ _ _ _ _) hg ht hd;exact⟨e,a',w',hp,.of_steps (.one step_loop) kv⟩
def bj.jump (c:Code) (K:Code->List AV->aa->Prop) (Q:bj->List AV->aa->Prop):bj->List AV->aa->Prop
 | .goto l,T,H=>∃rest,findLabel c l=some rest/\K rest T H
 |x,T,H=>Q x T H
theorem Mu {c:Code}(I:Nat->Code->List AV->aa->Prop) (m:Nat) (h0:I m c T H)
  (round:∀m d T H,I m d T H->xE P n0 W d (bj.jump c (λrest T' H'=>∃m',m'<m/\I m' rest T' H') Q) T H):xE P n0 W (.scope c) Q T H:=by
 intro E w0 w a D hn hg ht hd b k cs;have key:∀(m:Nat) (d:Code) (T:List AV) (H':aa) (E':Env) (w':World) (a:Act),I m d T H'->Ext n0 W E H w E' H' w'->Good E' H' w0 w'->eJ E' T a.tmps->a.defers=D->
   ∃e a' sr,nQ n0 W Q E H w0 w D e a' sr/\Arrives P (lone (b.at a (.code d:: .inScope c::k)) cs w') b k cs e a' sr:=by
  intro m
  induction m using Nat.strongRecOn with
  |_ m ih=>
   intro d T H' E' w' a hi ex hg ht hd;obtain⟨e,a1,w1,hp,kv⟩:=round m d T H' hi E' w0 w' a D (ahx hn ex.len) hg ht hd b (.inScope c::k) cs;obtain⟨E2,ax,T2,H2,q,r,iK,g2,t2,d2⟩:=hp
   cases r with
   |normal=>exact⟨.normal,a1,w1,⟨E2,_,T2,H2,q,.normal,ex.trans iK,g2,t2,d2⟩,Steps.trans kv (.one step_inScope)⟩
   |exit i=>exact⟨.exit i,a1,w1,⟨E2,_,T2,H2,q,.exit i,ex.trans iK,g2,t2,d2⟩,λk' hk=>kv k' (by simp[exitTo,hk])⟩
   |goto l=>
    obtain⟨rest,hf,m',hm,sY⟩:=q;obtain⟨e3,a3,w3,hp3,OT⟩:=ih m' hm rest T2 H2 E2 w1 a1 sY (ex.trans iK) g2 t2 d2;exact⟨e3,a3,w3,hp3,.of_steps (kv _ (by simp[gotoIn,hf])) OT⟩
   |ret=>exact⟨_,a1,w1,⟨E2,_,T2,H2,q,.ret,ex.trans iK,g2,t2,d2⟩,kv⟩
   |panic x v hv=>exact⟨_,a1,w1,⟨E2,_,T2,H2,q,.panic x v hv,ex.trans iK,g2,t2,d2⟩,kv⟩
 obtain⟨e,a',w',hp,kv⟩:=key m c T H E w a h0 (.refl _ _ _ _ _) hg ht hd;exact⟨e,a',w',hp,.of_steps (.one step_scope) kv⟩
end
theorem TM {w:World}{b o:Nat}{u:Value}(h:w.cell? ⟨b,o,none⟩=some u):b<w.heap.size:=by
 unfold World.cell? at h
 cases hb:w.heap[b]? with
 |none=>simp[hb]at h
 |some x=>exact(aha.1 hb).1
theorem fF {w w':World}{b o:Nat}(h:w'.heap[b]? =w.heap[b]?):w'.cell? ⟨b,o,none⟩=w.cell? ⟨b,o,none⟩:=by
 unfold World.cell?;rw[h]
theorem gL {w:World}{b o:Nat}{arr:Array Value}{T:TypeId}(h:w.heap[b]? =some (.cells arr T (0,0))):w.cell? ⟨b,o,none⟩=arr[o]? :=by
 unfold World.cell?;simp[h]
theorem eK (w:World) (o:Obj):(w.alloc o).heap.size=w.heap.size+1:=by
 show (w.heap.push o).size=_;simp
theorem vi {w:World}{b o:Nat}{arr:Array Value}{T:TypeId}(h:w.heap[b]? =some (.cells arr T (0,0))):w.frozen? ⟨b,o,none⟩=false:=by
 unfold World.frozen?;simp[h]
section
variable {E:Env}{H:aa}{w0 w:World}
theorem Good.ZG (g:Good E H w0 w){b o:Nat}{u:Value}(h:E.S b o=some u):b<w.heap.size:=TM (g.snap h)
theorem Good.fG (g:Good E H w0 w){l b:Nat}(h:owns E H l b):b<w.heap.size:=by
 unfold owns at h
 cases ho:H[l]? with
 |none=>rw[ho]at h;exact h.elim
 |some o=>
  rw[ho]at h
  cases o with
  |dead=>exact h.elim
  |cells cs=>exact g.mb h
  |map es=>exact g.mb h
  |iter m=>exact g.mb h
  |mark k=>exact g.mb h
  |ez f v=>exact g.mb h
  |cN=>exact h.elim
  |rows es pd=>
   obtain⟨y,hy,h⟩:=h;rcases h with rfl|⟨i,ss,c,h1,h2⟩
   ·exact g.mb hy
   ·obtain⟨_,_,_,ms,ck,_,hr⟩:=g.obj ho;obtain⟨_,b',c',arr,T,q1,_,_,q4,_⟩:=hr.lB i ss h1;rw[h2]at q1;simp only[ag6,ahe]at q1;rw[q1.1];exact(aha.1 q4).1
  |tail n sz=>
   obtain⟨c,hc⟩:=h;obtain⟨b',c',arr,T,h1,h2,h3,_⟩:=g.obj ho;rw[hc]at h1;simp only[ag6,ahe]at h1;rw[h1.1];exact(aha.1 h3).1
  |cu n=>
   obtain⟨c,hc⟩:=h;obtain⟨b',c',arr,T,h1,h2,h3,_⟩:=g.obj ho;rw[hc]at h1;simp only[ag6,ahe]at h1;rw[h1.1];exact(aha.1 h3).1
theorem Good.TN (g:Good E H w0 w){l b:Nat}(h:owns E H l b):w0.heap.size<=b:=by
 unfold owns at h
 cases ho:H[l]? with
 |none=>rw[ho]at h;exact h.elim
 |some o=>
  rw[ho]at h
  cases o with
  |dead=>exact h.elim
  |cells cs=>exact(g.obj ho b h).1
  |map es=>exact(g.obj ho b h).1
  |iter m=>exact(g.obj ho b h).1
  |mark k=>exact(g.obj ho b h).1
  |ez f v=>exact(g.obj ho b h).1
  |cN=>exact h.elim
  |rows es pd=>
   obtain⟨y,hy,h⟩:=h;obtain⟨y2,ZH,hb,ms,ck,_,hr⟩:=g.obj ho;rw[hy]at ZH;cases ZH;rcases h with rfl|⟨i,ss,c,h1,h2⟩
   ·exact hb
   ·obtain⟨_,b',c',arr,T,q1,q2,_⟩:=hr.lB i ss h1;rw[h2]at q1;simp only[ag6,ahe]at q1;rw[q1.1];exact q2
  |tail n sz=>
   obtain⟨c,hc⟩:=h;obtain⟨b',c',arr,T,h1,h2,h3,_⟩:=g.obj ho;rw[hc]at h1;simp only[ag6,ahe]at h1;rw[h1.1];exact h2
  |cu n=>
   obtain⟨c,hc⟩:=h;obtain⟨b',c',arr,T,h1,h2,h3,_⟩:=g.obj ho;rw[hc]at h1;simp only[ag6,ahe]at h1;rw[h1.1];exact h2
theorem lE.step {E':Env}{w':World}{l base:Nat}{o:bu}(h:lE E l o base w) (ho:H[l]? =some o) (he:E.le E') (hφ:∀b,E'.φ l=some b->E.φ l=some b)
  (hG:∀n,E'.G l n=E.G l n) (hS:∀b c,owns E H l b->(∀n sz,o= .tail n sz->n*sz<=c)/\(∀k e t,o= .cu k->E.G l k=some (b,code e t)->e<=c)->E.S b c=none->E'.S b c=none) (hw:∀b,owns E H l b->w'.heap[b]? =w.heap[b]?):lE E' l o base w':=by
 cases o with
 |dead=>trivial
 |cN=>
  refine⟨?_,λn=>(hG n).trans (h.2 n)⟩
  cases hb:E'.φ l with
  |none=>rfl
  |some b=>have:=hφ b hb;rw[h.1]at this;cases this
 |ez f v=>
  intro b hb;have iw:=hφ b hb;have dI:owns E H l b:=by unfold owns;rw[ho];exact iw
  obtain⟨h1,h2,ms,ck,h3,h4,h5⟩:=h b iw;exact⟨h1,h2,ms,ck,(hw b dI).trans h3,λi m hm=>let ⟨k,q1,q2,q3⟩:=h4 i m hm;⟨k,q1,q2,q3.mono he⟩,h5⟩
 |rows es pd=>
  obtain⟨b,iw,h1,ms,ck,h3,h4⟩:=h;have dI:owns E H l b:=by unfold owns;rw[ho];exact⟨b,iw,.inl rfl⟩
  refine⟨b,he.φ iw,h1,ms,ck,(hw b dI).trans h3,h4.step hG (λi ss x c hs hx=> ?_)⟩;have hox:owns E H l x:=by unfold owns;rw[ho];exact⟨b,iw,.inr ⟨i,ss,c,hs,hx⟩⟩
  exact⟨hw x hox,λo hn=>hS x o hox ⟨λ_ _ e=>(by cases e),λ_ _ _ e=>(by cases e)⟩ hn⟩
 |cells cs=>
  intro b hb;have iw:=hφ b hb;have dI:owns E H l b:=by unfold owns;rw[ho];exact iw
  obtain⟨h1,h2,arr,T,h3,h4⟩:=h b iw;exact⟨h1,λc=>hS b c dI ⟨λ_ _ e=>(by cases e),λ_ _ _ e=>(by cases e)⟩ (h2 c),arr,T,(hw b dI).trans h3,λj x hj=>let ⟨u,hu,hr⟩:=h4 j x hj;⟨u,hu,hr.mono he⟩⟩
 |map es=>
  intro b hb;have iw:=hφ b hb;have dI:owns E H l b:=by unfold owns;rw[ho];exact iw
  obtain⟨h1,ms,ck,h3,h4,h5,h6,h7,h8⟩:=h b iw;exact⟨h1,ms,ck,(hw b dI).trans h3,h4,λj x hj=>let ⟨m,hu,hr,Xw⟩:=h5 j x hj;⟨m,hu,hr,Xw.mono he⟩,h6,h7,λi x hx=>h8 i x (by rw[←hG i];exact hx)⟩
 |iter m=>
  intro b hb;have iw:=hφ b hb;have dI:owns E H l b:=by unfold owns;rw[ho];exact iw
  obtain⟨h1,r,ck,h2,h3⟩:=h b iw;exact⟨h1,r,ck,he.φ h2,(hw b dI).trans h3⟩
 |mark k=>
  intro b hb;have iw:=hφ b hb;have dI:owns E H l b:=by unfold owns;rw[ho];exact iw
  obtain⟨h1,r,h2,h3⟩:=h b iw;exact⟨h1,r,(hw b dI).trans h2,h3.mono he⟩
 |tail n sz=>
  obtain⟨b,c,arr,T,h1,h2,h3,h4,h5,h6,h7,h8⟩:=h;have dI:owns E H l b:=by unfold owns;rw[ho];exact⟨c,h1⟩
  exact⟨b,c,arr,T,(hG n).trans h1,h2,(hw b dI).trans h3,h4,h5,h6,λo ho=>hS b o dI ⟨λ_ _ e=>(by cases e;exact ho),λ_ _ _ e=>(by cases e)⟩ (h7 o ho),λm hm=>(hG m).trans (h8 m hm)⟩
 |cu n=>
  obtain⟨b,c,arr,T,h1,h2,h3,⟨e,h4,h5,h6,h7⟩,h8⟩:=h;have dI:owns E H l b:=by unfold owns;rw[ho];exact⟨c,h1⟩
  exact⟨b,c,arr,T,(hG n).trans h1,h2,(hw b dI).trans h3,⟨e,h4,h5,h6,λo ho=>hS b o dI ⟨λ_ _ e=>(by cases e),λk e' t e2 h=>by cases e2;rw[h1,h4]at h;simp only[ag6,ahe,true_and]at h;rw[←(iJ h).1];exact ho⟩ (h7 o ho)⟩,λm hm=>(hG m).trans (h8 m hm)⟩
theorem Good.push (g:Good E H w0 w) (o:Obj):Good E H w0 (w.alloc o) where
 below:=g.below.alloc g.below.size o
 snap:=λ{b c u} h=>by
  have cO:=g.ZG h;rw[fF (Below.heap_alloc w o b cO)];exact g.snap h
 obj:=λ{l x} h=>(g.obj h).step h (.refl E) (λ_ h=>h) (λ_=>rfl) (λ_ _ _ _ h=>h) (λb hb=>Below.heap_alloc w o b (g.fG hb))
 sep:=g.sep
 fresh:=g.fresh
 mb:=λ{l b} h=>by have:=g.mb h;rw[eK];omega
def Env.ej (E:Env) (l b:Nat):Env:={ E with φ:=λx=>if x=l then some b else E.φ x}
theorem Env.j2 {l b:Nat}(h:E.φ l=none):E.le (E.ej l b):=
 ⟨λ{x c} hx=>by
  have:x≠l:=λe=>by subst e;rw[h]at hx;cases hx
  simpa [Env.ej,this]using hx,λh=>h,λh=>h⟩
theorem cV (E:Env) (l b:Nat):(E.ej l b).φ l=some b:=by simp[Env.ej]
theorem gN (E:Env){l b x:Nat}(h:x≠l):(E.ej l b).φ x=E.φ x:=by simp[Env.ej,h]
theorem IB {l b:Nat}{o:bu}{x c:Nat}(hx:x<H.length) (gX:x≠l) (h:owns (E.ej l b) (H++[o]) x c):owns E H x c:=by
 unfold owns at*;rw[ahb hx]at h;rw[gN E gX]at h;exact h
theorem Good.Ba (g:Good E H w0 w){b:Nat}{o:bu}(hb:b<w.heap.size) (eU:∀l,¬owns E H l b) (dC:∀n sz,o≠.tail n sz)
  (ho:lE (E.ej H.length b) H.length o w0.heap.size w):Good (E.ej H.length b) (H++[o]) w0 w:=by
 have hφ:=(g.fresh (ag3 H.length)).1;have hle:E.le (E.ej H.length b):=Env.j2 hφ;refine⟨g.below,g.snap,?_,?_,?_,?_⟩
 ·intro l x h;by_cases hl:l<H.length
  ·rw[ahb hl]at h;exact(g.obj h).step h hle (λc hc=>by rwa [gN E (by omega)]at hc) (λ_=>rfl) (λ_ _ _ _ h=>h) (λ_ _=>rfl)
  ·have sZ:l=H.length:=by
    have:=(ag5.1 h).1;simp at this;omega
   subst sZ;simp at h;subst h;exact ho
 ·have key:∀x c,owns (E.ej H.length b) (H++[o]) x c->(x<H.length/\owns E H x c)∨(x=H.length/\c=b):=by
   intro x c h;by_cases hx:x<H.length
   ·exact .inl ⟨hx,IB hx (by omega) h⟩
   ·have Au:x=H.length:=by
     unfold owns at h
     cases hh:(H++[o])[x]? with
     |none=>rw[hh]at h;exact h.elim
     |some y=>
      have:=(ag5.1 hh).1;simp at this;omega
    refine .inr ⟨Au,?_⟩;subst Au;unfold owns at h;simp only[ahi (ag3 _),ahX,ahw,cV]at h
    cases o with
    |dead=>exact h.elim
    |cells cs=>simp at h;exact h.symm
    |map es=>simp at h;exact h.symm
    |iter m=>simp at h;exact h.symm
    |mark k=>simp at h;exact h.symm
    |ez f v=>simp at h;exact h.symm
    |cN=>exact h.elim
    |rows es pd=>
     obtain⟨y,hy,h⟩:=h;cases hy;rcases h with h|⟨i,ss,c',h1,h2⟩
     ·exact h.symm
     ·have hn:(E.ej H.length b).G H.length (code i ss.length)=none:=(g.fresh (ag3 _)).2 _;rw[hn]at h2;cases h2
    |tail n sz=>exact absurd rfl (dC n sz)
    |cu n=>
     obtain⟨c',tV⟩:=h;have e:E.G H.length n=some (c,c'):=tV;rw[(g.fresh (ag3 _)).2 n]at e;cases e
  intro l l' c h h';rcases key _ _ h with ⟨h1,h2⟩|⟨h1,h2⟩<;>rcases key _ _ h' with ⟨h3,h4⟩|⟨h3,h4⟩
  ·exact g.sep h2 h4
  ·subst h4;exact absurd h2 (eU _)
  ·subst h2;exact absurd h4 (eU _)
  ·rw[h1,h3]
 ·intro l hl;simp at hl;have:=g.fresh (l:=l) (by omega);exact⟨by rw[gN E (by omega)];exact this.1,this.2⟩
 ·intro l c h;by_cases hl:l=H.length
  ·subst hl;rw[cV]at h;simp at h;omega
  ·rw[gN E hl]at h;exact g.mb h
theorem heap_alloc_new (w:World) (o:Obj):(w.alloc o).heap[w.heap.size]? =some o:=by
 show (w.heap.push o)[w.heap.size]? =some o;simp
theorem kx (g:Good E H w0 w) (c:Nat):E.S w.heap.size c=none:=by
 cases h:E.S w.heap.size c with
 |none=>rfl
 |some u=>exact absurd (g.ZG h) (ahZ _)
theorem Good.new (g:Good E H w0 w){cs:List AV}{arr:Array Value}(T:TypeId) (hr:mn E cs arr):
  Good (E.ej H.length w.heap.size) (H++[.cells cs]) w0 (w.alloc (.cells arr T)):=by
 refine(g.push (.cells arr T)).Ba (by rw[eK];omega) (λl ho=>absurd (g.fG ho) (ahZ _)) (λ_ _=>by simp) ?_;intro b hb;rw[cV]at hb;simp only[ag6]at hb;subst hb;refine⟨g.below.size,λc=>kx g c,arr,T,heap_alloc_new w _,λj x hj=> ?_⟩;obtain⟨u,hu,h⟩:=hr j x hj;exact⟨u,hu,h.mono (Env.j2 (g.fresh (ag3 _)).1)⟩
theorem OU (g:Good E H w0 w){x l b:Nat}{o:bu}(h:owns (E.ej H.length x) (H++[o]) l b):owns E H l b∨b=x:=by
 rcases Nat.lt_trichotomy l H.length with hl|hl|hl
 ·refine .inl ?_;have e:(E.ej H.length x).φ l=E.φ l:=gN E (by omega);unfold owns at h ⊢;rw[ahb hl]at h
  cases ho:H[l]? with
  |none=>rw[ho]at h;exact h
  |some q=>
   rw[ho]at h
   cases q with
   |dead=>exact h
   |cells cs=>exact e.symm.trans h
   |tail n sz=>exact h
   |cu n=>exact h
   |map es=>exact e.symm.trans h
   |iter m=>exact e.symm.trans h
   |mark k=>exact e.symm.trans h
   |ez f v=>exact e.symm.trans h
   |cN=>exact h
   |rows es pd=>
    obtain⟨y,hy,h⟩:=h;exact⟨y,e.symm.trans hy,h⟩
 ·subst hl;refine .inr ?_;have e:(E.ej H.length x).φ H.length=some x:=cV _ _ _;unfold owns at h;rw[ahi (ag3 _),ahX,ahw]at h
  cases o with
  |dead=>exact h.elim
  |cells cs=>exact(ahM (e.symm.trans h)).symm
  |tail n sz=>obtain⟨c,hc⟩:=h;exact absurd ((g.fresh (ag3 _)).2 n) (by intro e';have tV:E.G H.length n=some (b,c):=hc;rw[e']at tV;cases tV)
  |cu n=>obtain⟨c,hc⟩:=h;exact absurd ((g.fresh (ag3 _)).2 n) (by intro e';have tV:E.G H.length n=some (b,c):=hc;rw[e']at tV;cases tV)
  |map es=>exact(ahM (e.symm.trans h)).symm
  |iter m=>exact(ahM (e.symm.trans h)).symm
  |mark k=>exact(ahM (e.symm.trans h)).symm
  |ez f v=>exact(ahM (e.symm.trans h)).symm
  |cN=>exact h.elim
  |rows es pd=>
   obtain⟨y,hy,h⟩:=h;have hyx:=ahM (e.symm.trans hy);rcases h with h|⟨i,ss,c',h1,h2⟩
   ·rw[←h,←hyx]
   ·have hn:(E.ej H.length x).G H.length (code i ss.length)=none:=(g.fresh (ag3 _)).2 _;rw[hn]at h2;cases h2
 ·unfold owns at h;rw[ahu (by simp;omega)]at h;exact h.elim
theorem j3 (n0:Nat) (W:Nat->Prop) (hn:n0<=H.length) (g:Good E H w0 w) (o:Obj) (ob:bu):Ext n0 W E H w (E.ej H.length w.heap.size) (H++[ob]) (w.alloc o):=
  ⟨Env.j2 (g.fresh (ag3 _)).1,⟨by rw[eK];omega,ag3 _⟩,by simp,λhl _=>ahb (by omega),λ_ _ ho=>Below.heap_alloc w o _ (g.fG ho),λ{l} hl=>gN E (by omega),
   λ{b} hb h=>⟨Below.heap_alloc w o _ hb,λl ho=>(OU g ho).elim (h l) (λe=>by omega),λ_=>rfl⟩⟩
def Env.fW (E:Env) (b:Nat) (f:Nat->Option Value):Env:={ E with S:=λx o=>if x=b then(E.S b o).or (f o)else E.S x o}
theorem j4 (E:Env) (b:Nat) (f:Nat->Option Value):E.le (E.fW b f):=
 ⟨λh=>h,λ{x o u} h=>by
  by_cases hx:x=b
  ·subst hx;simp[Env.fW,h]
  ·simpa [Env.fW,hx]using h,λh=>h⟩
theorem Good.stay (g:Good E H w0 w){b:Nat}{f:Nat->Option Value}(eU:∀l,¬owns E H l b) (hf:∀o u,f o=some u->w.cell? ⟨b,o,none⟩=some u):Good (E.fW b f) H w0 w:=by
 refine⟨g.below,?_,?_,g.sep,g.fresh,g.mb⟩
 ·intro x o u h;by_cases hx:x=b
  ·subst hx;simp only[Env.fW,if_true]at h
   cases hs:E.S x o with
   |none=>rw[hs]at h;exact hf o u (by simpa using h)
   |some v=>rw[hs]at h;simp at h;subst h;exact g.snap hs
  ·simp only[Env.fW,hx,if_false]at h;exact g.snap h
 ·intro l o h;refine(g.obj h).step h (j4 E b f) (λ_ h=>h) (λ_=>rfl) (λc o ho _ hn=> ?_) (λ_ _=>rfl);have:c≠b:=λe=>eU l (e▸ho)
  simpa [Env.fW,this]using hn
theorem Good.row (g:Good E H w0 w) (arr:Array Value) (T:TypeId):Good (E.fW w.heap.size (arr[·]?)) H w0 (w.alloc (.cells arr T)):=
 (g.push _).stay (λl ho=>absurd (g.fG ho) (ahZ _)) (λo u h=>by rw[gL (heap_alloc_new w _)];exact h)
theorem TO (n0:Nat) (W:Nat->Prop) (g:Good E H w0 w) (arr:Array Value) (T:TypeId):Ext n0 W E H w (E.fW w.heap.size (arr[·]?)) H (w.alloc (.cells arr T)):=
  ⟨j4 E _ _,⟨by rw[eK];omega,ag3 _⟩,ag3 _,λ_ _=>rfl,λ_ _ ho=>Below.heap_alloc w _ _ (g.fG ho),λ_=>rfl,
   λ{x} hx h=>⟨Below.heap_alloc w _ _ hx,h,λo=>(by have Au:x≠w.heap.size:=(by omega);simp[Env.fW,Au])⟩⟩
theorem ZI (g:Good E H w0 w) (arr:Array Value) (o:Nat):(E.fW w.heap.size (arr[·]?)).S w.heap.size o=arr[o]? :=by
 simp[Env.fW,kx g]
theorem Good.set (g:Good E H w0 w){l b j:Nat}{cs:List AV}{x y:AV}{v:Value}(hl:H[l]? =some (.cells cs)) (hb:E.φ l=some b) (hj:cs[j]? =some y) (hv:Rel E x v):
  Good E (H.set l (.cells (cs.set j x))) w0 (w.setCell ⟨b,j,none⟩ v)/\w.cell? ⟨b,j,none⟩≠none/\w.frozen? ⟨b,j,none⟩=false:=by
 have dI:owns E H l b:=by unfold owns;rw[hl];exact hb
 obtain⟨h1,h2,arr,T,h3,h4⟩:=g.obj hl b hb;have cO:l<H.length:=(ag5.1 hl).1;have kY:∀(cs':List AV) (z c:Nat),owns E (H.set l (.cells cs')) z c↔owns E H z c:=by
  intro cs' z c;by_cases hz:l=z
  ·subst hz;unfold owns;rw[ahd cO,hl]
  ·unfold owns;rw[ag7 hz]
 obtain⟨u,hu,_⟩:=h4 j y hj;have ack:j<arr.size:=(aha.1 hu).1;refine⟨⟨g.below.setCell h1 v,?_,?_,?_,?_,?_⟩,?_,vi h3⟩
 ·intro c o t h;have gX:c≠b:=λe=>by subst e;rw[h2 o]at h;cases h
  rw[fF (Below.heap_setCell w ⟨b,j,none⟩ v c gX)];exact g.snap h
 ·intro z o h;by_cases hz:l=z
  ·subst hz;rw[ahd cO]at h;simp only[ag6]at h;subst h;intro c hc;rw[hb]at hc;simp only[ag6]at hc;subst hc;refine⟨h1,h2,arr.setIfInBounds j v,T,?_,λi t hi=> ?_⟩
   ·simp[World.setCell,aho,h3]
   ·by_cases mo:j=i
    ·subst mo;rw[ahd (ag5.1 hj).1]at hi;simp only[ag6]at hi;subst hi;exact⟨v,by simp[ack],hv⟩
    ·rw[ag7 mo]at hi;obtain⟨u,hu,hr⟩:=h4 i t hi;exact⟨u,by rw[ahm mo];exact hu,hr⟩
  ·rw[ag7 hz]at h;refine(g.obj h).step h (.refl E) (λ_ h=>h) (λ_=>rfl) (λ_ _ _ _ h=>h) (λc hc=> ?_);refine Below.heap_setCell w ⟨b,j,none⟩ v c (λe=>hz ?_);simp only at e;subst e;exact g.sep dI hc
 ·intro z z' c h h';exact g.sep ((kY _ _ _).1 h) ((kY _ _ _).1 h')
 ·intro z hz;exact g.fresh (by simpa using hz)
 ·intro z c h;have:=g.mb h;simpa [World.setCell]using this
 ·rw[gL h3,hu];simp
theorem TQ {n0:Nat}{W:Nat->Prop}(g:Good E H w0 w){l b j:Nat}{cs cs':List AV}{v:Value}(hW:l<n0->W l) (hl:H[l]? =some (.cells cs)) (hb:E.φ l=some b):
  Ext n0 W E H w E (H.set l (.cells cs')) (w.setCell ⟨b,j,none⟩ v):=by
 have dI:owns E H l b:=by unfold owns;rw[hl];exact hb
 refine⟨.refl E,⟨by simp[World.setCell],ag3 _⟩,by simp,λ{z} hz hw=> ?_,λ{z c} hz hw ho=> ?_,λ_=>rfl,λ{c} hc h=>⟨Below.heap_setCell w ⟨b,j,none⟩ v c (λe=>by simp only at e;subst e;exact h _ dI),λz ho=>h z ?_,λ_=>rfl⟩⟩
 ·have:l≠z:=λe=>hw (e▸hW (e▸hz))
  exact ag7 this
 ·refine Below.heap_setCell w ⟨b,j,none⟩ v c (λe=> ?_);simp only at e;subst e;have:=g.sep ho dI;subst this;exact hw (hW hz)
 ·unfold owns at ho ⊢;by_cases hz:l=z
  ·subst hz;rw[ahd (ag5.1 hl).1]at ho;rw[hl];exact ho
  ·rwa [ag7 hz]at ho
end
inductive Mv where
 |ret (x:AV)
 |AA (x:AV)
inductive Mw (E:Env):Mv->Ending->Prop where
 |ret (x:AV) (v:Value) (h:Rel E x v):Mw E (.ret x) (.returned v)
 |AA (x:AV) (v:Value) (h:Rel E x v):Mw E (.AA x) (.panicked [{ v,recovered:=false}])
def s4 (P:Program) (f:FuncId) (args:List AV) (out:Mv) (H H':aa) (W:Nat->Prop):Prop:=
 ∀(E:Env) (w0 w:World) (vs:Array Value),Good E H w0 w->ji E args vs->
  Calls P f vs w λe w'=>∃E',Mw E' out e/\Ext H.length W E H w E' H' w'/\Good E' H' w0 w'
theorem Cz {E E':Env}{H H':aa}{w0 w w':World}{x:AV}{v:Value}(hg:Good E H w0 w) (ex:Ext H.length (λ_=>False) E H w E' H' w') (g:Good E' H' w0 w') (hv:Rel E' x v) (hl:LF x):
  ∃E2,Ext H.length (λ_=>False) E H w E2 H w'/\Good E2 H w0 w'/\Rel E2 x v:=by
 have hle:E.le { E with S:=E'.S}:=⟨λh=>h,λh=>ex.le.S h,λh=>h⟩
 refine⟨{ E with S:=E'.S},⟨hle,ex.size,ag3 _,λ_ _=>rfl,ex.iX,λ_=>rfl,λhb h=>⟨(ex.stay hb h).1,h,(ex.stay hb h).2.2⟩⟩,?_,hv.lf hl (λh=>h)⟩;refine⟨g.below,λh=>g.snap h,?_,?_,?_,?_⟩
 ·intro l o ho;have cO:l<H.length:=(ag5.1 ho).1;refine(hg.obj ho).step ho hle (λ_ h=>h) (λ_=>rfl) (λb c hb hc hn=> ?_) (λb hb=>ex.iX cO (λh=>h) hb);have r5:=(ex.same cO (λh=>h)).trans ho;have hx:=g.obj r5;have hk:=ex.iX cO (λh=>h) hb;unfold owns at hb;rw[ho]at hb
  cases o with
  |dead=>exact hb.elim
  |cells cs=>exact(hx b (ex.le.φ hb)).2.1 c
  |map es=>
   cases hs:E'.S b c with
   |none=>rfl
   |some u=>
    obtain⟨_,ms,ck,h3,_⟩:=hx b (ex.le.φ hb);have:=g.snap hs;simp[World.cell?,h3]at this
  |iter m=>
   cases hs:E'.S b c with
   |none=>rfl
   |some u=>
    obtain⟨_,r,ck,_,h3⟩:=hx b (ex.le.φ hb);have:=g.snap hs;simp[World.cell?,h3]at this
  |ez f v=>
   cases hs:E'.S b c with
   |none=>rfl
   |some u=>
    obtain⟨_,_,ms,ck,h3,_⟩:=hx b (ex.le.φ hb);have:=g.snap hs;simp[World.cell?,h3]at this
  |mark k=>
   cases hs:E'.S b c with
   |none=>rfl
   |some u=>
    obtain⟨_,r,h3,h4⟩:=hx b (ex.le.φ hb);have:=g.snap hs
    cases k with
    |defs=>have h4:r= .deferred (some []):=h4;subst h4;simp[World.cell?,h3]at this
    |loop=>obtain⟨q,rfl,_⟩:=h4;simp[World.cell?,h3]at this
  |cN=>exact hb.elim
  |rows es pd=>
   obtain⟨y,hy,h⟩:=hb;obtain⟨y2,ZH,_,ms,ck,h3,hr⟩:=hx;rw[ex.le.φ hy]at ZH;cases ZH;rcases h with rfl|⟨i,ss,c',h1,h2⟩
   ·cases hs:E'.S y c with
    |none=>rfl
    |some u=>
     have:=g.snap hs;simp[World.cell?,h3]at this
   ·obtain⟨_,b',c2,arr,T,q1,_,_,_,_,_,_,q8,_⟩:=hr.lB i ss h1;rw[ex.le.G h2]at q1;simp only[ag6,ahe]at q1;rw[q1.1];exact q8 c
  |tail n sz=>
   obtain⟨k,ix⟩:=hb;obtain⟨b',c',arr,T,h1,_,_,_,_,_,h7,_⟩:=hx;rw[ex.le.G ix]at h1;simp only[ag6,ahe]at h1;rw[h1.1];exact h7 c (hc.1 n sz rfl)
  |cu n=>
   obtain⟨k,ix⟩:=hb;obtain⟨b',c',arr,T,h1,_,_,⟨e,h4,_,_,h7⟩,_⟩:=hx;have w9:=ex.le.G ix;rw[w9]at h1;simp only[ag6,ahe]at h1;obtain⟨rfl,rfl⟩:=h1;exact h7 c (hc.2 n e arr.size rfl (h4▸ix))
 ·exact hg.sep
 ·exact hg.fresh
 ·exact λh=>ahz (hg.mb h) ex.size.heap
section
variable {P:Program}{o:Oper}{T:List AV}{H:aa}
theorem fV {x:AV}{H':aa}{Wr:List Nat}
  (h:∀(E:Env) (w0 w:World) (ρ:Operand->Value),Good E H w0 w->Az E T o ρ->∃E' v w',(execOp ρ o).run P w= .ok (.value v) w'/\Ext H.length (·∈Wr) E H w E' H' w'/\Good E' H' w0 w'/\Rel E' x v):kX P o T H x H' Wr:=by
 intro E w0 w ρ hg ht;obtain⟨E',v,w',hr,he,qw,hx⟩:=h E w0 w ρ hg ht;unfold Eu;rw[hr];exact⟨E',he,qw,hx⟩
theorem qx {H':aa}{Wr:List Nat}
  (h:∀(E:Env) (w0 w:World) (ρ:Operand->Value),Good E H w0 w->Az E T o ρ->∃E' w',(execOp ρ o).run P w= .ok .skip w'/\Ext H.length (·∈Wr) E H w E' H' w'/\Good E' H' w0 w'):kX P o T H .any H' Wr:=by
 intro E w0 w ρ hg ht;obtain⟨E',w',hr,he,qw⟩:=h E w0 w ρ hg ht;unfold Eu;rw[hr];exact⟨E',he,qw,.any _⟩
def oH (P:Program) (o:Oper) (T:List AV) (H:aa) (x:AV):Prop:=
 ∀(E:Env) (w0 w:World) (ρ:Operand->Value),Good E H w0 w->Az E T o ρ->∃v,(execOp ρ o).run P w= .ok (.value v) w/\Rel E x v
theorem oH.a {x:AV}(h:oH P o T H x):kX P o T H x H []:=
 fV λE w0 w ρ hg ht=>let ⟨v,hr,hx⟩:=h E w0 w ρ hg ht;⟨E,v,w,hr,.refl _ _ _ _ _,hg,hx⟩
theorem cL {x:AV}(h:∀(E:Env) (w0 w:World) (ρ:Operand->Value),Good E H w0 w->Az E T o ρ->∃v,(execOp ρ o).run P w= .ok (.value v) w/\Rel E x v):oH P o T H x:=h
theorem ED {x:Operand}(ho:o.op= .move x∨o.op= .assign x):oH P o T H (bk T x):=
 cL λE w0 w ρ hg ht=>⟨ρ x,by rcases ho with ho|ho<;>simp[execOp,ho,Sem.run],ht x (by rcases ho with ho|ho<;>simp[ho,Op.operands])⟩
theorem OV {c x y:Operand}{b:Bool}(ho:o.op= .pick c x y) (hc:bk T c= .sc (.bool b)):oH P o T H (if b then bk T x else bk T y):=by
 refine cL λE w0 w ρ hg ht=> ?_
 have hr:=ht c (by simp[ho,Op.operands,Call.operands]);rw[hc]at hr;generalize hv:ρ c=v at hr
 cases hr with
 |sc v hp=>
  refine⟨if b then ρ x else ρ y,by simp[execOp,ho,hv,asBool,Sem.run],?_⟩;cases b
  ·exact ht y (by simp[ho,Op.operands,Call.operands])
  ·exact ht x (by simp[ho,Op.operands,Call.operands])
def Mx:AV->Option Value
 | .sc v=>some v
 |_=>none
theorem TR {x:AV}{v:Value}(h:Mx x=some v):x= .sc v:=by
 cases x<;>simp[Mx]at h
 rw[h]
theorem gx {w:World}{b off:Nat}:∀(n i:Nat) (acc:Array Value) (us:List Value),us.length=n->(∀j u,us[j]? =some u->w.cell? ⟨b,off+(i+j),none⟩=some u)->
  (loadCellsFrom ⟨b,off,none⟩ i n acc).run P w= .ok (acc++us.toArray) w
 |0,i,acc,us,hl,h=>by
  have:us=[]:=ahK.1 hl;subst this;simp[loadCellsFrom,Sem.run]
 |n+1,i,acc,us,hl,h=>by
  match us,hl with
  |u::r,hl=>
   have h0:=h 0 u rfl;have TS:(⟨b,off,none⟩:Addr).add i=⟨b,off+i,none⟩:=by
    unfold Addr.add;split<;>simp_all
   unfold loadCellsFrom;have hl0:(load ((⟨b,off,none⟩:Addr).add i)).run P w= .ok u w:=by
    simp only[load,Sem.run,TS];rw[show off+i=off+(i+0)from rfl,h0]
   rw[Sem.run_bind,hl0];simp only[Result.andThen];rw[gx n (i+1) (acc.push u) r (by simpa using hl) (λj x hj=>by
    have:=h (j+1) x (by simpa using hj);rw[show off+(i+1+j)=off+(i+(j+1)) by omega];exact this)]
   simp
def EE (P:Program) (t:TypeId) (cs:List AV):Option AV:=
 match aB P (isAgg t),aB P (Go.sizeOf t)with
 |some true,some n=>if n<=cs.length then some (.agg (cs.take n))else none
 |some false,some _=>cs.head?
 |_,_=>none
def Kw (E:Env) (cs:List AV) (w:World) (b off:Nat):Prop:=∀(j:Nat) (x:AV),cs[j]? =some x->∃u:Value,w.cell? ⟨b,off+j,none⟩=some u/\Rel E x u
theorem Bb {E:Env}{w:World}{b off:Nat}{t:TypeId}{cs:List AV}{x:AV}(hc:Kw E cs w b off) (h:EE P t cs=some x):
  ∃v,(loadVar t ⟨b,off,none⟩).run P w= .ok v w/\Rel E x v:=by
 unfold EE at h;unfold loadVar;split at h
 ·rename_i n ha hs;split at h
  ·rename_i hn;simp only[ag6]at h;subst h;have hex:∀(m:Nat) (ds:List AV),m<=ds.length->(∀(j:Nat) (x:AV),j<m->ds[j]? =some x->∃u:Value,w.cell? ⟨b,off+j,none⟩=some u/\Rel E x u)->∃us:List Value,us.length=m/\(∀j u,us[j]? =some u->w.cell? ⟨b,off+j,none⟩=some u)/\∀(j:Nat) (x:AV),j<m->ds[j]? =some x->Rel E x (us.getD j undef):=by
    intro m
    induction m with
    |zero=>exact λds _ _=>⟨[],rfl,λj u hj=>by simp at hj,λj x hj=>by omega⟩
    |succ m ih=>
     intro ds hm hd;obtain⟨us,h1,h2,h3⟩:=ih ds (by omega) (λj x hj=>hd j x (by omega));obtain⟨u,hu,hr⟩:=hd m ds[m] (by omega) (ahc (by omega));refine⟨us++[u],by simp[h1],λj v hj=> ?_,λj x hj hx=> ?_⟩
     ·by_cases OL:j<m
      ·rw[ahb (by omega)]at hj;exact h2 j v hj
      ·have:j=m:=by
        have:=(ag5.1 hj).1;simp at this;omega
       subst this;rw[ahi (by omega)]at hj;simp[h1]at hj;subst hj;exact hu
     ·by_cases OL:j<m
      ·have:=h3 j x OL hx;rw[ag4,ahb (by omega),←ag4];exact this
      ·have:j=m:=by omega
       subst this;rw[ag4,ahi (by omega)];rw[ahc (by omega)]at hx;simp only[ag6]at hx;subst hx;simpa [h1]using hr
   obtain⟨us,h1,h2,h3⟩:=hex n cs hn (λj x _ hx=>hc j x hx);refine⟨.agg us.toArray,?_,.agg _ _ (by simp[h1,hn]) (λj x hj=> ?_)⟩
   ·rw[Sem.run_bind,aj ha];simp only[Result.andThen,if_true];rw[Sem.run_bind,aj hs];simp only[Result.andThen];rw[Sem.run_bind];unfold loadCells;rw[gx n 0 #[] us h1 (λj u hj=>by rw[ahF];exact h2 j u hj)];simp[Result.andThen,Sem.run]
   ·rw[ahI]at hj;split at hj
    ·rename_i sv;simpa using h3 j x sv hj
    ·cases hj
  ·cases h
 ·rename_i n ha hs
  cases cs with
  |nil=>simp at h
  |cons y r=>
   simp only[List.head?_cons,ag6]at h;subst h;obtain⟨u,hu,hr⟩:=hc 0 y rfl;refine⟨u,?_,hr⟩;rw[Sem.run_bind,aj ha];simp only[Result.andThen,ahA,if_false];simp only[load,Sem.run];rw[aik]at hu;rw[hu]
 ·cases h
def iL (H:aa):AV->Option (List AV)
 | .ptr l o=>match H[l]? with
  |some (.cells cs)=>some (cs.drop o)
  |_=>none
 | .dO cs=>some cs
 |_=>none
theorem wa {E:Env}{w0 w:World}(hg:Good E H w0 w){x:AV}{v:Value}{cs:List AV}(hr:Rel E x v) (h:iL H x=some cs):
  ∃b off,v= .pointer (some ⟨b,off,none⟩)/\Kw E cs w b off:=by
 cases hr with
 |ptr l o b hb=>
  simp only[iL]at h;split at h
  ·rename_i ds hl;simp only[ag6]at h;subst h;obtain⟨_,_,arr,T,h3,h4⟩:=hg.obj hl b hb;refine⟨b,o,rfl,λj x hj=> ?_⟩;rw[aij]at hj;obtain⟨u,hu,hr⟩:=h4 _ x hj;exact⟨u,by rw[gL h3];exact hu,hr⟩
  ·cases h
 |dO ds b off u hs hk=>
  simp only[iL,ag6]at h;subst h;exact⟨b,off,rfl,λj x hj=>⟨u j,hg.snap (hs j x hj),(hk j x hj).mono E.xD⟩⟩
 |_=>simp[iL]at h
theorem OW {t:TypeId}{p:Operand}{x:AV}{cs:List AV}(ho:o.op= .load t p) (hp:iL H (bk T p)=some cs) (hx:EE P t cs=some x):oH P o T H x:=by
 refine cL λE w0 w ρ hg ht=> ?_
 obtain⟨b,off,hv,hc⟩:=wa hg (ht p (by simp[ho,Op.operands,Call.operands])) hp;obtain⟨v,hr,hrel⟩:=Bb hc hx;refine⟨v,?_,hrel⟩;simp only[execOp,ho,Instr.loadAt,hv];simp only[Sem.run_bind,Instr.sureAddr,Sem.run_pure,Result.andThen_ok,hr]
theorem dV (b off n:Nat):(⟨b,off,none⟩:Addr).add n=⟨b,off+n,none⟩:=by
 unfold Addr.add;split<;>simp_all
def tW (P:Program) (s:TypeId) (f:Nat):Option Nat:=
 match aB P (underlying s)with
 |some (.struct af)=>match af[f]? with
  |some fd=>match aB P (Go.sizeOf fd.type)with
   |some (n+1)=>some fd.offset
   |_=>none
  |none=>none
 |_=>none
def Bc (n:Nat):AV->Option AV
 | .ptr l o=>some (.ptr l (o+n))
 | .dO cs=>some (.dO (cs.drop n))
 |_=>none
theorem My {E:Env}{x y:AV}{v:Value}{n:Nat}(hr:Rel E x v) (h:Bc n x=some y):∃b off,v= .pointer (some ⟨b,off,none⟩)/\Rel E y (.pointer (some ⟨b,off+n,none⟩)):=by
 cases hr with
 |ptr l o b hb=>
  simp only[Bc,ag6]at h;subst h;exact⟨b,o,rfl,.ptr l _ b hb⟩
 |dO cs b off u hs hk=>
  simp only[Bc,ag6]at h;subst h;refine⟨b,off,rfl,.dO _ b (off+n) (λj=>u (n+j)) (λj x hj=> ?_) (λj x hj=> ?_)⟩
  ·rw[aij]at hj;rw[Nat.add_assoc];exact hs _ x hj
  ·rw[aij]at hj;exact hk _ x hj
 |_=>simp[Bc]at h
theorem AB {s:TypeId}{p:Operand}{f n:Nat}{x:AV}(ho:o.op= .fieldAddr s p f) (hn:tW P s f=some n) (hx:Bc n (bk T p)=some x):oH P o T H x:=by
 refine cL λE w0 w ρ hg ht=> ?_
 obtain⟨b,off,hv,hr⟩:=My (ht p (by simp[ho,Op.operands,Call.operands])) hx;refine⟨_,?_,hr⟩;unfold tW at hn;split at hn
 ·rename_i af hf;split at hn
  ·rename_i fd hfd;split at hn
   ·rename_i m hm;simp only[ag6]at hn;subst hn;simp only[execOp,ho,Instr.fieldAt,hv,Sem.run_bind,aj hf,Result.andThen_ok,hfd,Instr.sureAddr,Sem.run_pure,fieldPlace,aj hm,Nat.add_eq_zero_iff,Nat.succ_ne_self,if_false,dV];simp[dV]
   ·cases hn
  ·cases hn
 ·cases hn
theorem oI {p:Operand}{x:AV}(ho:o.op= .nilCheck p) (hx:bk T p=x) (hp:(∃l o,x= .ptr l o)∨(∃cs,x= .dO cs)∨∃f a b,x= .fn (.func f) a b):oH P o T H x:=by
 refine cL λE w0 w ρ hg ht=> ?_
 have hr:=ht p (by simp[ho,Op.operands,Call.operands]);rw[hx]at hr;generalize hv:ρ p=v at hr;refine⟨v,?_,hr⟩;rcases hp with ⟨l,o',rfl⟩|⟨cs,rfl⟩|⟨f,as,bs,rfl⟩<;>cases hr<;>simp[execOp,ho,hv]
theorem EF {t:Operand}{i:Nat}{xs:List AV}{x:AV}(ho:o.op= .extract t i) (EA:bk T t= .bq xs) (hx:xs[i]? =some x):oH P o T H x:=by
 refine cL λE w0 w ρ hg ht=> ?_
 have hr:=ht t (by simp[ho,Op.operands,Call.operands]);rw[EA]at hr;generalize hv:ρ t=v at hr
 cases hr with
 |bq _ us hl k=>
  have cO:i<us.size:=by rw[hl];exact(ag5.1 hx).1
  have fx:us[i]? =some (us.getD i undef):=by simp[ahh,cO]
  refine⟨us.getD i undef,?_,k i x hx⟩;simp only[execOp,ho,Instr.extract,hv,Sem.run_bind,fx,Sem.run_pure,Result.andThen_ok]
theorem nS {E:Env}{ρ:Operand->Value}(xs:Array Operand) (ht:∀y∈xs,Rel E (bk T y) (ρ y)):(xs.map ρ).size=(xs.toList.map (bk T)).length/\∀(j:Nat) (x:AV),(xs.toList.map (bk T))[j]? =some x->Rel E x ((xs.map ρ).getD j undef):=by
 refine⟨by simp,λj x hj=> ?_⟩;rw[ahy]at hj
 cases hx:xs.toList[j]? with
 |none=>rw[hx]at hj;cases hj
 |some y=>
  rw[hx]at hj;simp only[ahs,ag6]at hj;subst hj;have hy:xs[j]? =some y:=by simpa using hx
  have e:(xs.map ρ).getD j undef=ρ y:=by simp[ahh,hy]
  rw[e];exact ht y (Array.mem_of_getElem? hy)
theorem CA {fn:Fn}{first fJ:Array Operand}(ho:o.op= .makeFunc fn first fJ):oH P o T H (.fn fn (first.toList.map (bk T)) (fJ.toList.map (bk T))):=by
 refine cL λE w0 w ρ hg ht=>⟨.func fn (first.map ρ) (fJ.map ρ),by simp[execOp,ho,Instr.makeFunc],?_⟩
 have h1:=nS first (λy hy=>ht y (by simp[ho,Op.operands,hy]))
 have h2:=nS fJ (λy hy=>ht y (by simp[ho,Op.operands,hy]));exact .fn fn _ _ _ _ h1.1 h2.1 h1.2 h2.2
theorem tX {t:TypeId}{p:Operand}(ho:o.op= .makeInterface t p) (hu:∃d,aB P (underlying t)=some d/\∀ms,d≠.interface ms):oH P o T H (.lD t (bk T p)):=by
 refine cL λE w0 w ρ hg ht=>⟨.iface t (ρ p),?_,.lD _ _ _ (ht p (by simp[ho,Op.operands,Call.operands]))⟩
 obtain⟨d,hd,gX⟩:=hu;simp only[execOp,ho,Instr.makeInterface,Sem.run_bind,aj hd,Result.andThen_ok];cases d<;>first|exact absurd rfl (gX _)|rfl
theorem AD {t elem:TypeId}{p q:Operand}{nl:Bool}{sz n:Nat}{el:Nat->List AV}{own:Own}{k:IntKind}{i:Int}(ho:o.op= .indexAddr t p q)
  (hu:aB P (underlying t)=some (.slice elem)) (hs:aB P (Go.sizeOf elem)=some sz) (hp:bk T p= .aY nl sz n el own) (hq:bk T q= .sc (.int k i)) (h0:0<=i) (h1:i<n):
  oH P o T H (.dO (el i.toNat)):=by
 refine cL λE w0 w ρ hg ht=> ?_
 have hr:=ht p (by simp[ho,Op.operands,Call.operands]);rw[hp]at hr;have mW:=ht q (by simp[ho,Op.operands,Call.operands]);rw[hq]at mW;generalize hv:ρ p=v at hr;generalize hw:ρ q=u at mW;cases mW
 cases hr with
 |fw=>simp at h1;omega
 |gG=>simp at h1;omega
 |aY sz n el own b off c us hn r5 hc hl Xx h k'=>
  have hi:i.toNat<n:=by omega
  refine⟨.pointer (some ⟨b,off+i.toNat*sz,none⟩),?_,.dO _ b _ (us i.toNat) (λj x hj=>h _ hi j x hj) (λj x hj=>k' _ hi j x hj)⟩;simp only[execOp,ho,Instr.indexAt,hv,hw,asIntOf,Sem.run_bind,Sem.run_pure,Result.andThen_ok,aj hu,aj hs,h0,h1,and_self,if_true,dV]
theorem CB {t elem:TypeId}{p q:Operand}{l sz n:Nat}{k:IntKind}{i:Int}(ho:o.op= .indexAddr t p q)
  (hu:aB P (underlying t)=some (.slice elem)) (hs:aB P (Go.sizeOf elem)=some sz) (hp:bk T p= .nK l sz n) (hq:bk T q= .sc (.int k i)) (h0:0<=i) (h1:i<n):
  oH P o T H (.ptr l (i.toNat*sz)):=by
 refine cL λE w0 w ρ hg ht=> ?_
 have hr:=ht p (by simp[ho,Op.operands,Call.operands]);rw[hp]at hr;have mW:=ht q (by simp[ho,Op.operands,Call.operands]);rw[hq]at mW;generalize hv:ρ p=v at hr;generalize hw:ρ q=u at mW;cases mW
 cases hr with
 |nK l sz n b hb hn=>
  refine⟨.pointer (some ⟨b,i.toNat*sz,none⟩),?_,.ptr l _ b hb⟩;simp only[execOp,ho,Instr.indexAt,hv,hw,asIntOf,Sem.run_bind,Sem.run_pure,Result.andThen_ok,aj hu,aj hs,h0,h1,and_self,if_true,dV,ahF]
theorem IC {t:TypeId}{c:Call}{p:Operand}{l sz n:Nat}(ho:o.op= .call c) (hc:c.callee= .builtin .len) (ha:c.args= #[p]) (TT:c.argTypes[0]? =some t)
  (hu:∃e,aB P (underlying t)=some (.slice e)) (hp:bk T p= .nK l sz n):oH P o T H (.sc (.int .i64 n)):=by
 refine cL λE w0 w ρ hg ht=> ?_
 obtain⟨e,hu⟩:=hu;have hr:=ht p (by simp[ho,Op.operands,Call.operands,ha]);rw[hp]at hr;generalize hv:ρ p=v at hr;refine⟨.int .i64 n,?_,.sc _ rfl⟩;have Mz:∃A k,v= .slice A n k:=by cases hr;exact⟨_,_,rfl⟩
 obtain⟨A,k,rfl⟩:=Mz;simp[execOp,ho,resolve,hc,invoke,builtin,Builtin.len_,TT,ha,hv,aj hu,goInt]
theorem CC {t elem:TypeId}{p q:Operand}{l sz n:Nat}{k:IntKind}{i:Int}(ho:o.op= .indexAddr t p q)
  (hu:aB P (underlying t)=some (.slice elem)) (hs:aB P (Go.sizeOf elem)=some sz) (hp:bk T p= .qv l sz n) (hq:bk T q= .sc (.int k i)) (h0:0<=i) (h1:i<n):
  oH P o T H (.ptr l (i.toNat*sz)):=by
 refine cL λE w0 w ρ hg ht=> ?_
 have hr:=ht p (by simp[ho,Op.operands,Call.operands]);rw[hp]at hr;have mW:=ht q (by simp[ho,Op.operands,Call.operands]);rw[hq]at mW;generalize hv:ρ p=v at hr;generalize hw:ρ q=u at mW;cases mW
 cases hr with
 |qv l sz n b c hb hn=>
  refine⟨.pointer (some ⟨b,i.toNat*sz,none⟩),?_,.ptr l _ b hb⟩;simp only[execOp,ho,Instr.indexAt,hv,hw,asIntOf,Sem.run_bind,Sem.run_pure,Result.andThen_ok,aj hu,aj hs,h0,h1,and_self,if_true,dV,ahF]
theorem ID {t:TypeId}{c:Call}{p:Operand}{l sz n:Nat}(ho:o.op= .call c) (hc:c.callee= .builtin .len) (ha:c.args= #[p]) (TT:c.argTypes[0]? =some t)
  (hu:∃e,aB P (underlying t)=some (.slice e)) (hp:bk T p= .qv l sz n):oH P o T H (.sc (.int .i64 n)):=by
 refine cL λE w0 w ρ hg ht=> ?_
 obtain⟨e,hu⟩:=hu;have hr:=ht p (by simp[ho,Op.operands,Call.operands,ha]);rw[hp]at hr;generalize hv:ρ p=v at hr;refine⟨.int .i64 n,?_,.sc _ rfl⟩;have Mz:∃A k,v= .slice A n k:=by cases hr;exact⟨_,_,rfl⟩
 obtain⟨A,k,rfl⟩:=Mz;simp[execOp,ho,resolve,hc,invoke,builtin,Builtin.len_,TT,ha,hv,aj hu,goInt]
theorem TU {t:TypeId}{c:Call}{p:Operand}{nl:Bool}{sz n:Nat}{el:Nat->List AV}{own:Own}(ho:o.op= .call c) (hc:c.callee= .builtin .len) (ha:c.args= #[p]) (TT:c.argTypes[0]? =some t)
  (hu:∃e,aB P (underlying t)=some (.slice e)) (hp:bk T p= .aY nl sz n el own):oH P o T H (.sc (.int .i64 n)):=by
 refine cL λE w0 w ρ hg ht=> ?_
 obtain⟨e,hu⟩:=hu;have hr:=ht p (by simp[ho,Op.operands,Call.operands,ha]);rw[hp]at hr;generalize hv:ρ p=v at hr;refine⟨.int .i64 n,?_,.sc _ rfl⟩;have Mz:∃A k,v= .slice A n k:=by cases hr<;>exact⟨_,_,rfl⟩
 obtain⟨A,k,rfl⟩:=Mz;simp[execOp,ho,resolve,hc,invoke,builtin,Builtin.len_,TT,ha,hv,aj hu,goInt]
end
def RA (E:Env) (cs:List AV) (arr:Array Value):Prop:=arr.size=cs.length/\∀(j:Nat) (x:AV),cs[j]? =some x->Rel E x (arr.getD j undef)
theorem RA.cells {E:Env}{cs:List AV}{arr:Array Value}(h:RA E cs arr):mn E cs arr:=λj x hj=>by
 have cO:j<arr.size:=by rw[h.1];exact(ag5.1 hj).1
 exact⟨arr.getD j undef,by simp[ahh,cO],h.2 j x hj⟩
theorem RA.one {E:Env}{x:AV}{v:Value}(h:Rel E x v):RA E [x] #[v]:=⟨rfl,λj y hj=>by
 cases j with
 |zero=>simp at hj;subst hj;exact h
 |succ j=>simp at hj⟩
def jG:AV->Bool
 | .any=>false
 |_=>true
theorem jN {E:Env}{x:AV}{v:Value}(h:Rel E x v) (hx:jG x=true):RA E x.cells v.cells:=by
 cases h with
 |any v=>simp[jG]at hx
 |agg cs us hl k=>exact⟨hl,k⟩
 |sc v hp=>
  cases v<;>first|exact RA.one (.sc _ hp)|simp[plain]at hp
 |ptr l o b h=>exact RA.one (.ptr l o b h)
 |dO cs b off u h k=>exact RA.one (.dO cs b off u h k)
 |fw sz el own h=>exact RA.one (.fw sz el own h)
 |gG sz el own a h=>exact RA.one (.gG sz el own a h)
 |aY sz n el own b off c u hn ho hc hl h1 h k=>exact RA.one (.aY sz n el own b off c u hn ho hc hl h1 h k)
 |fn f a b us vs h1 h2 k1 k2=>exact RA.one (.fn f a b us vs h1 h2 k1 k2)
 |lD t x v k=>exact RA.one (.lD t x v k)
 |bq cs us h k=>exact RA.one (.bq cs us h k)
 |cU l b h=>exact RA.one (.cU l b h)
 |fp l i n h=>exact RA.one (.fp l i n h)
 |nK l sz n b h hn=>exact RA.one (.nK l sz n b h hn)
 |qv l sz n b c h hn=>exact RA.one (.qv l sz n b c h hn)
 |kq l b h=>exact RA.one (.kq l b h)
 |jq l i=>exact RA.one (.jq l i)
 |fY l i n b c h h0 hn=>exact RA.one (.fY l i n b c h h0 hn)
theorem IE {E:Env}{x:AV}{v:Value}(h:Rel E x v) (hx:lQ x=true){α:Type}(P:Program) (m:Mode) (a:Addr) (k:Sem α) (w:World):
  (Sem.store m a v k).run P w=match w.cell? a with
   |some _=>if w.frozen? a then .halt (.unsupported (.unsafePointer "a write to bytes that a string shares")) w else k.run P (w.setCell a v)
   |none=>match w.farStore P a v (m== .atomic)with
    | .ok (w,_)=>k.run P w
    | .error h=> .halt h w:=by
 cases h with
 |any v=>simp[lQ]at hx
 |agg cs us hl k=>simp[lQ]at hx
 |bq cs us hl k=>simp[lQ]at hx
 |sc v hp=>cases v<;>first|rfl|simp[plain]at hp
 |_=>rfl
def setMany:List AV->Nat->List AV->List AV
 |cs,_,[]=>cs
 |cs,o,x::r=>setMany (cs.set o x) (o+1) r
section
variable {P:Program}{o:Oper}{T:List AV}{H:aa}
theorem qy {E:Env}{w0:World}{l b off n0:Nat}{W:Nat->Prop}(hb:E.φ l=some b) (hW:l<n0->W l):∀(xs:List AV) (vs:List Value) (i:Nat) (H:aa) (cs:List AV) (w:World),
  Good E H w0 w->H[l]? =some (.cells cs)->vs.length=xs.length->(∀(j:Nat) (x:AV),xs[j]? =some x->Rel E x (vs.getD j undef)/\lQ x=true)->off+i+xs.length<=cs.length->
  ∃w',(storeCells ⟨b,off,none⟩ vs i).run P w= .ok () w'/\Good E (H.set l (.cells (setMany cs (off+i) xs))) w0 w'/\Ext n0 W E H w E (H.set l (.cells (setMany cs (off+i) xs))) w'
 |[],vs,i,H,cs,w,hg,hl,hlen,hr,hle=>by
  have:vs=[]:=ahK.1 hlen;subst this;have hs:H.set l (.cells cs)=H:=by
   refine ah2 λk=> ?_
   by_cases hk:l=k
   ·subst hk;rw[ahd (ag5.1 hl).1,hl]
   ·rw[ag7 hk]
  refine⟨w,rfl,?_,?_⟩<;>rw[setMany,hs]
  ·exact hg
  ·exact .refl _ _ _ _ _
 |x::r,vs,i,H,cs,w,hg,hl,hlen,hr,hle=>by
  match vs,hlen with
  |v::TA,hlen=>
   obtain⟨h0,h1⟩:=hr 0 x rfl;simp only[List.getD_cons_zero]at h0;simp only[ahv]at hle hlen;have hj:cs[off+i]? =some cs[off+i]:=ahc (by omega);obtain⟨g1,hc,hf⟩:=hg.set hl hb hj h0;have e1:=TQ (cs':=cs.set (off+i) x) (v:=v) (j:=off+i) hg hW hl hb;have TV:(H.set l (.cells (cs.set (off+i) x)))[l]? =some (.cells (cs.set (off+i) x)):=ahd (ag5.1 hl).1;obtain⟨w',dz,g2,e2⟩:=qy (off:=off) hb hW r TA (i+1) _ _ _ g1 TV (by omega) (λj y hy=>by
    have:=hr (j+1) y (by simpa using hy);simpa using this) (by simp;omega)
   rw[List.set_set]at g2 e2;refine⟨w',?_,?_,?_⟩
   ·unfold storeCells;rw[Sem.run_bind];have hs:(store ((⟨b,off,none⟩:Addr).add i) v).run P w= .ok () (w.setCell ⟨b,off+i,none⟩ v):=by
     rw[dV];unfold store;rw[IE h0 h1];cases wb:w.cell? ⟨b,off+i,none⟩with
     |none=>exact absurd wb hc
     |some u=>simp[hf,Sem.run]
    rw[hs];exact dz
   ·rw[setMany];exact g2
   ·rw[setMany];exact e1.trans e2
theorem MA {t:TypeId}{p q:Operand}{l off:Nat}{cs:List AV}{x:AV}(ho:o.op= .store t p q) (hp:bk T p= .ptr l off) (hl:H[l]? =some (.cells cs)) (hq:bk T q=x) (hx:jG x=true)
  (hs:aB P (Go.sizeOf t)=some x.cells.length) (h1:∀y∈x.cells,lQ y=true) (hle:off+x.cells.length<=cs.length):
  kX P o T H .any (H.set l (.cells (setMany cs off x.cells))) [l]:=by
 refine qx λE w0 w ρ hg ht=> ?_
 have hr:=ht p (by simp[ho,Op.operands,Call.operands]);rw[hp]at hr;have mW:=ht q (by simp[ho,Op.operands,Call.operands]);rw[hq]at mW;generalize hv:ρ p=v at hr;generalize hw:ρ q=u at mW
 cases hr with
 |ptr l off b hb=>
  have hc:=jN mW hx;obtain⟨w',dz,g',e'⟩:=qy (P:=P) (off:=off) hb (n0:=H.length) (W:=(·∈[l])) (λ_=>by simp) x.cells u.cells.toList 0 H cs w hg hl (by simpa using hc.1) (λj y hy=>⟨by simpa using hc.2 j y hy,h1 y (ahf hy)⟩) (by simpa using hle);refine⟨E,w',?_,by simpa using e',by simpa using g'⟩;simp only[execOp,ho,Instr.storeAt,hv,hw,Sem.run_bind,Instr.sureAddr,Sem.run_pure,Result.andThen_ok];unfold storeVar;rw[Sem.run_bind,aj hs];simp only[Result.andThen_ok,hc.1,ne_eq,not_true,if_false];simp only[dz,Result.andThen_ok,pure_bind]
theorem TW {t:TypeId}{q:Operand}{x:AV}(ho:o.op= .box t q) (hq:bk T q=x) (hx:jG x=true):kX P o T H (.ptr H.length 0) (H++[.cells x.cells]) []:=by
 refine fV λE w0 w ρ hg ht=> ?_
 have mW:=ht q (by simp[ho,Op.operands,Call.operands]);rw[hq]at mW;have hc:=jN mW hx;refine⟨E.ej H.length w.heap.size,.pointer (some ⟨w.heap.size,0,none⟩),w.alloc (.cells (ρ q).cells t),?_,j3 _ _ (ag3 _) hg _ _,hg.new t hc.cells,.ptr _ _ _ (cV _ _ _)⟩;simp only[execOp,ho,Instr.box,newVar,newRow,newObj,Sem.run_bind,Sem.run,Sem.run_pure,Result.andThen_ok];rfl
theorem MB {t:TypeId}{z:Value}{x:AV}(ho:o.op= .alloc t) (hz:aB P (zeroValue t)=some z) (hq:dB z=x) (hx:jG x=true):kX P o T H (.ptr H.length 0) (H++[.cells x.cells]) []:=by
 refine fV λE w0 w ρ hg ht=> ?_
 have mW:=fZ E _ z (ahP _);rw[hq]at mW;have hc:=jN mW hx;refine⟨E.ej H.length w.heap.size,.pointer (some ⟨w.heap.size,0,none⟩),w.alloc (.cells z.cells t),?_,j3 _ _ (ag3 _) hg _ _,hg.new t hc.cells,.ptr _ _ _ (cV _ _ _)⟩;simp only[execOp,ho,Instr.alloc,Sem.run_bind,aj hz,Result.andThen_ok];simp only[newVar,newRow,newObj,Sem.run_bind,Sem.run,Sem.run_pure,Result.andThen_ok];rfl
def sw (place:Nat->Option (Nat×Nat)):List AV->List (Nat×AV)->Option (List AV)
 |cs,[]=>some cs
 |cs,(i,x)::rest=>
  match place i with
  |none=>none
  |some (off,size)=>
   if jG x&&x.cells.length==size&&decide (off+x.cells.length<=cs.length)then sw place (setMany cs off x.cells) rest else none
theorem ym {E:Env}:∀(xs:List AV) (vs:List Value) (k:Nat) (cs:List AV) (arr:Array Value) (off:Nat),RA E cs arr->vs.length=xs.length->(∀(j:Nat) (x:AV),xs[j]? =some x->Rel E x (vs.getD j undef))->off+k+xs.length<=cs.length->
  RA E (setMany cs (off+k) xs) ((vs.zipIdx k).foldl (λcs (c,j)=>cs.setIfInBounds (off+j) c) arr)
 |[],vs,k,cs,arr,off,h,hl,hr,hle=>by
  have:vs=[]:=ahK.1 hl;subst this;exact h
 |x::r,vs,k,cs,arr,off,h,hl,hr,hle=>by
  match vs,hl with
  |v::TA,hl=>
   simp only[ahv]at hl hle;rw[List.zipIdx_cons,ah7,setMany];refine ym r TA (k+1) _ _ off ⟨by simp[h.1],λj y hj=> ?_⟩ (by omega) (λj y hy=>by simpa using hr (j+1) y (by simpa using hy)) (by simp;omega);by_cases hjk:off+k=j
   ·subst hjk;rw[ahd (by omega)]at hj;simp only[ag6]at hj;subst hj;have cO:off+k<arr.size:=by rw[h.1];omega
    have e:(arr.setIfInBounds (off+k) v).getD (off+k) undef=v:=by simp[ahh,cO]
    rw[e];simpa using hr 0 x rfl
   ·rw[ag7 hjk]at hj;have e:(arr.setIfInBounds (off+k) v).getD j undef=arr.getD j undef:=by simp[ahh,ahm hjk]
    rw[e];exact h.2 j y hj
theorem xF {E:Env}{place:Nat->Option (Nat×Nat)}:∀(ps:List (Nat×AV)) (qs:List (Nat×Value)) (cs ds:List AV) (arr:Array Value),RA E cs arr->qs.length=ps.length->
  (∀(j:Nat) (p:Nat×AV),ps[j]? =some p->∃q,qs[j]? =some q/\q.1=p.1/\Rel E p.2 q.2)->sw place cs ps=some ds->∃out,Instr.fill place arr qs=some out/\RA E ds out
 |[],qs,cs,ds,arr,h,hl,hr,hf=>by
  have:qs=[]:=ahK.1 hl;subst this;simp only[sw,ag6]at hf;subst hf;exact⟨arr,rfl,h⟩
 |(i,x)::rest,qs,cs,ds,arr,h,hl,hr,hf=>by
  match qs,hl with
  |(i',v)::qs',hl=>
   obtain⟨q,hq,h1,h2⟩:=hr 0 (i,x) rfl;simp only[ahw,ag6]at hq;subst hq;simp only at h1 h2;subst h1;unfold sw at hf
   cases hp:place i' with
   |none=>rw[hp]at hf;cases hf
   |some os=>
    obtain⟨off,size⟩:=os;rw[hp]at hf;simp only at hf;split at hf
    ·rename_i hc;simp only[ahp,beq_iff_eq,decide_eq_true_eq]at hc;obtain⟨⟨WH,ga⟩,hle⟩:=hc;have hcr:=jN h2 WH;have:=ym x.cells v.cells.toList 0 cs arr off h (by simpa using hcr.1) (λj y hy=>by simpa using hcr.2 j y hy) (by simpa using hle);obtain⟨out,ho,MC⟩:=xF rest qs' _ ds _ this (by simpa using hl) (λj p hj=>by simpa using hr (j+1) p (by simpa using hj)) (by simpa using hf);refine⟨out,?_,MC⟩;unfold Instr.fill;rw[hp];simp only;rw[if_neg (by
      simp only[Bool.or_eq_true,decide_eq_true_eq,not_or];rw[hcr.1,h.1,ga];refine⟨by simp,?_⟩;rw[ga]at hle;simpa using hle)]
     rw[←ho];congr 1;rw[←Array.foldl_toList,Array.toList_zipIdx]
    ·cases hf
end
theorem Rel.data {E:Env}{x:AV}{v:Value}(h:Rel E x v) (hl:LF x):Rel E.data x v:=h.lf hl (λh=>h)
theorem vj {E:Env}{T:List AV}{ρ:Operand->Value}(ps:Array (Nat×Operand)) (ht:∀y∈ps,Rel E (bk T y.2) (ρ y.2)):
  ((ps.map λ(i,x)=>(i,ρ x)).toList).length=(ps.toList.map λ(i,x)=>(i,bk T x)).length/\
  ∀(j:Nat) (p:Nat×AV),(ps.toList.map λ(i,x)=>(i,bk T x))[j]? =some p->∃q,((ps.map λ(i,x)=>(i,ρ x)).toList)[j]? =some q/\q.1=p.1/\Rel E p.2 q.2:=by
 refine⟨by simp,λj p hj=> ?_⟩;rw[ahy]at hj
 cases hx:ps.toList[j]? with
 |none=>rw[hx]at hj;cases hj
 |some y=>
  rw[hx]at hj;simp only[ahs,ag6]at hj;subst hj;refine⟨(y.1,ρ y.2),?_,rfl,ht y (by rw[←Array.mem_toList_iff];exact ahf hx)⟩;rw[Array.toList_map,ahy,hx];rfl
def yn (P:Program) (t:TypeId):Option (Array (Nat×Nat)):=
 match aB P (underlying t)with
 |some (.struct af)=>aB P (af.mapM λf=>do pure (f.offset,←Go.sizeOf f.type))
 |_=>none
section
variable {P:Program}{o:Oper}{T:List AV}{H:aa}
theorem MD {t:TypeId}{ps:Array (Nat×Operand)}{z:Value}{zs:List AV}{pl:Array (Nat×Nat)}{cs:List AV}(ho:o.op= .build t ps) (hz:aB P (zeroValue t)=some z) (Xy:dB z= .agg zs)
  (Xz:yn P t=some pl) (hf:sw (λi=>pl[i]?) zs (ps.toList.map λ(i,x)=>(i,bk T x))=some cs):oH P o T H (.agg cs):=by
 refine cL λE w0 w ρ hg ht=> ?_
 have Zi:=fZ E _ z (ahP _);rw[Xy]at Zi;have IF:RA E zs z.cells:=jN Zi rfl;obtain⟨hl,hr⟩:=vj ps (λy hy=>ht y.2 (by simp only[ho,Op.operands];simp only[List.mem_toArray,ahQ];exact⟨y,by simpa using hy,rfl⟩));obtain⟨out,CD,MC⟩:=xF _ _ _ _ _ IF hl hr hf;refine⟨.agg out,?_,.agg _ _ MC.1 MC.2⟩;unfold yn at Xz;split at Xz
 ·rename_i af hu;simp only[execOp,ho,Instr.build,Sem.run_bind,aj hz,aj hu,Result.andThen_ok];have:=aj Xz w;rw[this];simp only[Result.andThen_ok];rw[CD];simp only[Sem.run_pure,Result.andThen_ok]
 ·cases Xz
def rowOf (sz:Nat) (cs:List AV):Nat->List AV:=λi=>(cs.drop (i*sz)).take sz
theorem tY {sz n:Nat}{cs:List AV}(h:cs.length=n*sz){i:Nat}(hi:i<n):(rowOf sz cs i).length=sz:=by
 have:(i+1)*sz<=n*sz:=ahY _ hi;rw[aic]at this;simp[rowOf];omega
theorem rD {sz:Nat}{cs:List AV}{i j:Nat}{x:AV}(h:(rowOf sz cs i)[j]? =some x):cs[i*sz+j]? =some x:=by
 unfold rowOf at h;rw[ahI]at h;split at h
 ·rwa [aij]at h
 ·cases h
theorem yo {E:Env}{zs:List AV}{zv:Array Value}(h:RA E zs zv) (m:Nat) (hz:m=0∨0<zs.length):RA E ((List.range m).map λi=>zs.getD (i % zs.length) .any) ((Array.range m).map (zv[·% zv.size]!)):=by
 refine⟨by simp,λj x hj=> ?_⟩;rw[ahy]at hj
 cases hr:(List.range m)[j]? with
 |none=>rw[hr]at hj;cases hj
 |some i=>
  rw[hr]at hj;simp only[ahs,ag6]at hj;have OL:j<m:=by simpa using (ag5.1 hr).1
  have:i=j:=by
   have:=List.getElem?_range OL;rw[hr]at this;simpa using this
  subst this;subst hj;have IG:0<zs.length:=by omega
  have cO:i % zs.length<zs.length:=Nat.mod_lt _ IG;have e:((Array.range m).map (zv[·% zv.size]!)).getD i undef=zv.getD (i % zs.length) undef:=by
   have h1:(Array.range m)[i]? =some i:=by simp[OL]
   simp only[ahh,Array.getElem?_map,h1,ahs,ahN];rw[h.1];have aco:i % zs.length<zv.size:=by rw[h.1];exact cO
   simp[aco]
  rw[e];have hg:zs[i % zs.length]? =some (zs.getD (i % zs.length) .any):=by simp[ag4,cO]
  exact h.2 _ _ hg
def dW (T:List AV):Option Operand->Option (Option Int)
 |none=>some none
 |some q=>match bk T q with
  | .sc (.int _ i)=>some (some i)
  |_=>none
theorem iM {E:Env}{ρ:Operand->Value}{q:Option Operand}(ht:∀x,q=some x->Rel E (bk T x) (ρ x)){r:Option Int}(h:dW T q=some r):
  (q=none/\r=none)∨∃x k i,q=some x/\r=some i/\ρ x= .int k i:=by
 cases q with
 |none=>simp[dW]at h;exact .inl ⟨rfl,h.symm⟩
 |some x=>
  simp only[dW]at h;split at h
  ·rename_i k i hx;simp only[ag6]at h;have hr:=ht x rfl;rw[hx]at hr;generalize hv:ρ x=v at hr;cases hr;exact .inr ⟨x,k,i,rfl,h.symm,hv⟩
  ·cases h
theorem eE {w:World}{k:IntKind}{i:Int}{y:Nat}{code:BoundsCode}(h0:0<=i) (h1:i<=y):(Instr.sliceBound (.int k i) y code).run P w= .ok i.toNat w:=by
 simp only[Instr.sliceBound,asIntOf,Sem.run_bind,Sem.run_pure,Result.andThen_ok,h0,h1,and_self,if_true]
theorem j5 {E:Env}{ρ:Operand->Value}{w:World}{lo hi:Option Operand}(oE:∀x,lo=some x->Rel E (bk T x) (ρ x)) (hth:∀x,hi=some x->Rel E (bk T x) (ρ x)){l h:Option Int}(hl:dW T lo=some l) (hh:dW T hi=some h){n c:Nat}(ME:n<=c)
  (h1:0<=l.getD 0) (h2:l.getD 0<=h.getD n) (h3:h.getD n<=n):(Instr.sliceBounds true n c (lo.map ρ) (hi.map ρ) none).run P w= .ok ((l.getD 0).toNat,(h.getD n).toNat,c) w:=by
 unfold Instr.sliceBounds;rcases iM hth hh with ⟨rfl,rfl⟩|⟨x,k,i,rfl,rfl,hx⟩<;>rcases iM oE hl with ⟨rfl,rfl⟩|⟨y,k',i',rfl,rfl,hy⟩
 ·simp
 ·simp only[ahs,ahU,hy,ahN,aif]at*;simp only[Sem.run_bind,Sem.run_pure,Result.andThen_ok,pure_bind];rw[eE (by omega) (by omega)];simp
 ·simp only[ahs,ahU,hx,ahN,aif]at*;simp only[Sem.run_bind,Sem.run_pure,Result.andThen_ok,pure_bind];rw[eE (by omega) (by omega)];simp
 ·simp only[ahs,ahU,hx,hy,ahN,aif]at*;simp only[Sem.run_bind,Sem.run_pure,Result.andThen_ok,pure_bind];rw[eE (by omega) (by omega)];simp only[Result.andThen_ok,Sem.run_bind];rw[eE (by omega) (by omega)];simp
theorem vk {E:Env}{nl:Bool}{sz n:Nat}{el:Nat->List AV}{own:Own}{A:Option Addr}{c l h m:Nat}(hr:Rel E (.aY nl sz n el own) (.slice A n c)) (h1:l<=h) (h2:h<=n) (h3:h<=m) (h4:m<=c) (nT:Own)
  (ho:nT= .dA∨nT= .tight/\m=h):Rel E (.aY nl sz (h-l) (λi=>el (i+l)) nT) (.slice (if m=l then A else A.map (·.add (l*sz))) (h-l) (m-l)):=by
 cases hr with
 |fw sz el own dI=>
  have:h=0:=by omega
  subst this;have:l=0:=by omega
  subst this;have:m=0:=by omega
  subst this;simp only[if_true,ahX];exact .fw _ _ _ (by rcases ho with rfl|⟨rfl,_⟩<;>simp)
 |gG sz el own a dI=>
  have:h=0:=by omega
  subst this;have:l=0:=by omega
  subst this;have:m=0:=by omega
  subst this;simp only[if_true,ahX];exact .gG _ _ _ a (by rcases ho with rfl|⟨rfl,_⟩<;>simp)
 |aY sz n el own b off c u hn r5 hc hlen ZJ hS hk=>
  have dI:nT.ok E (h-l) b (if m=l then off else off+l*sz) (m-l):=by
   rcases ho with rfl|⟨rfl,rfl⟩
   ·exact Nat.sub_le_sub_right h3 l
   ·rfl
  have e:(if m=l then(some ⟨b,off,none⟩:Option Addr)else(some (⟨b,off,none⟩:Addr)).map (·.add (l*sz)))=some ⟨b,if m=l then off else off+l*sz,none⟩:=by
   split
   ·rfl
   ·simp[dV]
  rw[e];refine .aY sz (h-l) _ nT b _ (m-l) (λi j=>u (i+l) j) (by omega) dI (by omega) (λi hi=>hlen _ (by omega)) (λi hi=>ZJ _ (by omega)) (λi hi j x hj=> ?_) (λi hi j x hj=>hk _ (by omega) j x hj);rw[if_neg (by omega)];have:=hS (i+l) (by omega) j x hj;rw[aic]at this;rw[show off+l*sz+i*sz+j=off+(i*sz+l*sz)+j by omega];exact this
theorem j6 {E:Env}{nl:Bool}{sz n:Nat}{el:Nat->List AV}{own:Own}{v:Value}(hr:Rel E (.aY nl sz n el own) v):∃A c,v= .slice A n c/\n<=c/\(own= .tight->c=n):=by
 cases hr with
 |fw=>exact⟨_,_,rfl,ag3 _,λ_=>rfl⟩
 |gG=>exact⟨_,_,rfl,ag3 _,λ_=>rfl⟩
 |aY _ _ _ _ _ _ _ _ _ ho hc=>exact⟨_,_,rfl,hc,λe=>by subst e;exact ho⟩
theorem MF {t elem:TypeId}{p:Operand}{lo hi:Option Operand}{nl:Bool}{sz n:Nat}{el:Nat->List AV}{own:Own}{l h:Option Int}(ho:o.op= .slice t p lo hi none)
  (hu:aB P (underlying t)=some (.slice elem)) (hs:aB P (Go.sizeOf elem)=some sz) (hp:bk T p= .aY nl sz n el own) (hl:dW T lo=some l) (hh:dW T hi=some h)
  (h1:0<=l.getD 0) (h2:l.getD 0<=h.getD n) (h3:h.getD n<=n):oH P o T H (.aY nl sz ((h.getD n).toNat-(l.getD 0).toNat) (λi=>el (i+(l.getD 0).toNat)) .dA):=by
 refine cL λE w0 w ρ hg ht=> ?_
 have hr:=ht p (by simp[ho,Op.operands,Call.operands]);rw[hp]at hr;generalize hv:ρ p=v at hr;obtain⟨A,c,rfl,hc,_⟩:=j6 hr;refine⟨_,?_,vk (l:=(l.getD 0).toNat) (h:=(h.getD n).toNat) (m:=c) hr (by omega) (by omega) (by omega) (ag3 _) .dA (.inl rfl)⟩;simp only[execOp,ho,Instr.sliceAt,hv,Sem.run_bind,aj hu,Result.andThen_ok,Instr.slice,ahU];rw[j5 (λx e=>ht x (by simp[ho,Op.operands,e])) (λx e=>ht x (by simp[ho,Op.operands,e])) hl hh hc h1 h2 h3];simp only[Result.andThen_ok,aj hs,Sem.run_pure,Sem.run_bind]
theorem AE {t elem:TypeId}{p:Operand}{lo hi:Option Operand}{nl:Bool}{sz sz0:Nat}{el:Nat->List AV}{own:Own}{l h:Option Int}(ho:o.op= .slice t p lo hi none)
  (hu:aB P (underlying t)=some (.slice elem)) (hs:aB P (Go.sizeOf elem)=some sz0) (hp:bk T p= .aY nl sz 0 el own) (hl:dW T lo=some l) (hh:dW T hi=some h)
  (h1:l.getD 0=0) (h2:h.getD (0:Nat)=0):oH P o T H (.aY nl sz 0 el .dA):=by
 refine cL λE w0 w ρ hg ht=> ?_
 have hr:=ht p (by simp[ho,Op.operands,Call.operands]);rw[hp]at hr;generalize hv:ρ p=v at hr;obtain⟨A,c,rfl,hc,_⟩:=j6 hr;have e0:(0:Nat)*sz0=0*sz:=by simp
 have Zj:(h.getD ((0:Nat):Int))=0:=h2;refine⟨_,?_,vk (l:=0) (h:=0) (m:=c) hr (by omega) (by omega) (by omega) (ag3 _) .dA (.inl rfl)⟩;simp only[execOp,ho,Instr.sliceAt,hv,Sem.run_bind,aj hu,Result.andThen_ok,Instr.slice,ahU];rw[j5 (λx e=>ht x (by simp[ho,Op.operands,e])) (λx e=>ht x (by simp[ho,Op.operands,e])) hl hh hc (by omega) (by omega) (by omega)];simp only[Result.andThen_ok,aj hs,Sem.run_pure,Sem.run_bind,h1,Zj,Int.toNat_zero,e0]
theorem IH {t elem:TypeId}{p q1 q2:Operand}{lo:Option Operand}{nl:Bool}{sz n:Nat}{el:Nat->List AV}{own:Own}{l:Option Int}{h m:Int}(ho:o.op= .slice t p lo (some q1) (some q2))
  (hu:aB P (underlying t)=some (.slice elem)) (hs:aB P (Go.sizeOf elem)=some sz) (hp:bk T p= .aY nl sz n el own) (hl:dW T lo=some l) (hh:dW T (some q1)=some (some h)) (hm:dW T (some q2)=some (some m))
  (h1:0<=l.getD 0) (h2:l.getD 0<=h) (h3:h=m) (h4:m<=n):oH P o T H (.aY nl sz (h.toNat-(l.getD 0).toNat) (λi=>el (i+(l.getD 0).toNat)) .tight):=by
 refine cL λE w0 w ρ hg ht=> ?_
 have hr:=ht p (by simp[ho,Op.operands,Call.operands]);rw[hp]at hr;generalize hv:ρ p=v at hr;obtain⟨A,c,rfl,hc,_⟩:=j6 hr;refine⟨_,?_,vk (l:=(l.getD 0).toNat) (h:=h.toNat) (m:=m.toNat) hr (by omega) (by omega) (by omega) (by omega) .tight (.inr ⟨rfl,by omega⟩)⟩;rcases iM (λx e=>ht x (by cases e;simp[ho,Op.operands])) hh with ⟨e,_⟩|⟨x,k,i,e,e',hx⟩
 ·cases e
 cases e;cases e';rcases iM (λx e=>ht x (by cases e;simp[ho,Op.operands])) hm with ⟨e,_⟩|⟨x,k,i,e,e',Bd⟩
 ·cases e
 cases e;cases e';simp only[execOp,ho,Instr.sliceAt,hv,Sem.run_bind,aj hu,Result.andThen_ok,Instr.slice,ahs,hx,Bd,Instr.sliceBounds];rw[eE (by omega) (by omega)];simp only[Result.andThen_ok];rw[eE (by omega) (by omega)];simp only[Result.andThen_ok];rcases iM (λx e=>ht x (by simp[ho,Op.operands,e])) hl with ⟨rfl,rfl⟩|⟨y,k,i,rfl,rfl,hy⟩
 ·simp only[ahU,aif,Sem.run_pure,Result.andThen_ok,aj hs,Sem.run_bind];rfl
 ·simp only[ahs,hy,ahN,Sem.run_bind]at*;rw[eE (by omega) (by omega)];simp only[Result.andThen_ok,Sem.run_pure,aj hs,Sem.run_bind]
end
def pN (s:ByteArray):Nat->List AV:=λi=>[.sc (.int .u8 ((s.data.toList.getD i 0).toNat:Int))]
def jj (sz:Nat):AV->Option (Nat×(Nat->List AV))
 | .aY _ mO m el _=>if mO=sz∨m=0 then some (m,el)else none
 | .sc (.string s)=>if sz=1 then some (s.size,pN s)else none
 |_=>none
theorem mq {E:Env}{w0 w:World}{H:aa}(hg:Good E H w0 w){sz n:Nat}{el:Nat->List AV}{b off:Nat}{u:Nat->Nat->Value}
  (hl:∀i,i<n->(el i).length=sz) (h:∀i,i<n->∀j x,(el i)[j]? =some x->E.S b (off+i*sz+j)=some (u i j)):
  ∀(j:Nat) (v:Value),((List.range (n*sz)).map λk=>u (k / sz) (k % sz))[j]? =some v->E.S b (off+j)=some v:=by
 intro j v hj;rw[ahy]at hj
 cases hr:(List.range (n*sz))[j]? with
 |none=>rw[hr]at hj;cases hj
 |some k=>
  rw[hr]at hj;simp only[ahs,ag6]at hj;have OL:j<n*sz:=by simpa using (ag5.1 hr).1
  have hk:k=j:=by
   have:=List.getElem?_range OL;rw[hr]at this;simpa using this
  subst hk;have ga:0<sz:=by
   rcases Nat.eq_zero_or_pos sz with h0|h0
   ·subst h0;simp at OL
   ·exact h0
  have hi:k / sz<n:=(Nat.div_lt_iff_lt_mul ga).2 OL;have hm:k % sz<(el (k / sz)).length:=by rw[hl _ hi];exact Nat.mod_lt _ ga
  have:=h _ hi (k % sz) _ (ahc hm);rw[show off+k=off+k / sz*sz+k % sz by have:=Nat.div_add_mod k sz;rw[Nat.mul_comm]at this;omega];rw[this,hj]
theorem II {n sz i j:Nat}{u:Nat->Nat->Value}(hi:i<n) (hj:j<sz):((List.range (n*sz)).map λk=>u (k / sz) (k % sz)).getD (i*sz+j) undef=u i j:=by
 have h1:(i+1)*sz<=n*sz:=ahY _ hi;rw[aic]at h1;have cO:i*sz+j<n*sz:=by omega
 rw[ag4,ahy,List.getElem?_range cO];simp only[ahs,ahN];have hd:(i*sz+j) / sz=i:=by
  rw[Nat.mul_comm,Nat.mul_add_div (by omega),Nat.div_eq_of_lt hj];simp
 have hm:(i*sz+j) % sz=j:=by
  rw[Nat.mul_comm,Nat.mul_add_mod,Nat.mod_eq_of_lt hj]
 rw[hd,hm]
theorem iB {P:Program}{E:Env}{w0 w:World}{H:aa}(hg:Good E H w0 w){sz m:Nat}{x:AV}{v:Value}{el:Nat->List AV}(hr:Rel E x v) (h:jj sz x=some (m,el)):
  (Builtin.lenOf v).run P w= .ok m w/\∃us:List Value,us.length=m*sz/\(Builtin.firstCells sz m v).run P w= .ok us.toArray w/\
   (∀i,i<m->(el i).length=sz/\∀x,x∈el i->lQ x=true)/\∀i,i<m->∀j x,(el i)[j]? =some x->Rel E.data x (us.getD (i*sz+j) undef):=by
 cases hr with
 |fw mO Io own dI=>
  simp only[jj,or_true,if_true,ag6,ahe]at h;obtain⟨rfl,rfl⟩:=h;exact⟨rfl,[],(Nat.zero_mul _).symm,rfl,λi hi=>by omega,λi hi=>by omega⟩
 |gG mO Io own a dI=>
  simp only[jj,or_true,if_true,ag6,ahe]at h;obtain⟨rfl,rfl⟩:=h;exact⟨rfl,[],(Nat.zero_mul _).symm,by simp[Builtin.firstCells,loadCells,loadCellsFrom,Sem.run],λi hi=>by omega,λi hi=>by omega⟩
 |aY mO n Io own b off c u hn ho hc hl h1 hS hk=>
  simp only[jj]at h;split at h
  ·rename_i ga;simp only[ag6,ahe]at h;obtain⟨rfl,rfl⟩:=h;rcases Nat.eq_zero_or_pos n with h0|h0
   ·subst h0;refine⟨rfl,[],by simp,?_,λi hi=>by omega,λi hi=>by omega⟩;simp[Builtin.firstCells,loadCells,loadCellsFrom,Sem.run]
   ·have:mO=sz:=by omega
    subst this;refine⟨rfl,(List.range (n*mO)).map λk=>u (k / mO) (k % mO),by simp,?_,λi hi=>⟨hl i hi,h1 i hi⟩,λi hi j x hj=> ?_⟩
    ·have:=gx (P:=P) (w:=w) (b:=b) (off:=off) (n*mO) 0 #[] ((List.range (n*mO)).map λk=>u (k / mO) (k % mO)) (by simp) (λj v hj=>by
      rw[ahF];exact hg.snap (mq hg hl hS j v hj))
     simp only[Builtin.firstCells,loadCells,this];rw[Array.empty_append]
    ·rw[II hi (by rw[←hl i hi];exact(ag5.1 hj).1)];exact hk i hi j x hj
  ·cases h
 |sc v hp=>
  cases v with
  |string s=>
   simp only[jj]at h;split at h
   ·rename_i ga;subst ga;simp only[ag6,ahe]at h;obtain⟨rfl,rfl⟩:=h;refine⟨rfl,s.data.toList.map λb=> .int .u8 b.toNat,by simp,?_,λi hi=>⟨rfl,λx hx=>by simp[pN]at hx;subst hx;rfl⟩,λi hi j x hj=> ?_⟩
    ·have e:s.extract 0 s.size=s:=by simp
     simp only[Builtin.firstCells,e,Sem.run_pure];congr 1;apply aiq;simp
    ·cases j with
     |succ j=>simp[pN]at hj
     |zero=>
      simp[pN]at hj;subst hj;have sY:i<s.data.toList.length:=by simpa using hi
      have e:(s.data.toList.map λb=>Value.int .u8 (b.toNat:Int)).getD (i*1+0) undef= .int .u8 ((s.data.toList.getD i 0).toNat:Int):=by
       simp only[Nat.mul_one,aik,ag4,ahy];rw[ahc sY];rfl
      rw[e];have e2:s.data[i]?.getD 0=s.data.toList.getD i 0:=by simp
      rw[e2];exact Rel.sc (.int .u8 _) rfl
   ·cases h
  |_=>simp[jj]at h
 |_=>simp[jj]at h
def ic (H:aa) (t:Nat) (o:bu):aa:=if t<H.length then H.set t o else H++[o]
def Env.grown (E:Env) (b:Nat) (arr:Array Value) (k t n c:Nat):Env:=
 {φ:=E.φ,S:=λx o=>if x=b then(E.S b o).or (if o<k then arr[o]? else none)else E.S x o,G:=λx m=>if x=t/\m=n then some (b,c)else E.G x m}
section
variable {E:Env}{H:aa}{w0 w:World}
theorem jr {b k t n c:Nat}{arr:Array Value}(h:E.G t n=none):E.le (E.grown b arr k t n c):=
  ⟨λh=>h,λ{x o u} hs=>by
    by_cases hx:x=b
    · subst hx;simp[Env.grown,hs]
    · simpa [Env.grown,hx]using hs,
   λ{x m y} hx=>by
    have:¬(x=t/\m=n):=λ⟨e1,e2⟩=>by subst e1;subst e2;rw[h]at hx;cases hx
    simpa [Env.grown,this]using hx⟩
theorem iZ {t:Nat}{o:bu}(ht:t<=H.length):(ic H t o)[t]? =some o:=by
 unfold ic;split
 ·rename_i h;exact ahd h
 ·have:t=H.length:=by omega
  subst this;simp
theorem j7 {t l:Nat}{o:bu}(ht:t<=H.length) (h:l≠t):(ic H t o)[l]? =H[l]? :=by
 unfold ic;split
 ·exact ag7 (Ne.symm h)
 ·have:t=H.length:=by omega
  subst this;rcases ail l H.length with hl|hl
  ·exact ahb hl
  ·rw[ahu (by simp;omega),ahu hl]
theorem iN {t:Nat}{o:bu}(ht:t<=H.length):(ic H t o).length=if t<H.length then H.length else H.length+1:=by
 unfold ic;split<;>simp
theorem Good.IJ (hg:Good E H w0 w){t n sz b c:Nat}{arr:Array Value}{T:TypeId}(ht:t<=H.length) (eU:∀l,owns E H l b->l=t) (jO:w0.heap.size<=b) (hb:w.heap[b]? =some (.cells arr T (0,0))) (ga:arr.size=c*sz)
  (ME:n<=c) (IK:c<=maxLen) (hS:∀o,n*sz<=o->E.S b o=none) (hG:∀m,n<=m->E.G t m=none):Good (E.grown b arr (n*sz) t n c) (ic H t (.tail n sz)) w0 w:=by
 have hle:E.le (E.grown b arr (n*sz) t n c):=jr (hG n (ag3 _));refine⟨hg.below,?_,?_,?_,?_,hg.mb⟩
 ·intro x o u h;by_cases hx:x=b
  ·subst hx;simp only[Env.grown,if_true]at h
   cases hs:E.S x o with
   |none=>
    rw[hs]at h;simp only[aiw]at h;split at h
    ·rw[gL hb];exact h
    ·cases h
   |some v=>rw[hs]at h;simp at h;subst h;exact hg.snap hs
  ·simp only[Env.grown,hx,if_false]at h;exact hg.snap h
 ·intro l o h;by_cases hl:l=t
  ·subst hl;rw[iZ ht]at h;simp only[ag6]at h;subst h;refine⟨b,c,arr,T,by simp[Env.grown],jO,hb,ga,ME,IK,λo ho=> ?_,λm hm=> ?_⟩
   ·simp only[Env.grown,if_true,hS o ho,aiw];rw[if_neg (by omega)]
   ·simp only[Env.grown];rw[if_neg (by omega)];exact hG m (by omega)
  ·rw[j7 ht hl]at h;refine(hg.obj h).step h hle (λ_ h=>h) (λm=> ?_) (λx o' ho _ hn=> ?_) (λ_ _=>rfl)
   ·simp[Env.grown,hl]
   ·have:x≠b:=λe=>hl (eU l (e▸ho))
    simpa [Env.grown,this]using hn
 ·have key:∀l x,owns (E.grown b arr (n*sz) t n c) (ic H t (.tail n sz)) l x->(l=t/\x=b)∨(l≠t/\owns E H l x):=by
   intro l x h;by_cases hl:l=t
   ·subst hl;unfold owns at h;rw[iZ ht]at h;obtain⟨c',tV⟩:=h;simp[Env.grown]at tV;exact .inl ⟨rfl,tV.1.symm⟩
   ·refine .inr ⟨hl,?_⟩;unfold owns at*;rw[j7 ht hl]at h
    cases ho:H[l]? with
    |none=>rw[ho]at h;exact h
    |some o=>
     rw[ho]at h
     cases o with
     |dead=>exact h
     |cells cs=>exact h
     |map es=>exact h
     |iter m=>exact h
     |mark k=>exact h
     |ez f v=>exact h
     |cN=>exact h
     |rows es pd=>
      obtain⟨y,hy,h⟩:=h;refine⟨y,hy,?_⟩;rcases h with h|⟨i,ss,c',h1,h2⟩
      ·exact .inl h
      ·exact .inr ⟨i,ss,c',h1,by simpa [Env.grown,hl]using h2⟩
     |tail n' mO=>obtain⟨c',tV⟩:=h;exact⟨c',by simpa [Env.grown,hl]using tV⟩
     |cu n'=>obtain⟨c',tV⟩:=h;exact⟨c',by simpa [Env.grown,hl]using tV⟩
  intro l l' x h h';rcases key _ _ h with ⟨h1,h2⟩|⟨h1,h2⟩<;>rcases key _ _ h' with ⟨h3,h4⟩|⟨h3,h4⟩
  ·rw[h1,h3]
  ·subst h2;exact absurd (eU _ h4) h3
  ·subst h4;exact absurd (eU _ h2) h1
  ·exact hg.sep h2 h4
 ·intro l hl;have sZ:H.length<=l/\l≠t:=by
   rw[iN ht]at hl;split at hl<;>omega
  have:=hg.fresh sZ.1;exact⟨this.1,λm=>by simp[Env.grown,sZ.2,this.2 m]⟩
theorem qz {t n sz b c k l x:Nat}{arr:Array Value}(ht:t<=H.length) (h:owns (E.grown b arr k t n c) (ic H t (.tail n sz)) l x):owns E H l x∨x=b:=by
 by_cases hl:l=t
 ·subst hl;refine .inr ?_;unfold owns at h;rw[iZ ht]at h;obtain⟨c',hc⟩:=h;simp[Env.grown]at hc;exact hc.1.symm
 ·refine .inl ?_;unfold owns at h ⊢;rw[j7 ht hl]at h
  cases ho:H[l]? with
  |none=>rw[ho]at h;exact h
  |some q=>
   rw[ho]at h
   cases q with
   |dead=>exact h
   |cells cs=>exact h
   |tail n' mO=>obtain⟨c',hc⟩:=h;exact⟨c',by simpa [Env.grown,hl]using hc⟩
   |cu n'=>obtain⟨c',hc⟩:=h;exact⟨c',by simpa [Env.grown,hl]using hc⟩
   |map es=>exact h
   |iter m=>exact h
   |mark k=>exact h
   |ez f v=>exact h
   |cN=>exact h
   |rows es pd=>
    obtain⟨y,hy,h⟩:=h;refine⟨y,hy,?_⟩;rcases h with h|⟨i,ss,c',h1,h2⟩
    ·exact .inl h
    ·exact .inr ⟨i,ss,c',h1,by simpa [Env.grown,hl]using h2⟩
theorem IL {n0:Nat}{W:Nat->Prop}{t n sz b c k:Nat}{arr:Array Value}(dI:owns E H t b) (ht:t<=H.length) (hW:t<n0->W t) (sx:n0<=H.length) (hG:E.G t n=none):Ext n0 W E H w (E.grown b arr k t n c) (ic H t (.tail n sz)) w:=
 ⟨jr hG,.refl _,by rw[iN ht];split<;>omega,λ{l} hl hw=>j7 ht (λe=>hw (e▸hW (e▸hl))),λ_ _ _=>rfl,λ_=>rfl,λ{x} hx h=>⟨rfl,λl ho=>(qz ht ho).elim (h l) (λe=>h t (e▸dI)),λo=>(by have Au:x≠b:=(λe=>h t (e▸dI));simp[Env.grown,Au])⟩⟩
theorem yp {n0:Nat}{W:Nat->Prop}{t n sz c k:Nat}{arr:Array Value}(g:Good E H w0 w) (ob:Obj) (ht:t<=H.length) (hW:t<n0->W t) (sx:n0<=H.length) (hG:E.G t n=none):Ext n0 W E H w (E.grown w.heap.size arr k t n c) (ic H t (.tail n sz)) (w.alloc ob):=
  ⟨jr hG,⟨by rw[eK];omega,ag3 _⟩,by rw[iN ht];split<;>omega,λ{l} hl hw=>j7 ht (λe=>hw (e▸hW (e▸hl))),λ_ _ ho=>Below.heap_alloc w ob _ (g.fG ho),λ_=>rfl,
   λ{x} hx h=>⟨Below.heap_alloc w ob _ hx,λl ho=>(qz ht ho).elim (h l) (λe=>by omega),λo=>(by have Au:x≠w.heap.size:=(by omega);simp[Env.grown,Au])⟩⟩
theorem Be {t n m sz b c:Nat}{arr:Array Value}{el el2:Nat->List AV}{us vs:List Value}(hG:E.G t (n+m)=none) (IK:c<=maxLen) (ME:n+m<=c)
  (hS:∀o,E.S b o≠none->E.S b o=arr[o]?)
  (hu:us.length=n*sz) (hv:vs.length=m*sz) (kv:∀j,j<(n+m)*sz->arr[j]? =(us++vs)[j]?)
  (h1:∀i,i<n->(el i).length=sz/\∀x,x∈el i->lQ x=true) (k1:∀i,i<n->∀j x,(el i)[j]? =some x->Rel E.data x (us.getD (i*sz+j) undef))
  (h2:∀i,i<m->(el2 i).length=sz/\∀x,x∈el2 i->lQ x=true) (k2:∀i,i<m->∀j x,(el2 i)[j]? =some x->Rel E.data x (vs.getD (i*sz+j) undef)):
  Rel (E.grown b arr ((n+m)*sz) t (n+m) c) (.aY false sz (n+m) (λi=>if i<n then el i else el2 (i-n)) (.tok t)) (.slice (some ⟨b,0,none⟩) (n+m) c):=by
 have hle:E.le (E.grown b arr ((n+m)*sz) t (n+m) c):=jr hG;have hmul:(n+m)*sz=n*sz+m*sz:=aic _ _ _;refine .aY sz (n+m) _ (.tok t) b 0 c (λi j=>(us++vs).getD (i*sz+j) undef) IK ⟨by simp[Env.grown],rfl,ME⟩ ME (λi hi=> ?_) (λi hi x hx=> ?_) (λi hi j x hj=> ?_) (λi hi j x hj=> ?_)
 ·split
  ·exact(h1 i ‹_›).1
  ·exact(h2 (i-n) (by omega)).1
 ·split at hx
  ·exact(h1 i ‹_›).2 x hx
  ·exact(h2 (i-n) (by omega)).2 x hx
 ·have TX:j<sz:=by
   have:=(ag5.1 hj).1;split at this
   ·rw[(h1 i ‹_›).1]at this;exact this
   ·rw[(h2 (i-n) (by omega)).1]at this;exact this
  have cO:i*sz+j<(n+m)*sz:=by
   have:(i+1)*sz<=(n+m)*sz:=ahY _ hi;rw[aic]at this;omega
  have ha:=kv _ cO;have hg:(us++vs)[i*sz+j]? =some ((us++vs).getD (i*sz+j) undef):=by
   have:i*sz+j<(us++vs).length:=by rw[ahB,hu,hv];omega
   rw[ag4,ahc this];rfl
  rw[ahF];simp only[Env.grown,if_true];cases hs:E.S b (i*sz+j)with
  |none=>simp only[aiw,if_pos cO];rw[ha,hg]
  |some u=>
   have:=hS (i*sz+j) (by rw[hs];simp);rw[hs,ha,hg]at this;simp only[Option.some_or];exact this
 ·refine Rel.mono ?_ hle.data;split at hj
  ·have TX:j<sz:=by rw[←(h1 i ‹_›).1];exact(ag5.1 hj).1
   have cO:i*sz+j<us.length:=by
    have:(i+1)*sz<=n*sz:=ahY _ ‹_›;rw[aic]at this;omega
   rw[ag4,ahb cO,←ag4];exact k1 i ‹_› j x hj
  ·have mP:i-n<m:=by omega
   have XA:us.length<=i*sz+j:=by
    have:n*sz<=i*sz:=ahY _ (by omega);omega
   rw[ag4,ahi XA,←ag4];have e:i*sz+j-us.length=(i-n)*sz+j:=by
    rw[hu,Nat.sub_mul];have:n*sz<=i*sz:=ahY _ (by omega);omega
   rw[e];exact k2 _ mP j x hj
end
end Go.Proofs.YtiipaliigpkfhaaGreat.Ab
