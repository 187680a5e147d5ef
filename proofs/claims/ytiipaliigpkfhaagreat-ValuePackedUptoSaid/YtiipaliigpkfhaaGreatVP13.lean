/- Lemmas 13. -/
import Derived.Test.YtiipaliigpkfhaaGreatVP7
import Derived.Test.YtiipaliigpkfhaaGreatVP9
import Derived.Test.YtiipaliigpkfhaaGreatVP10
set_option maxRecDepth 100000
namespace Go.Proofs.YtiipaliigpkfhaaGreat.Ab
open Go Go.RowKit Go.Proofs Go.Proofs.Tryz
theorem ah {α:Type}{b:Bool}{x y z:α}(h:z=bif b then x else y) (hb:b=true):z=x:=by subst hb;exact h
def pI {α:Type}(b:Bool) (x:α):α:=bif b then x else x
theorem abk {α:Type}{b:Bool}{x z:α}(h:z=pI b x):z=x:=by cases b<;>exact h
theorem lK {α:Type}{b:Bool}{x y z:α}(h:z=bif b then x else y):z=x∨z=y:=by cases b with
 |true=>exact .inl h
 |false=>exact .inr h
theorem bO {α:Type}{b:Bool}{x y z:α}(h:z=bif b then x else y) (hb:b=false):z=y:=by subst hb;exact h
def ox (n:Int):AV:= .sc (.int .u64 n)
def u8v (n:Int):AV:= .sc (.int .u8 n)
theorem bl {p:Prop} [Decidable p] (h:p):decide p=true:=ag2 h
theorem da {p:Prop} [Decidable p] (h:¬p):decide p=false:=ag8 h
theorem N9 (k:Int):(eb prog (cK []) aN [] 3 283 [i64 k] []).via (ch)=bif (bif (k==5)then true else(bif (k==17)then true else(k==15)))then some ((.bq [(.sc (.int .i64 32)),(.sc (.bool true))]))else bif (bif (k==3)then true else(bif (k==18)then true else(k==16)))then some ((.bq [(.sc (.int .i64 64)),(.sc (.bool true))]))else bif (bif (k==13)then true else(k==7))then some ((.bq [(.sc (.int .i64 32)),(.sc (.bool false))]))else bif (bif (k==4)then true else(k==6))then some ((.bq [(.sc (.int .i64 64)),(.sc (.bool false))]))else some ((.bq [(.sc (.int .i64 0)),(.sc (.bool false))])):=by kernel_rfl
theorem J5 (k:Int):(eb prog (cK []) aN [] 3 300 [u8v k] []).via (ch)=bif (bif (decide (k≥48))then(decide (k<=57))else false)then some ((i64 (IntKind.i64.wrap (IntKind.u8.wrap (k-(48:Int))))))else bif (bif (decide (k≥97))then(decide (k<=102))else false)then some ((i64 (IntKind.i64.wrap (IntKind.i64.wrap (IntKind.u8.wrap (k-(97:Int)))+(10:Int)))))else bif (bif (decide (k≥65))then(decide (k<=70))else false)then some ((i64 (IntKind.i64.wrap (IntKind.i64.wrap (IntKind.u8.wrap (k-(65:Int)))+(10:Int)))))else some ((.sc (.int .i64 99))):=by kernel_rfl
def VJ (x:Int) (s:ByteArray):List AV:=bz 20 [(0,ox x),(3,aS s)]
def qu (b:Int) (s:ByteArray) (n:Int) (i:Int):List AV:=bz 72 [(2,ox 0),(3,cY false),(4,ox b),(5,aS s),(6,ox n),(7,i64 i)]
theorem R0 (x:Int) (s t:ByteArray):(db prog (cK []) aN [] 3 (ae f298 2) (VJ x s) []).via (cz [0,3] [] 0)=bif (bif (decide (x>0))then true else(s.toList==aq.toList))then bif (decide ((Utf8.encode (IntKind.i32.wrap (IntKind.u64.wrap ((48:Int)+x.tmod (10:Int))))).size+s.size<=(4611686018427387904:Nat)))then some (⟨.normal,(bz 20 [(0,(.sc (.int .u64 (IntKind.u64.wrap (x.tdiv (10:Int)))))),(3,(aS (Utf8.encode (IntKind.i32.wrap (IntKind.u64.wrap ((48:Int)+x.tmod (10:Int))))++s)))]),[],[],true⟩)else none else some (⟨(.exit 0),(bz 20 [(0,(.sc (.int .u64 (x)))),(3,(aS (s)))]),[],[],true⟩):=by kernel_rfl
theorem R1 (x y:Int) (s:ByteArray):(eb prog (cK []) (cJ prog [⟨2,[0,3],.exit 0,VJ y s,[],[]⟩] aN) [] 3 298 [ox x] []).via (ch)=bif (cj prog (ae f298 2) (bz 20 [(0,(.sc (.int .u64 (x)))),(3,(.sc (.string aq)))]) [] (.exit 0) (bz 20 [(0,(.sc (.int .u64 (y)))),(3,(aS (s)))]) [] [])then some ((aS (s)))else none:=by kernel_rfl
theorem B3 (s:ByteArray) (n d:Int) (i:Nat):(db prog (cK []) (told prog [] [⟨51,0,i64 d⟩]) [] 3 (ae f297 8) (qu 10 s n i) []).via (cz [2,3,4,5,6,7] [] 0)=bif (decide ((i:Int)<(s.size:Int)))then bif (decide (0<=(i:Int)/\(i:Int)<(s.size:Int)))then bif (aD prog 300 [(.sc (.int .u8 (cr s i)))] [] (i64 (d)))then bif (bif (decide (IntKind.u64.wrap d≥10))then true else(decide (n>IntKind.u64.wrap ((IntKind.u64.wrap ((18446744073709551615:Int)-IntKind.u64.wrap d)).tdiv (10:Int)))))then some (⟨.ret,(bz 72 [(2,(.sc (.int .u64 0))),(3,(.sc (.bool false))),(4,(.sc (.int .u64 10))),(5,(aS (s))),(6,(.sc (.int .u64 (n)))),(7,(i64 ((i:Int))))]),[],[],true⟩)else some (⟨.normal,(bz 72 [(2,(.sc (.int .u64 0))),(3,(.sc (.bool false))),(4,(.sc (.int .u64 10))),(5,(aS (s))),(6,(.sc (.int .u64 (IntKind.u64.wrap (IntKind.u64.wrap (n*(10:Int))+IntKind.u64.wrap d))))),(7,(i64 (IntKind.i64.wrap ((i:Int)+(1:Int)))))]),[],[],true⟩)else none else none else some (⟨(.exit 1),(bz 72 [(2,(.sc (.int .u64 0))),(3,(.sc (.bool false))),(4,(.sc (.int .u64 10))),(5,(aS (s))),(6,(.sc (.int .u64 (n)))),(7,(i64 ((i:Int))))]),[],[],true⟩):=by kernel_rfl
theorem B4 (s:ByteArray) (n d:Int) (i:Nat):(db prog (cK []) (told prog [] [⟨51,0,i64 d⟩]) [] 3 (ae f297 8) (qu 16 s n i) []).via (cz [2,3,4,5,6,7] [] 0)=bif (decide ((i:Int)<(s.size:Int)))then bif (decide (0<=(i:Int)/\(i:Int)<(s.size:Int)))then bif (aD prog 300 [(.sc (.int .u8 (cr s i)))] [] (i64 (d)))then bif (bif (decide (IntKind.u64.wrap d≥16))then true else(decide (n>IntKind.u64.wrap ((IntKind.u64.wrap ((18446744073709551615:Int)-IntKind.u64.wrap d)).tdiv (16:Int)))))then some (⟨.ret,(bz 72 [(2,(.sc (.int .u64 0))),(3,(.sc (.bool false))),(4,(.sc (.int .u64 16))),(5,(aS (s))),(6,(.sc (.int .u64 (n)))),(7,(i64 ((i:Int))))]),[],[],true⟩)else some (⟨.normal,(bz 72 [(2,(.sc (.int .u64 0))),(3,(.sc (.bool false))),(4,(.sc (.int .u64 16))),(5,(aS (s))),(6,(.sc (.int .u64 (IntKind.u64.wrap (IntKind.u64.wrap (n*(16:Int))+IntKind.u64.wrap d))))),(7,(i64 (IntKind.i64.wrap ((i:Int)+(1:Int)))))]),[],[],true⟩)else none else none else some (⟨(.exit 1),(bz 72 [(2,(.sc (.int .u64 0))),(3,(.sc (.bool false))),(4,(.sc (.int .u64 16))),(5,(aS (s))),(6,(.sc (.int .u64 (n)))),(7,(i64 ((i:Int))))]),[],[],true⟩):=by kernel_rfl
theorem B5 (s:ByteArray) (n d:Int) (i:Nat):(db prog (cK []) (told prog [] [⟨51,0,i64 d⟩]) [] 3 (ae f297 8) (qu 8 s n i) []).via (cz [2,3,4,5,6,7] [] 0)=bif (decide ((i:Int)<(s.size:Int)))then bif (decide (0<=(i:Int)/\(i:Int)<(s.size:Int)))then bif (aD prog 300 [(.sc (.int .u8 (cr s i)))] [] (i64 (d)))then bif (bif (decide (IntKind.u64.wrap d≥8))then true else(decide (n>IntKind.u64.wrap ((IntKind.u64.wrap ((18446744073709551615:Int)-IntKind.u64.wrap d)).tdiv (8:Int)))))then some (⟨.ret,(bz 72 [(2,(.sc (.int .u64 0))),(3,(.sc (.bool false))),(4,(.sc (.int .u64 8))),(5,(aS (s))),(6,(.sc (.int .u64 (n)))),(7,(i64 ((i:Int))))]),[],[],true⟩)else some (⟨.normal,(bz 72 [(2,(.sc (.int .u64 0))),(3,(.sc (.bool false))),(4,(.sc (.int .u64 8))),(5,(aS (s))),(6,(.sc (.int .u64 (IntKind.u64.wrap (IntKind.u64.wrap (n*(8:Int))+IntKind.u64.wrap d))))),(7,(i64 (IntKind.i64.wrap ((i:Int)+(1:Int)))))]),[],[],true⟩)else none else none else some (⟨(.exit 1),(bz 72 [(2,(.sc (.int .u64 0))),(3,(.sc (.bool false))),(4,(.sc (.int .u64 8))),(5,(aS (s))),(6,(.sc (.int .u64 (n)))),(7,(i64 ((i:Int))))]),[],[],true⟩):=by kernel_rfl
theorem zS (s s1:ByteArray) (b n i:Int):(eb prog (cK []) (cJ prog [⟨8,[2,3,4,5,6,7],.exit 1,qu b s1 n i,[],[]⟩] aN) [10,31] 3 297 [aS s] []).via (ch)=bif (bif (decide ((s.size:Int)>2))then(decide ((0:Int)<=0/\0<(s.size:Int)))else true)then bif (bif (bif (decide ((s.size:Int)>2))then(cr s (Int.toNat (0:Int))==48)else false)then(decide ((0:Int)<=1/\1<(s.size:Int)))else true)then bif (bif (bif (decide ((s.size:Int)>2))then(cr s (Int.toNat (0:Int))==48)else false)then(bif (cr s (Int.toNat (1:Int))==120)then true else(decide ((0:Int)<=1/\1<(s.size:Int))))else true)then bif (bif (bif (decide ((s.size:Int)>2))then(cr s (Int.toNat (0:Int))==48)else false)then(bif (cr s (Int.toNat (1:Int))==120)then true else(cr s (Int.toNat (1:Int))==88))else false)then bif (decide (0<=(some (2:Int)).getD (0:Int)/\(some (2:Int)).getD (0:Int)<=none.getD (s.size:Int)/\none.getD (s.size:Int)<=(s.size:Int)))then bif (cj prog (ae f297 8) (bz 72 [(2,(.sc (.int .u64 0))),(3,(.sc (.bool false))),(4,(.sc (.int .u64 16))),(5,(aS (s.extract ((some (2:Int)).getD (0:Int)).toNat (none.getD (s.size:Int)).toNat))),(6,(.sc (.int .u64 0))),(7,(.sc (.int .i64 0)))]) [] (.exit 1) (bz 72 [(2,(.sc (.int .u64 0))),(3,(.sc (.bool false))),(4,(.sc (.int .u64 (b)))),(5,(aS (s1))),(6,(.sc (.int .u64 (n)))),(7,(i64 (i)))]) [] [])then some ((.bq [(.sc (.int .u64 (n))),(cY (!s1.toList==aq.toList))]))else none else none else bif (bif (decide ((s.size:Int)>1))then(decide ((0:Int)<=0/\0<(s.size:Int)))else true)then bif (bif (decide ((s.size:Int)>1))then(cr s (Int.toNat (0:Int))==48)else false)then bif (decide (0<=(some (1:Int)).getD (0:Int)/\(some (1:Int)).getD (0:Int)<=none.getD (s.size:Int)/\none.getD (s.size:Int)<=(s.size:Int)))then bif (cj prog (ae f297 8) (bz 72 [(2,(.sc (.int .u64 0))),(3,(.sc (.bool false))),(4,(.sc (.int .u64 8))),(5,(aS (s.extract ((some (1:Int)).getD (0:Int)).toNat (none.getD (s.size:Int)).toNat))),(6,(.sc (.int .u64 0))),(7,(.sc (.int .i64 0)))]) [] (.exit 1) (bz 72 [(2,(.sc (.int .u64 0))),(3,(.sc (.bool false))),(4,(.sc (.int .u64 (b)))),(5,(aS (s1))),(6,(.sc (.int .u64 (n)))),(7,(i64 (i)))]) [] [])then some ((.bq [(.sc (.int .u64 (n))),(cY (!s1.toList==aq.toList))]))else none else none else bif (cj prog (ae f297 8) (bz 72 [(2,(.sc (.int .u64 0))),(3,(.sc (.bool false))),(4,(.sc (.int .u64 10))),(5,(aS (s))),(6,(.sc (.int .u64 0))),(7,(.sc (.int .i64 0)))]) [] (.exit 1) (bz 72 [(2,(.sc (.int .u64 0))),(3,(.sc (.bool false))),(4,(.sc (.int .u64 (b)))),(5,(aS (s1))),(6,(.sc (.int .u64 (n)))),(7,(i64 (i)))]) [] [])then some ((.bq [(.sc (.int .u64 (n))),(cY (!s1.toList==aq.toList))]))else none else none else none else none else none:=by kernel_rfl
theorem vX (s s1:ByteArray) (b n i:Int):(eb prog (cK []) (cJ prog [⟨8,[2,3,4,5,6,7],.ret,qu b s1 n i,[],[]⟩] aN) [10,31] 3 297 [aS s] []).via (ch)=bif (bif (decide ((s.size:Int)>2))then(decide ((0:Int)<=0/\0<(s.size:Int)))else true)then bif (bif (bif (decide ((s.size:Int)>2))then(cr s (Int.toNat (0:Int))==48)else false)then(decide ((0:Int)<=1/\1<(s.size:Int)))else true)then bif (bif (bif (decide ((s.size:Int)>2))then(cr s (Int.toNat (0:Int))==48)else false)then(bif (cr s (Int.toNat (1:Int))==120)then true else(decide ((0:Int)<=1/\1<(s.size:Int))))else true)then bif (bif (bif (decide ((s.size:Int)>2))then(cr s (Int.toNat (0:Int))==48)else false)then(bif (cr s (Int.toNat (1:Int))==120)then true else(cr s (Int.toNat (1:Int))==88))else false)then bif (decide (0<=(some (2:Int)).getD (0:Int)/\(some (2:Int)).getD (0:Int)<=none.getD (s.size:Int)/\none.getD (s.size:Int)<=(s.size:Int)))then bif (cj prog (ae f297 8) (bz 72 [(2,(.sc (.int .u64 0))),(3,(.sc (.bool false))),(4,(.sc (.int .u64 16))),(5,(aS (s.extract ((some (2:Int)).getD (0:Int)).toNat (none.getD (s.size:Int)).toNat))),(6,(.sc (.int .u64 0))),(7,(.sc (.int .i64 0)))]) [] .ret (bz 72 [(2,(.sc (.int .u64 0))),(3,(.sc (.bool false))),(4,(.sc (.int .u64 (b)))),(5,(aS (s1))),(6,(.sc (.int .u64 (n)))),(7,(i64 (i)))]) [] [])then some ((.bq [(.sc (.int .u64 0)),(.sc (.bool false))]))else none else none else bif (bif (decide ((s.size:Int)>1))then(decide ((0:Int)<=0/\0<(s.size:Int)))else true)then bif (bif (decide ((s.size:Int)>1))then(cr s (Int.toNat (0:Int))==48)else false)then bif (decide (0<=(some (1:Int)).getD (0:Int)/\(some (1:Int)).getD (0:Int)<=none.getD (s.size:Int)/\none.getD (s.size:Int)<=(s.size:Int)))then bif (cj prog (ae f297 8) (bz 72 [(2,(.sc (.int .u64 0))),(3,(.sc (.bool false))),(4,(.sc (.int .u64 8))),(5,(aS (s.extract ((some (1:Int)).getD (0:Int)).toNat (none.getD (s.size:Int)).toNat))),(6,(.sc (.int .u64 0))),(7,(.sc (.int .i64 0)))]) [] .ret (bz 72 [(2,(.sc (.int .u64 0))),(3,(.sc (.bool false))),(4,(.sc (.int .u64 (b)))),(5,(aS (s1))),(6,(.sc (.int .u64 (n)))),(7,(i64 (i)))]) [] [])then some ((.bq [(.sc (.int .u64 0)),(.sc (.bool false))]))else none else none else bif (cj prog (ae f297 8) (bz 72 [(2,(.sc (.int .u64 0))),(3,(.sc (.bool false))),(4,(.sc (.int .u64 10))),(5,(aS (s))),(6,(.sc (.int .u64 0))),(7,(.sc (.int .i64 0)))]) [] .ret (bz 72 [(2,(.sc (.int .u64 0))),(3,(.sc (.bool false))),(4,(.sc (.int .u64 (b)))),(5,(aS (s1))),(6,(.sc (.int .u64 (n)))),(7,(i64 (i)))]) [] [])then some ((.bq [(.sc (.int .u64 0)),(.sc (.bool false))]))else none else none else none else none else none:=by kernel_rfl
theorem R2 (s t:ByteArray) (n:Int) (b:Bool):(eb prog (cK []) (told prog [] [⟨21,0,.bq [ox n,cY b]⟩,⟨28,0,aS t⟩]) [] 3 292 [aS s] []).via (ch)=bif (bif (!s.toList==aq.toList)then(decide ((0:Int)<=0/\0<(s.size:Int)))else true)then bif (bif (bif (!s.toList==aq.toList)then(cr s (Int.toNat (0:Int))==45)else false)then(decide (0<=(some (1:Int)).getD (0:Int)/\(some (1:Int)).getD (0:Int)<=none.getD (s.size:Int)/\none.getD (s.size:Int)<=(s.size:Int)))else true)then bif (aD prog 297 [(aS (bif bif !s.toList==aq.toList then cr s (Int.toNat (0:Int))==45 else false then s.extract ((some (1:Int)).getD (0:Int)).toNat (none.getD (s.size:Int)).toNat else s))] [] (.bq [(.sc (.int .u64 (n))),(cY (b))]))then bif (bif (!b)then true else(aD prog 298 [(.sc (.int .u64 (n)))] [] (aS (t))))then bif (bif (bif (!b)then true else(!t.toList==(bif bif !s.toList==aq.toList then cr s (Int.toNat (0:Int))==45 else false then s.extract ((some (1:Int)).getD (0:Int)).toNat (none.getD (s.size:Int)).toNat else s).toList))then true else(bif (bif (bif (!s.toList==aq.toList)then(cr s (Int.toNat (0:Int))==45)else false)then true else false)then(bif (n==0)then true else(decide (n>9223372036854775808)))else false))then some ((.bq [(.sc (.int .u64 0)),(.sc (.bool false)),(.sc (.bool false))]))else some ((.bq [(.sc (.int .u64 (n))),(cY (bif (bif (!s.toList==aq.toList)then(cr s (Int.toNat (0:Int))==45)else false)then true else false)),(.sc (.bool true))]))else none else none else none else none:=by kernel_rfl
theorem Oa (k n:Int) (s:ByteArray) (b g m:Bool):(eb prog (cK []) (told prog [] [⟨14,0,.bq [i64 0,cY g]⟩,⟨19,0,.bq [ox n,cY m,cY b]⟩]) [] 3 284 [i64 k,aS s] []).via (ch)=bif (aD prog 283 [(i64 (k))] [] (.bq [(.sc (.int .i64 0)),(cY (g))]))then bif (aD prog 292 [(aS (s))] [] (.bq [(.sc (.int .u64 (n))),(cY (m)),(cY (b))]))then some ((.bq [(.sc (.int .u64 0)),(.sc (.bool false))]))else none else none:=by kernel_rfl
theorem Ob (k n:Int) (s:ByteArray) (b g m:Bool):(eb prog (cK []) (told prog [] [⟨14,0,.bq [i64 32,cY g]⟩,⟨19,0,.bq [ox n,cY m,cY b]⟩]) [] 3 284 [i64 k,aS s] []).via (ch)=bif (aD prog 283 [(i64 (k))] [] (.bq [(.sc (.int .i64 32)),(cY (g))]))then bif (aD prog 292 [(aS (s))] [] (.bq [(.sc (.int .u64 (n))),(cY (m)),(cY (b))]))then bif (bif (bif false then true else(!b))then true else(bif (m)then(!g)else false))then some ((.bq [(.sc (.int .u64 0)),(.sc (.bool false))]))else bif (m)then some ((.bq [(.sc (.int .u64 (IntKind.u64.wrap ((0:Int)-n)))),(cY (decide (n<=IntKind.u64.wrap ((bif !g then IntKind.u64.wrap (IntKind.u64.wrap ((2:Int)*IntKind.u64.wrap (IntKind.u64.wrap ((1:Int)*(2:Int) ^ min (IntKind.u64.wrap (IntKind.i64.wrap ((32:Int)-(1:Int)))).toNat IntKind.u64.bits)-(1:Int)))+(1:Int))else IntKind.u64.wrap (IntKind.u64.wrap ((1:Int)*(2:Int) ^ min (IntKind.u64.wrap (IntKind.i64.wrap ((32:Int)-(1:Int)))).toNat IntKind.u64.bits)-(1:Int)))+(1:Int)))))]))else some ((.bq [(.sc (.int .u64 (n))),(cY (decide (n<=bif !g then IntKind.u64.wrap (IntKind.u64.wrap ((2:Int)*IntKind.u64.wrap (IntKind.u64.wrap ((1:Int)*(2:Int) ^ min (IntKind.u64.wrap (IntKind.i64.wrap ((32:Int)-(1:Int)))).toNat IntKind.u64.bits)-(1:Int)))+(1:Int))else IntKind.u64.wrap (IntKind.u64.wrap ((1:Int)*(2:Int) ^ min (IntKind.u64.wrap (IntKind.i64.wrap ((32:Int)-(1:Int)))).toNat IntKind.u64.bits)-(1:Int)))))]))else none else none:=by kernel_rfl
theorem Oc (k n:Int) (s:ByteArray) (b g m:Bool):(eb prog (cK []) (told prog [] [⟨14,0,.bq [i64 64,cY g]⟩,⟨19,0,.bq [ox n,cY m,cY b]⟩]) [] 3 284 [i64 k,aS s] []).via (ch)=bif (aD prog 283 [(i64 (k))] [] (.bq [(.sc (.int .i64 64)),(cY (g))]))then bif (aD prog 292 [(aS (s))] [] (.bq [(.sc (.int .u64 (n))),(cY (m)),(cY (b))]))then bif (bif (bif false then true else(!b))then true else(bif (m)then(!g)else false))then some ((.bq [(.sc (.int .u64 0)),(.sc (.bool false))]))else bif (m)then some ((.bq [(.sc (.int .u64 (IntKind.u64.wrap ((0:Int)-n)))),(cY (decide (n<=IntKind.u64.wrap ((bif !g then IntKind.u64.wrap (IntKind.u64.wrap ((2:Int)*IntKind.u64.wrap (IntKind.u64.wrap ((1:Int)*(2:Int) ^ min (IntKind.u64.wrap (IntKind.i64.wrap ((64:Int)-(1:Int)))).toNat IntKind.u64.bits)-(1:Int)))+(1:Int))else IntKind.u64.wrap (IntKind.u64.wrap ((1:Int)*(2:Int) ^ min (IntKind.u64.wrap (IntKind.i64.wrap ((64:Int)-(1:Int)))).toNat IntKind.u64.bits)-(1:Int)))+(1:Int)))))]))else some ((.bq [(.sc (.int .u64 (n))),(cY (decide (n<=bif !g then IntKind.u64.wrap (IntKind.u64.wrap ((2:Int)*IntKind.u64.wrap (IntKind.u64.wrap ((1:Int)*(2:Int) ^ min (IntKind.u64.wrap (IntKind.i64.wrap ((64:Int)-(1:Int)))).toNat IntKind.u64.bits)-(1:Int)))+(1:Int))else IntKind.u64.wrap (IntKind.u64.wrap ((1:Int)*(2:Int) ^ min (IntKind.u64.wrap (IntKind.i64.wrap ((64:Int)-(1:Int)))).toNat IntKind.u64.bits)-(1:Int)))))]))else none else none:=by kernel_rfl
theorem R3 (k n a:Int) (s:ByteArray) (b g c:Bool):(eb prog (cK []) (told prog [] [⟨11,0,.bq [i64 a,cY g]⟩,⟨17,0,.bq [ox n,cY b]⟩,⟨44,0,cY c⟩]) [] 3 258 [i64 k,aS s] []).via (ch)=bif (aD prog 283 [(i64 (k))] [] (.bq [(i64 (a)),(cY (g))]))then bif (aD prog 284 [(i64 (k)),(aS (s))] [] (.bq [(.sc (.int .u64 (n))),(cY (b))]))then bif (decide (a>0))then some ((cY (b)))else bif (k==8)then some ((cY (bif (s.toList==(⟨#[(116:UInt8),(114:UInt8),(117:UInt8),(101:UInt8)]⟩:ByteArray).toList)then true else(s.toList==(⟨#[(102:UInt8),(97:UInt8),(108:UInt8),(115:UInt8),(101:UInt8)]⟩:ByteArray).toList))))else bif (bif (k==9)then true else(k==12))then some ((.sc (.bool true)))else bif (bif (k==14)then(aD prog 187 [(aS (s))] [] (cY (c)))else true)then some ((cY (bif (k==14)then(c)else false)))else none else none else none:=by kernel_rfl
theorem R4 (n:Int) (b:Bool):LF (.bq [ox n,cY b]):= .bq _ (ao (.sc _) (ao (.sc _) bC))
theorem u6 {x:AV}(h:LF x):∀a∈[x],LF a:=ao h bC
theorem abl {x y:AV}(h:LF x) (k:LF y):∀a∈[x,y],LF a:=ao h (ao k bC)
theorem fu {g:FuncId}{args:List AV}{lo:bX}{nj:List Nat}{ks:List (FuncId×Kd)}{x:AV}(hl:bA prog lo) (h:(eb prog (cK ks) lo nj 3 g args []).via ch=some x) (hx:LF x) (ha:∀a∈args,LF a) (H:aa):bZ prog g args x H H []:=
 bG mixed (au _) hl h rfl (.refl _) hx ha H
theorem zT (k:Int):∃(a:Int) (b:Bool),(a=0∨a=32∨a=64)/\∀H,bZ prog 283 [i64 k] (.bq [i64 a,cY b]) H H []:=by
 have ht:=N9 k;have fin:∀(a:Int) (b:Bool),(a=0∨a=32∨a=64)->(eb prog (cK []) aN [] 3 283 [i64 k] []).via ch=some (.bq [i64 a,cY b])->∃(a:Int) (b:Bool),(a=0∨a=32∨a=64)/\∀H,bZ prog 283 [i64 k] (.bq [i64 a,cY b]) H H []:=
  λa b hab h=>⟨a,b,hab,λH=>fu ab h (.bq _ (ao (.sc _) (ao (.sc _) bC))) (u6 (.sc _)) H⟩
 generalize (bif (k==(5:Int))then true else(bif (k==(17:Int))then true else(k==(15:Int))))=c1 at ht;generalize (bif (k==(3:Int))then true else(bif (k==(18:Int))then true else(k==(16:Int))))=c2 at ht;generalize (bif (k==(13:Int))then true else(k==(7:Int)))=c3 at ht;generalize (bif (k==(4:Int))then true else(k==(6:Int)))=c4 at ht;cases c1
 ·cases c2
  ·cases c3
   ·cases c4
    ·exact fin 0 false (.inl rfl) ht
    ·exact fin 64 false (.inr (.inr rfl)) ht
   ·exact fin 32 false (.inr (.inl rfl)) ht
  ·exact fin 64 true (.inr (.inr rfl)) ht
 ·exact fin 32 true (.inr (.inl rfl)) ht
theorem rq (k:Int):∃d:Int,∀H,bZ prog 300 [u8v k] (i64 d) H H []:=by
 have ht:=J5 k;have fin:∀(a:Int),(eb prog (cK []) aN [] 3 300 [u8v k] []).via ch=some (i64 a)->∃(a:Int),∀H,bZ prog 300 [u8v k] (i64 a) H H []:=
  λa h=>⟨a,λH=>fu ab h (.sc _) (u6 (.sc _)) H⟩
 generalize (bif (decide (k≥(48:Int)))then(decide (k<=(57:Int)))else false)=c1 at ht;generalize (bif (decide (k≥(97:Int)))then(decide (k<=(102:Int)))else false)=c2 at ht;generalize (bif (decide (k≥(65:Int)))then(decide (k<=(70:Int)))else false)=c3 at ht;cases c1
 ·cases c2
  ·cases c3
   ·exact fin _ ht
   ·exact fin _ ht
  ·exact fin _ ht
 ·exact fin _ ht
theorem Ha (r:Int):0<(Utf8.encode r).size/\(Utf8.encode r).size<=4:=by
 unfold Utf8.encode;simp only;generalize (if Utf8.valid r=true then r.toNat else Utf8.runeError)=c;split
 ·exact⟨by show 0<1;omega,by show 1<=4;omega⟩
 ·split
  ·exact⟨by show 0<2;omega,by show 2<=4;omega⟩
  ·split
   ·exact⟨by show 0<3;omega,by show 3<=4;omega⟩
   ·exact⟨by show 0<4;omega,by show 4<=4;omega⟩
theorem D4 (x:Int) (h0:0<=x) (h1:x<18446744073709551616):∃t:ByteArray,∀H,bZ prog 298 [ox x] (aS t) H H []:=by
 have hl:=iE (P:=prog) (c:=ae f298 2)
  (λm T H=>H=[]/\∃(y:Int) (s:ByteArray),0<=y/\y<18446744073709551616/\(∃k,k<=64/\y.toNat<2 ^ (64-k)/\s.size<=4*k+4)/\m=y.toNat+(bif qU s then 1 else 0)/\T=VJ y s)
  (λx T H=>x= .exit 0/\H=[]/\∃(y:Int) (s:ByteArray),T=VJ y s) 0 (by
  rintro m T H ⟨rfl,y,s,hy0,Zw,⟨k,hk,hyk,hs⟩,rfl,rfl⟩;have hb:=R0 y s s;have hE:=Ha (IntKind.i32.wrap (IntKind.u64.wrap ((48:Int)+y.tmod (10:Int))));cases hc:(bif (decide (y>(0:Int)))then true else(s.toList==aq.toList))with
  |false=>
   have hb:=bO hb hc;exact⟨_,_,_,_,ai mixed (au _) ab hb rfl (ag3 _) (by simp),λ_ _=>ag9 _,.inr ⟨by simp,rfl,rfl,y,s,rfl⟩⟩
  |true=>
   have ga:s.size+4<=4611686018427387904:=by omega
   have hb:=ah (ah hb hc) (bl (by omega));have hdiv:y.tdiv 10=y / 10:=Int.tdiv_eq_ediv_of_nonneg hy0;have hw:IntKind.u64.wrap (y.tdiv 10)=y / 10:=by rw[hdiv,wu (by omega) (by omega)]
   rw[hw]at hb;have gX:qU (Utf8.encode (IntKind.i32.wrap (IntKind.u64.wrap ((48:Int)+y.tmod (10:Int))))++s)=false:=by
    rw[jx,ByteArray.size_append];omega
   refine⟨_,_,_,_,ai mixed (au _) ab hb rfl (ag3 _) (by simp),λ_ _=>ag9 _,.inl ⟨rfl,_,?_,rfl,y / 10,_,by omega,by omega,?_,rfl,rfl⟩⟩
   ·rw[gX];by_cases h:y>0
    ·simp only[cond_false];omega
    ·rw[da h]at hc;have:qU s=true:=hc;rw[this];simp only[cond_false,cond_true];omega
   ·by_cases h:y>0
    ·have nz:k≠64:=λe=>by
      subst e;have:(2:Nat) ^ (64-64)=1:=rfl;omega
     refine⟨k+1,by omega,?_,by rw[ByteArray.size_append];omega⟩;have e:64-k=(64-(k+1))+1:=by omega
     rw[e,Nat.pow_succ]at hyk;omega
    ·rw[da h]at hc;have hE2:qU s=true:=hc;have:s.size=0:=by
      apply ahW;intro gX;have:=jx.2 (by omega:0<s.size);rw[this]at hE2;cases hE2
     have hz:(y / 10).toNat=0:=by omega
     exact⟨k,hk,by rw[hz];exact Nat.pow_pos (by omega),by rw[ByteArray.size_append];omega⟩)
 obtain⟨e,T',H',W,dC,_,rfl,rfl,y,s,rfl⟩:=hl _ _ _ ⟨rfl,x,aq,h0,h1,⟨0,by omega,by have:(2:Nat) ^ (64-0)=18446744073709551616:=rfl;omega,by have:aq.size=0:=rfl;omega⟩,rfl,rfl⟩;have dC:=dC.wr (Wr':=[]) (λl _ hl=>absurd hl (ahg _));have hb:=ah (R1 x y s) (bc dC);exact⟨s,λH=>fu (ba ab) hb (.sc _) (u6 (.sc _)) H⟩
structure ya (b:Int) (s:ByteArray):Prop where
 next:∀(n:Int) (i:Nat),0<=n->n<18446744073709551616->i<s.size->an prog (ae f297 8) (qu b s n i) [] .ret (qu b s n i) [] []∨∃m:Int,(0<=m/\m<18446744073709551616)/\an prog (ae f297 8) (qu b s n i) [] .normal (qu b s m ((i+1:Nat):Int)) [] []
 out:∀(n:Int),an prog (ae f297 8) (qu b s n s.size) [] (.exit 1) (qu b s n s.size) [] []
theorem R5 (s:ByteArray) (hs:s.size<=lim):ya 10 s:=by
 refine⟨λn i h0 h1 hi=> ?_,λn=> ?_⟩
 ·obtain⟨d,hd⟩:=rq (cr s i);have hb:=ah (ah (ah (B3 s n d i) (bl (by omega))) (bl (by omega))) (ak (hd []));rw[wi (x:=(i:Int)+1) (by omega) (by unfold lim at hs;omega)]at hb;generalize (bif _ then true else _)=c at hb
  cases c with
  |true=>exact .inl (ai mixed (au _) aF hb rfl (ag3 _) (by simp))
  |false=>exact .inr ⟨_,by rw[kG];omega,ai mixed (au _) aF hb rfl (ag3 _) (by simp)⟩
 ·have hb:=bO (B3 s n 0 s.size) (da (by omega));exact ai mixed (au _) aF hb rfl (ag3 _) (by simp)
theorem R6 (s:ByteArray) (hs:s.size<=lim):ya 16 s:=by
 refine⟨λn i h0 h1 hi=> ?_,λn=> ?_⟩
 ·obtain⟨d,hd⟩:=rq (cr s i);have hb:=ah (ah (ah (B4 s n d i) (bl (by omega))) (bl (by omega))) (ak (hd []));rw[wi (x:=(i:Int)+1) (by omega) (by unfold lim at hs;omega)]at hb;generalize (bif _ then true else _)=c at hb
  cases c with
  |true=>exact .inl (ai mixed (au _) aF hb rfl (ag3 _) (by simp))
  |false=>exact .inr ⟨_,by rw[kG];omega,ai mixed (au _) aF hb rfl (ag3 _) (by simp)⟩
 ·have hb:=bO (B4 s n 0 s.size) (da (by omega));exact ai mixed (au _) aF hb rfl (ag3 _) (by simp)
theorem R7 (s:ByteArray) (hs:s.size<=lim):ya 8 s:=by
 refine⟨λn i h0 h1 hi=> ?_,λn=> ?_⟩
 ·obtain⟨d,hd⟩:=rq (cr s i);have hb:=ah (ah (ah (B5 s n d i) (bl (by omega))) (bl (by omega))) (ak (hd []));rw[wi (x:=(i:Int)+1) (by omega) (by unfold lim at hs;omega)]at hb;generalize (bif _ then true else _)=c at hb
  cases c with
  |true=>exact .inl (ai mixed (au _) aF hb rfl (ag3 _) (by simp))
  |false=>exact .inr ⟨_,by rw[kG];omega,ai mixed (au _) aF hb rfl (ag3 _) (by simp)⟩
 ·have hb:=bO (B5 s n 0 s.size) (da (by omega));exact ai mixed (au _) aF hb rfl (ag3 _) (by simp)
theorem D5 {b:Int}{s:ByteArray}(st:ya b s):(∃n:Int,(0<=n/\n<18446744073709551616)/\an prog (.loop (ae f297 8)) (qu b s 0 0) [] (.exit 1) (qu b s n s.size) [] [])∨∃n i,an prog (.loop (ae f297 8)) (qu b s 0 0) [] .ret (qu b s n i) [] []:=by
 have hl:=iE (P:=prog) (c:=ae f297 8)
  (λm T H=>H=[]/\∃(n:Int) (i:Nat),(0<=n/\n<18446744073709551616)/\i<=s.size/\m=s.size-i/\T=qu b s n i)
  (λx T H=>H=[]/\((x= .exit 1/\∃n:Int,(0<=n/\n<18446744073709551616)/\T=qu b s n s.size)∨(x= .ret/\∃n i,T=qu b s n i))) 0 (by
  rintro m T H ⟨rfl,n,i,hn,hi,rfl,rfl⟩;by_cases cO:i<s.size
  ·rcases st.next n i hn.1 hn.2 cO with h|⟨m,hm,h⟩
   ·exact⟨_,_,_,_,h,λ_ _=>ag9 _,.inr ⟨by simp,rfl,.inr ⟨rfl,_,_,rfl⟩⟩⟩
   ·exact⟨_,_,_,_,h,λ_ _=>ag9 _,.inl ⟨rfl,s.size-(i+1),by omega,rfl,m,i+1,hm,by omega,rfl,rfl⟩⟩
  ·have:i=s.size:=by omega
   subst this;exact⟨_,_,_,_,st.out n,λ_ _=>ag9 _,.inr ⟨by simp,rfl,.inl ⟨rfl,n,hn,rfl⟩⟩⟩)
 obtain⟨e,T',H',W,dC,_,rfl,h⟩:=hl _ _ _ ⟨rfl,0,0,⟨by omega,by omega⟩,ag9 _,rfl,rfl⟩;have dC:=dC.wr (Wr':=[]) (λl _ hl=>absurd hl (ahg _));rcases h with ⟨rfl,n,hn,rfl⟩|⟨rfl,n,i,rfl⟩
 ·exact .inl ⟨n,hn,dC⟩
 ·exact .inr ⟨n,i,dC⟩
theorem gd {p q:Prop} [Decidable p] [Decidable q] (h:p->q):(bif decide p then decide q else true)=true:=by
 by_cases hp:p
 ·rw[bl hp,bl (h hp)];rfl
 ·rw[da hp];rfl
theorem Zx {p q:Prop}{x:Bool} [Decidable p] [Decidable q] (h:p->q):(bif (bif decide p then x else false)then decide q else true)=true:=by
 by_cases hp:p
 ·rw[bl hp,bl (h hp)];cases x<;>rfl
 ·rw[da hp];rfl
theorem Zy {p q:Prop}{x y:Bool} [Decidable p] [Decidable q] (h:p->q):(bif (bif decide p then x else false)then(bif y then true else decide q)else true)=true:=by
 by_cases hp:p
 ·rw[bl hp,bl (h hp)];cases x<;>cases y<;>rfl
 ·rw[da hp];rfl
theorem adL {p:Prop}{x y:Bool} [Decidable p] (h:(bif (bif decide p then x else false)then y else false)=true):p:=by
 by_cases hp:p
 ·exact hp
 ·rw[da hp]at h;cases h
theorem VK {p:Prop}{x:Bool} [Decidable p] (h:(bif decide p then x else false)=true):p:=by
 by_cases hp:p
 ·exact hp
 ·rw[da hp]at h;cases h
theorem D6 (s:ByteArray) (hs:s.size<=lim):∃(n:Int) (b:Bool),(0<=n/\n<18446744073709551616)/\∀H,bZ prog 297 [aS s] (.bq [ox n,cY b]) H H []:=by
 have fin:∀(n:Int) (b:Bool) (lo:bX),bA prog lo->(0<=n/\n<18446744073709551616)->(eb prog (cK []) lo [10,31] 3 297 [aS s] []).via ch=some (.bq [ox n,cY b])->∃(n:Int) (b:Bool),(0<=n/\n<18446744073709551616)/\∀H,bZ prog 297 [aS s] (.bq [ox n,cY b]) H H []:=
  λn b lo hl hn h=>⟨n,b,hn,λH=>fu hl h (R4 _ _) (u6 (.sc _)) H⟩
 have szx:∀f i,(s.extract f i).size<=lim:=λf i=>by rw[ByteArray.size_extract];omega
 have Zz:∀{xs:List PU},bA prog (cJ prog xs aN):=ba ab;have z0:(0:Int)<=0/\(0:Int)<18446744073709551616:=⟨by omega,by omega⟩
 cases hx:(bif (bif (decide ((s.size:Int)>(2:Int)))then(cr s (Int.toNat (0:Int))==(48:Int))else false)then(bif (cr s (Int.toNat (1:Int))==(120:Int))then true else(cr s (Int.toNat (1:Int))==(88:Int)))else false)with
 |true=>
  have hp:=adL hx;rcases D5 (R6 (s.extract 2 s.size) (szx _ _))with ⟨n,hn,h⟩|⟨n,i,h⟩
  ·exact fin n _ _ Zz hn (ah (ah (ah (ah (ah (ah (zS s (s.extract 2 s.size) 16 n (s.extract 2 s.size).size) (gd (λh=>by omega))) (Zx (λh=>by omega))) (Zy (λh=>by omega))) hx) (bl (by show (0:Int)<=2/\(2:Int)<=(s.size:Int)/\(s.size:Int)<=(s.size:Int);omega))) (bc h))
  ·exact fin 0 _ _ Zz z0 (ah (ah (ah (ah (ah (ah (vX s (s.extract 2 s.size) 16 n i) (gd (λh=>by omega))) (Zx (λh=>by omega))) (Zy (λh=>by omega))) hx) (bl (by show (0:Int)<=2/\(2:Int)<=(s.size:Int)/\(s.size:Int)<=(s.size:Int);omega))) (bc h))
 |false=>
  cases ho:(bif (decide ((s.size:Int)>(1:Int)))then(cr s (Int.toNat (0:Int))==(48:Int))else false)with
  |true=>
   have hp:=VK ho;rcases D5 (R7 (s.extract 1 s.size) (szx _ _))with ⟨n,hn,h⟩|⟨n,i,h⟩
   ·exact fin n _ _ Zz hn (ah (ah (ah (ah (bO (ah (ah (ah (zS s (s.extract 1 s.size) 8 n (s.extract 1 s.size).size) (gd (λh=>by omega))) (Zx (λh=>by omega))) (Zy (λh=>by omega))) hx) (gd (λh=>by omega))) ho) (bl (by show (0:Int)<=1/\(1:Int)<=(s.size:Int)/\(s.size:Int)<=(s.size:Int);omega))) (bc h))
   ·exact fin 0 _ _ Zz z0 (ah (ah (ah (ah (bO (ah (ah (ah (vX s (s.extract 1 s.size) 8 n i) (gd (λh=>by omega))) (Zx (λh=>by omega))) (Zy (λh=>by omega))) hx) (gd (λh=>by omega))) ho) (bl (by show (0:Int)<=1/\(1:Int)<=(s.size:Int)/\(s.size:Int)<=(s.size:Int);omega))) (bc h))
  |false=>
   rcases D5 (R5 s hs)with ⟨n,hn,h⟩|⟨n,i,h⟩
   ·exact fin n _ _ Zz hn (ah (bO (ah (bO (ah (ah (ah (zS s s 10 n s.size) (gd (λh=>by omega))) (Zx (λh=>by omega))) (Zy (λh=>by omega))) hx) (gd (λh=>by omega))) ho) (bc h))
   ·exact fin 0 _ _ Zz z0 (ah (bO (ah (bO (ah (ah (ah (vX s s 10 n i) (gd (λh=>by omega))) (Zx (λh=>by omega))) (Zy (λh=>by omega))) hx) (gd (λh=>by omega))) ho) (bc h))
theorem Hb {s:ByteArray}(h:(!s.toList==aq.toList)=true):0<s.size:=by
 apply jx.1;unfold qU;simpa using h
theorem LN {x q:Bool}(h:x=true->q=true):(bif x then q else true)=true:=by
 cases x with
 |true=>exact h rfl
 |false=>rfl
theorem abm {x y:Bool}(h:(bif x then y else false)=true):x=true:=by cases x<;>simp at h ⊢
theorem Od (s:ByteArray) (hs:s.size<=lim):∃(n:Int) (m b:Bool),(0<=n/\n<18446744073709551616)/\∀H,bZ prog 292 [aS s] (.bq [ox n,cY m,cY b]) H H []:=by
 let d:ByteArray:=bif (bif (!s.toList==aq.toList)then(cr s (Int.toNat (0:Int))==(45:Int))else false)then s.extract 1 s.size else s
 have hd:d.size<=lim:=by
  show (bif _ then s.extract 1 s.size else s).size<=lim;cases (bif (!s.toList==aq.toList)then(cr s (Int.toNat (0:Int))==(45:Int))else false)with
  |true=>simp only[cond_true,ByteArray.size_extract];omega
  |false=>exact hs
 obtain⟨n,b,hn,h1⟩:=D6 d hd;obtain⟨t,h2⟩:=D4 n hn.1 hn.2;have ht:=ah (ah (ah (ah (R2 s t n b) (LN (λh=>bl (by have:=Hb h;omega)))) (LN (λh=>bl (by have:=Hb (abm h);show (0:Int)<=1/\(1:Int)<=(s.size:Int)/\(s.size:Int)<=(s.size:Int);omega)))) (ak (h1 []))) (by cases b;rfl;exact ak (h2 []));have OS:∀n m b,LF (.bq [ox n,cY m,cY b]):=λn m b=> .bq _ (ao (.sc _) (ao (.sc _) (ao (.sc _) bC)))
 rcases lK ht with ht|ht
 ·exact⟨0,false,false,⟨by omega,by omega⟩,λH=>fu aF ht (OS _ _ _) (u6 (.sc _)) H⟩
 ·exact⟨n,_,true,hn,λH=>fu aF ht (OS _ _ _) (u6 (.sc _)) H⟩
theorem D7 (k:Int) (s:ByteArray) (hs:s.size<=lim):∃(n:Int) (b:Bool),∀H,bZ prog 284 [i64 k,aS s] (.bq [ox n,cY b]) H H []:=by
 obtain⟨a,g,ha,h1⟩:=zT k;obtain⟨n,m,b,hn,h2⟩:=Od s hs;have fin:∀(n:Int) (b:Bool) (lo:bX),bA prog lo->(eb prog (cK []) lo [] 3 284 [i64 k,aS s] []).via ch=some (.bq [ox n,cY b])->∃(n:Int) (b:Bool),∀H,bZ prog 284 [i64 k,aS s] (.bq [ox n,cY b]) H H []:=
  λn b lo hl h=>⟨n,b,λH=>fu hl h (R4 _ _) (abl (.sc _) (.sc _)) H⟩
 rcases ha with rfl|rfl|rfl
 ·have ht:=ah (ah (Oa k n s b g m) (ak (h1 []))) (ak (h2 []));exact fin _ _ _ aF ht
 ·have ht:=ah (ah (Ob k n s b g m) (ak (h1 []))) (ak (h2 []));rcases lK ht with ht|ht
  ·exact fin _ _ _ aF ht
  ·rcases lK ht with ht|ht
   ·exact fin _ _ _ aF ht
   ·exact fin _ _ _ aF ht
 ·have ht:=ah (ah (Oc k n s b g m) (ak (h1 []))) (ak (h2 []));rcases lK ht with ht|ht
  ·exact fin _ _ _ aF ht
  ·rcases lK ht with ht|ht
   ·exact fin _ _ _ aF ht
   ·exact fin _ _ _ aF ht
theorem A8 (k:Int) (s:ByteArray) (hs:s.size<=lim):∃b:Bool,∀H,bZ prog 258 [i64 k,aS s] (cY b) H H []:=by
 obtain⟨a,g,ha,h1⟩:=zT k;obtain⟨n,b,h2⟩:=D7 k s hs;obtain⟨c,h3⟩:∃c:Bool,∀H,bZ prog 187 [aS s] (cY c) H H []:=by
  obtain⟨c,h⟩:=lk s hs;exact⟨_,h⟩
 have fin:∀(b:Bool) (lo:bX),bA prog lo->(eb prog (cK []) lo [] 3 258 [i64 k,aS s] []).via ch=some (cY b)->∃(b:Bool),∀H,bZ prog 258 [i64 k,aS s] (cY b) H H []:=
  λb lo hl h=>⟨b,λH=>fu hl h (.sc _) (abl (.sc _) (.sc _)) H⟩
 have ht:=ah (ah (R3 k n a s b g c) (ak (h1 []))) (ak (h2 []));rcases lK ht with ht|ht
 ·exact fin _ _ aF ht
 ·rcases lK ht with ht|ht
  ·exact fin _ _ aF ht
  ·rcases lK ht with ht|ht
   ·exact fin _ _ aF ht
   ·have ht:=ah ht (LN (λ_=>ak (h3 [])));exact fin _ _ aF ht
def dH (pre:List AV) (S:hU) (X:AV):List AV:=pre++[X,i64 S.deep,aS S.name,i64 S.broken]
def tH:aa->Option (List AV×AV×hU×bu×aa)
 | .cells [p,a0,a1,a2,a3,a4,a5,a6,a7,a8,a9,J6,seen,X,.sc (.int .i64 d),.sc (.string nm),.sc (.int .i64 br)]::Y::J=>some ([p,a0,a1,a2,a3,a4,a5,a6,a7,a8,a9,J6,seen],X,⟨d,nm,br⟩,Y,J)
 |_=>none
theorem iG {H:aa}{pre:List AV}{X:AV}{S:hU}{Y:bu}{J:aa}(h:tH H=some (pre,X,S,Y,J)):H= .cells (dH pre S X)::Y::J:=by
 unfold tH at h;split at h
 ·cases h;rfl
 ·cases h
structure gi (pre:List AV) (X:AV) (Y:bu):Prop where
 len:pre.length=13
 lf:∀a∈pre,LF a
 row:aaz X
 lb:ff 2 X=true
 lone:Lone Y
theorem ru {n:Nat}:∀(a b:List AV),dG n (a++b)=(dG n a&&dG n b)
 |[],b=>by simp[dG]
 |x::r,b=>by simp only[ah8,dG,ru r b,Bool.and_assoc]
theorem gi.ZA {pre:List AV}{X:AV}{Y:bu}(h:gi pre X Y){n:Nat}(hn:2<=n) (S:hU):dG n (dH pre S X)=true:=by
 unfold dH;rw[ru,eP h.lf];simp only[dG,uI hn X h.lb,Bool.true_and];rfl
theorem gi.xy {pre:List AV}{X:AV}{Y:bu}(h:gi pre X Y) (S:hU):∀o∈([.cells (dH pre S X),Y]:aa),cH 2 o=true/\gn o=true:=by
 intro o ho;simp only[ahl,ahr,ahO]at ho;rcases ho with rfl|rfl
 ·exact⟨h.ZA (ag3 _) S,rfl⟩
 ·exact h.lone.lb 2
structure wW where
 x:bj
 T:List AV
 pre:List AV
 X:AV
 Y:bu
 J:aa
 ok:Bool
def mS (ks:List Nat) (n:Nat) (r:gm):Option wW:=match tH r.2.2.1 with
 |some (pre,X,S,Y,J)=>some ⟨r.1,lC 0 ks r.2.1,pre,X,Y,J.take n,dG (n+2) (lC 0 ks r.2.1)&&(J.take n).all (cH (n+2))&&(below (n+2) r.2.2.2).all (·==0)&&jC r.1⟩
 |none=>none
structure J7 where
 x:AV
 pre:List AV
 X:AV
 Y:bu
 ok:Bool
def xz (r:AV×aa×List Nat):Option J7:=match tH r.2.1 with
 |some (pre,X,S,Y,J)=>some ⟨r.1,pre,X,Y,r.2.2.all (·==0)⟩
 |none=>none
theorem dm {call:cZ}{lo:bX}{nj:List Nat}(hc:cx prog call){k n:Nat}{c:Code}{T T1:List AV}{pre:List AV}{S:hU}{X:AV}{Y:bu}{J J1:aa}{ks:List Nat}{x:bj}{F:Option (Option wW)}(hl:bA prog lo) (hk:gi pre X Y)
  (h:(db prog call lo nj k c T (.cells (dH pre S X)::Y::J)).via (mS ks n)=F) (hF:F=some (some ⟨x,T1,pre,X,Y,J1,true⟩)) (hn:J.length=n):∃S',an prog c T (.cells (dH pre S X)::Y::J) x T1 (.cells (dH pre S' X)::Y::J1) [0]:=by
 obtain⟨⟨y,T2,H2,W2⟩,hr,hg⟩:=cv h hF;have dC:=lX mixed hc hl nj k c _ _ _ _ _ _ hr;unfold mS at hg;simp only at hg;split at hg
 ·rename_i oy X' S' Y' J' pQ;simp only[ag6,wW.mk.injEq,ahp]at hg;obtain⟨rfl,rfl,rfl,rfl,rfl,rfl,⟨⟨h1,h2⟩,h3⟩,h4⟩:=hg;have e:=iG pQ;subst e;refine⟨S',?_⟩;have hlen:(.cells (dH oy S X')::Y'::J:aa).length=n+2:=by simp[hn]
  have key:=((dC.eB (dL _ _ ks)).trim (n:=n+2) (by omega) h1 (λo ho=>by
   simp only[ah5,ahl]at ho;rcases ho with rfl|rfl|ho
   ·exact hk.ZA (by omega) S'
   ·exact(hk.lone.lb _).1
   ·exact ahq.1 h2 o ho) h4).wr (Wr':=[0]) (λl hl cO=>by
    have:=ahq.1 h3 l (dt (by omega) hl);simpa using this)
  exact key
 ·cases hg
theorem rv {call:cZ}{lo:bX}{nj:List Nat}(hc:cx prog call){k:Nat}{g:FuncId}{args:List AV}{pre:List AV}{S:hU}{X:AV}{Y:bu}{x:AV}{F:Option (Option J7)}(hl:bA prog lo) (hk:gi pre X Y)
  (h:(eb prog call lo nj k g args [.cells (dH pre S X),Y]).via xz=F) (hF:F=some (some ⟨x,pre,X,Y,true⟩)) (ha:dG 2 args=true) (hx:ff 2 x=true):∃S',∀J,bZ prog g args x (.cells (dH pre S X)::Y::J) (.cells (dH pre S' X)::Y::J) [0]:=by
 obtain⟨⟨y,H2,W2⟩,hr,hg⟩:=cv h hF;have dC:=gQ mixed hc hl hr;unfold xz at hg;simp only at hg;split at hg
 ·rename_i oy X' S' Y' J' pQ;simp only[ag6,J7.mk.injEq]at hg;obtain⟨rfl,rfl,rfl,rfl,h3⟩:=hg;have e:=iG pQ;subst e;refine⟨S',λJ=> ?_⟩;have h1:=(kg dC (H2:=[.cells (dH oy S' X'),Y']) rfl (hk.xy S') hx).wr (W':=[0]) (λl hl _=>by
   have:=ahq.1 h3 l hl;simpa using this)
  exact mK h1 rfl ha hx (hk.xy S) (hk.xy S') (by simp) J
 ·cases hg
theorem R8 (p a0 a1 a2 a3 a4 a5 a6 a7 a8 a9 J6 seen X:AV) (S:hU) (b:Bool) (nm:ByteArray) (k:Int) (Y:bu):(eb prog (kB prog eZ 3) aN [] 3 182 [.ptr 0 0,cY b,aS nm,i64 k] [.cells (dH [p,a0,a1,a2,a3,a4,a5,a6,a7,a8,a9,J6,seen] S X),Y]).via (λr:AV×aa×List Nat=>(r.1,r.2.1.take 2,r.2.2))=bif (bif (!b)then(S.broken==0)else false)then some (((.bq []),([(.cells [(p),(a0),(a1),(a2),(a3),(a4),(a5),(a6),(a7),(a8),(a9),(J6),(seen),(X),(i64 (S.deep)),(aS (nm)),(i64 (k))]),(Y)],[0,0])))else some (((.bq []),([(.cells [(p),(a0),(a1),(a2),(a3),(a4),(a5),(a6),(a7),(a8),(a9),(J6),(seen),(X),(i64 (S.deep)),(aS (S.name)),(i64 (S.broken))]),(Y)],[]))):=by kernel_rfl
theorem wX {pre:List AV}(h:pre.length=13):∃p a0 a1 a2 a3 a4 a5 a6 a7 a8 a9 J6 seen,pre=[p,a0,a1,a2,a3,a4,a5,a6,a7,a8,a9,J6,seen]:=by
 match pre,h with
 |[p,a0,a1,a2,a3,a4,a5,a6,a7,a8,a9,J6,seen],_=>exact⟨_,_,_,_,_,_,_,_,_,_,_,_,_,rfl⟩
theorem VL {pre:List AV}{X:AV}{Y:bu}(hk:gi pre X Y) (S:hU) (b:Bool) (nm:ByteArray) (k:Int) (J:aa):bZ prog 182 [.ptr 0 0,cY b,aS nm,i64 k] (.bq []) (.cells (dH pre S X)::Y::J) (.cells (dH pre (Ll b nm k S) X)::Y::J) [0]:=by
 obtain⟨p,a0,a1,a2,a3,a4,a5,a6,a7,a8,a9,J6,seen,rfl⟩:=wX hk.len;have hb:Ll b nm k S=bif (bif !b then S.broken==0 else false)then⟨S.deep,nm,k⟩else S:=by unfold Ll;cases b<;>rfl
 have ht:=R8 p a0 a1 a2 a3 a4 a5 a6 a7 a8 a9 J6 seen X S b nm k Y;have fin:∀S' W,W.all (·==0)=true->(eb prog (kB prog eZ 3) aN [] 3 182 [.ptr 0 0,cY b,aS nm,i64 k] [.cells (dH [p,a0,a1,a2,a3,a4,a5,a6,a7,a8,a9,J6,seen] S X),Y]).via (λr:AV×aa×List Nat=>(r.1,r.2.1.take 2,r.2.2))=some (.bq [],[.cells (dH [p,a0,a1,a2,a3,a4,a5,a6,a7,a8,a9,J6,seen] S' X),Y],W)->bZ prog 182 [.ptr 0 0,cY b,aS nm,i64 k] (.bq []) (.cells (dH [p,a0,a1,a2,a3,a4,a5,a6,a7,a8,a9,J6,seen] S X)::Y::J) (.cells (dH [p,a0,a1,a2,a3,a4,a5,a6,a7,a8,a9,J6,seen] S' X)::Y::J) [0]:=by
  intro S' W hW h;obtain⟨⟨y,H2,W2⟩,hr,hg⟩:=cv h rfl;have dC:=gQ mixed (dv mixed (bV _) 3) ab hr;simp only[ahe]at hg;obtain⟨rfl,e,rfl⟩:=hg;have h1:=(kg dC (H2:=[.cells (dH [p,a0,a1,a2,a3,a4,a5,a6,a7,a8,a9,J6,seen] S' X),Y]) e (hk.xy S') rfl).wr (W':=[0]) (λl hl _=>by
   have:=ahq.1 hW l hl;simpa using this)
  exact mK h1 rfl rfl rfl (hk.xy S) (hk.xy S') (by simp) J
 rw[hb];cases hc:(bif !b then S.broken==0 else false)with
 |true=>exact fin ⟨S.deep,nm,k⟩ [0,0] rfl (ah ht hc)
 |false=>exact fin S [] rfl (bO ht hc)
def TK (g:FuncId) (rest pre:List AV) (X:AV) (Y:bu):Prop:=∀S,∃S',∀J,bZ prog g (.ptr 0 0::rest) (.bq []) (.cells (dH pre S X)::Y::J) (.cells (dH pre S' X)::Y::J) [0]
def VM (g:FuncId) (args:List AV) (x:AV) (pre:List AV) (X:AV) (Y:bu):Prop:=∀S J,bZ prog g args x (.cells (dH pre S X)::Y::J) (.cells (dH pre S X)::Y::J) []
open Classical in
noncomputable def ca (pre:List AV) (X:AV) (Y:bu):Bool:=decide (gi pre X Y)
open Classical in
noncomputable def kI (g:FuncId) (rest pre:List AV) (X:AV) (Y:bu):Bool:=decide (TK g rest pre X Y)
open Classical in
noncomputable def ckN (g:FuncId) (rest pre:List AV) (X:AV) (Y:bu) (S:hU):hU:=if h:∃S',∀J,bZ prog g (.ptr 0 0::rest) (.bq []) (.cells (dH pre S X)::Y::J) (.cells (dH pre S' X)::Y::J) [0]then h.choose else S
open Classical in
noncomputable def eD (g:FuncId) (args:List AV) (x:AV) (pre:List AV) (X:AV) (Y:bu):Bool:=decide (VM g args x pre X Y)
noncomputable def orC (ms:List FuncId) (tl:List (FuncId×AV)) (ks:List (FuncId×Kd)):ts:=λg args H=>match tH H with
 |some (pre,X,S,Y,J)=>match tl.find? (·.1==g)with
  |some (_,x)=>some (.br (eD g args x pre X Y) (.leaf (x,H,[])) .bad)
  |none=>
   if g=182 then match args with
    |[.ptr 0 0,.sc (.bool b),.sc (.string nm),.sc (.int .i64 k)]=>some (.br (ca pre X Y) (.leaf (.bq [],.cells (dH pre (Ll b nm k S) X)::Y::J,[0])) .bad)
    |_=>none
   else if ms.contains g then match args with
    | .ptr 0 0::rest=>some (.br (kI g rest pre X Y) (.leaf (.bq [],.cells (dH pre (ckN g rest pre X Y S) X)::Y::J,[0])) .bad)
    |_=>none
   else Qu ks g args H
 |none=>Qu ks g args H
noncomputable abbrev cC (ms:List FuncId) (tl:List (FuncId×AV)) (ks:List (FuncId×Kd)):cZ:=kB prog (orC ms tl ks) 3
theorem bU {pre:List AV}{X:AV}{Y:bu}(h:gi pre X Y):ca pre X Y=true:=by simp[ca,h]
theorem fh {g:FuncId}{rest pre:List AV}{X:AV}{Y:bu}(h:TK g rest pre X Y):kI g rest pre X Y=true:=by simp[kI,h]
theorem ct {g:FuncId}{args:List AV}{x:AV}{pre:List AV}{X:AV}{Y:bu}(h:VM g args x pre X Y):eD g args x pre X Y=true:=by simp[eD,h]
theorem VM.all {g:FuncId}{args:List AV}{x:AV}(h:∀H,bZ prog g args x H H []){pre:List AV}{X:AV}{Y:bu}:VM g args x pre X Y:=λS J=>h _
theorem R9 {ms:List FuncId}{tl:List (FuncId×AV)}{ks:List (FuncId×Kd)}:qK prog (orC ms tl ks):=by
 intro g args H t r h hr;unfold orC at h;split at h
 ·rename_i pre X S Y J pQ;have e:=iG pQ;subst e;split at h
  ·rename_i fst x heq;cases h;rcases Tree.df hr with ⟨hb,hr⟩|⟨_,hr⟩
   ·rw[Tree.aE hr];have hk:VM g args x pre X Y:=by simpa [eD]using hb
    exact hk S J
   ·exact(Tree.aZ hr).elim
  ·split at h
   ·rename_i hg;subst hg;split at h
    ·rename_i b nm k;cases h;rcases Tree.df hr with ⟨hb,hr⟩|⟨_,hr⟩
     ·rw[Tree.aE hr];have hk:gi pre X Y:=by simpa [ca]using hb
      exact VL hk S b nm k J
     ·exact(Tree.aZ hr).elim
    ·cases h
   ·split at h
    ·split at h
     ·rename_i rest;cases h;rcases Tree.df hr with ⟨hb,hr⟩|⟨_,hr⟩
      ·rw[Tree.aE hr];have hk:TK g rest pre X Y:=by simpa [kI]using hb
       have hS:=hk S;simp only[ckN,dif_pos hS];exact hS.choose_spec J
      ·exact(Tree.aZ hr).elim
     ·cases h
    ·exact Dr _ _ _ _ _ h hr
 ·exact Dr _ _ _ _ _ h hr
theorem cS (ms:List FuncId) (tl:List (FuncId×AV)) (ks:List (FuncId×Kd)):cx prog (cC ms tl ks):=dv mixed R9 3
def ry (c:Code) (T:List AV) (x:bj) (T' pre:List AV) (X:AV) (Y:bu) (J:aa):Prop:=∀S,an prog (.loop c) T (.cells (dH pre S X)::Y::J) x T' (.cells (dH pre S X)::Y::J) []
def fb (c:Code) (T:List AV) (x:bj) (T' pre:List AV) (X:AV) (Y:bu) (J:aa):Prop:=∀S,∃S',an prog (.loop c) T (.cells (dH pre S X)::Y::J) x T' (.cells (dH pre S' X)::Y::J) [0]
open Classical in
noncomputable def pZ (c:Code) (T:List AV) (x:bj) (T' pre:List AV) (X:AV) (Y:bu) (J:aa):Bool:=decide (ry c T x T' pre X Y J)
open Classical in
noncomputable def fC (c:Code) (T:List AV) (x:bj) (T' pre:List AV) (X:AV) (Y:bu) (J:aa):Bool:=decide (fb c T x T' pre X Y J)
open Classical in
noncomputable def lmN (c:Code) (T:List AV) (x:bj) (T' pre:List AV) (X:AV) (Y:bu) (J:aa) (S:hU):hU:=if h:∃S',an prog (.loop c) T (.cells (dH pre S X)::Y::J) x T' (.cells (dH pre S' X)::Y::J) [0]then h.choose else S
structure LO where
 key:Nat
 ks:List Nat
 x:bj
 T:List AV
 wr:Bool
noncomputable def gr (es:List LO) (lo:bX):bX:=
 {lo with loop:=λc T H=>match (kz c).bind (λi=>es.find? (·.key==i))with
  |some e=>match tH H with
   |some (pre,X,S,Y,J)=>if e.wr then some (.br (fC c (lC 0 e.ks T) e.x e.T pre X Y J) (.leaf (e.x,e.T,.cells (dH pre (lmN c (lC 0 e.ks T) e.x e.T pre X Y J S) X)::Y::J,[0])) .bad)
    else some (.br (pZ c (lC 0 e.ks T) e.x e.T pre X Y J) (.leaf (e.x,e.T,H,[])) .bad)
   |none=>none
  |none=>lo.loop c T H}
theorem oz {c:Code}{T:List AV}{x:bj}{T' pre:List AV}{X:AV}{Y:bu}{J:aa}(h:ry c T x T' pre X Y J):pZ c T x T' pre X Y J=true:=by simp[pZ,h]
theorem eO {c:Code}{T:List AV}{x:bj}{T' pre:List AV}{X:AV}{Y:bu}{J:aa}(h:fb c T x T' pre X Y J):fC c T x T' pre X Y J=true:=by simp[fC,h]
theorem de {es:List LO}{lo:bX}(hl:bA prog lo):bA prog (gr es lo):=by
 refine⟨λc T H t x T' H' Wr h hr=> ?_,hl.site,hl.Ex⟩;unfold gr at h;simp only at h;split at h
 ·rename_i e he;split at h
  ·rename_i pre X S Y J pQ;have eH:=iG pQ;subst eH;split at h
   ·cases h;rcases Tree.df hr with ⟨hb,hr⟩|⟨_,hr⟩
    ·have:=Tree.aE hr;simp only[ahe]at this;obtain⟨rfl,rfl,rfl,rfl⟩:=this;have hk:fb c (lC 0 e.ks T) e.x e.T pre X Y J:=by simpa [fC]using hb
     have hS:=hk S;simp only[lmN,dif_pos hS];exact hS.choose_spec.ik (dL T 0 _)
    ·exact(Tree.aZ hr).elim
   ·cases h;rcases Tree.df hr with ⟨hb,hr⟩|⟨_,hr⟩
    ·have:=Tree.aE hr;simp only[ahe]at this;obtain⟨rfl,rfl,rfl,rfl⟩:=this;have hk:ry c (lC 0 e.ks T) e.x e.T pre X Y J:=by simpa [pZ]using hb
     exact(hk S).ik (dL T 0 _)
    ·exact(Tree.aZ hr).elim
  ·cases h
 ·exact hl.loop _ _ _ _ _ _ _ _ h hr
theorem Sa {c:Code}(T:Nat->List AV) (ex:bj) (hx:ex≠.normal) (n:Nat){pre:List AV}{X:AV}{Y:bu}{J:aa}(round:∀i,i<n->∀S,an prog c (T i) (.cells (dH pre S X)::Y::J) .normal (T (i+1)) (.cells (dH pre S X)::Y::J) []) (out:∀S,an prog c (T n) (.cells (dH pre S X)::Y::J) ex (T n) (.cells (dH pre S X)::Y::J) []):
  ry c (T 0) ex (T n) pre X Y J:=λS=>
 dR (P:=prog) T (λ_=> .cells (dH pre S X)::Y::J) [] ex hx n (λi hi=>round i hi S) (out S)
theorem ir {c:Code}(T:Nat->List AV) (ex:bj) (hx:ex≠.normal) (n:Nat){pre:List AV}{X:AV}{Y:bu}{J:aa}(round:∀i,i<n->∀S,∃S',an prog c (T i) (.cells (dH pre S X)::Y::J) .normal (T (i+1)) (.cells (dH pre S' X)::Y::J) [0]) (out:∀S,∃S',an prog c (T n) (.cells (dH pre S X)::Y::J) ex (T n) (.cells (dH pre S' X)::Y::J) [0]):
  fb c (T 0) ex (T n) pre X Y J:=by
 have key:∀d i,n-i=d->i<=n->∀S,∃S' k W',dX prog c ex (T n) (.cells (dH pre S' X)::Y::J) k (T i) (.cells (dH pre S X)::Y::J) W'/\∀x∈W',x∈[0]:=by
  intro d
  induction d with
  |zero=>
   intro i hd hi S;have:i=n:=by omega
   subst this;obtain⟨S',h⟩:=out S;exact⟨S',0,_,.out h hx,λx h=>h⟩
  |succ d ih=>
   intro i hd hi S;obtain⟨S1,h⟩:=round i (by omega) S;obtain⟨S',k,W',hr,hw⟩:=ih (i+1) (by omega) (by omega) S1;exact⟨S',k+1,_,.next h hr,λx hx=>by
    rcases ahC.1 hx with h|h
    ·exact h
    ·exact hw x h⟩
 intro S;obtain⟨S',k,W',hr,hw⟩:=key n 0 (by omega) (ag9 _) S;exact⟨S',an.eI hr.ok hw⟩
structure Sb where
 x:bj
 T:List AV
 J:aa
 ok:Bool
def Hc (ks:List Nat) (n:Nat) (r:gm):Option Sb:=match tH r.2.2.1 with
 |some (pre,X,S,Y,J)=>some ⟨r.1,lC 0 ks r.2.1,J.take n,dG (n+2) (lC 0 ks r.2.1)&&(J.take n).all (cH (n+2))&&(below (n+2) r.2.2.2).isEmpty&&jC r.1⟩
 |none=>none
theorem fT {call:cZ}{lo:bX}{nj:List Nat}(hc:cx prog call){k n:Nat}{c:Code}{T T1:List AV}{pre:List AV}{S:hU}{X:AV}{Y:bu}{J:aa}{ks:List Nat}{x:bj}{F:Option (Option Sb)}(hl:bA prog lo) (hk:gi pre X Y)
  (h:(db prog call lo nj k c T (.cells (dH pre S X)::Y::J)).via (Hc ks n)=F) (hF:F=some (some ⟨x,T1,J,true⟩)) (hn:J.length=n):an prog c T (.cells (dH pre S X)::Y::J) x T1 (.cells (dH pre S X)::Y::J) []:=by
 obtain⟨⟨y,T2,H2,W2⟩,hr,hg⟩:=cv h hF;have dC:=lX mixed hc hl nj k c _ _ _ _ _ _ hr;unfold Hc at hg;simp only at hg;split at hg
 ·rename_i oy X' S' Y' J' pQ;simp only[ag6,Sb.mk.injEq,ahp]at hg;obtain⟨rfl,rfl,hJ,⟨⟨h1,h2⟩,h3⟩,h4⟩:=hg;have hlen:(.cells (dH pre S X)::Y::J:aa).length=n+2:=by simp[hn]
  have hW:W2.filter (λl=>decide (l<n+2))=[]∨True:= .inr trivial;have abn:an prog c T (.cells (dH pre S X)::Y::J) y T2 H2 []:=dC.wr (λl hl cO=>by
   have hm:l∈below (n+2) W2:=dt (by omega) hl;have he:below (n+2) W2=[]:=by simpa using h3
   rw[he]at hm;cases hm)
  have iC:H2.take (n+2)= .cells (dH pre S X)::Y::J:=ah2 (λl=>by
   by_cases hl:l<n+2
   ·rw[aiv hl];exact abn.2.2 l (by omega) (by simp)
   ·rw[ahu (by simp;omega),ahu (by omega)])
  have hJ2:J.all (cH (n+2))=true:=by
   have e:=iG pQ;subst e;simp only[ah5,List.cons.injEq]at iC;rw[iC.2.2]at h2;exact h2
  have key:=(abn.eB (dL _ _ ks)).trim (n:=n+2) (by omega) h1 (λo ho=>by
   rw[iC]at ho;simp only[ahl]at ho;rcases ho with rfl|rfl|ho
   ·exact hk.ZA (by omega) S
   ·exact(hk.lone.lb _).1
   ·exact ahq.1 hJ2 o ho) h4
  rw[iC]at key;exact key
 ·cases hg
theorem yb {α:Type}{c:Code}(T:α->Nat->List AV) (ex:bj) (hx:ex≠.normal) (n:Nat){pre:List AV}{X:AV}{Y:bu}{J:aa}(round:∀a i,i<n->∃a',∀S,an prog c (T a i) (.cells (dH pre S X)::Y::J) .normal (T a' (i+1)) (.cells (dH pre S X)::Y::J) []) (out:∀a S,an prog c (T a n) (.cells (dH pre S X)::Y::J) ex (T a n) (.cells (dH pre S X)::Y::J) []):
  ∀a,∃a',ry c (T a 0) ex (T a' n) pre X Y J:=by
 have key:∀d i,n-i=d->i<=n->∀a,∃a' k,∀S,dX prog c ex (T a' n) (.cells (dH pre S X)::Y::J) k (T a i) (.cells (dH pre S X)::Y::J) []:=by
  intro d
  induction d with
  |zero=>
   intro i hd hi a;have:i=n:=by omega
   subst this;exact⟨a,0,λS=> .out (out a S) hx⟩
  |succ d ih=>
   intro i hd hi a;obtain⟨a1,h⟩:=round a i (by omega);obtain⟨a',k,hr⟩:=ih (i+1) (by omega) (by omega) a1;exact⟨a',k+1,λS=> .next (h S) (hr S)⟩
 intro a;obtain⟨a',k,hr⟩:=key n 0 (by omega) (ag9 _) a;exact⟨a',λS=>(hr S).ok⟩
noncomputable def tI (es:List (Nat×AV)) (lo:bX):bX:=
 {lo with site:=λd g args H=>match es.find? (·.1==d)with
  |some (_,x)=>match tH H with
   |some (pre,X,S,Y,J)=>some (.br (eD g args x pre X Y) (.leaf (x,H,[])) .bad)
   |none=>none
  |none=>lo.site d g args H}
theorem jY {es:List (Nat×AV)}{lo:bX}(hl:bA prog lo):bA prog (tI es lo):=by
 refine⟨hl.loop,λd g args H t r h hr=> ?_,hl.Ex⟩;unfold tI at h;simp only at h;split at h
 ·rename_i fst x heq;split at h
  ·rename_i pre X S Y J pQ;have e:=iG pQ;subst e;cases h;rcases Tree.df hr with ⟨hb,hr⟩|⟨_,hr⟩
   ·rw[Tree.aE hr];have hk:VM g args x pre X Y:=by simpa [eD]using hb
    exact hk S J
   ·exact(Tree.aZ hr).elim
  ·cases h
 ·exact hl.site _ _ _ _ _ _ h hr
def aV (p:aJ) (f:ag) (seen:bD):List AV:=p.av::f.cells++[seen.av]
def H2 (p:aJ) (f:ag) (seen:bD) (S:hU) (X:AV) (Y:bu):aa:=[.cells (dH (aV p f seen) S X),Y]
theorem B6 (p:aJ) (f:ag) (seen:bD) (S:hU) (X:AV) (Y:bu) (nm:ByteArray) (k:Int) (s:dh) (b c:Bool):(eb prog (cC [] [(54,.bq [.agg s.cells,cY b]),(183,cY c)] []) aN [] 3 191 [.ptr 0 0,aS nm,i64 k] (H2 p f seen S X Y)).via (λr:AV×aa×List Nat=>(r.1,r.2.2))=bif (bif (nm.toList==aq.toList)then true else(decide ((0:Int)<=0/\0<(nm.size:Int))))then bif (bif (nm.toList==aq.toList)then true else(cr nm (Int.toNat (0:Int))!=46))then some (((.bq [(.agg (FZ)),(.sc (.bool false))]),[]))else bif (decide (0<=(some (1:Int)).getD (0:Int)/\(some (1:Int)).getD (0:Int)<=none.getD (nm.size:Int)/\none.getD (nm.size:Int)<=(nm.size:Int)))then bif (eD 54 [(p.av),(aS (nm.extract ((some (1:Int)).getD (0:Int)).toNat (none.getD (nm.size:Int)).toNat)),(i64 (k))] (.bq [(.agg (s.cells)),(cY (b))]) (aV p f seen) (X) (Y))then bif (b)then bif (eD 183 [(.aY (seen.nl) 1 (seen.l.length) (λi=>[AV.sc (Value.string (seen.l.getD i aq))]) .dA),(aS (s.home))] (cY (c)) (aV p f seen) (X) (Y))then some (((.bq [(.agg (s.cells)),(cY (c))]),[]))else none else some (((.bq [(.agg (s.cells)),(.sc (.bool false))]),[]))else none else none else none:=by kernel_rfl
def VN (b:Bool) (e:Int) (row:AV) (n:Nat) (i:Int):List AV:=bz 39 [(5,i64 e),(6,cY b),(16,row),(17,i64 n),(18,i64 i)]
theorem Hd (m:az) (el:Nat->List AV) (b:Bool) (e:Int) (l:List ep) (i:Nat):(db prog (cK []) aN [] 3 (ae f229 4) (VN b e (dd pV l) l.length i) [.cells (m.flat el)]).via (cz [5,6,16,17,18] [] 1)=bif (decide ((i:Int)<(l.length:Int)))then bif (decide (0<=(i:Int)/\(i:Int)<(l.length:Int)))then some (⟨.normal,(bz 39 [(5,(i64 (e))),(6,(cY (bif (bif ((l.getD i qn).num==7)then((l.getD i qn).kd==0)else false)then((l.getD i qn).nn !=0)else(b)))),(16,(dd pV l)),(17,(i64 ((l.length:Int)))),(18,(i64 (IntKind.i64.wrap ((i:Int)+(1:Int)))))]),[(.cells (m.flat el))],[],true⟩)else none else some (⟨(.exit 0),(bz 39 [(5,(i64 (e))),(6,(cY (b))),(16,(dd pV l)),(17,(i64 ((l.length:Int)))),(18,(i64 ((i:Int))))]),[(.cells (m.flat el))],[],true⟩):=by kernel_rfl
theorem Sc (m:az) (el:Nat->List AV) (b:Bool) (z e:Int) (l:List ep) (i:Int):(eb prog (cK []) (cJ prog [⟨4,[5,6,16,17,18],.exit 0,VN b e (dd pV l) l.length i,[.cells (m.flat el)],[]⟩] (told prog [] [⟨12,0,.bq [dd pV l,i64 z,i64 e]⟩])) [] 3 229 [.agg (m.flat el)] []).via (ch)=bif (aD prog 42 [(.aY (m.opts.nl) 1 (m.opts.l.length) (λi=>(List.map dy m.opts.l).getD i []) .dA)] [] (.bq [(dd pV l),(i64 (z)),(i64 (e))]))then bif (cj prog (ae f229 4) (bz 39 [(5,(i64 (e))),(6,(.sc (.bool false))),(16,(dd pV l)),(17,(i64 ((l.length:Int)))),(18,(.sc (.int .i64 0)))]) [(.cells (m.flat el))] (.exit 0) (bz 39 [(5,(i64 (e))),(6,(cY (b))),(16,(dd pV l)),(17,(i64 ((l.length:Int)))),(18,(i64 (i)))]) [(.cells (m.flat el))] [])then some ((cY (bif (b)then(e==0)else false)))else none else none:=by kernel_rfl
theorem J8 (p:aJ) (f:ag) (seen:bD) (S:hU) (X:AV) (Y:bu) (d:aP) (s:dh) (b c:Bool) (t:ByteArray):(eb prog (cC [] [(259,aS t),(54,.bq [.agg s.cells,cY b]),(229,cY c)] []) aN [] 3 193 [.ptr 0 0,.agg d.cells] (H2 p f seen S X Y)).via (λr:AV×aa×List Nat=>(r.1,r.2.2))=bif (eD 259 [(aS (d.eA))] (aS (t)) (aV p f seen) (X) (Y))then bif (eD 54 [(p.av),(aS (t)),(.sc (.int .i64 2))] (.bq [(.agg (s.cells)),(cY (b))]) (aV p f seen) (X) (Y))then bif (bif (bif (d.mg==11)then(b)else false)then(eD 229 [(.agg (s.m.one))] (cY (c)) (aV p f seen) (X) (Y))else true)then some (((cY (bif (bif (d.mg==11)then(b)else false)then(c)else false)),[]))else none else none else none:=by kernel_rfl
theorem rZ (b:jh):ev b.av (ee b.nl b.l.length (λi=>((b.l.getD i 0).toNat:Int))):=by
 unfold jh.av UD ee;exact ev.aY (λi hi=>by
  simp only[ag4,ahy,ahc hi];rfl)
theorem LP (b:jh):Bytes b.l.length (λi=>((b.l.getD i 0).toNat:Int)):=λj _=>by
 have:=(b.l.getD j 0).toNat_lt;simp only;omega
theorem pJ (m:az) (el:Nat->List AV):∀y∈m.flat el,LF y:=ao (.sc _) (ao fe (ao fe (ao fe (ao fe (ao fe (ao fe (ao fe (ao fe (ao (sL _) (ao (sL _) bC))))))))))
theorem abo (b:jh) (hb:b.l.length<=16777216):∃(l:List ep) (z:Nat) (e:Int),l.length<=b.l.length/\(e≠0->l=[])/\∀H,bZ prog 42 [b.av] (.bq [dd pV l,i64 z,i64 e]) H H []:=by
 obtain⟨l,z,e,h⟩:=Dk hb (LP b) b.l.length 0 (ag9 _) (by omega);have hl:=h.len;by_cases he:e=0
 ·subst he;refine⟨l,0,0,by omega,λh=>absurd rfl h,λH=> ?_⟩;have:=(rR hb h (nl:=b.nl) H).fR (.cons (rZ b) .nil);unfold ku at this;rw[if_pos rfl]at this;exact this
 ·refine⟨[],z,e,ag9 _,λ_=>rfl,λH=> ?_⟩;have:=(rR hb h (nl:=b.nl) H).fR (.cons (rZ b) .nil);unfold ku at this;rw[if_neg he]at this;exact this.eB (.bq (.cons (ev.aY (λi hi=>absurd hi (ahg _))) (.refl _)))
theorem He (m:az) (el:Nat->List AV) (hm:m.opts.l.length<=16777216):∃b:Bool,∀H,bZ prog 229 [.agg (m.flat el)] (cY b) H H []:=by
 obtain⟨l,z,e,hl,_,hr⟩:=abo m.opts hm;have Iu:=iE (P:=prog) (c:=ae f229 4)
  (λk T H=>H=[.cells (m.flat el)]/\∃(b:Bool) (i:Nat),i<=l.length/\k=l.length-i/\T=VN b e (dd pV l) l.length i)
  (λx T H=>x= .exit 0/\H=[.cells (m.flat el)]/\∃(b:Bool) (i:Int),T=VN b e (dd pV l) l.length i) 1 (by
  rintro k T H ⟨rfl,b,i,hi,rfl,rfl⟩;by_cases cO:i<l.length
  ·have hb:=ah (ah (Hd m el b e l i) (bl (by omega))) (bl (by omega));rw[wi (x:=(i:Int)+1) (by omega) (by omega)]at hb;exact⟨_,_,_,_,ai mixed (au _) ab hb rfl (ag3 _) (by simp),by simp,.inl ⟨rfl,l.length-(i+1),by omega,rfl,_,i+1,by omega,rfl,rfl⟩⟩
  ·have hb:=bO (Hd m el b e l i) (da (by omega));exact⟨_,_,_,_,ai mixed (au _) ab hb rfl (ag3 _) (by simp),by simp,.inr ⟨by simp,rfl,rfl,b,i,rfl⟩⟩)
 obtain⟨x,T',H',W,dC,hW,rfl,rfl,b,i,rfl⟩:=Iu _ _ _ ⟨rfl,false,0,ag9 _,rfl,rfl⟩;have dC:=dC.wr (Wr':=[]) (λl hl cO=>by have:=hW l hl;simp at cO;omega);have hb:=ah (ah (Sc m el b z e l i) (ak (hr []))) (bc dC);exact⟨_,λH=>fu (ba aF) hb (.sc _) (u6 (gJ (pJ m el))) H⟩
theorem Sd {P:Program}{g:FuncId}{args:List AV}{x:AV}{H H1:aa}(h:bZ P g args x H H1 []) (hb:∀o∈H,cH H.length o=true/\gn o=true) (hx:ff H.length x=true):bZ P g args x H H []:=
 kg h (ah2 (λl=>by
  by_cases hl:l<H.length
  ·rw[aiv hl];exact h.2.2.2 l hl (by simp)
  ·rw[ahu (by simp;omega),ahu (by omega)])) hb hx
theorem yc {call:cZ}{lo:bX}{nj:List Nat}(hc:cx prog call){k:Nat}{g:FuncId}{args:List AV}{pre:List AV}{S:hU}{X:AV}{Y:bu}{x:AV}{F:Option (AV×List Nat)}(hl:bA prog lo) (hk:gi pre X Y)
  (h:(eb prog call lo nj k g args [.cells (dH pre S X),Y]).via (λr:AV×aa×List Nat=>(r.1,r.2.2))=F) (hF:F=some (x,[])) {y:AV} (w:ev x y) (ha:dG 2 args=true) (hx:LF y) (J:aa):bZ prog g args y (.cells (dH pre S X)::Y::J) (.cells (dH pre S X)::Y::J) []:=by
 obtain⟨⟨z,H2,W2⟩,hr,hg⟩:=cv h hF;have dC:=gQ mixed hc hl hr;simp only[ahe]at hg;obtain⟨rfl,rfl⟩:=hg;exact mK (Sd (dC.eB w) (hk.xy S) (qP hx)) rfl ha (qP hx) (hk.xy S) (hk.xy S) (by simp) J
theorem D8 (s:dh) (b:Bool):LF (.bq [.agg s.cells,cY b]):= .bq _ (ao (gJ (JO s)) (ao (.sc _) bC))
section
variable {p:aJ}{f:ag}{seen:bD}{X:AV}{Y:bu}
theorem Xm (hp:p.sm) (nm:ByteArray) (k:Int):VM 54 [p.av,aS nm,i64 k] (.bq [.agg (zi p nm k).cells,cY (!(mF p nm k))]) (aV p f seen) X Y:= .all (UR p nm k (by have:=hp.1.1;unfold lim at this;omega))
theorem zU (hk:gi (aV p f seen) X Y) (hp:p.sm) (hs:seen.l.length<=lim) (nm:ByteArray) (k:Int):∃(s:dh) (b:Bool),s.sm/\VM 191 [.ptr 0 0,aS nm,i64 k] (.bq [.agg s.cells,cY b]) (aV p f seen) X Y:=by
 let s:=zi p (nm.extract 1 nm.size) k
 have Zv:s.sm:=Ls p _ k hp.1.2;obtain⟨c,hc⟩:∃c:Bool,∀H,bZ prog 183 [seen.av,aS s.home] (cY c) H H []:=by
  obtain⟨c,h⟩:=oa seen s.home hs;exact⟨_,h⟩
 have hg:=Xm (f:=f) (seen:=seen) (X:=X) (Y:=Y) hp (nm.extract 1 nm.size) k;cases hE:(bif (nm.toList==aq.toList)then true else(cr nm (Int.toNat (0:Int))!=(46:Int)))with
 |true=>
  refine⟨xo,false,Lr,λS J=> ?_⟩;have ht:=ah (ah (B6 p f seen S X Y nm k s (!(mF p (nm.extract 1 nm.size) k)) c) ?_) hE
  ·exact yc (cS _ _ _) ab hk ht rfl (.bq (.cons (.agg Lq) (.refl _))) rfl (D8 _ _) J
  ·cases h:(nm.toList==aq.toList)with
   |true=>rfl
   |false=>exact bl (by have:=jx.1 (show qU nm=false from h);omega)
 |false=>
  have gX:(nm.toList==aq.toList)=false:=by
   cases h:(nm.toList==aq.toList)with
   |true=>rw[h]at hE;cases hE
   |false=>rfl
  have ga:=jx.1 (show qU nm=false from gX);have key:∀S,(eb prog (cC [] [(54,.bq [.agg s.cells,cY (!(mF p (nm.extract 1 nm.size) k))]),(183,cY c)] []) aN [] 3 191 [.ptr 0 0,aS nm,i64 k] (H2 p f seen S X Y)).via (λr:AV×aa×List Nat=>(r.1,r.2.2))=_:=λS=>ah (ah (bO (ah (B6 p f seen S X Y nm k s (!(mF p (nm.extract 1 nm.size) k)) c) (by rw[gX];exact bl (by omega))) hE) (bl (by show (0:Int)<=1/\(1:Int)<=(nm.size:Int)/\(nm.size:Int)<=(nm.size:Int);omega))) (ct hg)
  cases hb:(!(mF p (nm.extract 1 nm.size) k))with
  |true=>exact⟨s,c,Zv,λS J=>yc (cS _ _ _) ab hk (ah (ah (key S) hb) (ct (.all hc))) rfl (.refl _) rfl (D8 _ _) J⟩
  |false=>exact⟨s,false,Zv,λS J=>yc (cS _ _ _) ab hk (bO (key S) hb) rfl (.refl _) rfl (D8 _ _) J⟩
theorem LQ (hk:gi (aV p f seen) X Y) (hp:p.sm) (d:aP):∃b:Bool,VM 193 [.ptr 0 0,.agg d.cells] (cY b) (aV p f seen) X Y:=by
 let s:=zi p (wG d.eA) 2
 have Zv:s.sm:=Ls p _ 2 hp.1.2;obtain⟨c,hc⟩:=He s.m (λi=>(az.mE s.m.aC).getD i []) (by
  have:=(az.dD Zv.1).opts;exact this)
 refine⟨(bif (bif (d.mg==(11:Int))then !(mF p (wG d.eA) 2)else false)then c else false),λS J=> ?_⟩;have ht:=ah (ah (ah (J8 p f seen S X Y d s (!(mF p (wG d.eA) 2)) c (wG d.eA)) (ct (.all (Qv d.eA)))) (ct (Xm hp (wG d.eA) 2))) (LN (λ_=>ct (.all hc)));exact yc (cS _ _ _) ab hk ht rfl (.refl _) (by
  simp only[dG,ff,eP (uV d)];rfl) (.sc _) J
end
def Hg (m:az) (full:ByteArray) (i:Nat) (n j:Int):List AV:=bz 48 [(0,.ptr 0 0),(2,aS full),(4,.ptr 2 0),(6,i64 i),(7,.ptr 3 0),(8,i64 n),(12,m.aI.av 3 cF.cells),(13,i64 m.aI.l.length),(14,i64 i),(20,m.af.av 13 aP.cells),(21,i64 m.af.l.length),(22,i64 j)]
def Se (m:az) (full:ByteArray) (i:Int):List AV:=bz 48 [(0,.ptr 0 0),(2,aS full),(4,.ptr 2 0),(12,m.aI.av 3 cF.cells),(13,i64 m.aI.l.length),(14,i64 i)]
theorem B7 (p:aJ) (f:ag) (seen:bD) (S:hU) (X:AV) (Y:bu) (m:az) (el:Nat->List AV) (full:ByteArray) (i:Nat) (n:Int) (j:Nat):(db prog (cC [] [] []) aN [] 3 (ae f189 6) (Hg m full i n j) (.cells (dH (aV p f seen) S X)::Y::[.cells (m.flat el),.cells (fa m.aI.l i).cells])).via (Hc [0,2,4,6,7,8,12,13,14,20,21,22] 2)=bif (decide ((j:Int)<(m.af.l.length:Int)))then bif (decide (0<=(j:Int)/\(j:Int)<(m.af.l.length:Int)))then some ((.some ⟨.normal,(bz 48 [(0,(.ptr 0 0)),(2,(aS (full))),(4,(.ptr 2 0)),(6,(i64 ((i:Int)))),(7,(.ptr 3 0)),(8,(i64 (bif ((m.af.l.getD j default).lN==IntKind.i64.wrap ((i:Int)+(1:Int)))then(IntKind.i64.wrap (n+(1:Int)))else(n)))),(12,(m.aI.av 3 cF.cells)),(13,(i64 ((m.aI.l.length:Int)))),(14,(i64 ((i:Int)))),(20,(m.af.av 13 aP.cells)),(21,(i64 ((m.af.l.length:Int)))),(22,(i64 (IntKind.i64.wrap ((j:Int)+(1:Int)))))]),[(.cells (m.flat el)),(.cells ((fa m.aI.l i).cells))],true⟩))else none else some ((.some ⟨(.exit 2),(bz 48 [(0,(.ptr 0 0)),(2,(aS (full))),(4,(.ptr 2 0)),(6,(i64 ((i:Int)))),(7,(.ptr 3 0)),(8,(i64 (n))),(12,(m.aI.av 3 cF.cells)),(13,(i64 ((m.aI.l.length:Int)))),(14,(i64 ((i:Int)))),(20,(m.af.av 13 aP.cells)),(21,(i64 ((m.af.l.length:Int)))),(22,(i64 ((j:Int))))]),[(.cells (m.flat el)),(.cells ((fa m.aI.l i).cells))],true⟩)):=by kernel_rfl
theorem Hh (p:aJ) (f:ag) (seen:bD) (S:hU) (X:AV) (Y:bu) (m:az) (el:Nat->List AV) (full t:ByteArray) (i:Nat) (n:Int) (b:Bool):(db prog (cC [] [(186,aS t),(187,cY b)] []) (gr [⟨6,[0,2,4,6,7,8,12,13,14,20,21,22],.exit 2,Hg m full i n m.af.l.length,false⟩] aN) [] 3 (ae f189 2) (Se m full i) (.cells (dH (aV p f seen) S X)::Y::[.cells (m.flat el)])).via (mS [0,2,4,12,13,14] 1)=bif (decide ((i:Int)<(m.aI.l.length:Int)))then bif (decide (0<=(i:Int)/\(i:Int)<(m.aI.l.length:Int)))then bif (pZ (ae f189 6) (bz 48 [(0,(.ptr 0 0)),(2,(aS (full))),(4,(.ptr 2 0)),(6,(i64 ((i:Int)))),(7,(.ptr 3 0)),(8,(.sc (.int .i64 0))),(12,(m.aI.av 3 cF.cells)),(13,(i64 ((m.aI.l.length:Int)))),(14,(i64 ((i:Int)))),(20,(m.af.av 13 aP.cells)),(21,(i64 ((m.af.l.length:Int)))),(22,(.sc (.int .i64 0)))]) (.exit 2) (bz 48 [(0,(.ptr 0 0)),(2,(aS (full))),(4,(.ptr 2 0)),(6,(i64 ((i:Int)))),(7,(.ptr 3 0)),(8,(i64 (n))),(12,(m.aI.av 3 cF.cells)),(13,(i64 ((m.aI.l.length:Int)))),(14,(i64 ((i:Int)))),(20,(m.af.av 13 aP.cells)),(21,(i64 ((m.af.l.length:Int)))),(22,(i64 ((m.af.l.length:Int))))]) (aV p f seen) (X) (Y) [(.cells (m.flat el)),(.cells [(aS ((m.aI.l.getD i default).name)),(.aY ((m.aI.l.getD i default).opts.nl) 1 ((m.aI.l.getD i default).opts.l.length) (λjg=>(List.map dy (m.aI.l.getD i default).opts.l).getD jg []) .dA),(.aY ((m.aI.l.getD i default).dE.nl) 1 ((m.aI.l.getD i default).dE.l.length) (λjg=>(List.map dy (m.aI.l.getD i default).dE.l).getD jg []) .dA)])])then bif (eD 187 [(aS ((m.aI.l.getD i default).name))] (cY (b)) (aV p f seen) (X) (Y))then pI (b) (bif (eD 186 [(aS (full)),(aS ((m.aI.l.getD i default).name))] (aS (t)) (aV p f seen) (X) (Y))then bif (ca (aV p f seen) (X) (Y))then some ((.some ⟨.normal,(bz 48 [(0,(.ptr 0 0)),(2,(aS (full))),(4,(.ptr 2 0)),(12,(m.aI.av 3 cF.cells)),(13,(i64 ((m.aI.l.length:Int)))),(14,(i64 (IntKind.i64.wrap ((i:Int)+(1:Int)))))]),(aV p f seen),(X),(Y),[(.cells (m.flat el))],true⟩))else none else none)else none else none else none else some ((.some ⟨(.exit 0),(bz 48 [(0,(.ptr 0 0)),(2,(aS (full))),(4,(.ptr 2 0)),(12,(m.aI.av 3 cF.cells)),(13,(i64 ((m.aI.l.length:Int)))),(14,(i64 ((i:Int))))]),(aV p f seen),(X),(Y),[(.cells (m.flat el))],true⟩)):=by kernel_rfl
theorem Sf (p:aJ) (f:ag) (seen:bD) (S:hU) (X:AV) (Y:bu) (m:az) (el:Nat->List AV) (full:ByteArray):(eb prog (cC [] [] []) (gr [⟨2,[0,2,4,12,13,14],.exit 0,Se m full m.aI.l.length,true⟩] aN) [] 3 189 [.ptr 0 0,.agg (m.flat el),aS full] (H2 p f seen S X Y)).via (xz)=bif (fC (ae f189 2) (bz 48 [(0,(.ptr 0 0)),(2,(aS (full))),(4,(.ptr 2 0)),(12,(m.aI.av 3 cF.cells)),(13,(i64 ((m.aI.l.length:Int)))),(14,(.sc (.int .i64 0)))]) (.exit 0) (bz 48 [(0,(.ptr 0 0)),(2,(aS (full))),(4,(.ptr 2 0)),(12,(m.aI.av 3 cF.cells)),(13,(i64 ((m.aI.l.length:Int)))),(14,(i64 ((m.aI.l.length:Int))))]) (aV p f seen) (X) (Y) [(.cells (m.flat el))])then some ((.some ⟨(.bq []),(aV p f seen),(X),(Y),true⟩))else none:=by kernel_rfl
def foldI (st:Int->Nat->Int):Nat->Int
 |0=>0
 |j+1=>st (foldI st j) j
def Hi (st:Bool->Nat->Bool) (b:Bool):Nat->Bool
 |0=>b
 |j+1=>st (Hi st b j) j
section
variable {p:aJ}{f:ag}{seen:bD}{X:AV}{Y:bu}
theorem Sg (hk:gi (aV p f seen) X Y){m:az}(hm:m.sm) (el:Nat->List AV){full:ByteArray}(hf:full.size<=lim):TK 189 [.agg (m.flat el),aS full] (aV p f seen) X Y:=by
 have Bh:=az.dD hm;have tf:=Bh.af.1;have vw:=Bh.aI.1;unfold dg at tf vw;have inner:∀i,ry (ae f189 6) (Hg m full i 0 ((0:Nat):Int)) (.exit 2) (Hg m full i (foldI (λn j=>bif ((m.af.l.getD j default).lN==IntKind.i64.wrap ((i:Int)+1))then IntKind.i64.wrap (n+1)else n) m.af.l.length) m.af.l.length) (aV p f seen) X Y [.cells (m.flat el),.cells (fa m.aI.l i).cells]:=λi=>
  Sa (λj=>Hg m full i (foldI (λn j=>bif ((m.af.l.getD j default).lN==IntKind.i64.wrap ((i:Int)+1))then IntKind.i64.wrap (n+1)else n) j) j) (.exit 2) (by simp) m.af.l.length (λj hj S=>by
   have hb:=ah (ah (B7 p f seen S X Y m el full i (foldI (λn j=>bif ((m.af.l.getD j default).lN==IntKind.i64.wrap ((i:Int)+1))then IntKind.i64.wrap (n+1)else n) j) j) (bl (by omega))) (bl (by omega));rw[wi (x:=(j:Int)+1) (by omega) (by omega)]at hb;exact fT (cS _ _ _) ab hk hb rfl rfl) (λS=>fT (cS _ _ _) ab hk (bO (B7 p f seen S X Y m el full i _ _) (da (by omega))) rfl rfl)
 have outer:fb (ae f189 2) (Se m full ((0:Nat):Int)) (.exit 0) (Se m full m.aI.l.length) (aV p f seen) X Y [.cells (m.flat el)]:=
  ir (λi=>Se m full i) (.exit 0) (by simp) m.aI.l.length (λi hi S=>by
   have Aw:(m.aI.l.getD i default).name.size<=lim:=by
    have:=(Bh.aI.2 _ (bM hi)).1;unfold dg at this;unfold lim;omega
   obtain⟨b,mr⟩:∃b:Bool,∀H,bZ prog 187 [aS (m.aI.l.getD i default).name] (cY b) H H []:=by
    obtain⟨c,h⟩:=lk (m.aI.l.getD i default).name Aw;exact⟨_,h⟩
   have hb:=ah (ah (ah (ah (Hh p f seen S X Y m el full (ar full (m.aI.l.getD i default).name) i _ b) (bl (by omega))) (bl (by omega))) (oz (inner i))) (ct (.all mr));have hb:=ah (ah (abk hb) (ct (.all (jw hf Aw)))) (bU hk);rw[wi (x:=(i:Int)+1) (by omega) (by omega)]at hb;exact dm (cS _ _ _) (de ab) hk hb rfl rfl) (λS=>dm (cS _ _ _) (de ab) hk (bO (Hh p f seen S X Y m el full aq m.aI.l.length 0 false) (da (by omega))) rfl rfl)
 intro S;exact rv (cS _ _ _) (de ab) hk (ah (Sf p f seen S X Y m el full) (eO outer)) rfl (by
  simp only[dG,ff,eP (pJ m el)];rfl) rfl
end
def Sh (s:dh) (full:ByteArray) (b:Bool) (i:Int):List AV:=bz 118 [(0,.ptr 0 0),(2,aS full),(4,.ptr 2 0),(10,cY b),(86,s.e.aM.av 4 eT.cells),(87,i64 s.e.aM.l.length),(88,i64 i)]
theorem Hj (p:aJ) (f:ag) (seen:bD) (S:hU) (X:AV) (Y:bu) (d:aP) (s:dh) (g:ag) (full:ByteArray) (b:Bool) (i:Nat):(db prog (cC [] [] []) aN [] 3 (ae f192 19) (Sh s full b i) (.cells (dH (aV p f seen) S X)::Y::[.cells d.cells,.cells s.cells,.cells g.cells])).via (Hc [0,2,4,10,86,87,88] 3)=bif (decide ((i:Int)<(s.e.aM.l.length:Int)))then bif (decide (0<=(i:Int)/\(i:Int)<(s.e.aM.l.length:Int)))then some ((.some ⟨.normal,(bz 118 [(0,(.ptr 0 0)),(2,(aS (full))),(4,(.ptr 2 0)),(10,(cY (bif (b)then true else((s.e.aM.l.getD i default).name.toList==d.pg.toList)))),(86,(s.e.aM.av 4 eT.cells)),(87,(i64 ((s.e.aM.l.length:Int)))),(88,(i64 (IntKind.i64.wrap ((i:Int)+(1:Int)))))]),[(.cells (d.cells)),(.cells (s.cells)),(.cells (g.cells))],true⟩))else none else some ((.some ⟨(.exit 1),(bz 118 [(0,(.ptr 0 0)),(2,(aS (full))),(4,(.ptr 2 0)),(10,(cY (b))),(86,(s.e.aM.av 4 eT.cells)),(87,(i64 ((s.e.aM.l.length:Int)))),(88,(i64 ((i:Int))))]),[(.cells (d.cells)),(.cells (s.cells)),(.cells (g.cells))],true⟩)):=by kernel_rfl
theorem zV (p:aJ) (f:ag) (seen:bD) (S:hU) (X:AV) (Y:bu) (d:aP) (s:dh) (g:ag) (full t:ByteArray) (b c h e:Bool):(eb prog (cC [] [(191,.bq [.agg s.cells,cY b]),(67,.bq [.agg g.cells,cY h]),(257,aS t),(258,cY c)] []) (gr [⟨19,[0,2,4,10,86,87,88],.exit 1,Sh s full e s.e.aM.l.length,false⟩] aN) [24,33] 3 192 [.ptr 0 0,.agg d.cells,aS full] (H2 p f seen S X Y)).via (xz)=bif (d.mg==11)then bif (eD 191 [(.ptr 0 0),(aS (d.eA)),(.sc (.int .i64 2))] (.bq [(.agg (s.cells)),(cY (b))]) (aV p f seen) (X) (Y))then bif (ca (aV p f seen) (X) (Y))then bif (!d.has)then bif (ca (aV p f seen) (X) (Y))then some ((.some ⟨(.bq []),(aV p f seen),(X),(Y),true⟩))else none else bif (eD 258 [(i64 (d.mg)),(aS (d.pg))] (cY (c)) (aV p f seen) (X) (Y))then bif (d.mg==14)then bif (pZ (ae f192 19) (bz 118 [(0,(.ptr 0 0)),(2,(aS (full))),(4,(.ptr 2 0)),(10,(.sc (.bool false))),(86,(aR)),(87,(i64 (((0:Nat):Int)))),(88,(.sc (.int .i64 0)))]) (.exit 1) (bz 118 [(0,(.ptr 0 0)),(2,(aS (full))),(4,(.ptr 2 0)),(10,(cY (e))),(86,(s.e.aM.av 4 eT.cells)),(87,(i64 ((s.e.aM.l.length:Int)))),(88,(i64 ((s.e.aM.l.length:Int))))]) (aV p f seen) (X) (Y) [(.cells (d.cells)),(.cells (FZ))])then bif (ca (aV p f seen) (X) (Y))then some ((.some ⟨(.bq []),(aV p f seen),(X),(Y),true⟩))else none else none else bif (ca (aV p f seen) (X) (Y))then some ((.some ⟨(.bq []),(aV p f seen),(X),(Y),true⟩))else none else none else none else none else bif (d.mg==14)then bif (eD 191 [(.ptr 0 0),(aS (d.eA)),(.sc (.int .i64 3))] (.bq [(.agg (s.cells)),(cY (b))]) (aV p f seen) (X) (Y))then bif (eD 67 [(p.av),(aS (s.home))] (.bq [(.agg (g.cells)),(cY (h))]) (aV p f seen) (X) (Y))then bif (ca (aV p f seen) (X) (Y))then bif (!d.has)then bif (ca (aV p f seen) (X) (Y))then some ((.some ⟨(.bq []),(aV p f seen),(X),(Y),true⟩))else none else bif (eD 258 [(i64 (d.mg)),(aS (d.pg))] (cY (c)) (aV p f seen) (X) (Y))then bif (d.mg==14)then bif (pZ (ae f192 19) (bz 118 [(0,(.ptr 0 0)),(2,(aS (full))),(4,(.ptr 2 0)),(10,(.sc (.bool false))),(86,(s.e.aM.av 4 eT.cells)),(87,(i64 ((s.e.aM.l.length:Int)))),(88,(.sc (.int .i64 0)))]) (.exit 1) (bz 118 [(0,(.ptr 0 0)),(2,(aS (full))),(4,(.ptr 2 0)),(10,(cY (e))),(86,(s.e.aM.av 4 eT.cells)),(87,(i64 ((s.e.aM.l.length:Int)))),(88,(i64 ((s.e.aM.l.length:Int))))]) (aV p f seen) (X) (Y) [(.cells (d.cells)),(.cells (s.cells)),(.cells (g.cells))])then bif (ca (aV p f seen) (X) (Y))then some ((.some ⟨(.bq []),(aV p f seen),(X),(Y),true⟩))else none else none else bif (ca (aV p f seen) (X) (Y))then some ((.some ⟨(.bq []),(aV p f seen),(X),(Y),true⟩))else none else none else none else none else none else bif (eD 257 [(i64 (d.mg))] (aS (t)) (aV p f seen) (X) (Y))then bif (ca (aV p f seen) (X) (Y))then bif (!d.has)then bif (ca (aV p f seen) (X) (Y))then some ((.some ⟨(.bq []),(aV p f seen),(X),(Y),true⟩))else none else bif (eD 258 [(i64 (d.mg)),(aS (d.pg))] (cY (c)) (aV p f seen) (X) (Y))then bif (d.mg==14)then bif (pZ (ae f192 19) (bz 118 [(0,(.ptr 0 0)),(2,(aS (full))),(4,(.ptr 2 0)),(10,(.sc (.bool false))),(86,(aR)),(87,(i64 (((0:Nat):Int)))),(88,(.sc (.int .i64 0)))]) (.exit 1) (bz 118 [(0,(.ptr 0 0)),(2,(aS (full))),(4,(.ptr 2 0)),(10,(cY (e))),(86,(s.e.aM.av 4 eT.cells)),(87,(i64 ((s.e.aM.l.length:Int)))),(88,(i64 ((s.e.aM.l.length:Int))))]) (aV p f seen) (X) (Y) [(.cells (d.cells)),(.cells (FZ))])then bif (ca (aV p f seen) (X) (Y))then some ((.some ⟨(.bq []),(aV p f seen),(X),(Y),true⟩))else none else none else bif (ca (aV p f seen) (X) (Y))then some ((.some ⟨(.bq []),(aV p f seen),(X),(Y),true⟩))else none else none else none else none:=by kernel_rfl
section
variable {p:aJ}{f:ag}{seen:bD}{X:AV}{Y:bu}
theorem LR (hk:gi (aV p f seen) X Y) (hp:p.sm) (hs:seen.l.length<=lim){d:aP}(hd:d.sm) (full:ByteArray):TK 192 [.agg d.cells,aS full] (aV p f seen) X Y:=by
 intro S;have hdf:d.pg.size<=lim:=by have:=hd.2.2.2.1;unfold dg at this;unfold lim;omega
 have fin:∀{tl:List (FuncId×AV)} {es:List LO},(eb prog (cC [] tl []) (gr es aN) [24,33] 3 192 [.ptr 0 0,.agg d.cells,aS full] (H2 p f seen S X Y)).via xz=some (some ⟨.bq [],aV p f seen,X,Y,true⟩)->∃S',∀J,bZ prog 192 [.ptr 0 0,.agg d.cells,aS full] (.bq []) (.cells (dH (aV p f seen) S X)::Y::J) (.cells (dH (aV p f seen) S' X)::Y::J) [0]:=λh=>
  rv (cS _ _ _) (de ab) hk h rfl (by
   simp only[dG,ff,eP (uV d)];rfl) rfl
 obtain⟨c,hc⟩:=A8 d.mg d.pg hdf;cases Xb:(d.mg==(11:Int))with
 |true=>
  have ZB:(d.mg==(14:Int))=false:=by
   have:d.mg=11:=by simpa using Xb
   rw[this];rfl
  obtain⟨s,b,KW,hv⟩:=zU hk hp hs d.eA 2;have ht:=ah (ah (ah (zV p f seen S X Y d s uD full aq b c false false) Xb) (ct hv)) (bU hk);cases hh:(!d.has)with
  |true=>exact fin (ah (ah ht hh) (bU hk))
  |false=>exact fin (ah (bO (ah (bO ht hh) (ct (.all hc))) ZB) (bU hk))
 |false=>
  cases ZB:(d.mg==(14:Int))with
  |true=>
   obtain⟨s,b,KW,hv⟩:=zU hk hp hs d.eA 3;have hn:s.e.aM.l.length<=dg:=KW.2.1.2.1.1;unfold dg at hn
   let g:=(fileOf p s.home).getD uD
   have abp:=F0 p s.home (by have:=hp.2.1;unfold dg at this;omega);have hl:∀b,ry (ae f192 19) (Sh s full b ((0:Nat):Int)) (.exit 1) (Sh s full (Hi (λb i=>bif b then true else((s.e.aM.l.getD i default).name.toList==d.pg.toList)) b s.e.aM.l.length) s.e.aM.l.length) (aV p f seen) X Y [.cells d.cells,.cells s.cells,.cells g.cells]:=λb=>
    Sa (λi=>Sh s full (Hi (λb i=>bif b then true else((s.e.aM.l.getD i default).name.toList==d.pg.toList)) b i) i) (.exit 1) (by simp) s.e.aM.l.length (λi hi S=>by
     have hb:=ah (ah (Hj p f seen S X Y d s g full (Hi (λb i=>bif b then true else((s.e.aM.l.getD i default).name.toList==d.pg.toList)) b i) i) (bl (by omega))) (bl (by omega));rw[wi (x:=(i:Int)+1) (by omega) (by omega)]at hb;exact fT (cS _ _ _) ab hk hb rfl rfl) (λS=>fT (cS _ _ _) ab hk (bO (Hj p f seen S X Y d s g full _ _) (da (by omega))) rfl rfl)
   have ht:=ah (ah (ah (ah (bO (zV p f seen S X Y d s g full aq b c (fileOf p s.home).isSome (Hi (λb i=>bif b then true else((s.e.aM.l.getD i default).name.toList==d.pg.toList)) false s.e.aM.l.length)) Xb) ZB) (ct hv)) (ct (.all abp))) (bU hk);cases hh:(!d.has)with
   |true=>exact fin (ah (ah ht hh) (bU hk))
   |false=>exact fin (ah (ah (ah (ah (bO ht hh) (ct (.all hc))) ZB) (oz (hl false))) (bU hk))
  |false=>
   obtain⟨t,hts,hv⟩:=FU d.mg;have ht:=ah (ah (bO (bO (zV p f seen S X Y d xo uD full t false c false false) Xb) ZB) (ct (.all hv))) (bU hk);cases hh:(!d.has)with
   |true=>exact fin (ah (ah ht hh) (bU hk))
   |false=>exact fin (ah (bO (ah (bO ht hh) (ct (.all hc))) ZB) (bU hk))
end
def Hk (m:az) (full:ByteArray) (b:Bool) (i:Int):List AV:=bz 176 [(0,.ptr 0 0),(4,aS full),(6,.ptr 2 0),(7,.ptr 3 0),(10,cY b),(58,m.af.av 13 aP.cells),(59,i64 m.af.l.length),(60,i64 i)]
def Hl (a:az) (full:ByteArray) (q:Bool×Int) (i:Int):List AV:=bz 176 [(0,.ptr 0 0),(4,aS full),(6,.ptr 2 0),(7,.ptr 3 0),(10,cY q.1),(14,i64 q.2),(126,a.af.av 13 aP.cells),(127,i64 a.af.l.length),(128,i64 i)]
theorem B8 (p:aJ) (f:ag) (seen:bD) (S:hU) (X:AV) (Y:bu) (m a:az) (el e2:Nat->List AV) (full:ByteArray) (b:Bool) (i:Nat):(db prog (cC [] [] []) aN [] 3 (ae f188 4) (Hk m full b i) (.cells (dH (aV p f seen) S X)::Y::[.cells (m.flat el),.cells (a.flat e2)])).via (Hc [0,4,6,7,10,58,59,60] 2)=bif (decide ((i:Int)<(m.af.l.length:Int)))then bif (decide (0<=(i:Int)/\(i:Int)<(m.af.l.length:Int)))then some ((.some ⟨.normal,(bz 176 [(0,(.ptr 0 0)),(4,(aS (full))),(6,(.ptr 2 0)),(7,(.ptr 3 0)),(10,(cY (bif ((i:Int)==0)then(bif (bif (bif (bif (bif (bif (bif (bif (bif (bif (b)then((m.af.l.getD i default).name.toList==(bif (i:Int)==1 then(⟨#[(118:UInt8),(97:UInt8),(108:UInt8),(117:UInt8),(101:UInt8)]⟩:ByteArray)else(⟨#[(107:UInt8),(101:UInt8),(121:UInt8)]⟩:ByteArray)).toList)else false)then((m.af.l.getD i default).cc==IntKind.i64.wrap ((i:Int)+(1:Int)))else false)then((m.af.l.getD i default).label==1)else false)then(!(m.af.l.getD i default).has)else false)then((m.af.l.getD i default).lN==0)else false)then((m.af.l.getD i default).mg !=1)else false)then((m.af.l.getD i default).mg !=2)else false)then((m.af.l.getD i default).mg !=12)else false)then((m.af.l.getD i default).mg !=11)else false)then((m.af.l.getD i default).mg !=14)else false)else(bif (bif (bif (bif (bif (b)then((m.af.l.getD i default).name.toList==(bif (i:Int)==1 then(⟨#[(118:UInt8),(97:UInt8),(108:UInt8),(117:UInt8),(101:UInt8)]⟩:ByteArray)else(⟨#[(107:UInt8),(101:UInt8),(121:UInt8)]⟩:ByteArray)).toList)else false)then((m.af.l.getD i default).cc==IntKind.i64.wrap ((i:Int)+(1:Int)))else false)then((m.af.l.getD i default).label==1)else false)then(!(m.af.l.getD i default).has)else false)then((m.af.l.getD i default).lN==0)else false)))),(58,(m.af.av 13 aP.cells)),(59,(i64 ((m.af.l.length:Int)))),(60,(i64 (IntKind.i64.wrap ((i:Int)+(1:Int)))))]),[(.cells (m.flat el)),(.cells (a.flat e2))],true⟩))else none else some ((.some ⟨(.exit 0),(bz 176 [(0,(.ptr 0 0)),(4,(aS (full))),(6,(.ptr 2 0)),(7,(.ptr 3 0)),(10,(cY (b))),(58,(m.af.av 13 aP.cells)),(59,(i64 ((m.af.l.length:Int)))),(60,(i64 ((i:Int))))]),[(.cells (m.flat el)),(.cells (a.flat e2))],true⟩)):=by kernel_rfl
theorem B9 (p:aJ) (f:ag) (seen:bD) (S:hU) (X:AV) (Y:bu) (m a:az) (el e2:Nat->List AV) (full t:ByteArray) (q:Bool×Int) (i:Nat):(db prog (cC [] [(256,aS t)] []) aN [] 3 (ae f188 15) (Hl a full q i) (.cells (dH (aV p f seen) S X)::Y::[.cells (m.flat el),.cells (a.flat e2)])).via (Hc [0,4,6,7,10,14,126,127,128] 2)=bif (decide ((i:Int)<(a.af.l.length:Int)))then bif (decide (0<=(i:Int)/\(i:Int)<(a.af.l.length:Int)))then bif (bif ((a.af.l.getD i default).mg==11)then(decide ((⟨#[(46:UInt8)]⟩:ByteArray).size+full.size<=(4611686018427387904:Nat)))else true)then bif (bif ((a.af.l.getD i default).mg==11)then((a.af.l.getD i default).eA.toList==((⟨#[(46:UInt8)]⟩:ByteArray)++full).toList)else false)then bif (q.fst)then bif ((a.af.l.getD i default).label==3)then bif (eD 256 [(aS ((a.af.l.getD i default).name))] (aS (t)) (aV p f seen) (X) (Y))then some ((.some ⟨.normal,(bz 176 [(0,(.ptr 0 0)),(4,(aS (full))),(6,(.ptr 2 0)),(7,(.ptr 3 0)),(10,(cY (t.toList==m.name.toList))),(14,(i64 (IntKind.i64.wrap (q.snd+(1:Int))))),(126,(a.af.av 13 aP.cells)),(127,(i64 ((a.af.l.length:Int)))),(128,(i64 (IntKind.i64.wrap ((i:Int)+(1:Int)))))]),[(.cells (m.flat el)),(.cells (a.flat e2))],true⟩))else none else some ((.some ⟨.normal,(bz 176 [(0,(.ptr 0 0)),(4,(aS (full))),(6,(.ptr 2 0)),(7,(.ptr 3 0)),(10,(.sc (.bool false))),(14,(i64 (IntKind.i64.wrap (q.snd+(1:Int))))),(126,(a.af.av 13 aP.cells)),(127,(i64 ((a.af.l.length:Int)))),(128,(i64 (IntKind.i64.wrap ((i:Int)+(1:Int)))))]),[(.cells (m.flat el)),(.cells (a.flat e2))],true⟩))else some ((.some ⟨.normal,(bz 176 [(0,(.ptr 0 0)),(4,(aS (full))),(6,(.ptr 2 0)),(7,(.ptr 3 0)),(10,(.sc (.bool false))),(14,(i64 (IntKind.i64.wrap (q.snd+(1:Int))))),(126,(a.af.av 13 aP.cells)),(127,(i64 ((a.af.l.length:Int)))),(128,(i64 (IntKind.i64.wrap ((i:Int)+(1:Int)))))]),[(.cells (m.flat el)),(.cells (a.flat e2))],true⟩))else bif (q.fst)then bif (eD 256 [(aS ((a.af.l.getD i default).name))] (aS (t)) (aV p f seen) (X) (Y))then some ((.some ⟨.normal,(bz 176 [(0,(.ptr 0 0)),(4,(aS (full))),(6,(.ptr 2 0)),(7,(.ptr 3 0)),(10,(cY (!t.toList==m.name.toList))),(14,(i64 (q.snd))),(126,(a.af.av 13 aP.cells)),(127,(i64 ((a.af.l.length:Int)))),(128,(i64 (IntKind.i64.wrap ((i:Int)+(1:Int)))))]),[(.cells (m.flat el)),(.cells (a.flat e2))],true⟩))else none else some ((.some ⟨.normal,(bz 176 [(0,(.ptr 0 0)),(4,(aS (full))),(6,(.ptr 2 0)),(7,(.ptr 3 0)),(10,(.sc (.bool false))),(14,(i64 (q.snd))),(126,(a.af.av 13 aP.cells)),(127,(i64 ((a.af.l.length:Int)))),(128,(i64 (IntKind.i64.wrap ((i:Int)+(1:Int)))))]),[(.cells (m.flat el)),(.cells (a.flat e2))],true⟩))else none else none else some ((.some ⟨(.exit 2),(bz 176 [(0,(.ptr 0 0)),(4,(aS (full))),(6,(.ptr 2 0)),(7,(.ptr 3 0)),(10,(cY (q.fst))),(14,(i64 (q.snd))),(126,(a.af.av 13 aP.cells)),(127,(i64 ((a.af.l.length:Int)))),(128,(i64 ((i:Int))))]),[(.cells (m.flat el)),(.cells (a.flat e2))],true⟩)):=by kernel_rfl
theorem Hm (p:aJ) (f:ag) (seen:bD) (S:hU) (X:AV) (Y:bu) (m a:az) (el e2:Nat->List AV) (full:ByteArray) (c b h:Bool) (q:Bool×Int):(eb prog (cC [] [(229,cY c)] []) (gr [⟨4,[0,4,6,7,10,58,59,60],.exit 0,Hk m full b m.af.l.length,false⟩,⟨15,[0,4,6,7,10,14,126,127,128],.exit 2,Hl a full q a.af.l.length,false⟩] aN) [] 3 188 [.ptr 0 0,.agg (m.flat el),.agg (a.flat e2),cY h,aS full] (H2 p f seen S X Y)).via (xz)=bif (eD 229 [(.agg (m.flat el))] (cY (c)) (aV p f seen) (X) (Y))then bif (!c)then some ((.some ⟨(.bq []),(aV p f seen),(X),(Y),true⟩))else bif (pZ (ae f188 4) (bz 176 [(0,(.ptr 0 0)),(4,(aS (full))),(6,(.ptr 2 0)),(7,(.ptr 3 0)),(10,(cY (bif (bif (h)then((m.af.l.length:Int)==2)else false)then(IntKind.i64.wrap (IntKind.i64.wrap (IntKind.i64.wrap (IntKind.i64.wrap (IntKind.i64.wrap (IntKind.i64.wrap ((m.aC.length:Int)+(m.aQ.l.length:Int))+(m.bB.l.length:Int))+(m.exts.l.length:Int))+(m.aI.l.length:Int))+(m.bp.l.length:Int))+(m.bY.l.length:Int))==0)else false))),(58,(m.af.av 13 aP.cells)),(59,(i64 ((m.af.l.length:Int)))),(60,(.sc (.int .i64 0)))]) (.exit 0) (bz 176 [(0,(.ptr 0 0)),(4,(aS (full))),(6,(.ptr 2 0)),(7,(.ptr 3 0)),(10,(cY (b))),(58,(m.af.av 13 aP.cells)),(59,(i64 ((m.af.l.length:Int)))),(60,(i64 ((m.af.l.length:Int))))]) (aV p f seen) (X) (Y) [(.cells (m.flat el)),(.cells (a.flat e2))])then bif (pZ (ae f188 15) (bz 176 [(0,(.ptr 0 0)),(4,(aS (full))),(6,(.ptr 2 0)),(7,(.ptr 3 0)),(10,(cY (b))),(14,(.sc (.int .i64 0))),(126,(a.af.av 13 aP.cells)),(127,(i64 ((a.af.l.length:Int)))),(128,(.sc (.int .i64 0)))]) (.exit 2) (bz 176 [(0,(.ptr 0 0)),(4,(aS (full))),(6,(.ptr 2 0)),(7,(.ptr 3 0)),(10,(cY (q.fst))),(14,(i64 (q.snd))),(126,(a.af.av 13 aP.cells)),(127,(i64 ((a.af.l.length:Int)))),(128,(i64 ((a.af.l.length:Int))))]) (aV p f seen) (X) (Y) [(.cells (m.flat el)),(.cells (a.flat e2))])then bif (ca (aV p f seen) (X) (Y))then some ((.some ⟨(.bq []),(aV p f seen),(X),(Y),true⟩))else none else none else none else none:=by kernel_rfl
section
variable {p:aJ}{f:ag}{seen:bD}{X:AV}{Y:bu}
theorem J9 (hk:gi (aV p f seen) X Y){m a:az}(hm:m.sm) (ha:a.sm) (el e2:Nat->List AV) (h:Bool){full:ByteArray}(hf:full.size<=lim):TK 188 [.agg (m.flat el),.agg (a.flat e2),cY h,aS full] (aV p f seen) X Y:=by
 intro S;have rH:=az.dD hm;have has:=az.dD ha;have tf:=rH.af.1;have vw:=has.af.1;have s7:=rH.opts;unfold dg at tf vw;unfold lim at hf;obtain⟨c,hc⟩:=He m el s7;have hA:∀b,∃b',ry (ae f188 4) (Hk m full b ((0:Nat):Int)) (.exit 0) (Hk m full b' m.af.l.length) (aV p f seen) X Y [.cells (m.flat el),.cells (a.flat e2)]:=
  yb (λb i=>Hk m full b i) (.exit 0) (by simp) m.af.l.length (λb i hi=>⟨_,λS=>by
   have hb:=ah (ah (B8 p f seen S X Y m a el e2 full b i) (bl (by omega))) (bl (by omega));have ew:IntKind.i64.wrap ((i:Int)+(1:Int))=((i+1:Nat):Int):=wi (x:=(i:Int)+1) (by omega) (by omega);rw[ew]at hb;exact fT (cS _ _ _) ab hk hb rfl rfl⟩) (λb S=>fT (cS _ _ _) ab hk (bO (B8 p f seen S X Y m a el e2 full b _) (da (by omega))) rfl rfl)
 have hB:∀q,∃q',ry (ae f188 15) (Hl a full q ((0:Nat):Int)) (.exit 2) (Hl a full q' a.af.l.length) (aV p f seen) X Y [.cells (m.flat el),.cells (a.flat e2)]:=
  yb (λq i=>Hl a full q i) (.exit 2) (by simp) a.af.l.length (λq i hi=>by
   have Aw:(a.af.l.getD i default).name.size<=1000000000000:=by
    have:=(has.af.2 _ (bM hi)).1;unfold dg at this;omega
   obtain⟨t,_,ht⟩:=sK _ Aw;have ew:IntKind.i64.wrap ((i:Int)+(1:Int))=((i+1:Nat):Int):=wi (x:=(i:Int)+1) (by omega) (by omega);have xJ:=λS=>ah (ah (ah (B9 p f seen S X Y m a el e2 full t q i) (bl (by omega))) (bl (by omega))) (LN (λ_=>bl (by show 1+full.size<=4611686018427387904;omega)))
   simp only[ew]at xJ;cases h1:(bif ((a.af.l.getD (i:Int).toNat default).mg==(11:Int))then((a.af.l.getD (i:Int).toNat default).eA.toList==((⟨#[(46:UInt8)]⟩:ByteArray)++full).toList)else false)with
   |true=>
    cases h2:q.fst with
    |true=>
     cases h3:((a.af.l.getD (i:Int).toNat default).label==(3:Int))with
     |true=>exact⟨(_,_),λS=>fT (cS _ _ _) ab hk (ah (ah (ah (ah (xJ S) h1) h2) h3) (ct (.all ht))) rfl rfl⟩
     |false=>exact⟨(_,_),λS=>fT (cS _ _ _) ab hk (bO (ah (ah (xJ S) h1) h2) h3) rfl rfl⟩
    |false=>exact⟨(_,_),λS=>fT (cS _ _ _) ab hk (bO (ah (xJ S) h1) h2) rfl rfl⟩
   |false=>
    cases h2:q.fst with
    |true=>exact⟨(_,_),λS=>fT (cS _ _ _) ab hk (ah (ah (bO (xJ S) h1) h2) (ct (.all ht))) rfl rfl⟩
    |false=>exact⟨(_,_),λS=>fT (cS _ _ _) ab hk (bO (bO (xJ S) h1) h2) rfl rfl⟩) (λq S=>fT (cS _ _ _) ab hk (bO (B9 p f seen S X Y m a el e2 full aq q _) (da (by omega))) rfl rfl)
 obtain⟨F,hF⟩:=aip hA;obtain⟨G,hG⟩:=aip hB;have fin:∀{tl:List (FuncId×AV)} {es:List LO},(eb prog (cC [] tl []) (gr es aN) [] 3 188 [.ptr 0 0,.agg (m.flat el),.agg (a.flat e2),cY h,aS full] (H2 p f seen S X Y)).via xz=some (some ⟨.bq [],aV p f seen,X,Y,true⟩)->∃S',∀J,bZ prog 188 [.ptr 0 0,.agg (m.flat el),.agg (a.flat e2),cY h,aS full] (.bq []) (.cells (dH (aV p f seen) S X)::Y::J) (.cells (dH (aV p f seen) S' X)::Y::J) [0]:=λh=>
  rv (cS _ _ _) (de ab) hk h rfl (by
   simp only[dG,ff,eP (pJ m el),eP (pJ a e2)];rfl) rfl
 cases hcn:(!c)with
 |true=>exact fin (ah (ah (Hm p f seen S X Y m a el e2 full c false h (false,0)) (ct (.all hc))) hcn)
 |false=>exact fin (ah (ah (ah (bO (ah (Hm p f seen S X Y m a el e2 full c (F _) h (G (F _,0))) (ct (.all hc))) hcn) (oz (hF _))) (oz (hG (F _,0)))) (bU hk))
end
end Go.Proofs.YtiipaliigpkfhaaGreat.Ab
