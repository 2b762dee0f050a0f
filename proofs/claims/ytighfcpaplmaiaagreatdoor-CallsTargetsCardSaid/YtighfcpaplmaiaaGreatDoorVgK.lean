import Derived.Test.YtighfcpaplmaiaaGreatDoorVgJ
import Derived.KernelRfl
set_option linter.unusedVariables false
set_option linter.unusedSimpArgs false
namespace Go.Vg
open Go.RowKit
def kv(K:b1z)(h:List VObj)(a:List Nat):V→Prop:=fun r=>K r h a
def kh(K:b1z)(a:List Nat):List VObj→Prop:=fun h=>K .junk h a
def ka(K:b1z)(h:List VObj):V→List Nat→Prop:=fun r a=>K r h a
def km(K:b1z)(a:List Nat):V→List VObj→Prop:=fun r h=>K r h a
def kop(E:Env)(n:Nat)(ops r:List Oper)(d:Option Nat)(M:St→Prop)(tm:List (Nat×V)):b1z:=fun v h a=>c4C E n ops r (St.put ⟨tm,h,a⟩ d v) M
def f6p(E:Env)(hb ab n:Nat)(y:Code)(Q:VEx→St→Prop):VEx→St→Prop:=c3g (fun s'=>vc E hb ab n y s' Q) Q
def d9u(i:Nat)(Q:VEx→St→Prop):VEx→St→Prop:=c1D i Q
def d9R(r:V):b1z:=fun v _ _=>share v=r
def d6u(E:Env)(rs:List ResultVar)(K:b1z):VEx→St→Prop:=fun e s=>(∀ id,e ≠ .exit id)∧f3H E s rs fun v=>K v s.heap s.arr
section
variable {E : Env} {hb ab n i j l' : Nat} {tm : List (Nat × V)} {h : List VObj} {a : List Nat} {Q : VEx → St → Prop} {K : b1z} {v r : V} {M : St → Prop} {s : St} {y : Code} {ops l : List Oper} {d : Nat}
@[go_sem] theorem g7V:kv K h a v=K v h a:=rfl
@[go_sem] theorem g8H:kh K a h=K .junk h a:=rfl
@[go_sem] theorem g8q:km K a v h=K v h a:=rfl
@[go_sem] theorem g7Z:ka K h v a=K v h a:=rfl
@[go_sem] theorem f7i:kop E n ops l none M tm v h a=c4C E n ops l ⟨tm,h,a⟩ M:=rfl
@[go_sem] theorem f8G:kop E n ops l (some d) M tm v h a=c4C E n ops l ⟨(d,v)::tm,h,a⟩ M:=rfl
@[go_sem] theorem f0o:f6p E hb ab n y Q .normal s=vc E hb ab n y s Q:=rfl
@[go_sem] theorem f4K:f6p E hb ab n y Q (.exit i) s=Q (.exit i) s:=rfl
@[go_sem] theorem f7h:f6p E hb ab n y Q .ret s=Q .ret s:=rfl
@[go_sem] theorem d9o:d9u i Q .normal s=Q .normal s:=rfl
@[go_sem] theorem f6K:d9u i Q .ret s=Q .ret s:=rfl
@[go_sem] theorem f3e:d9u i Q (.exit i) s=Q .normal s:=by simp[d9u,c1D]
@[go_sem] theorem f5f(h:(j == i)=false):d9u i Q (.exit j) s=Q (.exit j) s:=by simp only[d9u,c1D];rw[if_neg (by simpa using h)]
@[go_sem] theorem f6F:d9R r v h a=(share v=r):=rfl
def b5k(E:Env)(tm:List (Nat×V))(h:List VObj):List ResultVar→List V→(V→Prop)→Prop
 | [],acc,K=>(match acc.reverse with | [v]=>K v | vs=>K (.tuple vs))
 | .tmp t::r,acc,K=>b5k E tm h r (b1S tm t::acc) K
 | .cell b t::r,acc,K=>match vAt h (b1S tm b)with
  | some cs=>vLoadL E t cs fun v=>b5k E tm h r (v::acc) K
  | none=>False
theorem d5U:∀ (rs:List ResultVar) (acc:List V) (L:List V→Prop) (K:V→Prop),(∀ vs,L vs=(match acc.reverse++vs with | [v]=>K v | vs=>K (.tuple vs))) →
  c2M E ⟨tm,h,a⟩ rs L=b5k E tm h rs acc K:=by
 intro rs
 induction rs with
 | nil=>intro acc L K hl;simp only[c2M,b5k,hl,g9B]
 | cons r rs ih =>
  intro acc L K hl
  cases r with
  | tmp t =>
   simp only[c2M,b5k]
   exact ih _ _ _ fun vs=>by rw[hl];simp
  | cell b t =>
   simp only[c2M,b5k]
   cases vAt h (b1S tm b)with
   | none=>rfl
   | some cs =>
    simp only
    congr 1
    funext v
    exact ih _ _ _ fun vs=>by rw[hl];simp
theorem d7f{rs:List ResultVar}{K:V→Prop}:f3H E ⟨tm,h,a⟩ rs K=b5k E tm h rs [] K:=d5U rs [] _ K fun vs=>rfl
def g4q(E:Env)(tm:List (Nat×V))(h:List VObj)(r:List ResultVar)(acc:List V)(K:V→Prop):V→Prop:=fun v=>b5k E tm h r (v::acc) K
@[go_sem] theorem g3z{rs:List ResultVar}{acc:List V}{K:V→Prop}:g4q E tm h rs acc K v=b5k E tm h rs (v::acc) K:=rfl
@[go_sem] theorem f1p{K:V→Prop}:b5k E tm h [] [v] K=K v:=rfl
@[go_sem] theorem f1l{K:V→Prop}:b5k E tm h [] [] K=K (.tuple []):=rfl
@[go_sem] theorem f1D{u:V}{K:V→Prop}:b5k E tm h [] [v,u] K=K (.tuple [u,v]):=rfl
@[go_sem] theorem f2y{u x:V}{K:V→Prop}:b5k E tm h [] [v,u,x] K=K (.tuple [x,u,v]):=rfl
@[go_sem] theorem f3t{t:Nat}{rs:List ResultVar}{acc:List V}{K:V→Prop}:b5k E tm h (.tmp t::rs) acc K=b5k E tm h rs (b1S tm t::acc) K:=rfl
def d0C(E:Env)(t:TypeId)(o:Option (List V))(K:V→Prop):Prop:=match o with
 | some cs=>vLoadL E t cs K
 | none=>False
@[go_sem] theorem f0k{t:TypeId}{cs:List V}{K:V→Prop}:d0C E t (some cs) K=vLoadL E t cs K:=rfl
@[go_sem] theorem f2h{b:Nat}{t:TypeId}{rs:List ResultVar}{acc:List V}{K:V→Prop}:b5k E tm h (.cell b t::rs) acc K=d0C E t (vAt h (b1S tm b)) (g4q E tm h rs acc K):=rfl
@[go_sem] theorem d9m{rs:List ResultVar}:d6u E rs K .normal ⟨tm,h,a⟩=b5k E tm h rs [] (kv K h a):=by simp only[d6u,d7f,ne_eq,reduceCtorEq,not_false_eq_true,implies_true,true_and];rfl
@[go_sem] theorem f6d{rs:List ResultVar}:d6u E rs K .ret ⟨tm,h,a⟩=b5k E tm h rs [] (kv K h a):=by simp only[d6u,d7f,ne_eq,reduceCtorEq,not_false_eq_true,implies_true,true_and];rfl
theorem d9H:vc E hb ab n .skip s Q=Q .normal s:=rfl
theorem d4c:vc E hb ab n (.label l') s Q=Q .normal s:=rfl
theorem f0U:vc E hb ab n (.exit i) s Q=Q (.exit i) s:=rfl
theorem f5T:vc E hb ab n .ret s Q=Q .ret s:=rfl
theorem f5h{x:Code}:vc E hb ab n (.seq x y) s Q=vc E hb ab n x s (f6p E hb ab n y Q):=rfl
theorem d3H:vc E hb ab n (.scope y) s Q=vc E hb ab n y s Q:=rfl
theorem d4v:vc E hb ab n (.block i y) s Q=vc E hb ab n y s (d9u i Q):=rfl
theorem d8x:vc E hb ab n (.loop y) s Q=Snd E hb ab n (.loop y) s Q:=rfl
theorem f0e:vc E hb ab n (.region i l.toArray true) s Q=Snd E hb ab n (.region i l.toArray true) s Q:=by simp[vc]
theorem d2p:vc E hb ab n (.region i l.toArray false) s Q=c4C E n l l s (Q .normal):=by simp[vc]
def c9m(E:Env)(hb ab n:Nat)(x y:Code)(s:St)(Q:VEx→St→Prop)(b:V):Prop :=
 match b with
 | .bool b=>(b=true→vc E hb ab n x s Q)∧(b=false→vc E hb ab n y s Q)
 | _=>False
theorem d8o{c:Operand}{x:Code}:vc E hb ab n (.cond c x y) s Q=c9m E hb ab n x y s Q (ev E s.tmps c):=rfl
@[go_sem] theorem f1I{b:Bool}{x:Code}:c9m E hb ab n x y s Q (.bool b)=((b=true→vc E hb ab n x s Q)∧(b=false→vc E hb ab n y s Q)):=rfl
@[go_sem high] theorem f2D{x:Code}:c9m E hb ab n x y s Q (.bool true)=vc E hb ab n x s Q:=by simp[c9m]
@[go_sem high] theorem d9x{x:Code}:c9m E hb ab n x y s Q (.bool false)=vc E hb ab n y s Q:=by simp[c9m]
theorem d4h:c4C E n ops [] s M=M s:=rfl
theorem d1e{op:Op}{dst:Option Tmp}{ty:TypeId}{pos:String}{after:Array Edge}{r:List Oper} :
  c4C E n ops (⟨dst,op,ty,pos,after,none⟩::r) ⟨tm,h,a⟩ M=(c2Z n ⟨dst,.move (.tmp 0),ty,pos,after,none⟩=true∧vop E ⟨tm,h,a⟩ op (kop E n ops r dst M tm)):=rfl
def kgd(E:Env)(n:Nat)(ops r:List Oper)(op:Op)(dst:Option Nat)(s:St)(M:St→Prop)(d:Nat)(want:Bool)(x:V):Prop :=
 match x with
 | .bool b=>(b=want→vop E ⟨(d,.bool want)::s.tmps,s.heap,s.arr⟩ op (kop E n ops r dst M ((d,.bool want)::s.tmps))) ∧
   (b = !want→kop E n ops r dst M ((d,.bool (!want))::s.tmps) (.tuple []) s.heap s.arr)
 | .tuple []=>kop E n ops r dst M s.tmps (.tuple []) s.heap s.arr
 | _=>False
def kgo(E:Env)(n:Nat)(ops r:List Oper)(op:Op)(dst:Option Nat)(s:St)(M:St→Prop)(want:Bool)(o:Option Nat):Prop :=
 match o with
 | some d=>d<n∧kgd E n ops r op dst s M d want (b1S s.tmps d)
 | none=>False
theorem c8L{op:Op}{dst:Option Tmp}{ty:TypeId}{pos:String}{after:Array Edge}{want:Bool}{r:List Oper} :
  c4C E n ops (⟨dst,op,ty,pos,after,some (j,want)⟩::r) ⟨tm,h,a⟩ M=(c2Z n ⟨dst,.move (.tmp 0),ty,pos,after,none⟩=true∧kgo E n ops r op dst ⟨tm,h,a⟩ M want (b5M ops j)):=by
 simp only[c4C,kgo]
 congr 1
@[go_sem] theorem f6R{op:Op}{dst:Option Nat}{want:Bool}:kgo E n ops l op dst ⟨tm,h,a⟩ M want (some d)=(d<n∧kgd E n ops l op dst ⟨tm,h,a⟩ M d want (b1S tm d)):=rfl
section
variable {op : Op} {dst : Option Nat} {b : Bool}
@[go_sem] theorem g8x:kgd E n ops l op dst ⟨tm,h,a⟩ M d true (.bool b)=((b=true→vop E ⟨(d,.bool true)::tm,h,a⟩ op (kop E n ops l dst M ((d,.bool true)::tm))) ∧
 (b=false→kop E n ops l dst M ((d,.bool false)::tm) (.tuple []) h a)):=rfl
@[go_sem] theorem g8p:kgd E n ops l op dst ⟨tm,h,a⟩ M d false (.bool b)=((b=false→vop E ⟨(d,.bool false)::tm,h,a⟩ op (kop E n ops l dst M ((d,.bool false)::tm))) ∧
 (b=true→kop E n ops l dst M ((d,.bool true)::tm) (.tuple []) h a)):=rfl
@[go_sem] theorem g8n{want:Bool}:kgd E n ops l op dst ⟨tm,h,a⟩ M d want (.tuple [])=kop E n ops l dst M tm (.tuple []) h a:=rfl
@[go_sem high] theorem g7e:kgd E n ops l op dst ⟨tm,h,a⟩ M d true (.bool true)=vop E ⟨(d,.bool true)::tm,h,a⟩ op (kop E n ops l dst M ((d,.bool true)::tm)):=by simp[kgd]
@[go_sem high] theorem g4n:kgd E n ops l op dst ⟨tm,h,a⟩ M d true (.bool false)=kop E n ops l dst M ((d,.bool false)::tm) (.tuple []) h a:=by simp[kgd]
@[go_sem high] theorem g7w:kgd E n ops l op dst ⟨tm,h,a⟩ M d false (.bool false)=vop E ⟨(d,.bool false)::tm,h,a⟩ op (kop E n ops l dst M ((d,.bool false)::tm)):=by simp[kgd]
@[go_sem high] theorem g5g:kgd E n ops l op dst ⟨tm,h,a⟩ M d false (.bool true)=kop E n ops l dst M ((d,.bool true)::tm) (.tuple []) h a:=by simp[kgd]
end
attribute [go_sem ↓] d3H d9H d4c f0U f5T f5h d4v d8x f0e d2p d8o d4h d1e c8L
end
section
variable {α : Type} {a : α} {l : List α} {i j : Nat} {x : V} {r : List (Nat × V)}
theorem d9p(h:(i == j)=false):b1S ((j,x)::r) i=b1S r i:=by
 simp only[b1S];rw[if_neg (by simpa using h)]
theorem c2u:b1S ((i,x)::r) i=x:=by simp[b1S]
theorem d5K:b1S [] i = .junk:=rfl
attribute [go_sem] d9p c2u d5K
theorem d4H:(a::l)[0]? = some a:=rfl
theorem d5M(h:(i == 0)=false):(a::l)[i]? = l[i - 1]?:=by
 cases i with
 | zero=>simp at h
 | succ i=>simp
theorem drop_zero:List.drop 0 l=l:=rfl
theorem d1C(h:(i == 0)=false):List.drop i (a::l)=List.drop (i - 1) l:=by
 cases i with
 | zero=>simp at h
 | succ i=>simp
theorem c9Y:List.replicate 0 a=[]:=rfl
theorem c9A(h:(i == 0)=false):List.replicate i a=a::List.replicate (i - 1) a:=by
 cases i with
 | zero=>simp at h
 | succ i=>rfl
theorem d2Q{d:α}:(a::l).getD 0 d=a:=rfl
theorem d0j{d:α}(h:(i == 0)=false):(a::l).getD i d=l.getD (i - 1) d:=by
 cases i with
 | zero=>simp at h
 | succ i=>simp
theorem take_zero:List.take 0 l=[]:=rfl
theorem d1V(h:(i == 0)=false):List.take i (a::l)=a::List.take (i - 1) l:=by
 cases i with
 | zero=>simp at h
 | succ i=>simp
theorem d6k{b:α}:(a::l).set 0 b=b::l:=rfl
theorem d3G{b:α}(h:(i == 0)=false):(a::l).set i b=a::l.set (i - 1) b:=by
 cases i with
 | zero=>simp at h
 | succ i=>simp
theorem d4z{m:List α}:(a::l)++m=a::(l++m):=rfl
theorem d9w{m:List α}:[]++m=m:=rfl
theorem f0I:([]:List α).length=0:=rfl
theorem d5X:(a::l).length=l.length+1:=rfl
theorem map_nil{β:Type}{f:α→β}:[].map f=[]:=rfl
theorem map_cons{β:Type}{f:α→β}:(a::l).map f=f a::l.map f:=rfl
theorem d7T:l.toArray[i]? = l[i]?:=by simp
theorem all_nil{f:α→Bool}:[].all f=true:=rfl
theorem all_cons{f:α→Bool}:(a::l).all f=(f a && l.all f):=rfl
attribute [go_sem] g9H d4H d5M drop_zero d1C c9Y c9A d2Q d0j take_zero d1V d6k d3G d4z d9w f0I d5X map_nil map_cons d7T all_nil all_cons
 g9O h0b g9Q Bool.and_false Bool.not_true Bool.not_false true_and and_true g9h h0l eq_self
 Nat.reduceBEq Nat.reduceLT Nat.reduceLeDiff Nat.reduceEqDiff Nat.reduceAdd Nat.reduceMul Nat.reduceSub Int.reduceToNat Int.reduceLT Int.reduceLE Int.reduceAdd Int.reduceSub Int.reduceMul Int.reduceNeg Int.reduceEq and_self List.isEmpty_cons List.isEmpty_nil List.toList_toArray
theorem c7U{o:Oper}{l:List Oper}:b5M (o::l) 0=o.dst:=rfl
theorem c8F{o:Oper}{l:List Oper}(h:(i == 0)=false):b5M (o::l) i=b5M l (i - 1):=by
 cases i with
 | zero=>simp at h
 | succ i=>simp[b5M]
theorem f4C{d:Option Tmp}{op:Op}{ty:TypeId}{pos:String}{after:Array Edge}{g:Option (Nat×Bool)}:(Oper.mk d op ty pos after g).dst=d:=rfl
theorem c9z{n d:Nat}{op:Op}{ty:TypeId}{pos:String}{after:Array Edge}{g:Option (Nat×Bool)}:c2Z n ⟨some d,op,ty,pos,after,g⟩=decide (d<n):=rfl
theorem d1A{n:Nat}{op:Op}{ty:TypeId}{pos:String}{after:Array Edge}{g:Option (Nat×Bool)}:c2Z n ⟨none,op,ty,pos,after,g⟩=true:=rfl
attribute [go_sem] c7U c8F f4C c9z d1A b9V c0q
end
section
variable {E : Env} {t t' : TypeId} {K : V → Prop} {k : IntKind} {a b : Int}
@[go_sem] theorem f7m:vBin E .add t (.int k a) (.int k b) K=K (.int k (k.wrap (a+b))):=by simp[vBin,vIntOp]
@[go_sem] theorem f8l:vBin E .sub t (.int k a) (.int k b) K=K (.int k (k.wrap (a - b))):=by simp[vBin,vIntOp]
@[go_sem] theorem f6n:vBin E .mul t (.int k a) (.int k b) K=K (.int k (k.wrap (a * b))):=by simp[vBin,vIntOp]
@[go_sem] theorem f6w:vBin E .eql t (.int k a) (.int k b) K=K (.bool (decide (a=b))):=by simp[vBin,vIntOp];rfl
@[go_sem] theorem f6s:vBin E .neq t (.int k a) (.int k b) K=K (.bool (!decide (a=b))):=by simp[vBin,vIntOp,bne];rfl
@[go_sem] theorem f8j:vBin E .lss t (.int k a) (.int k b) K=K (.bool (decide (a<b))):=by simp[vBin,vIntOp]
@[go_sem] theorem f7s:vBin E .leq t (.int k a) (.int k b) K=K (.bool (decide (a≤b))):=by simp[vBin,vIntOp]
@[go_sem] theorem f7Y:vBin E .gtr t (.int k a) (.int k b) K=K (.bool (decide (b<a))):=by simp[vBin,vIntOp]
@[go_sem] theorem f6o:vBin E .geq t (.int k a) (.int k b) K=K (.bool (decide (b≤a))):=by simp[vBin,vIntOp]
theorem c5f(a:ByteArray):∀ (n i:Nat) (r:List UInt8),a.size - i=n→ByteArray.toList.loop a i r=r.reverse++a.data.toList.drop i:=by
 intro n
 induction n with
 | zero =>
  intro i r h
  unfold ByteArray.toList.loop
  rw[if_neg (by omega)]
  have:a.data.toList.length≤i:=by simpa using(by omega:a.size≤i)
  rw[List.drop_eq_nil_of_le this];simp
 | succ n ih =>
  intro i r h
  unfold ByteArray.toList.loop
  rw[if_pos (by omega),ih (i+1) _ (by omega)]
  have hl:i<a.data.toList.length:=by simpa using(by omega:i<a.size)
  rw[List.drop_eq_getElem_cons hl]
  have hg:a.get! i=a.data.toList[i]:=by
   have hs:i<a.data.size:=by simpa using hl
   show a.data[i]! = _
   rw[getElem!_pos a.data i hs];simp
  simp[hg]
theorem b6z(a:ByteArray):a.toList=a.data.toList:=by
 have:=c5f a (a.size - 0) 0 [] rfl
 simpa[ByteArray.toList]using this
theorem b5S(a b:ByteArray):(a.toList == b.toList)=decide (a=b):=by
 rw[h0g]
 simp only[beq_iff_eq,g9h,b6z]
 constructor
 ·intro h
  cases a;cases b
  simp at h
  rw[h]
 ·rintro rfl;rfl
section
variable {x y : ByteArray}
@[go_sem] theorem f5X:vBin E .add t (.str x) (.str y) K=(x.size+y.size≤1152921504606846976∧K (.str (x++y))):=rfl
@[go_sem] theorem f4T:vBin E .eql t (.str x) (.str y) K=K (.bool (decide (x=y))):=by simp only[vBin,vStrOp,b5S]
@[go_sem] theorem f4J:vBin E .neq t (.str x) (.str y) K=K (.bool (!decide (x=y))):=by simp only[vBin,vStrOp,b5S]
@[go_sem] theorem f3o:vBin E .gtr t (.str x) (.str y) K=K (.bool (!(Op.bytesLess x.toList y.toList || decide (x=y)))):=by simp only[vBin,vStrOp,b5S]
end
@[go_sem] theorem g2r{b:Bool}:vUn .not (.bool b) K=K (.bool (!b)):=rfl
end
section
variable {E : Env} {tm : List (Nat × V)} {h : List VObj} {ar : List Nat} {K : b1z} {x y z : Operand} {t t' : TypeId}
@[go_sem] theorem g6Z{i:Nat}:ev E tm (.tmp i)=b1S tm i:=rfl
@[go_sem] theorem f6E{v:Value}:ev E tm (.const v)=ofV v:=rfl
@[go_sem] theorem g0T{f:FuncId}:ev E tm (.func f) = .func f []:=rfl
def evG(o:Option (List V)):V:=match o with
 | some cs => .fptr cs
 | none => .junk
@[go_sem] theorem f6a{cs:List V}:evG (some cs) = .fptr cs:=rfl
@[go_sem] theorem f5g{g:Nat}:ev E tm (.global g)=evG (E.gl g):=rfl
@[go_sem] theorem f7z{b:Bool}:ofV (.bool b) = .bool b:=rfl
@[go_sem] theorem g1Y{k:IntKind}{n:Int}:ofV (.int k n) = .int k n:=rfl
@[go_sem] theorem f7F:ofV (.pointer none) = .nilp:=rfl
@[go_sem] theorem f7M:ofV (.slice none 0 0) = .slice .nil 0 []:=rfl
@[go_sem] theorem f6X:ofV (.map none) = .nilmap:=rfl
def g7A(s:ByteArray):V:=if s.size≤1152921504606846976 then .str s else .junk
@[go_sem] theorem g2R{b:ByteArray}:ofV (.string b)=g7A b:=rfl
@[go_sem] theorem f7j{l:List UInt8}(h:decide (l.length≤1000000)=true):g7A ⟨l.toArray⟩ = .str ⟨l.toArray⟩:=by
 refine if_pos ?_
 have:l.length≤1000000:=by simpa using h
 show l.toArray.size≤_
 simp;omega
theorem d4k:vop E ⟨tm,h,ar⟩ (.move x) K=kv K h ar (ev E tm x):=rfl
theorem c9g:vop E ⟨tm,h,ar⟩ (.assign x) K=kv K h ar (ev E tm x):=rfl
def d9z(c a b:V)(K:V→Prop):Prop:=match c with
 | .bool t=>K (if t then a else b)
 | _=>False
@[go_sem high] theorem f1V{a c:V}{K:V→Prop}:d9z (.bool true) a c K=K a:=rfl
@[go_sem high] theorem f0g{a c:V}{K:V→Prop}:d9z (.bool false) a c K=K c:=rfl
theorem d6b:vop E ⟨tm,h,ar⟩ (.pick x y z) K=d9z (ev E tm x) (ev E tm y) (ev E tm z) (kv K h ar):=rfl
theorem d2R:vop E ⟨tm,h,ar⟩ (.alloc t) K=((b5L E t=true∧d1Q E t (b3t E t))∧kv K (h++[d6X E t (b3t E t)]) ar (.ptr h.length 0)):=rfl
theorem d8m:vop E ⟨tm,h,ar⟩ (.box t x) K=((ev E tm x).some? = true∧kv K (h++[.cells (cellsV (ev E tm x))]) ar (.ptr h.length 0)):=rfl
def evP(E:Env)(tm:List (Nat×V))(ps:List (Nat×Operand)):List (Nat×V):=ps.map fun p=>(p.1,ev E tm p.2)
@[go_sem] theorem f9m:evP E tm []=[]:=rfl
@[go_sem] theorem f7r{i:Nat}{r:List (Nat×Operand)}:evP E tm ((i,x)::r)=(i,ev E tm x)::evP E tm r:=rfl
theorem d2Y{ps:List (Nat×Operand)}:vop E ⟨tm,h,ar⟩ (.build t ps.toArray) K=vBuild E t (evP E tm ps) (kv K h ar):=rfl
theorem c0w{n:Nat}{ps:List (Nat×Operand)}:vop E ⟨tm,h,ar⟩ (.buildSlice t n ps.toArray) K=vBuildSlice E t n (evP E tm ps) (kv K h ar):=rfl
theorem d3M:vop E ⟨tm,h,ar⟩ (.load t x) K=d0C E t (vAt h (ev E tm x)) (kv K h ar):=rfl
theorem d0E:vop E ⟨tm,h,ar⟩ (.store t x y) K=b9n E h t (ev E tm x) (ev E tm y) (kh K ar):=rfl
def g0u(x:V)(K:V→Prop):Prop:=match x with
 | .ptr id off=>K (.ptr id off)
 | .fptr cs=>K (.fptr cs)
 | .vptr id k gen off=>K (.vptr id k gen off)
 | _=>False
@[go_sem] theorem f6m{i o:Nat}{K:V→Prop}:g0u (.ptr i o) K=K (.ptr i o):=rfl
@[go_sem] theorem f5x{cs:List V}{K:V→Prop}:g0u (.fptr cs) K=K (.fptr cs):=rfl
theorem c3P:vop E ⟨tm,h,ar⟩ (.nilCheck x) K=g0u (ev E tm x) (kv K h ar):=rfl
theorem f0w{op:BinOp}:vop E ⟨tm,h,ar⟩ (.binOp op t x y t') K=vBinC E op t (b8f y) (ev E tm x) (ev E tm y) (kv K h ar):=rfl
theorem d3J:vop E ⟨tm,h,ar⟩ (.makeInterface t x) K=vMkIface E t (ev E tm x) (kv K h ar):=rfl
theorem d2H:vop E ⟨tm,h,ar⟩ (.panic x) K=d2x E h ar (ev E tm x):=rfl
theorem f5s{op:UnOp}:vop E ⟨tm,h,ar⟩ (.unOp op t x) K=vUn op (ev E tm x) (kv K h ar):=rfl
def f1c(E:Env)(a b:Option TypeDesc)(x:V)(K:V→Prop):Prop:=match a,b,x with
 | some _,some (.int k),.int _ n=>K (.int k (k.wrap n))
 | some _,some .string,.str b=>K (.str b)
 | some (.slice e),some .string,.slice _ e' es=>((es=[]∨e'=e)∧E.P.underlying e=some (.int .u8)∧E.P.cellsOf e=1)∧match b9t es with
   | some ns=>K (.str (b9e ns))
   | none=>False
 | some .string,some (.slice e),.str b=>(E.P.underlying e=some (.int .u8)∧E.P.cellsOf e=1∧E.P.bytesOf e=1∧b.size≤140737488355328)∧K (sl e (b2o b))
 | _,_,_=>False
@[go_sem] theorem f4l{E:Env}{e:Nat}{b:ByteArray}{K:V→Prop}:f1c E (some .string) (some (.slice e)) (.str b) K=((E.P.underlying e=some (.int .u8)∧E.P.cellsOf e=1∧E.P.bytesOf e=1∧b.size≤140737488355328)∧K (sl e (b2o b))):=rfl
@[go_sem] theorem f2O{α β:Type}{f:α→β}{a:α}:(some a).map f=some (f a):=rfl
@[go_sem] theorem f4G{d:TypeDesc}{k k':IntKind}{n:Int}{K:V→Prop}:f1c E (some d) (some (.int k)) (.int k' n) K=K (.int k (k.wrap n)):=rfl
theorem c5n:vop E ⟨tm,h,ar⟩ (.convert t t' x) K=f1c E (E.P.underlying t) (E.P.underlying t') (ev E tm x) (kv K h ar):=rfl
def evL(E:Env)(tm:List (Nat×V))(ps:List Operand):List V:=ps.map (ev E tm)
@[go_sem] theorem g0F:evL E tm []=[]:=rfl
@[go_sem] theorem f6e{r:List Operand}:evL E tm (x::r)=ev E tm x::evL E tm r:=rfl
theorem c4s{f:FuncId}{caps:List Operand}:vop E ⟨tm,h,ar⟩ (.makeFunc (.func f) #[] caps.toArray) K=kv K h ar (.func f (evL E tm caps)):=by simp[vop,evL,kv]
theorem c4m{f:FuncId}{x:Operand}{r:List Operand}:vop E ⟨tm,h,ar⟩ (.makeFunc (.func f) (x::r).toArray #[]) K=kv K h ar (.meth f (evL E tm (x::r))):=by simp[vop,evL,kv]
def evO(E:Env)(tm:List (Nat×V)):Option Operand→Option V
 | some x=>some (ev E tm x)
 | none=>none
@[go_sem] theorem f6P:evO E tm none=none:=rfl
@[go_sem] theorem f6H:evO E tm (some x)=some (ev E tm x):=rfl
def f7C(E:Env)(b c:Bool)(h:List VObj)(ar:List Nat)(t:TypeId)(x:V)(lo hi mx:Option V)(K:b1z):Prop:=match b,c with
 | true,true=>c3Q E ar t x lo hi (ka K h)
 | _,_=>vSlice E t x lo hi mx (kv K h ar)
@[go_sem] theorem f8g{b:Bool}{h:List VObj}{ar:List Nat}{x:V}{lo hi mx:Option V}:f7C E b false h ar t x lo hi mx K=vSlice E t x lo hi mx (kv K h ar):=by cases b <;> rfl
@[go_sem] theorem f3f{h:List VObj}{ar:List Nat}{x:V}{lo hi mx:Option V}:f7C E true true h ar t x lo hi mx K=c3Q E ar t x lo hi (ka K h):=rfl
theorem d0N{lo hi mx:Option Operand}:vop E ⟨tm,h,ar⟩ (.slice t x lo hi mx) K=f7C E (E.vecT t) (b6r (ev E tm x) (evO E tm lo) (evO E tm hi) (evO E tm mx)) h ar t (ev E tm x) (evO E tm lo) (evO E tm hi) (evO E tm mx) K:=by
 have e:∀ o:Option Operand,o.map (ev E tm)=evO E tm o:=fun o=>by cases o <;> rfl
 simp only[vop,e]
 unfold f7C
 cases E.vecT t <;> cases b6r (ev E tm x) (evO E tm lo) (evO E tm hi) (evO E tm mx) <;> rfl
section
variable {lo hi mx : Option V} {x y y' : V}
@[go_sem] theorem f3R{s:ByteArray}:b6r (.str s) lo hi mx=false:=rfl
@[go_sem] theorem f2q{a b c d e:Nat}{kd:IntKind}{l:Int}:b6r (.vec a b c d e) none (some (.int kd l)) none=true:=rfl
@[go_sem] theorem f6I{o:Own}{e:Nat}{es:List (List V)}:b6r (.slice o e es) none hi mx=false:=by cases o <;> cases es <;> rfl
@[go_sem] theorem f7N:b6r x (some y') (some y) mx=false:=by cases x <;> first | rfl | (rename_i o e es;cases o <;> cases es <;> cases y' <;> rfl)
@[go_sem] theorem f4y{k e:Nat}{el:List V}{es:List (List V)}{kd:IntKind}{l:Int}:b6r (.slice (.arr k) e (el::es)) (some (.int kd l)) none none=true:=rfl
@[go_sem] theorem f2E{e:Nat}{el:List V}{es:List (List V)}{kd:IntKind}{l:Int}:b6r (.slice .full e (el::es)) (some (.int kd l)) none none=true:=rfl
end
theorem c1F{f:Nat}:vop E ⟨tm,h,ar⟩ (.fieldAddr t x f) K=vFieldAddr E t (ev E tm x) f (kv K h ar):=rfl
def d0P(E:Env)(d:Option TypeDesc)(x:V)(f:Nat)(K:V→Prop):Prop:=match d,x with
 | some (.struct fs),.agg cs=>match fs[f]? with
  | some fd=>vPart E fd.type cs fd.offset K
  | none=>False
 | _,_=>False
def d2L(E:Env)(o:Option Field)(cs:List V)(K:V→Prop):Prop:=match o with
 | some fd=>vPart E fd.type cs fd.offset K
 | none=>False
@[go_sem] theorem d6H{a1 a5 a6:String}{ty off b:Nat}{e:Bool}{cs:List V}{K:V→Prop}:d2L E (some ⟨a1,ty,off,e,a5,a6,b⟩) cs K=vPart E ty cs off K:=rfl
@[go_sem] theorem f2a{fs:Array Field}{cs:List V}{f:Nat}{K:V→Prop}:d0P E (some (.struct fs)) (.agg cs) f K=d2L E fs[f]? cs K:=rfl
theorem d1x{f:Nat}:vop E ⟨tm,h,ar⟩ (.field t x f) K=d0P E (E.P.underlying t) (ev E tm x) f (kv K h ar):=by
 simp only[vop,d0P]
 cases E.P.underlying t with
 | none=>rfl
 | some d=>cases d <;> rfl
theorem c2b:vop E ⟨tm,h,ar⟩ (.indexAddr t x y) K=vIndexAddr E t (ev E tm x) (ev E tm y) (kv K h ar):=rfl
theorem d0n:vop E ⟨tm,h,ar⟩ (.index t x y) K=vIndex E t (ev E tm x) (ev E tm y) (kv K h ar):=rfl
def c1T(x:V)(i:Nat)(K:V→Prop):Prop:=match x with
 | .tuple vs=>vHead (vs.drop i) K
 | _=>False
@[go_sem] theorem d3d{vs:List V}{i:Nat}{K:V→Prop}:c1T (.tuple vs) i K=vHead (vs.drop i) K:=rfl
@[go_sem] theorem f2e{c:V}{r:List V}{K:V→Prop}:vHead (c::r) K=K c:=rfl
theorem c5H{i:Nat}:vop E ⟨tm,h,ar⟩ (.extract x i) K=c1T (ev E tm x) i (kv K h ar):=by
 simp only[vop,c1T]
 cases ev E tm x <;> try rfl
 rename_i vs
 simp only[]
 cases h:vs[i]? with
 | none=>rw[List.drop_eq_nil_of_le (List.getElem?_eq_none_iff.1 h)];rfl
 | some y =>
  obtain⟨hl,rfl⟩:=g8Y.1 h
  rw[List.drop_eq_getElem_cons hl];rfl
def vFn(E:Env)(x:V)(args:List V)(heap:List VObj)(arr:List Nat)(K:b1z):Prop:=match x with
 | .func fid caps=>b0t E.P fid=true∧b0r E fid (args++caps) heap arr K
 | .meth fid xs=>b0t E.P fid=true∧b0r E fid (xs++args) heap arr K
 | _=>False
@[go_sem] theorem f6W{f:FuncId}{caps as:List V}{h:List VObj}{r:List Nat}{K:b1z}:vFn E (.func f caps) as h r K=(b0t E.P f=true∧b0r E f (as++caps) h r K):=rfl
theorem d5w{f:Operand}{as:List Operand}{tys:Array TypeId}:vop E ⟨tm,h,ar⟩ (.call ⟨.value f,as.toArray,tys⟩) K=vFn E (ev E tm f) (evL E tm as) h ar K:=rfl
theorem d8d{ty:TypeId}{tys:List TypeId}:vop E ⟨tm,h,ar⟩ (.call ⟨.builtin .len,#[x],(ty::tys).toArray⟩) K=b8K E h ty (ev E tm x) (kv K h ar):=by
 simp only[vop,c2f,List.getElem?_toArray,List.getElem?_cons_zero];rfl
theorem c8H:vop E ⟨tm,h,ar⟩ (.call ⟨.builtin .append,#[x,y],#[t,t']⟩) K=d9n E h ar t t' (ev E tm x) (ev E tm y) K:=rfl
theorem d5e:vop E ⟨tm,h,ar⟩ (.call ⟨.builtin .copy,#[x,y],#[t,t']⟩) K=c5Z E h t t' (ev E tm x) (ev E tm y) (fun r h'=>K r h' ar):=rfl
attribute [go_sem ↓] d5e
def f3g(E:Env)(b c:Bool)(h:List VObj)(ar:List Nat)(t t':TypeId)(x y:V)(K:b1z):Prop:=match b,c with
 | true,false=>c5A E h ar t t' x y K
 | _,_=>b5q E ar t t' x y (ka K h)
@[go_sem] theorem g4Q{h:List VObj}{ar:List Nat}{x y:V}:d9n E h ar t t' x y K=f3g E (E.vecT t) (b8j x) h ar t t' x y K:=by
 unfold d9n f3g
 cases E.vecT t <;> cases b8j x <;> rfl
@[go_sem] theorem f2i{c:Bool}{h:List VObj}{ar:List Nat}{x y:V}:f3g E false c h ar t t' x y K=b5q E ar t t' x y (ka K h):=by cases c <;> rfl
@[go_sem] theorem f5B{h:List VObj}{ar:List Nat}{x y:V}:f3g E true false h ar t t' x y K=c5A E h ar t t' x y K:=rfl
@[go_sem] theorem f5D{h:List VObj}{ar:List Nat}{x y:V}:f3g E true true h ar t t' x y K=b5q E ar t t' x y (ka K h):=rfl
@[go_sem] theorem d8b{e:Nat}{es:List (List V)}:b8j (.slice .full e es)=true:=rfl
@[go_sem] theorem f2j{k e:Nat}{es:List (List V)}:b8j (.slice (.arr k) e es)=true:=rfl
@[go_sem] theorem f2u{e:Nat}{es:List (List V)}:b8j (.slice .nil e es)=false:=rfl
@[go_sem] theorem f1M{a b c d e:Nat}:b8j (.vec a b c d e)=false:=rfl
theorem c8m{ok:Bool}:vop E ⟨tm,h,ar⟩ (.lookup t x y ok) K=vLookK E h t (ev E tm x) (ev E tm y) ok (kv K h ar):=rfl
theorem c2L:vop E ⟨tm,h,ar⟩ (.mapUpdate t x y z) K=vMapSetK E h t (ev E tm x) (ev E tm y) (ev E tm z) (kh K ar):=rfl
theorem c8n:vop E ⟨tm,h,ar⟩ (.insert t x y z) K=vMapSetK E h t (ev E tm x) (ev E tm y) (ev E tm z) (kh K ar):=rfl
theorem c5F:vop E ⟨tm,h,ar⟩ (.makeMap t none) K=kv K (h++[.map []]) ar (.map h.length):=by simp[vop,kv]
theorem c1Z:vop E ⟨tm,h,ar⟩ (.makeSlice t x y) K=b2Z E h t (ev E tm x) (ev E tm y) (km K ar):=rfl
theorem d0w:vop E ⟨tm,h,ar⟩ (.range t x) K=c1u E h t (ev E tm x) (km K ar):=rfl
theorem d5m:vop E ⟨tm,h,ar⟩ (.next x true) K=c7L h (ev E tm x) (km K ar):=by simp[vop];rfl
theorem d8W{tys:Array TypeId}:vop E ⟨tm,h,ar⟩ (.call ⟨.builtin .min,#[x,y],tys⟩) K=vMin (ev E tm x) (ev E tm y) (kv K h ar):=rfl
theorem d7N{tys:Array TypeId}:vop E ⟨tm,h,ar⟩ (.call ⟨.builtin .max,#[x,y],tys⟩) K=vMax (ev E tm x) (ev E tm y) (kv K h ar):=rfl
theorem d6c{z:Operand}{tys:Array TypeId}:vop E ⟨tm,h,ar⟩ (.call ⟨.builtin .max,#[x,y,z],tys⟩) K=vMax3 (ev E tm x) (ev E tm y) (ev E tm z) (kv K h ar):=rfl
section
variable {E : Env} {op : BinOp} {t : TypeId} {u v : V} {M : V → Prop} {c : Bool}
@[go_sem] theorem f2t{i:Nat}:b8f (.tmp i)=false:=rfl
@[go_sem] theorem f2k{k:IntKind}{n:Int}:b8f (.const (.int k n))=false:=rfl
@[go_sem] theorem f2C{s:ByteArray}:b8f (.const (.string s))=false:=rfl
@[go_sem] theorem d8y:vBinC E op t false u v M=vBin E op t u v M:=rfl
def g8I(d:Option TypeDesc)(op:BinOp)(x:V)(K:V→Prop):Prop :=
 match d,op,x with
 | some (.interface _),.eql,.nilif=>K (.bool true)
 | some (.interface _),.neq,.nilif=>K (.bool false)
 | some (.interface _),.eql,.iface _ _=>K (.bool false)
 | some (.interface _),.neq,.iface _ _=>K (.bool true)
 | _,_,_=>False
def g5W(d:Option TypeDesc)(t:TypeId)(x:V)(K:V→Prop):Prop :=
 match d with
 | some (.interface _)=>False
 | none=>False
 | _=>K (.iface t x)
@[go_sem] theorem f2m:vMkIface E t u M=g5W (E.P.underlying t) t u M:=rfl
@[go_sem] theorem f6A{xs ys:List V}:vBin E op t (.agg xs) (.agg ys) M=(c7O (b3f E.P t) xs ys∧f2c op (eqL xs ys) M):=rfl
@[go_sem] theorem f1i{ks:List Nat}{xs ys:List V}:c7O (some ks) xs ys=(b3A ks xs ys=true):=rfl
@[go_sem] theorem f7O:b3A [] [] []=true:=rfl
@[go_sem] theorem f7E{ks:List Nat}{a b:ByteArray}{xs ys:List V}:b3A (0::ks) (.str a::xs) (.str b::ys)=b3A ks xs ys:=by simp[b3A,d2D]
@[go_sem] theorem f8p{ks:List Nat}{k:IntKind}{a b:Int}{xs ys:List V}:b3A (1::ks) (.int k a::xs) (.int k b::ys)=b3A ks xs ys:=by simp[b3A,d2D]
@[go_sem] theorem f9H:eqL [] []=some true:=rfl
def f4s(b:Bool)(o:Option Bool):Option Bool:=o.map (b && ·)
@[go_sem] theorem f4m{a b:Bool}:f4s a (some b)=some (a && b):=rfl
@[go_sem] theorem g2d{a b:ByteArray}{xs ys:List V}:eqL (.str a::xs) (.str b::ys)=f4s (decide (a=b)) (eqL xs ys):=by
 simp only[eqL,eq1,f4s];cases eqL xs ys <;> rfl
@[go_sem] theorem g1R{k:IntKind}{a b:Int}{xs ys:List V}:eqL (.int k a::xs) (.int k b::ys)=f4s (decide (a=b)) (eqL xs ys):=by
 simp only[eqL,eq1,f4s,if_true];cases eqL xs ys <;> rfl
@[go_sem] theorem f8a{b:Bool}:f2c .eql (some b) M=M (.bool b):=rfl
@[go_sem] theorem f7H{b:Bool}:f2c .neq (some b) M=M (.bool (!b)):=rfl
end
attribute [go_sem ↓] d6c d3J d2H
attribute [go_sem ↓] c8m c2L c8n c5F c1Z d0w d5m d8W d7N d4k c9g d6b d2R d8m d2Y c0w d3M d0E c3P f0w f5s c5n c4s c4m d0N c1F d1x c2b d0n c5H d5w d8d c8H
end
section
variable {E : Env} {t t' : TypeId} {K : V → Prop} {heap : List VObj}
@[go_sem] theorem f7o{cs:List V}:vAt heap (.fptr cs)=some cs:=rfl
def g5D(o:Option VObj)(off:Nat):Option (List V):=match o with
 | some ob=>ob.cs?.map fun cs=>cs.drop off
 | _=>none
@[go_sem] theorem g2Z{E:Env}{t:TypeId}{cs:List V}:d6X E t cs=if E.tag t=true then .builder t ⟨#[]⟩else .cells cs:=rfl
@[go_sem] theorem f6x{E:Env}{t:TypeId}{cs:List V}:d1Q E t cs=(E.tag t=true→f8A cs=true):=rfl
@[go_sem] theorem f2H{cs:List V}{off:Nat}:g5D (some (.cells cs)) off=some (cs.drop off):=rfl
def f0d(o:Option VObj)(k gen off:Nat):Option (List V):=match o with
 | some (.vec k' gen' _ cs)=>if k'=k∧gen'=gen then some (cs.drop off)else none
 | _=>none
@[go_sem] theorem f7T{i k g o:Nat}:vAt heap (.vptr i k g o)=f0d heap[i]? k g o:=rfl
@[go_sem] theorem f2l{k g o:Nat}{e:TypeId}{cs:List V}:f0d (some (.vec k g e cs)) k g o=some (cs.drop o):=by simp[f0d]
@[go_sem] theorem f9v{i o:Nat}:vAt heap (.ptr i o)=g5D heap[i]? o:=rfl
def b6W(E:Env)(d:Option TypeDesc)(t:TypeId)(cs:List V)(K:V→Prop):Prop:=match d with
 | some (.struct _) | some (.array _ _)=>E.P.cellsOf t≤cs.length∧K (.agg (cs.take (E.P.cellsOf t)))
 | some _=>vHead cs K
 | none=>False
@[go_sem] theorem f6t{cs:List V}:vLoadL E t cs K=b6W E (E.P.underlying t) t cs K:=rfl
@[go_sem] theorem d4X{cs:List V}{fs:Array Field}:b6W E (some (.struct fs)) t cs K=(E.P.cellsOf t≤cs.length∧K (.agg (cs.take (E.P.cellsOf t)))):=rfl
@[go_sem] theorem d7C{cs:List V}{n e:Nat}:b6W E (some (.array n e)) t cs K=(E.P.cellsOf t≤cs.length∧K (.agg (cs.take (E.P.cellsOf t)))):=rfl
@[go_sem] theorem f1J{cs:List V}{k:IntKind}:b6W E (some (.int k)) t cs K=vHead cs K:=rfl
@[go_sem] theorem f0y{cs:List V}:b6W E (some .bool) t cs K=vHead cs K:=rfl
@[go_sem] theorem f2r{cs:List V}:b6W E (some .string) t cs K=vHead cs K:=rfl
@[go_sem] theorem d6w{cs:List V}{e:Nat}:b6W E (some (.slice e)) t cs K=vHead cs K:=rfl
@[go_sem] theorem f1A{cs:List V}{e:Nat}:b6W E (some (.pointer e)) t cs K=vHead cs K:=rfl
@[go_sem] theorem f1P{cs:List V}{k e:Nat}:b6W E (some (.map k e)) t cs K=vHead cs K:=rfl
def c6z(E:Env)(d:Option TypeDesc)(t:TypeId)(cs:List V)(off:Nat)(K:V→Prop):Prop:=match d with
 | some (.struct _) | some (.array _ _)=>off+E.P.cellsOf t≤cs.length∧K (.agg ((cs.drop off).take (E.P.cellsOf t)))
 | some _=>vHead (cs.drop off) K
 | none=>False
@[go_sem] theorem f8U{cs:List V}{o:Nat}:vPart E t cs o K=c6z E (E.P.underlying t) t cs o K:=rfl
@[go_sem] theorem f2I{cs:List V}{o:Nat}{k:IntKind}:c6z E (some (.int k)) t cs o K=vHead (cs.drop o) K:=rfl
@[go_sem] theorem f1Y{cs:List V}{o:Nat}:c6z E (some .string) t cs o K=vHead (cs.drop o) K:=rfl
@[go_sem] theorem d6Z{cs:List V}{o e:Nat}:c6z E (some (.slice e)) t cs o K=vHead (cs.drop o) K:=rfl
def d0h(E:Env)(d:Option TypeDesc)(a:V)(f:Nat)(K:V→Prop):Prop:=match d with
 | some (.struct fs)=>match fs[f]? with
  | some fd=>(b0C E.P fd.type=true∧E.P.cellsOf fd.type≠0) ∧
   match a with
   | .fptr cs=>K (.fptr (cs.drop fd.offset))
   | .ptr id off=>K (.ptr id (off+fd.offset))
   | .vptr id k gen off=>K (.vptr id k gen (off+fd.offset))
   | _=>False
  | none=>False
 | _=>False
@[go_sem] theorem d7y{a:V}{f:Nat}:vFieldAddr E t a f K=d0h E (E.P.underlying t) a f K:=rfl
def c2d(E:Env)(o:Option Field)(a:V)(K:V→Prop):Prop:=match o with
  | some fd=>(b0C E.P fd.type=true∧E.P.cellsOf fd.type≠0) ∧
   match a with
   | .fptr cs=>K (.fptr (cs.drop fd.offset))
   | .ptr id off=>K (.ptr id (off+fd.offset))
   | .vptr id k gen off=>K (.vptr id k gen (off+fd.offset))
   | _=>False
  | none=>False
@[go_sem] theorem d3l{fs:Array Field}{a:V}{f:Nat}:d0h E (some (.struct fs)) a f K=c2d E fs[f]? a K:=rfl
@[go_sem] theorem d7l{a1 a5 a6:String}{ty off b:Nat}{e:Bool}{cs:List V}:c2d E (some ⟨a1,ty,off,e,a5,a6,b⟩) (.fptr cs) K=((b0C E.P ty=true∧E.P.cellsOf ty≠0)∧K (.fptr (cs.drop off))):=rfl
@[go_sem] theorem d6v{a1 a5 a6:String}{ty off b:Nat}{e:Bool}{i k g o:Nat}:c2d E (some ⟨a1,ty,off,e,a5,a6,b⟩) (.vptr i k g o) K=((b0C E.P ty=true∧E.P.cellsOf ty≠0)∧K (.vptr i k g (o+off))):=rfl
@[go_sem] theorem f0j{a1 a5 a6:String}{ty off b:Nat}{e:Bool}{i o:Nat}:c2d E (some ⟨a1,ty,off,e,a5,a6,b⟩) (.ptr i o) K=((b0C E.P ty=true∧E.P.cellsOf ty≠0)∧K (.ptr i (o+off))):=rfl
def c5Y(E:Env)(d:Option TypeDesc)(x ix:V)(K:V→Prop):Prop:=match d,x,ix with
 | some (.slice e),.slice _ e' es,.int _ i=>(e'=e∧b0C E.P e=true∧0≤i∧i<es.length)∧K (.fptr (es.getD i.toNat []))
 | some (.slice e),.mslice id off len _ e',.int _ i=>(e'=e∧b0C E.P e=true∧0≤i∧i<len)∧K (.ptr id (off+i.toNat * E.P.cellsOf e))
 | some (.slice e),.vec id k gen len e',.int _ i=>(e'=e∧b0C E.P e=true∧0≤i∧i<len)∧K (.vptr id k gen (i.toNat * E.P.cellsOf e))
 | some (.array n e),.fptr cs,.int _ i=>(b0C E.P e=true∧0≤i∧i<n)∧K (.fptr (cs.drop (i.toNat * E.P.cellsOf e)))
 | some (.array n e),.ptr id off,.int _ i=>(b0C E.P e=true∧0≤i∧i<n)∧K (.ptr id (off+i.toNat * E.P.cellsOf e))
 | _,_,_=>False
@[go_sem] theorem d6P{x i:V}:vIndexAddr E t x i K=c5Y E (E.P.underlying t) x i K:=rfl
@[go_sem] theorem d8L{e e':Nat}{o:Own}{es:List (List V)}{k:IntKind}{i:Int}:c5Y E (some (.slice e)) (.slice o e' es) (.int k i) K=((e'=e∧b0C E.P e=true∧0≤i∧i<es.length)∧K (.fptr (es.getD i.toNat []))):=rfl
@[go_sem] theorem f7S{e e':Nat}{es:List (List V)}{k:IntKind}{i:Int}:c5Y E (some (.slice e)) (sl e' es) (.int k i) K=((e'=e∧b0C E.P e=true∧0≤i∧i<es.length)∧K (.fptr (es.getD i.toNat []))):=by
 cases es with
 | nil=>simp only[c5Y,sl,g9F];exact propext ⟨fun h=>absurd h.1.2.2 (by omega),fun h=>absurd h.1.2.2 (by omega)⟩
 | cons x r=>rfl
@[go_sem] theorem d7J{e e' id off len cap:Nat}{k:IntKind}{i:Int}:c5Y E (some (.slice e)) (.mslice id off len cap e') (.int k i) K=((e'=e∧b0C E.P e=true∧0≤i∧i<len)∧K (.ptr id (off+i.toNat * E.P.cellsOf e))):=rfl
@[go_sem] theorem f2W{e e' id kk g len:Nat}{k:IntKind}{i:Int}:c5Y E (some (.slice e)) (.vec id kk g len e') (.int k i) K=((e'=e∧b0C E.P e=true∧0≤i∧i<len)∧K (.vptr id kk g (i.toNat * E.P.cellsOf e))):=rfl
@[go_sem] theorem d9b{n e:Nat}{cs:List V}{k:IntKind}{i:Int}:c5Y E (some (.array n e)) (.fptr cs) (.int k i) K=((b0C E.P e=true∧0≤i∧i<n)∧K (.fptr (cs.drop (i.toNat * E.P.cellsOf e)))):=rfl
def g5m(E:Env)(d:Option TypeDesc)(x ix:V)(K:V→Prop):Prop:=match d,x,ix with
 | some .string,.str s,.int _ i=>(0≤i∧i<s.size)∧K (.int .u8 (b5b s i))
 | some (.array n e),.agg cs,.int _ i=>(b0C E.P e=true∧0≤i∧i<n)∧vPart E e cs (i.toNat * E.P.cellsOf e) K
 | _,_,_=>False
@[go_sem] theorem f7p{x i:V}:vIndex E t x i K=g5m E (E.P.underlying t) x i K:=rfl
@[go_sem] theorem f7t{s:ByteArray}{k:IntKind}{i:Int}:g5m E (some .string) (.str s) (.int k i) K=((0≤i∧i<s.size)∧K (.int .u8 (b5b s i))):=rfl
def c8Y(P:Program)(d:Option TypeDesc)(x:V)(K:V→Prop):Prop:=match d,x with
 | some .string,.str s=>s.size≤1152921504606846976→K (.int .i64 s.size)
 | some (.slice _),.slice _ e es=>es.length * P.bytesOf e≤140737488355328→es.length≤140737488355328→K (.int .i64 es.length)
 | some (.slice _),.mslice _ _ len _ _=>len≤140737488355328→K (.int .i64 len)
 | some (.slice _),.vec _ _ _ len _=>len≤140737488355328→K (.int .i64 len)
 | _,_=>False
section
variable {P : Program}
@[go_sem] theorem g6c{x:V}:d3h E t x K=c8Y E.P (E.P.underlying t) x K:=rfl
@[go_sem] theorem f4I{h:List VObj}{s:ByteArray}:b8K E h t (.str s) K=d3h E t (.str s) K:=rfl
@[go_sem] theorem d8U{h:List VObj}{o:Own}{e:Nat}{es:List (List V)}:b8K E h t (.slice o e es) K=d3h E t (.slice o e es) K:=rfl
@[go_sem] theorem f4h{h:List VObj}{a b c d e:Nat}:b8K E h t (.vec a b c d e) K=d3h E t (.vec a b c d e) K:=rfl
@[go_sem] theorem f7a{h:List VObj}{e:Nat}{es:List (List V)}:b8K E h t (sl e es) K=d3h E t (sl e es) K:=by cases es <;> rfl
def d1y(d:Option TypeDesc)(o:Option VObj)(K:V→Prop):Prop:=match d,o with
 | some (.map _ _),some (.map es)=>K (.int .i64 es.length)
 | _,_=>False
@[go_sem] theorem f2M{h:List VObj}{id:Nat}:b8K E h t (.map id) K=d1y (E.P.underlying t) h[id]? K:=by
 unfold b8K d1y
 simp only
 split <;> simp_all
@[go_sem] theorem f1q{a b:Nat}{es:List (V×V)}:d1y (some (.map a b)) (some (.map es)) K=K (.int .i64 es.length):=rfl
def c6f(E:Env)(d:Option TypeDesc)(arr:List Nat)(x:V)(lo hi:Option V)(K:V→List Nat→Prop):Prop :=
 match d,x,lo,hi with
 | some (.slice e),.slice (.arr k) e' es,some (.int _ l),_=>(e'=e∧b0C E.P e=true∧0≤l∧l≤es.length∧arr[k]? = some es.length)∧K (.slice (.arr arr.length) e' (es.drop l.toNat)) (arr.set k (es.length+1)++[es.length - l.toNat])
 | some (.slice e),.slice .full e' es,some (.int _ l),_=>(e'=e∧b0C E.P e=true∧0≤l∧l≤es.length)∧K (.slice .full e' (es.drop l.toNat)) arr
 | some (.slice e),.vec id k gen len e',none,some (.int _ h)=>(e'=e∧b0C E.P e=true∧0≤h∧h≤len∧arr[k]? = some gen)∧K (.vec id k gen h.toNat e') arr
 | _,_,_,_=>False
@[go_sem] theorem g2U{ar:List Nat}{x:V}{lo hi:Option V}{K:V→List Nat→Prop}:c3Q E ar t x lo hi K=c6f E (E.P.underlying t) ar x lo hi K:=rfl
@[go_sem] theorem f1X{ar:List Nat}{k e e':Nat}{es:List (List V)}{kd:IntKind}{l:Int}{hi:Option V}{K:V→List Nat→Prop}:c6f E (some (.slice e)) ar (.slice (.arr k) e' es) (some (.int kd l)) hi K =
  ((e'=e∧b0C E.P e=true∧0≤l∧l≤es.length∧ar[k]? = some es.length)∧K (.slice (.arr ar.length) e' (es.drop l.toNat)) (ar.set k (es.length+1)++[es.length - l.toNat])):=rfl
@[go_sem] theorem f0M{ar:List Nat}{e e':Nat}{es:List (List V)}{kd:IntKind}{l:Int}{hi:Option V}{K:V→List Nat→Prop}:c6f E (some (.slice e)) ar (.slice .full e' es) (some (.int kd l)) hi K =
  ((e'=e∧b0C E.P e=true∧0≤l∧l≤es.length)∧K (.slice .full e' (es.drop l.toNat)) ar):=rfl
@[go_sem] theorem f2g{ar:List Nat}{id k gen len e e':Nat}{kd:IntKind}{l:Int}{K:V→List Nat→Prop}:c6f E (some (.slice e)) ar (.vec id k gen len e') none (some (.int kd l)) K =
  ((e'=e∧b0C E.P e=true∧0≤l∧l≤len∧ar[k]? = some gen)∧K (.vec id k gen l.toNat e') ar):=rfl
@[go_sem] theorem f4z{s:ByteArray}:c8Y P (some .string) (.str s) K=(s.size≤1152921504606846976→K (.int .i64 s.size)):=rfl
@[go_sem] theorem d8p{e e':Nat}{o:Own}{es:List (List V)}:c8Y P (some (.slice e)) (.slice o e' es) K=(es.length * P.bytesOf e'≤140737488355328→es.length≤140737488355328→K (.int .i64 es.length)):=rfl
@[go_sem] theorem f6j{e e':Nat}{es:List (List V)}:c8Y P (some (.slice e)) (sl e' es) K=(es.length * P.bytesOf e'≤140737488355328→es.length≤140737488355328→K (.int .i64 es.length)):=by
 cases es with
 | nil=>simp only[c8Y,sl,g9F,Nat.zero_mul]
 | cons x r=>rfl
@[go_sem] theorem f5i{e e' i k g l:Nat}:c8Y P (some (.slice e)) (.vec i k g l e') K=(l≤140737488355328→K (.int .i64 l)):=rfl
end
def c4M(E:Env)(heap:List VObj)(o:Option VObj)(t:TypeId)(id off:Nat)(x:V)(K:List VObj→Prop):Prop:=match o with
 | some ob=>match ob.cs? with
   | some cs=>(x ≠ .junk∧(cellsV x).all V.cell=true∧(cellsV x).length=E.P.cellsOf t∧(E.P.underlying t).isSome=true∧off+(cellsV x).length≤cs.length) ∧
     K (heap.set id (ob.put (c0q cs off (cellsV x))))
   | none=>False
 | _=>False
def c5P(E:Env)(heap:List VObj)(o:Option VObj)(t:TypeId)(id k gen off:Nat)(x:V)(K:List VObj→Prop):Prop:=match o with
 | some (.vec k' gen' e cs)=>(k'=k∧gen'=gen∧x ≠ .junk∧(cellsV x).all V.cell=true∧(cellsV x).length=E.P.cellsOf t∧(E.P.underlying t).isSome=true∧off+(cellsV x).length≤cs.length∧0<(cellsV x).length) ∧
    K (heap.set id (.vec k gen e (c0q cs off (cellsV x))))
 | _=>False
def d7c(E:Env)(heap:List VObj)(d d':Option TypeDesc)(x y:V)(K:V→List VObj→Prop):Prop :=
 match d,d',x,y with
 | some (.slice e),some (.slice _),.mslice id off len _ _,.slice _ e' es=>match heap[id]? with
  | some ob=>match ob.cs? with
   | some cs=>((es=[]∨e'=e)∧b0C E.P e=true∧es.length≤len∧off+es.flatten.length≤cs.length)∧K (.int .i64 es.length) (heap.set id (ob.put (c0q cs off es.flatten)))
   | none=>False
  | none=>False
 | _,_,_,_=>False
def d6L(E:Env)(heap:List VObj)(ob:Option VObj)(e id off len e':Nat)(es:List (List V))(K:V→List VObj→Prop):Prop:=match ob with
  | some ob=>match ob.cs? with
   | some cs=>((es=[]∨e'=e)∧b0C E.P e=true∧es.length≤len∧off+es.flatten.length≤cs.length)∧K (.int .i64 es.length) (heap.set id (ob.put (c0q cs off es.flatten)))
   | none=>False
  | none=>False
@[go_sem] theorem g3j{x y:V}{K:V→List VObj→Prop}:c5Z E heap t t' x y K=d7c E heap (E.P.underlying t) (E.P.underlying t') x y K:=rfl
@[go_sem] theorem d6C{K:V→List VObj→Prop}{id off len e e':Nat}{es:List (List V)}{cs:List V}:d6L E heap (some (.cells cs)) e id off len e' es K =
 (((es=[]∨e'=e)∧b0C E.P e=true∧es.length≤len∧off+es.flatten.length≤cs.length)∧K (.int .i64 es.length) (heap.set id (.cells (c0q cs off es.flatten)))):=rfl
@[go_sem] theorem f0J{i k g o:Nat}{x:V}{K:List VObj→Prop}:b9n E heap t (.vptr i k g o) x K=c5P E heap heap[i]? t i k g o x K:=rfl
@[go_sem] theorem d7g{e:TypeId}{cs:List V}{i k g o:Nat}{x:V}{K:List VObj→Prop}:c5P E heap (some (.vec k g e cs)) t i k g o x K =
  ((x.some? = true∧(cellsV x).all V.cell=true∧(cellsV x).length=E.P.cellsOf t∧(E.P.underlying t).isSome=true∧o+(cellsV x).length≤cs.length∧0<(cellsV x).length)∧K (heap.set i (.vec k g e (c0q cs o (cellsV x))))):=by
 have:(x≠V.junk)=(x.some? = true):=by
  cases x <;> simp[V.some?]
 simp only[c5P,this,true_and]
@[go_sem] theorem f1u{i o:Nat}{x:V}{K:List VObj→Prop}:b9n E heap t (.ptr i o) x K=c4M E heap heap[i]? t i o x K:=rfl
@[go_sem] theorem d5O{cs:List V}{i o:Nat}{x:V}{K:List VObj→Prop}:c4M E heap (some (.cells cs)) t i o x K =
  ((x.some? = true∧(cellsV x).all V.cell=true∧(cellsV x).length=E.P.cellsOf t∧(E.P.underlying t).isSome=true∧o+(cellsV x).length≤cs.length)∧K (heap.set i (.cells (c0q cs o (cellsV x))))):=by
 have:(x≠V.junk)=(x.some? = true):=by
  cases x <;> simp[V.some?]
 simp only[c4M,this]
 rfl
def c3e(E:Env)(arr:List Nat)(d d':Option TypeDesc)(s x:V)(K:V→List Nat→Prop):Prop:=match d,d',s,x with
 | some (.slice e),some (.slice _),.slice o e1 es,.slice _ e2 xs =>
  ((es=[]∨e1=e)∧(xs=[]∨e2=e)∧b0W E.P e=true∧(es.length+xs.length) * E.P.bytesOf e≤140737488355328)∧c2K arr o e e1 es xs K
 | some (.slice e),some .string,.slice o e1 es,.str b =>
  ((es=[]∨e1=e)∧E.P.cellsOf e=1∧b0W E.P e=true∧(es.length+(b2o b).length) * E.P.bytesOf e≤140737488355328)∧c2K arr o e e1 es (b2o b) K
 | _,_,_,_=>False
def c3J(E:Env)(heap:List VObj)(arr:List Nat)(d d':Option TypeDesc)(s x:V)(K:b1z):Prop :=
 match d,d',x with
 | some (.slice e),some (.slice _),.slice _ e2 xs=>(xs≠[]∧e2=e∧b0W E.P e=true)∧match s with
  | .vec id k gen len e1=>match heap[id]? with
   | some (.vec k' gen' e' cs)=>(k'=k∧gen'=gen∧e1=e∧e'=e∧cs.length=len * E.P.cellsOf e∧(len+xs.length) * E.P.bytesOf e≤140737488355328) ∧
     K (.vec id k (gen+1) (len+xs.length) e) (heap.set id (.vec k (gen+1) e (cs++xs.flatten))) (arr.set k (gen+1))
   | _=>False
  | .slice o e1 es=>(o.fresh=true∧(es=[]∨e1=e)∧(es.length+xs.length) * E.P.bytesOf e≤140737488355328) ∧
    K (.vec heap.length arr.length b8w (es.length+xs.length) e) (heap++[.vec arr.length b8w e (es.flatten++xs.flatten)]) (arr++[b8w])
  | _=>False
 | _,_,_=>False
def d0K(E:Env)(heap:List VObj)(arr:List Nat)(o:Option VObj)(e id k gen len e1:Nat)(xs:List (List V))(K:b1z):Prop:=match o with
 | some (.vec k' gen' e' cs)=>(k'=k∧gen'=gen∧e1=e∧e'=e∧cs.length=len * E.P.cellsOf e∧(len+xs.length) * E.P.bytesOf e≤140737488355328) ∧
     K (.vec id k (gen+1) (len+xs.length) e) (heap.set id (.vec k (gen+1) e (cs++xs.flatten))) (arr.set k (gen+1))
 | _=>False
@[go_sem] theorem f9y{h:List VObj}{arr:List Nat}{x y:V}{K:b1z}:c5A E h arr t t' x y K=c3J E h arr (E.P.underlying t) (E.P.underlying t') x y K:=rfl
@[go_sem] theorem c0G{h:List VObj}{arr:List Nat}{e e' id k gen len e1 e2:Nat}{o:Own}{xs:List (List V)}{K:b1z}:c3J E h arr (some (.slice e)) (some (.slice e')) (.vec id k gen len e1) (.slice o e2 xs) K =
  ((xs≠[]∧e2=e∧b0W E.P e=true)∧d0K E h arr h[id]? e id k gen len e1 xs K):=rfl
@[go_sem] theorem b9i{h:List VObj}{arr:List Nat}{e id k gen len e1 e':Nat}{cs:List V}{xs:List (List V)}{K:b1z}:d0K E h arr (some (.vec k gen e' cs)) e id k gen len e1 xs K =
  ((e1=e∧e'=e∧cs.length=len * E.P.cellsOf e∧(len+xs.length) * E.P.bytesOf e≤140737488355328) ∧
     K (.vec id k (gen+1) (len+xs.length) e) (h.set id (.vec k (gen+1) e (cs++xs.flatten))) (arr.set k (gen+1))):=by
 simp only[d0K,true_and]
@[go_sem] theorem b8h{h:List VObj}{arr:List Nat}{e e' e1 e2:Nat}{o o':Own}{es xs:List (List V)}{K:b1z}:c3J E h arr (some (.slice e)) (some (.slice e')) (.slice o e1 es) (.slice o' e2 xs) K =
  ((xs≠[]∧e2=e∧b0W E.P e=true)∧(o.fresh=true∧(es=[]∨e1=e)∧(es.length+xs.length) * E.P.bytesOf e≤140737488355328) ∧
    K (.vec h.length arr.length b8w (es.length+xs.length) e) (h++[.vec arr.length b8w e (es.flatten++xs.flatten)]) (arr++[b8w])):=rfl
@[go_sem] theorem Own.fresh_nil:Own.fresh .nil=true:=rfl
@[go_sem] theorem f5O{arr:List Nat}{x y:V}{K:V→List Nat→Prop}:b5q E arr t t' x y K=c3e E arr (E.P.underlying t) (E.P.underlying t') x y K:=rfl
section
variable {arr : List Nat} {e e' e1 e2 : Nat} {o : Own} {es xs : List (List V)} {K : V → List Nat → Prop}
@[go_sem] theorem f2A{x:List V}{r:List (List V)}:c3e E arr (some (.slice e)) (some (.slice e')) (.slice .full e1 es) (.slice o e2 (x::r)) K =
  (((es=[]∨e1=e)∧(x::r=[]∨e2=e)∧b0W E.P e=true∧(es.length+(x::r).length) * E.P.bytesOf e≤140737488355328)∧K (.slice (.arr arr.length) e (es++x::r)) (arr++[es.length+(x::r).length])):=rfl
@[go_sem] theorem f4u:c3e E arr (some (.slice e)) (some (.slice e')) (.slice .nil e1 []) (.slice o e2 xs) K =
  (((xs=[]∨e2=e)∧b0W E.P e=true∧xs.length * E.P.bytesOf e≤140737488355328)∧K (.slice (.arr arr.length) e xs) (arr++[xs.length])):=by
 simp[c3e,c2K]
@[go_sem] theorem f5N{k:Nat}:c3e E arr (some (.slice e)) (some (.slice e')) (.slice (.arr k) e1 es) (.slice o e2 xs) K =
  (((es=[]∨e1=e)∧(xs=[]∨e2=e)∧b0W E.P e=true∧(es.length+xs.length) * E.P.bytesOf e≤140737488355328) ∧
   (e1=e∧arr[k]? = some es.length)∧K (.slice (.arr k) e (es++xs)) (arr.set k (es.length+xs.length))):=rfl
end
section
variable {arr : List Nat} {e e' e1 e2 : Nat} {es xs : List (List V)} {K : V → List Nat → Prop}
theorem d2l:(xs=[]∨(if xs.isEmpty then 0 else e2)=e)=(xs=[]∨e2=e):=by cases xs <;> simp
@[go_sem] theorem d6o:c3e E arr (some (.slice e)) (some (.slice e')) (.slice .full e1 es) (sl e2 xs) K =
  (((es=[]∨e1=e)∧(xs=[]∨e2=e)∧b0W E.P e=true∧(es.length+xs.length) * E.P.bytesOf e≤140737488355328)∧(xs=[]→K (.slice .full e1 es) arr)∧(¬ xs=[]→K (.slice (.arr arr.length) e (es++xs)) (arr++[es.length+xs.length]))):=by
 have h:c3e E arr (some (.slice e)) (some (.slice e')) (.slice .full e1 es) (sl e2 xs) K=(((es=[]∨e1=e)∧(xs=[]∨(if xs.isEmpty then 0 else e2)=e)∧b0W E.P e=true∧(es.length+xs.length) * E.P.bytesOf e≤140737488355328)∧if xs=[]then K (.slice .full e1 es) arr else K (.slice (.arr arr.length) e (es++xs)) (arr++[es.length+xs.length])):=rfl
 rw[h,d2l]
 by_cases hx:xs=[] <;> simp[hx]
@[go_sem] theorem d6M{k:Nat}:c3e E arr (some (.slice e)) (some (.slice e')) (.slice (.arr k) e1 es) (sl e2 xs) K =
  (((es=[]∨e1=e)∧(xs=[]∨e2=e)∧b0W E.P e=true∧(es.length+xs.length) * E.P.bytesOf e≤140737488355328) ∧
   (e1=e∧arr[k]? = some es.length)∧K (.slice (.arr k) e (es++xs)) (arr.set k (es.length+xs.length))):=by
 rw[←d2l (xs:=xs)];rfl
end
def c1M(E:Env)(d:Option TypeDesc)(t:TypeId)(ps:List (Nat×V))(K:V→Prop):Prop:=match d with
 | some (.struct fs)=>(b5L E t=true∧fs.all (fun f=>b0C E.P f.type)=true) ∧
  match b6g (b9m E.P fs) (b3t E t) ps with
  | some cs=>K (.agg cs)
  | none=>False
 | some (.array _ e)=>(b5L E t=true∧b0C E.P e=true) ∧
  match b6g (fun i=>some (i * E.P.cellsOf e,E.P.cellsOf e)) (b3t E t) ps with
  | some cs=>K (.agg cs)
  | none=>False
 | _=>False
@[go_sem] theorem f8q{ps:List (Nat×V)}:vBuild E t ps K=c1M E (E.P.underlying t) t ps K:=rfl
def d5V(o:Option (List V))(K:V→Prop):Prop:=match o with
 | some cs=>K (.agg cs)
 | none=>False
@[go_sem] theorem f2G{cs:List V}:d5V (some cs) K=K (.agg cs):=rfl
@[go_sem] theorem d3k{fs:List Field}{ps:List (Nat×V)}:c1M E (some (.struct fs.toArray)) t ps K =
  ((b5L E t=true∧fs.all (fun f=>b0C E.P f.type)=true)∧d5V (b6g (b9m E.P fs.toArray) (b3t E t) ps) K):=by
 simp only[c1M,List.all_toArray,d5V]
@[go_sem] theorem d4g{n e:Nat}{ps:List (Nat×V)}:c1M E (some (.array n e)) t ps K =
  ((b5L E t=true∧b0C E.P e=true)∧d5V (b6g (fun i=>some (i * E.P.cellsOf e,E.P.cellsOf e)) (b3t E t) ps) K):=rfl
def g4D(E:Env)(d:Option TypeDesc)(len:Nat)(ps:List (Nat×V))(K:V→Prop):Prop:=match d with
 | some (.slice e)=>(b0W E.P e=true∧len * E.P.cellsOf e≤16777216) ∧
  match b5e len (E.P.cellsOf e) (List.replicate len ((b3t E e).map share1)) ps with
  | some es=>K (.slice .full e es)
  | none=>False
 | _=>False
@[go_sem] theorem d5i{len:Nat}{ps:List (Nat×V)}:vBuildSlice E t len ps K=g4D E (E.P.underlying t) len ps K:=rfl
def g4G(e:TypeId)(o:Option (List (List V)))(K:V→Prop):Prop:=match o with
 | some es=>K (.slice .full e es)
 | none=>False
@[go_sem] theorem f5M{e:TypeId}{es:List (List V)}:g4G e (some es) K=K (.slice .full e es):=rfl
@[go_sem] theorem f1j{e len:Nat}{ps:List (Nat×V)}:g4D E (some (.slice e)) len ps K =
  ((b0W E.P e=true∧len * E.P.cellsOf e≤16777216)∧g4G e (b5e len (E.P.cellsOf e) (List.replicate len ((b3t E e).map share1)) ps) K):=rfl
def c9N(P:Program)(o:Option Field):Option (Nat×Nat):=o.map fun f=>(f.offset,P.cellsOf f.type)
@[go_sem] theorem d8J{P:Program}{a1 a5 a6:String}{ty off b:Nat}{e:Bool}:c9N P (some ⟨a1,ty,off,e,a5,a6,b⟩)=some (off,P.cellsOf ty):=rfl
@[go_sem] theorem f1e{P:Program}{fs:List Field}{i:Nat}:b9m P fs.toArray i=c9N P fs[i]?:=by simp[b9m,c9N]
@[go_sem] theorem f5o{pl:Nat→Option (Nat×Nat)}{cs:List V}:b6g pl cs []=some cs:=rfl
def d8X(pl:Nat→Option (Nat×Nat))(o:Option (Nat×Nat))(cs:List V)(x:V)(r:List (Nat×V)):Option (List V):=match o with
 | none=>none
 | some (off,size)=>if x.some? = true∧(cellsV x).length=size∧off+size≤cs.length then b6g pl (c0q cs off (cellsV x)) r else none
@[go_sem] theorem f2p{pl:Nat→Option (Nat×Nat)}{cs:List V}{i:Nat}{x:V}{r:List (Nat×V)}:b6g pl cs ((i,x)::r)=d8X pl (pl i) cs x r:=rfl
@[go_sem] theorem f1o{pl:Nat→Option (Nat×Nat)}{cs:List V}{off size:Nat}{x:V}{r:List (Nat×V)}(h:(x.some? && decide ((cellsV x).length=size) && decide (off+size≤cs.length))=true) :
  d8X pl (some (off,size)) cs x r=b6g pl (c0q cs off (cellsV x)) r:=by
 simp only[g9g,g9h]at h
 simp only[d8X];rw[if_pos ⟨h.1.1,h.1.2,h.2⟩]
@[go_sem] theorem f1R{n sz:Nat}{es:List (List V)}:b5e n sz es []=some es:=rfl
@[go_sem] theorem d9h{n sz i:Nat}{es:List (List V)}{x:V}{r:List (Nat×V)}(h:(x.some? && (cellsV x).all V.cell && decide ((cellsV x).length=sz) && decide (i<n))=true) :
  b5e n sz es ((i,x)::r)=b5e n sz (es.set i ((cellsV x).map share1)) r:=by
 simp only[g9g,g9h]at h
 simp only[b5e];rw[if_pos ⟨h.1.1.1,h.1.1.2,h.1.2,h.2⟩]
end
section
variable {E : Env} {t t' : TypeId} {K : V → Prop} {heap : List VObj} {L : List VObj → Prop} {M : V → List VObj → Prop} {k : IntKind} {a b : Int}
@[go_sem] theorem f6r{k':IntKind}:vMin (.int k a) (.int k' b) K=K (.int k (if b<a then b else a)):=rfl
@[go_sem] theorem f6h{k':IntKind}:vMax (.int k a) (.int k' b) K=K (.int k (if a<b then b else a)):=rfl
def g5P(o:Option VObj):Option (List (V×V)):=match o with
 | some (.map es)=>some es
 | _=>none
@[go_sem] theorem f4j{es:List (V×V)}:g5P (some (.map es))=some es:=rfl
@[go_sem] theorem f4X{i:Nat}:b8n heap (.map i)=g5P heap[i]?:=rfl
def b1G(E:Env)(et:TypeId)(r:Option (Option (Nat×V)))(ok:Bool)(K:V→Prop):Prop:=match r with
 | some (some (_,v))=>K (if ok then .tuple [v,.bool true]else v)
 | some none=>b0S E.P et=true∧K (if ok then .tuple [b2Q E.P et,.bool false]else b2Q E.P et)
 | none=>False
def d2y(E:Env)(d:Option TypeDesc)(et:TypeId)(es:List (V×V))(k:V)(ok:Bool)(K:V→Prop):Prop:=match d with
 | some d=>d3i d k=true∧b1G E et (b1t d k es 0) ok K
 | none=>False
def d6R(E:Env)(d:Option TypeDesc)(es:Option (List (V×V)))(k:V)(ok:Bool)(K:V→Prop):Prop:=match d,es with
 | some (.map kt et),some es=>d2y E (E.P.underlying kt) et es k ok K
 | _,_=>False
@[go_sem] theorem g3C{m k:V}{ok:Bool}:vLook E heap t m k ok K=d6R E (E.P.underlying t) (b8n heap m) k ok K:=rfl
@[go_sem] theorem f1y{m:V}{s:ByteArray}{ok:Bool}:vLookK E heap t m (.str s) ok K=vLook E heap t m (.str s) ok K:=rfl
@[go_sem] theorem f2B{m:V}{k:IntKind}{n:Int}{ok:Bool}:vLookK E heap t m (.int k n) ok K=vLook E heap t m (.int k n) ok K:=rfl
def d2c(E:Env)(fk:Option (List Nat))(et:TypeId)(es:List (V×V))(xs:List V)(ok:Bool)(K:V→Prop):Prop:=match fk with
 | some ks=>b3A ks xs xs=true∧b1G E et (b1f ks xs es 0) ok K
 | none=>False
def d7A(E:Env)(d:Option TypeDesc)(es:Option (List (V×V)))(xs:List V)(ok:Bool)(K:V→Prop):Prop:=match d,es with
 | some (.map kt et),some es=>d2c E (b3f E.P kt) et es xs ok K
 | _,_=>False
@[go_sem] theorem f2v{m:V}{xs:List V}{ok:Bool}:vLookK E heap t m (.agg xs) ok K=d7A E (E.P.underlying t) (b8n heap m) xs ok K:=rfl
@[go_sem] theorem f2b{kt et:Nat}{es:List (V×V)}{xs:List V}{ok:Bool}:d7A E (some (.map kt et)) (some es) xs ok K=d2c E (b3f E.P kt) et es xs ok K:=rfl
@[go_sem] theorem f0S{ks:List Nat}{et:Nat}{es:List (V×V)}{xs:List V}{ok:Bool}:d2c E (some ks) et es xs ok K=(b3A ks xs xs=true∧b1G E et (b1f ks xs es 0) ok K):=rfl
@[go_sem] theorem f1C{kt et:Nat}{es:List (V×V)}{k:V}{ok:Bool}:d6R E (some (.map kt et)) (some es) k ok K=d2y E (E.P.underlying kt) et es k ok K:=rfl
@[go_sem] theorem d8D{d:TypeDesc}{et:Nat}{es:List (V×V)}{k:V}{ok:Bool}:d2y E (some d) et es k ok K=(d3i d k=true∧b1G E et (b1t d k es 0) ok K):=rfl
@[go_sem] theorem f1Q{et i:Nat}{v:V}:b1G E et (some (some (i,v))) true K=K (.tuple [v,.bool true]):=rfl
@[go_sem] theorem d9W{et i:Nat}{v:V}:b1G E et (some (some (i,v))) false K=K v:=rfl
@[go_sem] theorem b9O{et:Nat}:b1G E et (some none) true K=(b0S E.P et=true∧K (.tuple [b2Q E.P et,.bool false])):=rfl
@[go_sem] theorem b7U{et:Nat}:b1G E et (some none) false K=(b0S E.P et=true∧K (b2Q E.P et)):=rfl
def b3I(heap:List VObj)(id:Nat)(es:List (V×V))(k v:V)(r:Option (Option (Nat×V)))(L:List VObj→Prop):Prop:=match r with
 | some (some (j,_))=>L (heap.set id (.map (es.set j (k,v))))
 | some none=>L (heap.set id (.map (es++[(k,v)])))
 | none=>False
def d9D(heap:List VObj)(o:Option VObj)(d:Option TypeDesc)(id:Nat)(k v:V)(L:List VObj→Prop):Prop:=match o,d with
 | some (.map es),some d=>d3i d k=true∧b3I heap id es k v (b1t d k es 0) L
 | _,_=>False
def f2Y(E:Env)(heap:List VObj)(d:Option TypeDesc)(m k v:V)(L:List VObj→Prop):Prop:=match d,m with
 | some (.map kt _),.map id=>d9D heap heap[id]? (E.P.underlying kt) id k v L
 | _,_=>False
@[go_sem] theorem f5w{m k v:V}:vMapSet E heap t m k v L=f2Y E heap (E.P.underlying t) m k v L:=rfl
@[go_sem] theorem d7p{m v:V}{s:ByteArray}:vMapSetK E heap t m (.str s) v L=vMapSet E heap t m (.str s) v L:=rfl
@[go_sem] theorem d6J{m v:V}{k:IntKind}{n:Int}:vMapSetK E heap t m (.int k n) v L=vMapSet E heap t m (.int k n) v L:=rfl
def d8f(heap:List VObj)(o:Option VObj)(fk:Option (List Nat))(id:Nat)(xs:List V)(v:V)(L:List VObj→Prop):Prop:=match o,fk with
 | some (.map es),some ks=>b3A ks xs xs=true∧b3I heap id es (.agg xs) v (b1f ks xs es 0) L
 | _,_=>False
def f4t(E:Env)(heap:List VObj)(d:Option TypeDesc)(m:V)(xs:List V)(v:V)(L:List VObj→Prop):Prop:=match d,m with
 | some (.map kt _),.map id=>d8f heap heap[id]? (b3f E.P kt) id xs v L
 | _,_=>False
@[go_sem] theorem d6E{m v:V}{xs:List V}:vMapSetK E heap t m (.agg xs) v L=f4t E heap (E.P.underlying t) m xs v L:=rfl
@[go_sem] theorem f4F{kt et id:Nat}{xs:List V}{v:V}:f4t E heap (some (.map kt et)) (.map id) xs v L=d8f heap heap[id]? (b3f E.P kt) id xs v L:=rfl
@[go_sem] theorem f1k{id:Nat}{ks:List Nat}{es:List (V×V)}{xs:List V}{v:V}:d8f heap (some (.map es)) (some ks) id xs v L=(b3A ks xs xs=true∧b3I heap id es (.agg xs) v (b1f ks xs es 0) L):=rfl
@[go_sem] theorem f5J{kt et id:Nat}{k v:V}:f2Y E heap (some (.map kt et)) (.map id) k v L=d9D heap heap[id]? (E.P.underlying kt) id k v L:=rfl
@[go_sem] theorem f2w{id:Nat}{d:TypeDesc}{es:List (V×V)}{k v:V}:d9D heap (some (.map es)) (some d) id k v L=(d3i d k=true∧b3I heap id es k v (b1t d k es 0) L):=rfl
@[go_sem] theorem c4r{id j:Nat}{es:List (V×V)}{k v u:V}:b3I heap id es k v (some (some (j,u))) L=L (heap.set id (.map (es.set j (k,v)))):=rfl
@[go_sem] theorem c1a{id:Nat}{es:List (V×V)}{k v:V}:b3I heap id es k v (some none) L=L (heap.set id (.map (es++[(k,v)]))):=rfl
@[go_sem] theorem f6y{k':IntKind}:d3i (.int k) (.int k' a)=decide (k'=k):=rfl
@[go_sem] theorem f6N{s:ByteArray}:d3i .string (.str s)=true:=rfl
@[go_sem] theorem f3p{d:TypeDesc}{k:V}{i:Nat}:b1t d k [] i=some none:=rfl
def f0Y(d:TypeDesc)(k:V)(v:V)(r:List (V×V))(i:Nat)(o:Option Bool):Option (Option (Nat×V)):=match o with
 | some true=>some (some (i,v))
 | some false=>b1t d k r (i+1)
 | none=>none
@[go_sem] theorem f1w{d:TypeDesc}{k k' v:V}{r:List (V×V)}{i:Nat}:b1t d k ((k',v)::r) i=f0Y d k v r i (b7o d k k'):=rfl
@[go_sem] theorem d8G{d:TypeDesc}{k v:V}{r:List (V×V)}{i:Nat}:f0Y d k v r i (some false)=b1t d k r (i+1):=rfl
@[go_sem] theorem f2N{d:IntKind}:b7o (.int d) (.int k a) (.int k b)=some (a == b):=by simp[b7o]
def d2F(E:Env)(heap:List VObj)(d:Option TypeDesc)(l c:V)(M:V→List VObj→Prop):Prop:=match d,l,c with
 | some (.slice e),.int _ n,.int _ n'=>(n=n'∧b0W E.P e=true∧0≤n∧n.toNat * E.P.bytesOf e≤140737488355328) ∧
   M (.mslice heap.length 0 n.toNat n.toNat e) (heap++[.cells (List.replicate n.toNat (b2G E.P e)).flatten])
 | _,_,_=>False
@[go_sem] theorem d6I{l c:V}:b2Z E heap t l c M=d2F E heap (E.P.underlying t) l c M:=rfl
@[go_sem] theorem f1Z{e:Nat}{k k':IntKind}{n:Nat}:d2F E heap (some (.slice e)) (.int k n) (.int k' n) M =
  ((b0W E.P e=true∧n * E.P.bytesOf e≤140737488355328)∧M (.mslice heap.length 0 n n e) (heap++[.cells (List.replicate n (b2G E.P e)).flatten])):=by
 simp[d2F]
def d1k(heap:List VObj)(d:Option TypeDesc)(x:V)(M:V→List VObj→Prop):Prop:=match d,x with
 | some .string,.str s=>M (.ptr heap.length 0) (heap++[.siter s 0])
 | _,_=>False
@[go_sem] theorem f6z{x:V}:c1u E heap t x M=d1k heap (E.P.underlying t) x M:=rfl
@[go_sem] theorem d9a{s:ByteArray}:d1k heap (some .string) (.str s) M=M (.ptr heap.length 0) (heap++[.siter s 0]):=rfl
def d6t(heap:List VObj)(id:Nat)(o:Option VObj)(M:V→List VObj→Prop):Prop:=match o with
 | some (.siter s pos)=>if pos<s.size then M (.tuple [.bool true,.int .i64 pos,.int .i32 (Utf8.decode s pos).1]) (heap.set id (.siter s (pos+(Utf8.decode s pos).2)))else M (.tuple [.bool false]) heap
 | _=>False
@[go_sem] theorem g0a{id:Nat}:c7L heap (.ptr id 0) M=d6t heap id heap[id]? M:=rfl
@[go_sem] theorem f1b{id pos:Nat}{s:ByteArray}:d6t heap id (some (.siter s pos)) M =
  if pos<s.size then M (.tuple [.bool true,.int .i64 pos,.int .i32 (Utf8.decode s pos).1]) (heap.set id (.siter s (pos+(Utf8.decode s pos).2)))else M (.tuple [.bool false]) heap:=rfl
end
section
variable {cs : List V} {k : IntKind} {n : Int} {b : Bool} {s : ByteArray} {o : Own} {e : Nat} {es : List (List V)} {i j l c : Nat} {x : V}
@[go_sem] theorem f1z:cellsV (.agg cs)=cs:=rfl
@[go_sem] theorem f2J:cellsV (.int k n)=[.int k n]:=rfl
@[go_sem] theorem d9g:cellsV (.bool b)=[.bool b]:=rfl
@[go_sem] theorem f2d:cellsV (.str s)=[.str s]:=rfl
@[go_sem] theorem d6O:cellsV (.slice o e es)=[.slice o e es]:=rfl
@[go_sem] theorem f4U:cellsV (sl e es)=[sl e es]:=rfl
@[go_sem] theorem d7Z:cellsV (.fptr cs)=[.fptr cs]:=rfl
@[go_sem] theorem f1T:cellsV (.map i)=[.map i]:=rfl
@[go_sem] theorem f8n:(V.agg cs).some? = true:=rfl
@[go_sem] theorem f7d:(V.int k n).some? = true:=rfl
@[go_sem] theorem f4n:(V.bool b).some? = true:=rfl
@[go_sem] theorem f8m:(V.str s).some? = true:=rfl
@[go_sem] theorem f1O:(V.slice o e es).some? = true:=rfl
@[go_sem] theorem g3x:(sl e es).some? = true:=rfl
@[go_sem] theorem f4M:(V.fptr cs).some? = true:=rfl
@[go_sem] theorem f6f:(V.map i).some? = true:=rfl
@[go_sem] theorem f8D:(V.int k n).cell=true:=rfl
@[go_sem] theorem f4V:(V.bool b).cell=true:=rfl
@[go_sem] theorem f7B:(V.str s).cell=true:=rfl
@[go_sem] theorem f2n:(V.slice o e es).cell=true:=rfl
@[go_sem] theorem f8O:(sl e es).cell=true:=rfl
@[go_sem] theorem f3E:(V.fptr cs).cell=true:=rfl
@[go_sem] theorem f7e:(V.map i).cell=true:=rfl
@[go_sem] theorem f1L:share1 (.int k n) = .int k n:=rfl
@[go_sem] theorem d8z:share1 (.bool b) = .bool b:=rfl
@[go_sem] theorem f1s:share1 (.str s) = .str s:=rfl
@[go_sem] theorem d7t:share1 (.slice o e es)=sl e es:=rfl
@[go_sem] theorem g5j:sl e [] = .slice .shared 0 []:=rfl
@[go_sem] theorem f3W:share1 (sl e es)=sl e es:=by cases es <;> rfl
@[go_sem] theorem f1n:share1 (.map i) = .map i:=rfl
@[go_sem] theorem f2F:shareA (.agg cs) = .agg (cs.map share1):=rfl
@[go_sem] theorem f1E:shareA (.int k n) = .int k n:=rfl
@[go_sem] theorem d8k:shareA (.bool b) = .bool b:=rfl
@[go_sem] theorem f1U:shareA (.str s) = .str s:=rfl
@[go_sem] theorem d6T:shareA (.slice o e es)=sl e es:=rfl
@[go_sem] theorem f0E:share (.tuple cs) = .tuple (cs.map shareA):=rfl
@[go_sem] theorem f5C:share (.agg cs) = .agg (cs.map share1):=rfl
@[go_sem] theorem f5S:share (.int k n) = .int k n:=rfl
@[go_sem] theorem f2s:share (.bool b) = .bool b:=rfl
@[go_sem] theorem f5F:share (.str s) = .str s:=rfl
@[go_sem] theorem f0n:share (.slice o e es)=sl e es:=rfl
@[go_sem] theorem f6Q:share (sl e es)=sl e es:=by cases es <;> rfl
@[go_sem] theorem f2x:share (.fptr cs) = .fptr cs:=rfl
end
@[go_sem] theorem g2k{E:Env}{t:TypeId}:b3t E t=b2G E.P t:=rfl
@[go_sem] theorem f6O{E:Env}{t:TypeId}:b5L E t=b0S E.P t:=rfl
theorem b0A{E:Env}{f:FuncId}{fn:Func}{c:Code}{args:List V}{heap:List VObj}{arr:List Nat}{K:b1z}(hf:E.P.funcs[f]? = some fn)(hbody:fn.body=some c)(hn:args.length≤fn.ntmps)
  (h:vc E heap.length arr.length fn.ntmps c ⟨b9V 0 args,heap,arr⟩ (d6u E fn.results.toList K)):b0r E f args heap arr K :=
 c4c hf hbody hn (b5h _ _ _ h)
theorem b0i{E:Env}{f:FuncId}{fn:Func}{c:Code}{args:List V}{r:V}(hf:E.P.funcs[f]? = some fn)(hbody:fn.body=some c)(hn:args.length≤fn.ntmps)(hp:b1a args=true)(hr:r.pure=true)
  (h:vc E 0 0 fn.ntmps c ⟨b9V 0 args,[],[]⟩ (d6u E fn.results.toList (d9R r))) (hal:E.alive=E:=by exact rfl):b0u E f args r :=
 c6i hf hbody hn hp hr (b5h _ _ _ h) hal
end Go.Vg
