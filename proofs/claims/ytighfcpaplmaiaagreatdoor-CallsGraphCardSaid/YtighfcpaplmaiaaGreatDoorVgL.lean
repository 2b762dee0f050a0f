import Derived.Test.YtighfcpaplmaiaaGreatDoorVgJ
import Derived.KernelRfl
set_option linter.unusedVariables false
set_option linter.unusedSimpArgs false
namespace Go.Vg
open Go.RowKit
def kv(K:b1y)(h:List VObj)(a:List Nat):V→Prop:=fun r=>K r h a
def kh(K:b1y)(a:List Nat):List VObj→Prop:=fun h=>K .junk h a
def ka(K:b1y)(h:List VObj):V→List Nat→Prop:=fun r a=>K r h a
def km(K:b1y)(a:List Nat):V→List VObj→Prop:=fun r h=>K r h a
def kop(E:Env)(n:Nat)(ops r:List Oper)(d:Option Nat)(M:St→Prop)(tm:List (Nat×V)):b1y:=fun v h a=>c5k E n ops r (St.put ⟨tm,h,a⟩ d v) M
def f8R(E:Env)(hb ab n:Nat)(y:Code)(Q:VEx→St→Prop):VEx→St→Prop:=c4U (fun s'=>vc E hb ab n y s' Q) Q
def d9b(i:Nat)(Q:VEx→St→Prop):VEx→St→Prop:=c1E i Q
def f1r(r:V):b1y:=fun v _ _=>share v=r
def d8j(E:Env)(rs:List ResultVar)(K:b1y):VEx→St→Prop:=fun e s=>(∀ id,e ≠ .exit id)∧f6V E s rs fun v=>K v s.heap s.arr
section
variable {E : Env} {hb ab n i j l' : Nat} {tm : List (Nat × V)} {h : List VObj} {a : List Nat} {Q : VEx → St → Prop} {K : b1y} {v r : V} {M : St → Prop} {s : St} {y : Code} {ops l : List Oper} {d : Nat}
@[go_sem] theorem g8R:kv K h a v=K v h a:=rfl
@[go_sem] theorem g9l:kh K a h=K .junk h a:=rfl
@[go_sem] theorem g8P:km K a v h=K v h a:=rfl
@[go_sem] theorem g8Z:ka K h v a=K v h a:=rfl
@[go_sem] theorem f8F:kop E n ops l none M tm v h a=c5k E n ops l ⟨tm,h,a⟩ M:=rfl
@[go_sem] theorem f7V:kop E n ops l (some d) M tm v h a=c5k E n ops l ⟨(d,v)::tm,h,a⟩ M:=rfl
@[go_sem] theorem f0Q:f8R E hb ab n y Q .normal s=vc E hb ab n y s Q:=rfl
@[go_sem] theorem f5w:f8R E hb ab n y Q (.exit i) s=Q (.exit i) s:=rfl
@[go_sem] theorem f9v:f8R E hb ab n y Q .ret s=Q .ret s:=rfl
@[go_sem] theorem d9z:d9b i Q .normal s=Q .normal s:=rfl
@[go_sem] theorem f7G:d9b i Q .ret s=Q .ret s:=rfl
@[go_sem] theorem f4t:d9b i Q (.exit i) s=Q .normal s:=by simp[d9b,c1E]
@[go_sem] theorem f6S(h:(j == i)=false):d9b i Q (.exit j) s=Q (.exit j) s:=by simp only[d9b,c1E];rw[if_neg (by simpa using h)]
@[go_sem] theorem f8E:f1r r v h a=(share v=r):=rfl
def b5v(E:Env)(tm:List (Nat×V))(h:List VObj):List ResultVar→List V→(V→Prop)→Prop
 | [],acc,K=>(match acc.reverse with | [v]=>K v | vs=>K (.tuple vs))
 | .tmp t::r,acc,K=>b5v E tm h r (b1Z tm t::acc) K
 | .cell b t::r,acc,K=>match vAt h (b1Z tm b)with
  | some cs=>vLoadL E t cs fun v=>b5v E tm h r (v::acc) K
  | none=>False
theorem d5p:∀ (rs:List ResultVar) (acc:List V) (L:List V→Prop) (K:V→Prop),(∀ vs,L vs=(match acc.reverse++vs with | [v]=>K v | vs=>K (.tuple vs))) →
  c2E E ⟨tm,h,a⟩ rs L=b5v E tm h rs acc K:=by
 intro rs;induction rs with
 | nil=>intro acc L K hl;simp only[c2E,b5v,hl,h0F]
 | cons r rs ih =>
  intro acc L K hl;cases r with
  | tmp t =>
   simp only[c2E,b5v];exact ih _ _ _ fun vs=>by rw[hl];simp
  | cell b t =>
   simp only[c2E,b5v];cases vAt h (b1Z tm b)with
   | none=>rfl
   | some cs =>
    simp only;congr 1;funext v
    exact ih _ _ _ fun vs=>by rw[hl];simp
theorem d8r{rs:List ResultVar}{K:V→Prop}:f6V E ⟨tm,h,a⟩ rs K=b5v E tm h rs [] K:=d5p rs [] _ K fun vs=>rfl
def g6O(E:Env)(tm:List (Nat×V))(h:List VObj)(r:List ResultVar)(acc:List V)(K:V→Prop):V→Prop:=fun v=>b5v E tm h r (v::acc) K
@[go_sem] theorem g4C{rs:List ResultVar}{acc:List V}{K:V→Prop}:g6O E tm h rs acc K v=b5v E tm h rs (v::acc) K:=rfl
@[go_sem] theorem f3y{K:V→Prop}:b5v E tm h [] [v] K=K v:=rfl
@[go_sem] theorem f2u{K:V→Prop}:b5v E tm h [] [] K=K (.tuple []):=rfl
@[go_sem] theorem f3l{u:V}{K:V→Prop}:b5v E tm h [] [v,u] K=K (.tuple [u,v]):=rfl
@[go_sem] theorem f2o{u x:V}{K:V→Prop}:b5v E tm h [] [v,u,x] K=K (.tuple [x,u,v]):=rfl
@[go_sem] theorem f6l{t:Nat}{rs:List ResultVar}{acc:List V}{K:V→Prop}:b5v E tm h (.tmp t::rs) acc K=b5v E tm h rs (b1Z tm t::acc) K:=rfl
def d3C(E:Env)(t:TypeId)(o:Option (List V))(K:V→Prop):Prop:=match o with
 | some cs=>vLoadL E t cs K
 | none=>False
@[go_sem] theorem f2k{t:TypeId}{cs:List V}{K:V→Prop}:d3C E t (some cs) K=vLoadL E t cs K:=rfl
@[go_sem] theorem f2t{b:Nat}{t:TypeId}{rs:List ResultVar}{acc:List V}{K:V→Prop}:b5v E tm h (.cell b t::rs) acc K=d3C E t (vAt h (b1Z tm b)) (g6O E tm h rs acc K):=rfl
@[go_sem] theorem f1P{rs:List ResultVar}:d8j E rs K .normal ⟨tm,h,a⟩=b5v E tm h rs [] (kv K h a):=by simp only[d8j,d8r,ne_eq,reduceCtorEq,not_false_eq_true,implies_true,true_and];rfl
@[go_sem] theorem f9y{rs:List ResultVar}:d8j E rs K .ret ⟨tm,h,a⟩=b5v E tm h rs [] (kv K h a):=by simp only[d8j,d8r,ne_eq,reduceCtorEq,not_false_eq_true,implies_true,true_and];rfl
theorem d9h:vc E hb ab n .skip s Q=Q .normal s:=rfl
theorem d6G:vc E hb ab n (.label l') s Q=Q .normal s:=rfl
theorem f0Y:vc E hb ab n (.exit i) s Q=Q (.exit i) s:=rfl
theorem f5t:vc E hb ab n .ret s Q=Q .ret s:=rfl
theorem f6I{x:Code}:vc E hb ab n (.seq x y) s Q=vc E hb ab n x s (f8R E hb ab n y Q):=rfl
theorem d5W:vc E hb ab n (.scope y) s Q=vc E hb ab n y s Q:=rfl
theorem d4L:vc E hb ab n (.block i y) s Q=vc E hb ab n y s (d9b i Q):=rfl
theorem f0i:vc E hb ab n (.loop y) s Q=Snd E hb ab n (.loop y) s Q:=rfl
theorem f0T:vc E hb ab n (.region i l.toArray true) s Q=Snd E hb ab n (.region i l.toArray true) s Q:=by simp[vc]
theorem d0x:vc E hb ab n (.region i l.toArray false) s Q=c5k E n l l s (Q .normal):=by simp[vc]
def c9n(E:Env)(hb ab n:Nat)(x y:Code)(s:St)(Q:VEx→St→Prop)(b:V):Prop :=
 match b with
 | .bool b=>(b=true→vc E hb ab n x s Q)∧(b=false→vc E hb ab n y s Q)
 | _=>False
theorem d9y{c:Operand}{x:Code}:vc E hb ab n (.cond c x y) s Q=c9n E hb ab n x y s Q (ev E s.tmps c):=rfl
@[go_sem] theorem f2A{b:Bool}{x:Code}:c9n E hb ab n x y s Q (.bool b)=((b=true→vc E hb ab n x s Q)∧(b=false→vc E hb ab n y s Q)):=rfl
@[go_sem high] theorem f3b{x:Code}:c9n E hb ab n x y s Q (.bool true)=vc E hb ab n x s Q:=by simp[c9n]
@[go_sem high] theorem f0q{x:Code}:c9n E hb ab n x y s Q (.bool false)=vc E hb ab n y s Q:=by simp[c9n]
theorem d6r:c5k E n ops [] s M=M s:=rfl
theorem d0d{op:Op}{dst:Option Tmp}{ty:TypeId}{pos:String}{after:Array Edge}{r:List Oper} :
  c5k E n ops (⟨dst,op,ty,pos,after,none⟩::r) ⟨tm,h,a⟩ M=(c3A n ⟨dst,.move (.tmp 0),ty,pos,after,none⟩=true∧vop E ⟨tm,h,a⟩ op (kop E n ops r dst M tm)):=rfl
def kgd(E:Env)(n:Nat)(ops r:List Oper)(op:Op)(dst:Option Nat)(s:St)(M:St→Prop)(d:Nat)(want:Bool)(x:V):Prop :=
 match x with
 | .bool b=>(b=want→vop E ⟨(d,.bool want)::s.tmps,s.heap,s.arr⟩ op (kop E n ops r dst M ((d,.bool want)::s.tmps))) ∧
   (b = !want→kop E n ops r dst M ((d,.bool (!want))::s.tmps) (.tuple []) s.heap s.arr)
 | .tuple []=>kop E n ops r dst M s.tmps (.tuple []) s.heap s.arr
 | _=>False
def kgo(E:Env)(n:Nat)(ops r:List Oper)(op:Op)(dst:Option Nat)(s:St)(M:St→Prop)(want:Bool)(o:Option Nat):Prop :=
 match o with
 | some d=>d<n∧kgd E n ops r op dst s M d want (b1Z s.tmps d)
 | none=>False
theorem c9k{op:Op}{dst:Option Tmp}{ty:TypeId}{pos:String}{after:Array Edge}{want:Bool}{r:List Oper} :
  c5k E n ops (⟨dst,op,ty,pos,after,some (j,want)⟩::r) ⟨tm,h,a⟩ M=(c3A n ⟨dst,.move (.tmp 0),ty,pos,after,none⟩=true∧kgo E n ops r op dst ⟨tm,h,a⟩ M want (b5Y ops j)):=by
 simp only[c5k,kgo];congr 1
@[go_sem] theorem f8N{op:Op}{dst:Option Nat}{want:Bool}:kgo E n ops l op dst ⟨tm,h,a⟩ M want (some d)=(d<n∧kgd E n ops l op dst ⟨tm,h,a⟩ M d want (b1Z tm d)):=rfl
section
variable {op : Op} {dst : Option Nat} {b : Bool}
@[go_sem] theorem g9d:kgd E n ops l op dst ⟨tm,h,a⟩ M d true (.bool b)=((b=true→vop E ⟨(d,.bool true)::tm,h,a⟩ op (kop E n ops l dst M ((d,.bool true)::tm))) ∧
 (b=false→kop E n ops l dst M ((d,.bool false)::tm) (.tuple []) h a)):=rfl
@[go_sem] theorem g9b:kgd E n ops l op dst ⟨tm,h,a⟩ M d false (.bool b)=((b=false→vop E ⟨(d,.bool false)::tm,h,a⟩ op (kop E n ops l dst M ((d,.bool false)::tm))) ∧
 (b=true→kop E n ops l dst M ((d,.bool true)::tm) (.tuple []) h a)):=rfl
@[go_sem] theorem g9q{want:Bool}:kgd E n ops l op dst ⟨tm,h,a⟩ M d want (.tuple [])=kop E n ops l dst M tm (.tuple []) h a:=rfl
@[go_sem high] theorem g7n:kgd E n ops l op dst ⟨tm,h,a⟩ M d true (.bool true)=vop E ⟨(d,.bool true)::tm,h,a⟩ op (kop E n ops l dst M ((d,.bool true)::tm)):=by simp[kgd]
@[go_sem high] theorem g8b:kgd E n ops l op dst ⟨tm,h,a⟩ M d true (.bool false)=kop E n ops l dst M ((d,.bool false)::tm) (.tuple []) h a:=by simp[kgd]
@[go_sem high] theorem g7f:kgd E n ops l op dst ⟨tm,h,a⟩ M d false (.bool false)=vop E ⟨(d,.bool false)::tm,h,a⟩ op (kop E n ops l dst M ((d,.bool false)::tm)):=by simp[kgd]
@[go_sem high] theorem g5D:kgd E n ops l op dst ⟨tm,h,a⟩ M d false (.bool true)=kop E n ops l dst M ((d,.bool true)::tm) (.tuple []) h a:=by simp[kgd]
end
attribute [go_sem ↓] d5W d9h d6G f0Y f5t f6I d4L f0i f0T d0x d9y d6r d0d c9k
end
section
variable {α : Type} {a : α} {l : List α} {i j : Nat} {x : V} {r : List (Nat × V)}
theorem f0o(h:(i == j)=false):b1Z ((j,x)::r) i=b1Z r i:=by
 simp only[b1Z];rw[if_neg (by simpa using h)]
theorem c2N:b1Z ((i,x)::r) i=x:=by simp[b1Z]
theorem d5U:b1Z [] i = .junk:=rfl
attribute [go_sem] f0o c2N d5U
theorem d4p:(a::l)[0]? = some a:=rfl
theorem d5l(h:(i == 0)=false):(a::l)[i]? = l[i - 1]?:=by
 cases i with
 | zero=>simp at h
 | succ i=>simp
theorem drop_zero:List.drop 0 l=l:=rfl
theorem d1m(h:(i == 0)=false):List.drop i (a::l)=List.drop (i - 1) l:=by
 cases i with
 | zero=>simp at h
 | succ i=>simp
theorem d3q:List.replicate 0 a=[]:=rfl
theorem d2Q(h:(i == 0)=false):List.replicate i a=a::List.replicate (i - 1) a:=by
 cases i with
 | zero=>simp at h
 | succ i=>rfl
theorem d0F{d:α}:(a::l).getD 0 d=a:=rfl
theorem d1z{d:α}(h:(i == 0)=false):(a::l).getD i d=l.getD (i - 1) d:=by
 cases i with
 | zero=>simp at h
 | succ i=>simp
theorem take_zero:List.take 0 l=[]:=rfl
theorem d0h(h:(i == 0)=false):List.take i (a::l)=a::List.take (i - 1) l:=by
 cases i with
 | zero=>simp at h
 | succ i=>simp
theorem d5F{b:α}:(a::l).set 0 b=b::l:=rfl
theorem d5e{b:α}(h:(i == 0)=false):(a::l).set i b=a::l.set (i - 1) b:=by
 cases i with
 | zero=>simp at h
 | succ i=>simp
theorem d6y{m:List α}:(a::l)++m=a::(l++m):=rfl
theorem f0y{m:List α}:[]++m=m:=rfl
theorem f0G:([]:List α).length=0:=rfl
theorem d5a:(a::l).length=l.length+1:=rfl
theorem map_nil{β:Type}{f:α→β}:[].map f=[]:=rfl
theorem map_cons{β:Type}{f:α→β}:(a::l).map f=f a::l.map f:=rfl
theorem f1y:l.toArray[i]? = l[i]?:=by simp
theorem all_nil{f:α→Bool}:[].all f=true:=rfl
theorem all_cons{f:α→Bool}:(a::l).all f=(f a && l.all f):=rfl
attribute [go_sem] h0L d4p d5l drop_zero d1m d3q d2Q d0F d1z take_zero d0h d5F d5e d6y f0y f0G d5a map_nil map_cons f1y all_nil all_cons
 h0S h1g h0U Bool.and_false Bool.not_true Bool.not_false true_and and_true h0l h1q eq_self
 Nat.reduceBEq Nat.reduceLT Nat.reduceLeDiff Nat.reduceEqDiff Nat.reduceAdd Nat.reduceMul Nat.reduceSub Int.reduceToNat Int.reduceLT Int.reduceLE Int.reduceAdd Int.reduceSub Int.reduceMul Int.reduceNeg Int.reduceEq and_self List.isEmpty_cons List.isEmpty_nil List.toList_toArray
theorem c8W{o:Oper}{l:List Oper}:b5Y (o::l) 0=o.dst:=rfl
theorem c8I{o:Oper}{l:List Oper}(h:(i == 0)=false):b5Y (o::l) i=b5Y l (i - 1):=by
 cases i with
 | zero=>simp at h
 | succ i=>simp[b5Y]
theorem f5E{d:Option Tmp}{op:Op}{ty:TypeId}{pos:String}{after:Array Edge}{g:Option (Nat×Bool)}:(Oper.mk d op ty pos after g).dst=d:=rfl
theorem d2h{n d:Nat}{op:Op}{ty:TypeId}{pos:String}{after:Array Edge}{g:Option (Nat×Bool)}:c3A n ⟨some d,op,ty,pos,after,g⟩=decide (d<n):=rfl
theorem d3T{n:Nat}{op:Op}{ty:TypeId}{pos:String}{after:Array Edge}{g:Option (Nat×Bool)}:c3A n ⟨none,op,ty,pos,after,g⟩=true:=rfl
attribute [go_sem] c8W c8I f5E d2h d3T b9v c0S
end
section
variable {E : Env} {t t' : TypeId} {K : V → Prop} {k : IntKind} {a b : Int}
@[go_sem] theorem f8r:vBin E .add t (.int k a) (.int k b) K=K (.int k (k.wrap (a+b))):=by simp[vBin,vIntOp]
@[go_sem] theorem f7Y:vBin E .sub t (.int k a) (.int k b) K=K (.int k (k.wrap (a - b))):=by simp[vBin,vIntOp]
@[go_sem] theorem f9m:vBin E .mul t (.int k a) (.int k b) K=K (.int k (k.wrap (a * b))):=by simp[vBin,vIntOp]
@[go_sem] theorem f7J:vBin E .eql t (.int k a) (.int k b) K=K (.bool (decide (a=b))):=by simp[vBin,vIntOp];rfl
@[go_sem] theorem f8Z:vBin E .neq t (.int k a) (.int k b) K=K (.bool (!decide (a=b))):=by simp[vBin,vIntOp,bne];rfl
@[go_sem] theorem f9w:vBin E .lss t (.int k a) (.int k b) K=K (.bool (decide (a<b))):=by simp[vBin,vIntOp]
@[go_sem] theorem f7i:vBin E .leq t (.int k a) (.int k b) K=K (.bool (decide (a≤b))):=by simp[vBin,vIntOp]
@[go_sem] theorem f7m:vBin E .gtr t (.int k a) (.int k b) K=K (.bool (decide (b<a))):=by simp[vBin,vIntOp]
@[go_sem] theorem f7b:vBin E .geq t (.int k a) (.int k b) K=K (.bool (decide (b≤a))):=by simp[vBin,vIntOp]
theorem c5A(a:ByteArray):∀ (n i:Nat) (r:List UInt8),a.size - i=n→ByteArray.toList.loop a i r=r.reverse++a.data.toList.drop i:=by
 intro n;induction n with
 | zero =>
  intro i r h;unfold ByteArray.toList.loop;rw[if_neg (by omega)];have:a.data.toList.length≤i:=by simpa using(by omega:a.size≤i)
  rw[List.drop_eq_nil_of_le this];simp
 | succ n ih =>
  intro i r h;unfold ByteArray.toList.loop;rw[if_pos (by omega),ih (i+1) _ (by omega)];have hl:i<a.data.toList.length:=by simpa using(by omega:i<a.size)
  rw[List.drop_eq_getElem_cons hl];have hg:a.get! i=a.data.toList[i]:=by
   have hs:i<a.data.size:=by simpa using hl
   show a.data[i]! = _;rw[getElem!_pos a.data i hs];simp
  simp[hg]
theorem b6T(a:ByteArray):a.toList=a.data.toList:=by
 have:=c5A a (a.size - 0) 0 [] rfl;simpa[ByteArray.toList]using this
theorem b6f(a b:ByteArray):(a.toList == b.toList)=decide (a=b):=by
 rw[h1k];simp only[beq_iff_eq,h0l,b6T];constructor
 ·intro h;cases a;cases b
  simp at h;rw[h]
 ·rintro rfl;rfl
section
variable {x y : ByteArray}
@[go_sem] theorem f4q:vBin E .add t (.str x) (.str y) K=(x.size+y.size≤1152921504606846976∧K (.str (x++y))):=rfl
@[go_sem] theorem f4V:vBin E .eql t (.str x) (.str y) K=K (.bool (decide (x=y))):=by simp only[vBin,vStrOp,b6f]
@[go_sem] theorem f4x:vBin E .neq t (.str x) (.str y) K=K (.bool (!decide (x=y))):=by simp only[vBin,vStrOp,b6f]
@[go_sem] theorem f5W:vBin E .gtr t (.str x) (.str y) K=K (.bool (!(Op.bytesLess x.toList y.toList || decide (x=y)))):=by simp only[vBin,vStrOp,b6f]
end
@[go_sem] theorem g4E{b:Bool}:vUn .not (.bool b) K=K (.bool (!b)):=rfl
end
section
variable {E : Env} {tm : List (Nat × V)} {h : List VObj} {ar : List Nat} {K : b1y} {x y z : Operand} {t t' : TypeId}
@[go_sem] theorem g7w{i:Nat}:ev E tm (.tmp i)=b1Z tm i:=rfl
@[go_sem] theorem f7N{v:Value}:ev E tm (.const v)=ofV v:=rfl
@[go_sem] theorem g2b{f:FuncId}:ev E tm (.func f) = .func f []:=rfl
def evG(o:Option (List V)):V:=match o with
 | some cs => .fptr cs
 | none => .junk
@[go_sem] theorem f9d{cs:List V}:evG (some cs) = .fptr cs:=rfl
@[go_sem] theorem f4K{g:Nat}:ev E tm (.global g)=evG (E.gl g):=rfl
@[go_sem] theorem f9B{b:Bool}:ofV (.bool b) = .bool b:=rfl
@[go_sem] theorem g0X{k:IntKind}{n:Int}:ofV (.int k n) = .int k n:=rfl
@[go_sem] theorem f7r:ofV (.pointer none) = .nilp:=rfl
@[go_sem] theorem f8c:ofV (.slice none 0 0) = .slice .nil 0 []:=rfl
@[go_sem] theorem f8x:ofV (.map none) = .nilmap:=rfl
def g8q(s:ByteArray):V:=if s.size≤1152921504606846976 then .str s else .junk
@[go_sem] theorem g0L{b:ByteArray}:ofV (.string b)=g8q b:=rfl
@[go_sem] theorem f8m{l:List UInt8}(h:decide (l.length≤1000000)=true):g8q ⟨l.toArray⟩ = .str ⟨l.toArray⟩:=by
 refine if_pos ?_;have:l.length≤1000000:=by simpa using h
 show l.toArray.size≤_;simp;omega
theorem d4I:vop E ⟨tm,h,ar⟩ (.move x) K=kv K h ar (ev E tm x):=rfl
theorem c9I:vop E ⟨tm,h,ar⟩ (.assign x) K=kv K h ar (ev E tm x):=rfl
def f1k(c a b:V)(K:V→Prop):Prop:=match c with
 | .bool t=>K (if t then a else b)
 | _=>False
@[go_sem high] theorem f2q{a c:V}{K:V→Prop}:f1k (.bool true) a c K=K a:=rfl
@[go_sem high] theorem d9g{a c:V}{K:V→Prop}:f1k (.bool false) a c K=K c:=rfl
theorem d6u:vop E ⟨tm,h,ar⟩ (.pick x y z) K=f1k (ev E tm x) (ev E tm y) (ev E tm z) (kv K h ar):=rfl
theorem d3X:vop E ⟨tm,h,ar⟩ (.alloc t) K=((b6b E t=true∧d1O E t (b3v E t))∧kv K (h++[d7J E t (b3v E t)]) ar (.ptr h.length 0)):=rfl
theorem f0u:vop E ⟨tm,h,ar⟩ (.box t x) K=((ev E tm x).some? = true∧kv K (h++[.cells (cellsV (ev E tm x))]) ar (.ptr h.length 0)):=rfl
def evP(E:Env)(tm:List (Nat×V))(ps:List (Nat×Operand)):List (Nat×V):=ps.map fun p=>(p.1,ev E tm p.2)
@[go_sem] theorem f9I:evP E tm []=[]:=rfl
@[go_sem] theorem f7D{i:Nat}{r:List (Nat×Operand)}:evP E tm ((i,x)::r)=(i,ev E tm x)::evP E tm r:=rfl
theorem d1K{ps:List (Nat×Operand)}:vop E ⟨tm,h,ar⟩ (.build t ps.toArray) K=vBuild E t (evP E tm ps) (kv K h ar):=rfl
theorem c1b{n:Nat}{ps:List (Nat×Operand)}:vop E ⟨tm,h,ar⟩ (.buildSlice t n ps.toArray) K=vBuildSlice E t n (evP E tm ps) (kv K h ar):=rfl
theorem d5k:vop E ⟨tm,h,ar⟩ (.load t x) K=d3C E t (vAt h (ev E tm x)) (kv K h ar):=rfl
theorem d3K:vop E ⟨tm,h,ar⟩ (.store t x y) K=c0s E h t (ev E tm x) (ev E tm y) (kh K ar):=rfl
def f9U(x:V)(K:V→Prop):Prop:=match x with
 | .ptr id off=>K (.ptr id off)
 | .fptr cs=>K (.fptr cs)
 | .vptr id k gen off=>K (.vptr id k gen off)
 | _=>False
@[go_sem] theorem f9u{i o:Nat}{K:V→Prop}:f9U (.ptr i o) K=K (.ptr i o):=rfl
@[go_sem] theorem f5h{cs:List V}{K:V→Prop}:f9U (.fptr cs) K=K (.fptr cs):=rfl
theorem c4T:vop E ⟨tm,h,ar⟩ (.nilCheck x) K=f9U (ev E tm x) (kv K h ar):=rfl
theorem f2e{op:BinOp}:vop E ⟨tm,h,ar⟩ (.binOp op t x y t') K=vBinC E op t (b8E y) (ev E tm x) (ev E tm y) (kv K h ar):=rfl
theorem d6c:vop E ⟨tm,h,ar⟩ (.makeInterface t x) K=vMkIface E t (ev E tm x) (kv K h ar):=rfl
theorem d3A:vop E ⟨tm,h,ar⟩ (.panic x) K=d2b E h ar (ev E tm x):=rfl
theorem f5n{op:UnOp}:vop E ⟨tm,h,ar⟩ (.unOp op t x) K=vUn op (ev E tm x) (kv K h ar):=rfl
def f1x(E:Env)(a b:Option TypeDesc)(x:V)(K:V→Prop):Prop:=match a,b,x with
 | some _,some (.int k),.int _ n=>K (.int k (k.wrap n))
 | some _,some .string,.str b=>K (.str b)
 | some (.slice e),some .string,.slice _ e' es=>((es=[]∨e'=e)∧E.P.underlying e=some (.int .u8)∧E.P.cellsOf e=1)∧match c0N es with
   | some ns=>K (.str (b9L ns))
   | none=>False
 | some .string,some (.slice e),.str b=>(E.P.underlying e=some (.int .u8)∧E.P.cellsOf e=1∧E.P.bytesOf e=1∧b.size≤140737488355328)∧K (sl e (b2r b))
 | _,_,_=>False
@[go_sem] theorem f3Z{E:Env}{e:Nat}{b:ByteArray}{K:V→Prop}:f1x E (some .string) (some (.slice e)) (.str b) K=((E.P.underlying e=some (.int .u8)∧E.P.cellsOf e=1∧E.P.bytesOf e=1∧b.size≤140737488355328)∧K (sl e (b2r b))):=rfl
@[go_sem] theorem f6n{α β:Type}{f:α→β}{a:α}:(some a).map f=some (f a):=rfl
@[go_sem] theorem f4B{d:TypeDesc}{k k':IntKind}{n:Int}{K:V→Prop}:f1x E (some d) (some (.int k)) (.int k' n) K=K (.int k (k.wrap n)):=rfl
theorem c6t:vop E ⟨tm,h,ar⟩ (.convert t t' x) K=f1x E (E.P.underlying t) (E.P.underlying t') (ev E tm x) (kv K h ar):=rfl
def evL(E:Env)(tm:List (Nat×V))(ps:List Operand):List V:=ps.map (ev E tm)
@[go_sem] theorem g4P:evL E tm []=[]:=rfl
@[go_sem] theorem f8I{r:List Operand}:evL E tm (x::r)=ev E tm x::evL E tm r:=rfl
theorem c4v{f:FuncId}{caps:List Operand}:vop E ⟨tm,h,ar⟩ (.makeFunc (.func f) #[] caps.toArray) K=kv K h ar (.func f (evL E tm caps)):=by simp[vop,evL,kv]
theorem c3M{f:FuncId}{x:Operand}{r:List Operand}:vop E ⟨tm,h,ar⟩ (.makeFunc (.func f) (x::r).toArray #[]) K=kv K h ar (.meth f (evL E tm (x::r))):=by simp[vop,evL,kv]
def evO(E:Env)(tm:List (Nat×V)):Option Operand→Option V
 | some x=>some (ev E tm x)
 | none=>none
@[go_sem] theorem f8T:evO E tm none=none:=rfl
@[go_sem] theorem f7M:evO E tm (some x)=some (ev E tm x):=rfl
def f7z(E:Env)(b c:Bool)(h:List VObj)(ar:List Nat)(t:TypeId)(x:V)(lo hi mx:Option V)(K:b1y):Prop:=match b,c with
 | true,true=>c4j E ar t x lo hi (ka K h)
 | _,_=>vSlice E t x lo hi mx (kv K h ar)
@[go_sem] theorem f7p{b:Bool}{h:List VObj}{ar:List Nat}{x:V}{lo hi mx:Option V}:f7z E b false h ar t x lo hi mx K=vSlice E t x lo hi mx (kv K h ar):=by cases b <;> rfl
@[go_sem] theorem f4O{h:List VObj}{ar:List Nat}{x:V}{lo hi mx:Option V}:f7z E true true h ar t x lo hi mx K=c4j E ar t x lo hi (ka K h):=rfl
theorem d0v{lo hi mx:Option Operand}:vop E ⟨tm,h,ar⟩ (.slice t x lo hi mx) K=f7z E (E.vecT t) (b6J (ev E tm x) (evO E tm lo) (evO E tm hi) (evO E tm mx)) h ar t (ev E tm x) (evO E tm lo) (evO E tm hi) (evO E tm mx) K:=by
 have e:∀ o:Option Operand,o.map (ev E tm)=evO E tm o:=fun o=>by cases o <;> rfl
 simp only[vop,e];unfold f7z;cases E.vecT t <;> cases b6J (ev E tm x) (evO E tm lo) (evO E tm hi) (evO E tm mx) <;> rfl
section
variable {lo hi mx : Option V} {x y y' : V}
@[go_sem] theorem f4u{s:ByteArray}:b6J (.str s) lo hi mx=false:=rfl
@[go_sem] theorem f3a{a b c d e:Nat}{kd:IntKind}{l:Int}:b6J (.vec a b c d e) none (some (.int kd l)) none=true:=rfl
@[go_sem] theorem f7K{o:Own}{e:Nat}{es:List (List V)}:b6J (.slice o e es) none hi mx=false:=by cases o <;> cases es <;> rfl
@[go_sem] theorem f8y:b6J x (some y') (some y) mx=false:=by cases x <;> first | rfl | (rename_i o e es;cases o <;> cases es <;> cases y' <;> rfl)
@[go_sem] theorem f4E{k e:Nat}{el:List V}{es:List (List V)}{kd:IntKind}{l:Int}:b6J (.slice (.arr k) e (el::es)) (some (.int kd l)) none none=true:=rfl
@[go_sem] theorem f3R{e:Nat}{el:List V}{es:List (List V)}{kd:IntKind}{l:Int}:b6J (.slice .full e (el::es)) (some (.int kd l)) none none=true:=rfl
end
theorem c2x{f:Nat}:vop E ⟨tm,h,ar⟩ (.fieldAddr t x f) K=vFieldAddr E t (ev E tm x) f (kv K h ar):=rfl
def d1F(E:Env)(d:Option TypeDesc)(x:V)(f:Nat)(K:V→Prop):Prop:=match d,x with
 | some (.struct fs),.agg cs=>match fs[f]? with
  | some fd=>vPart E fd.type cs fd.offset K
  | none=>False
 | _,_=>False
def d3G(E:Env)(o:Option Field)(cs:List V)(K:V→Prop):Prop:=match o with
 | some fd=>vPart E fd.type cs fd.offset K
 | none=>False
@[go_sem] theorem d8B{a1 a5 a6:String}{ty off b:Nat}{e:Bool}{cs:List V}{K:V→Prop}:d3G E (some ⟨a1,ty,off,e,a5,a6,b⟩) cs K=vPart E ty cs off K:=rfl
@[go_sem] theorem f3B{fs:Array Field}{cs:List V}{f:Nat}{K:V→Prop}:d1F E (some (.struct fs)) (.agg cs) f K=d3G E fs[f]? cs K:=rfl
theorem d0n{f:Nat}:vop E ⟨tm,h,ar⟩ (.field t x f) K=d1F E (E.P.underlying t) (ev E tm x) f (kv K h ar):=by
 simp only[vop,d1F];cases E.P.underlying t with
 | none=>rfl
 | some d=>cases d <;> rfl
theorem c2I:vop E ⟨tm,h,ar⟩ (.indexAddr t x y) K=vIndexAddr E t (ev E tm x) (ev E tm y) (kv K h ar):=rfl
theorem d0I:vop E ⟨tm,h,ar⟩ (.index t x y) K=vIndex E t (ev E tm x) (ev E tm y) (kv K h ar):=rfl
def c2P(x:V)(i:Nat)(K:V→Prop):Prop:=match x with
 | .tuple vs=>vHead (vs.drop i) K
 | _=>False
@[go_sem] theorem d4b{vs:List V}{i:Nat}{K:V→Prop}:c2P (.tuple vs) i K=vHead (vs.drop i) K:=rfl
@[go_sem] theorem f3F{c:V}{r:List V}{K:V→Prop}:vHead (c::r) K=K c:=rfl
theorem c5r{i:Nat}:vop E ⟨tm,h,ar⟩ (.extract x i) K=c2P (ev E tm x) i (kv K h ar):=by
 simp only[vop,c2P];cases ev E tm x <;> try rfl
 rename_i vs;simp only[];cases h:vs[i]? with
 | none=>rw[List.drop_eq_nil_of_le (List.getElem?_eq_none_iff.1 h)];rfl
 | some y =>
  obtain⟨hl,rfl⟩:=h0b.1 h;rw[List.drop_eq_getElem_cons hl];rfl
def vFn(E:Env)(x:V)(args:List V)(heap:List VObj)(arr:List Nat)(K:b1y):Prop:=match x with
 | .func fid caps=>b0t E.P fid=true∧b0q E fid (args++caps) heap arr K
 | .meth fid xs=>b0t E.P fid=true∧b0q E fid (xs++args) heap arr K
 | _=>False
@[go_sem] theorem f9C{f:FuncId}{caps g9X:List V}{h:List VObj}{r:List Nat}{K:b1y}:vFn E (.func f caps) g9X h r K=(b0t E.P f=true∧b0q E f (g9X++caps) h r K):=rfl
theorem d4E{f:Operand}{g9X:List Operand}{tys:Array TypeId}:vop E ⟨tm,h,ar⟩ (.call ⟨.value f,g9X.toArray,tys⟩) K=vFn E (ev E tm f) (evL E tm g9X) h ar K:=rfl
theorem d9B{ty:TypeId}{tys:List TypeId}:vop E ⟨tm,h,ar⟩ (.call ⟨.builtin .len,#[x],(ty::tys).toArray⟩) K=b9V E h ty (ev E tm x) (kv K h ar):=by
 simp only[vop,c2K,List.getElem?_toArray,List.getElem?_cons_zero];rfl
theorem c9W:vop E ⟨tm,h,ar⟩ (.call ⟨.builtin .append,#[x,y],#[t,t']⟩) K=d9S E h ar t t' (ev E tm x) (ev E tm y) K:=rfl
theorem d5E:vop E ⟨tm,h,ar⟩ (.call ⟨.builtin .copy,#[x,y],#[t,t']⟩) K=c6w E h t t' (ev E tm x) (ev E tm y) (fun r h'=>K r h' ar):=rfl
attribute [go_sem ↓] d5E
def f6j(E:Env)(b c:Bool)(h:List VObj)(ar:List Nat)(t t':TypeId)(x y:V)(K:b1y):Prop:=match b,c with
 | true,false=>c6i E h ar t t' x y K
 | _,_=>b5F E ar t t' x y (ka K h)
@[go_sem] theorem g7I{h:List VObj}{ar:List Nat}{x y:V}:d9S E h ar t t' x y K=f6j E (E.vecT t) (b8p x) h ar t t' x y K:=by
 unfold d9S f6j;cases E.vecT t <;> cases b8p x <;> rfl
@[go_sem] theorem f2R{c:Bool}{h:List VObj}{ar:List Nat}{x y:V}:f6j E false c h ar t t' x y K=b5F E ar t t' x y (ka K h):=by cases c <;> rfl
@[go_sem] theorem f6C{h:List VObj}{ar:List Nat}{x y:V}:f6j E true false h ar t t' x y K=c6i E h ar t t' x y K:=rfl
@[go_sem] theorem f5V{h:List VObj}{ar:List Nat}{x y:V}:f6j E true true h ar t t' x y K=b5F E ar t t' x y (ka K h):=rfl
@[go_sem] theorem d9I{e:Nat}{es:List (List V)}:b8p (.slice .full e es)=true:=rfl
@[go_sem] theorem f3A{k e:Nat}{es:List (List V)}:b8p (.slice (.arr k) e es)=true:=rfl
@[go_sem] theorem f2X{e:Nat}{es:List (List V)}:b8p (.slice .nil e es)=false:=rfl
@[go_sem] theorem f2H{a b c d e:Nat}:b8p (.vec a b c d e)=false:=rfl
theorem c9c{ok:Bool}:vop E ⟨tm,h,ar⟩ (.lookup t x y ok) K=vLookK E h t (ev E tm x) (ev E tm y) ok (kv K h ar):=rfl
theorem c3k:vop E ⟨tm,h,ar⟩ (.mapUpdate t x y z) K=vMapSetK E h t (ev E tm x) (ev E tm y) (ev E tm z) (kh K ar):=rfl
theorem c9F:vop E ⟨tm,h,ar⟩ (.insert t x y z) K=vMapSetK E h t (ev E tm x) (ev E tm y) (ev E tm z) (kh K ar):=rfl
theorem c5V:vop E ⟨tm,h,ar⟩ (.makeMap t none) K=kv K (h++[.map []]) ar (.map h.length):=by simp[vop,kv]
theorem c3d:vop E ⟨tm,h,ar⟩ (.makeSlice t x y) K=b3k E h t (ev E tm x) (ev E tm y) (km K ar):=rfl
theorem d1X:vop E ⟨tm,h,ar⟩ (.range t x) K=c1B E h t (ev E tm x) (km K ar):=rfl
theorem d5o:vop E ⟨tm,h,ar⟩ (.next x true) K=c8K h (ev E tm x) (km K ar):=by simp[vop];rfl
theorem d9H{tys:Array TypeId}:vop E ⟨tm,h,ar⟩ (.call ⟨.builtin .min,#[x,y],tys⟩) K=vMin (ev E tm x) (ev E tm y) (kv K h ar):=rfl
theorem f0V{tys:Array TypeId}:vop E ⟨tm,h,ar⟩ (.call ⟨.builtin .max,#[x,y],tys⟩) K=vMax (ev E tm x) (ev E tm y) (kv K h ar):=rfl
theorem d4O{z:Operand}{tys:Array TypeId}:vop E ⟨tm,h,ar⟩ (.call ⟨.builtin .max,#[x,y,z],tys⟩) K=vMax3 (ev E tm x) (ev E tm y) (ev E tm z) (kv K h ar):=rfl
section
variable {E : Env} {op : BinOp} {t : TypeId} {u v : V} {M : V → Prop} {c : Bool}
@[go_sem] theorem f3O{i:Nat}:b8E (.tmp i)=false:=rfl
@[go_sem] theorem f2J{k:IntKind}{n:Int}:b8E (.const (.int k n))=false:=rfl
@[go_sem] theorem f3k{s:ByteArray}:b8E (.const (.string s))=false:=rfl
@[go_sem] theorem d9e:vBinC E op t false u v M=vBin E op t u v M:=rfl
def g9P(d:Option TypeDesc)(op:BinOp)(x:V)(K:V→Prop):Prop :=
 match d,op,x with
 | some (.interface _),.eql,.nilif=>K (.bool true)
 | some (.interface _),.neq,.nilif=>K (.bool false)
 | some (.interface _),.eql,.iface _ _=>K (.bool false)
 | some (.interface _),.neq,.iface _ _=>K (.bool true)
 | _,_,_=>False
def g6X(d:Option TypeDesc)(t:TypeId)(x:V)(K:V→Prop):Prop :=
 match d with
 | some (.interface _)=>False
 | none=>False
 | _=>K (.iface t x)
@[go_sem] theorem f2y:vMkIface E t u M=g6X (E.P.underlying t) t u M:=rfl
@[go_sem] theorem f8G{xs ys:List V}:vBin E op t (.agg xs) (.agg ys) M=(c8Z (flatK E.P t) xs ys∧f2I op (eqL xs ys) M):=rfl
@[go_sem] theorem f2M{ks:List Nat}{xs ys:List V}:c8Z (some ks) xs ys=(b3F ks xs ys=true):=rfl
@[go_sem] theorem f7F:b3F [] [] []=true:=rfl
@[go_sem] theorem f8l{ks:List Nat}{a b:ByteArray}{xs ys:List V}:b3F (0::ks) (.str a::xs) (.str b::ys)=b3F ks xs ys:=by simp[b3F,d1W]
@[go_sem] theorem f9r{ks:List Nat}{k:IntKind}{a b:Int}{xs ys:List V}:b3F (1::ks) (.int k a::xs) (.int k b::ys)=b3F ks xs ys:=by simp[b3F,d1W]
@[go_sem] theorem g0P:eqL [] []=some true:=rfl
def f6x(b:Bool)(o:Option Bool):Option Bool:=o.map (b && ·)
@[go_sem] theorem f4j{a b:Bool}:f6x a (some b)=some (a && b):=rfl
@[go_sem] theorem g4c{a b:ByteArray}{xs ys:List V}:eqL (.str a::xs) (.str b::ys)=f6x (decide (a=b)) (eqL xs ys):=by
 simp only[eqL,eq1,f6x];cases eqL xs ys <;> rfl
@[go_sem] theorem g1m{k:IntKind}{a b:Int}{xs ys:List V}:eqL (.int k a::xs) (.int k b::ys)=f6x (decide (a=b)) (eqL xs ys):=by
 simp only[eqL,eq1,f6x,if_true];cases eqL xs ys <;> rfl
@[go_sem] theorem f9G{b:Bool}:f2I .eql (some b) M=M (.bool b):=rfl
@[go_sem] theorem f7j{b:Bool}:f2I .neq (some b) M=M (.bool (!b)):=rfl
end
attribute [go_sem ↓] d4O d6c d3A
attribute [go_sem ↓] c9c c3k c9F c5V c3d d1X d5o d9H f0V d4I c9I d6u d3X f0u d1K c1b d5k d3K c4T f2e f5n c6t c4v c3M d0v c2x d0n c2I d0I c5r d4E d9B c9W
end
section
variable {E : Env} {t t' : TypeId} {K : V → Prop} {heap : List VObj}
@[go_sem] theorem f9p{cs:List V}:vAt heap (.fptr cs)=some cs:=rfl
def g6J(o:Option VObj)(off:Nat):Option (List V):=match o with
 | some ob=>ob.cs?.map fun cs=>cs.drop off
 | _=>none
@[go_sem] theorem g4L{E:Env}{t:TypeId}{cs:List V}:d7J E t cs=if E.tag t=true then .builder t ⟨#[]⟩else .cells cs:=rfl
@[go_sem] theorem f7E{E:Env}{t:TypeId}{cs:List V}:d1O E t cs=(E.tag t=true→f8Y cs=true):=rfl
@[go_sem] theorem f2S{cs:List V}{off:Nat}:g6J (some (.cells cs)) off=some (cs.drop off):=rfl
def d9Z(o:Option VObj)(k gen off:Nat):Option (List V):=match o with
 | some (.vec k' gen' _ cs)=>if k'=k∧gen'=gen then some (cs.drop off)else none
 | _=>none
@[go_sem] theorem f9E{i k g o:Nat}:vAt heap (.vptr i k g o)=d9Z heap[i]? k g o:=rfl
@[go_sem] theorem f3n{k g o:Nat}{e:TypeId}{cs:List V}:d9Z (some (.vec k g e cs)) k g o=some (cs.drop o):=by simp[d9Z]
@[go_sem] theorem g1j{i o:Nat}:vAt heap (.ptr i o)=g6J heap[i]? o:=rfl
def b7l(E:Env)(d:Option TypeDesc)(t:TypeId)(cs:List V)(K:V→Prop):Prop:=match d with
 | some (.struct _) | some (.array _ _)=>E.P.cellsOf t≤cs.length∧K (.agg (cs.take (E.P.cellsOf t)))
 | some _=>vHead cs K
 | none=>False
@[go_sem] theorem f8v{cs:List V}:vLoadL E t cs K=b7l E (E.P.underlying t) t cs K:=rfl
@[go_sem] theorem d4m{cs:List V}{fs:Array Field}:b7l E (some (.struct fs)) t cs K=(E.P.cellsOf t≤cs.length∧K (.agg (cs.take (E.P.cellsOf t)))):=rfl
@[go_sem] theorem d8F{cs:List V}{n e:Nat}:b7l E (some (.array n e)) t cs K=(E.P.cellsOf t≤cs.length∧K (.agg (cs.take (E.P.cellsOf t)))):=rfl
@[go_sem] theorem f2B{cs:List V}{k:IntKind}:b7l E (some (.int k)) t cs K=vHead cs K:=rfl
@[go_sem] theorem d9p{cs:List V}:b7l E (some .bool) t cs K=vHead cs K:=rfl
@[go_sem] theorem f3N{cs:List V}:b7l E (some .string) t cs K=vHead cs K:=rfl
@[go_sem] theorem d7K{cs:List V}{e:Nat}:b7l E (some (.slice e)) t cs K=vHead cs K:=rfl
@[go_sem] theorem f3J{cs:List V}{e:Nat}:b7l E (some (.pointer e)) t cs K=vHead cs K:=rfl
@[go_sem] theorem f3C{cs:List V}{k e:Nat}:b7l E (some (.map k e)) t cs K=vHead cs K:=rfl
def c7z(E:Env)(d:Option TypeDesc)(t:TypeId)(cs:List V)(off:Nat)(K:V→Prop):Prop:=match d with
 | some (.struct _) | some (.array _ _)=>off+E.P.cellsOf t≤cs.length∧K (.agg ((cs.drop off).take (E.P.cellsOf t)))
 | some _=>vHead (cs.drop off) K
 | none=>False
@[go_sem] theorem g1d{cs:List V}{o:Nat}:vPart E t cs o K=c7z E (E.P.underlying t) t cs o K:=rfl
@[go_sem] theorem f3M{cs:List V}{o:Nat}{k:IntKind}:c7z E (some (.int k)) t cs o K=vHead (cs.drop o) K:=rfl
@[go_sem] theorem f3d{cs:List V}{o:Nat}:c7z E (some .string) t cs o K=vHead (cs.drop o) K:=rfl
@[go_sem] theorem d7M{cs:List V}{o e:Nat}:c7z E (some (.slice e)) t cs o K=vHead (cs.drop o) K:=rfl
def d1c(E:Env)(d:Option TypeDesc)(a:V)(f:Nat)(K:V→Prop):Prop:=match d with
 | some (.struct fs)=>match fs[f]? with
  | some fd=>(b0A E.P fd.type=true∧E.P.cellsOf fd.type≠0) ∧
   match a with
   | .fptr cs=>K (.fptr (cs.drop fd.offset))
   | .ptr id off=>K (.ptr id (off+fd.offset))
   | .vptr id k gen off=>K (.vptr id k gen (off+fd.offset))
   | _=>False
  | none=>False
 | _=>False
@[go_sem] theorem d7u{a:V}{f:Nat}:vFieldAddr E t a f K=d1c E (E.P.underlying t) a f K:=rfl
def c2s(E:Env)(o:Option Field)(a:V)(K:V→Prop):Prop:=match o with
  | some fd=>(b0A E.P fd.type=true∧E.P.cellsOf fd.type≠0) ∧
   match a with
   | .fptr cs=>K (.fptr (cs.drop fd.offset))
   | .ptr id off=>K (.ptr id (off+fd.offset))
   | .vptr id k gen off=>K (.vptr id k gen (off+fd.offset))
   | _=>False
  | none=>False
@[go_sem] theorem d4d{fs:Array Field}{a:V}{f:Nat}:d1c E (some (.struct fs)) a f K=c2s E fs[f]? a K:=rfl
@[go_sem] theorem d7I{a1 a5 a6:String}{ty off b:Nat}{e:Bool}{cs:List V}:c2s E (some ⟨a1,ty,off,e,a5,a6,b⟩) (.fptr cs) K=((b0A E.P ty=true∧E.P.cellsOf ty≠0)∧K (.fptr (cs.drop off))):=rfl
@[go_sem] theorem d7n{a1 a5 a6:String}{ty off b:Nat}{e:Bool}{i k g o:Nat}:c2s E (some ⟨a1,ty,off,e,a5,a6,b⟩) (.vptr i k g o) K=((b0A E.P ty=true∧E.P.cellsOf ty≠0)∧K (.vptr i k g (o+off))):=rfl
@[go_sem] theorem f0z{a1 a5 a6:String}{ty off b:Nat}{e:Bool}{i o:Nat}:c2s E (some ⟨a1,ty,off,e,a5,a6,b⟩) (.ptr i o) K=((b0A E.P ty=true∧E.P.cellsOf ty≠0)∧K (.ptr i (o+off))):=rfl
def c6D(E:Env)(d:Option TypeDesc)(x ix:V)(K:V→Prop):Prop:=match d,x,ix with
 | some (.slice e),.slice _ e' es,.int _ i=>(e'=e∧b0A E.P e=true∧0≤i∧i<es.length)∧K (.fptr (es.getD i.toNat []))
 | some (.slice e),.mslice id off len _ e',.int _ i=>(e'=e∧b0A E.P e=true∧0≤i∧i<len)∧K (.ptr id (off+i.toNat * E.P.cellsOf e))
 | some (.slice e),.vec id k gen len e',.int _ i=>(e'=e∧b0A E.P e=true∧0≤i∧i<len)∧K (.vptr id k gen (i.toNat * E.P.cellsOf e))
 | some (.array n e),.fptr cs,.int _ i=>(b0A E.P e=true∧0≤i∧i<n)∧K (.fptr (cs.drop (i.toNat * E.P.cellsOf e)))
 | some (.array n e),.ptr id off,.int _ i=>(b0A E.P e=true∧0≤i∧i<n)∧K (.ptr id (off+i.toNat * E.P.cellsOf e))
 | _,_,_=>False
@[go_sem] theorem d8M{x i:V}:vIndexAddr E t x i K=c6D E (E.P.underlying t) x i K:=rfl
@[go_sem] theorem f0l{e e':Nat}{o:Own}{es:List (List V)}{k:IntKind}{i:Int}:c6D E (some (.slice e)) (.slice o e' es) (.int k i) K=((e'=e∧b0A E.P e=true∧0≤i∧i<es.length)∧K (.fptr (es.getD i.toNat []))):=rfl
@[go_sem] theorem f8C{e e':Nat}{es:List (List V)}{k:IntKind}{i:Int}:c6D E (some (.slice e)) (sl e' es) (.int k i) K=((e'=e∧b0A E.P e=true∧0≤i∧i<es.length)∧K (.fptr (es.getD i.toNat []))):=by
 cases es with
 | nil=>simp only[c6D,sl,h0J];exact propext ⟨fun h=>absurd h.1.2.2 (by omega),fun h=>absurd h.1.2.2 (by omega)⟩
 | cons x r=>rfl
@[go_sem] theorem d7S{e e' id off len cap:Nat}{k:IntKind}{i:Int}:c6D E (some (.slice e)) (.mslice id off len cap e') (.int k i) K=((e'=e∧b0A E.P e=true∧0≤i∧i<len)∧K (.ptr id (off+i.toNat * E.P.cellsOf e))):=rfl
@[go_sem] theorem f4h{e e' id kk g len:Nat}{k:IntKind}{i:Int}:c6D E (some (.slice e)) (.vec id kk g len e') (.int k i) K=((e'=e∧b0A E.P e=true∧0≤i∧i<len)∧K (.vptr id kk g (i.toNat * E.P.cellsOf e))):=rfl
@[go_sem] theorem d9s{n e:Nat}{cs:List V}{k:IntKind}{i:Int}:c6D E (some (.array n e)) (.fptr cs) (.int k i) K=((b0A E.P e=true∧0≤i∧i<n)∧K (.fptr (cs.drop (i.toNat * E.P.cellsOf e)))):=rfl
def g5M(E:Env)(d:Option TypeDesc)(x ix:V)(K:V→Prop):Prop:=match d,x,ix with
 | some .string,.str s,.int _ i=>(0≤i∧i<s.size)∧K (.int .u8 (b5q s i))
 | some (.array n e),.agg cs,.int _ i=>(b0A E.P e=true∧0≤i∧i<n)∧vPart E e cs (i.toNat * E.P.cellsOf e) K
 | _,_,_=>False
@[go_sem] theorem f7O{x i:V}:vIndex E t x i K=g5M E (E.P.underlying t) x i K:=rfl
@[go_sem] theorem f7T{s:ByteArray}{k:IntKind}{i:Int}:g5M E (some .string) (.str s) (.int k i) K=((0≤i∧i<s.size)∧K (.int .u8 (b5q s i))):=rfl
def c8C(P:Program)(d:Option TypeDesc)(x:V)(K:V→Prop):Prop:=match d,x with
 | some .string,.str s=>s.size≤1152921504606846976→K (.int .i64 s.size)
 | some (.slice _),.slice _ e es=>es.length * P.bytesOf e≤140737488355328→es.length≤140737488355328→K (.int .i64 es.length)
 | some (.slice _),.mslice _ _ len _ _=>len≤140737488355328→K (.int .i64 len)
 | some (.slice _),.vec _ _ _ len _=>len≤140737488355328→K (.int .i64 len)
 | _,_=>False
section
variable {P : Program}
@[go_sem] theorem g6t{x:V}:d4e E t x K=c8C E.P (E.P.underlying t) x K:=rfl
@[go_sem] theorem f5m{h:List VObj}{s:ByteArray}:b9V E h t (.str s) K=d4e E t (.str s) K:=rfl
@[go_sem] theorem f1n{h:List VObj}{o:Own}{e:Nat}{es:List (List V)}:b9V E h t (.slice o e es) K=d4e E t (.slice o e es) K:=rfl
@[go_sem] theorem f6s{h:List VObj}{a b c d e:Nat}:b9V E h t (.vec a b c d e) K=d4e E t (.vec a b c d e) K:=rfl
@[go_sem] theorem f8n{h:List VObj}{e:Nat}{es:List (List V)}:b9V E h t (sl e es) K=d4e E t (sl e es) K:=by cases es <;> rfl
def d0q(d:Option TypeDesc)(o:Option VObj)(K:V→Prop):Prop:=match d,o with
 | some (.map _ _),some (.map es)=>K (.int .i64 es.length)
 | _,_=>False
@[go_sem] theorem f4r{h:List VObj}{id:Nat}:b9V E h t (.map id) K=d0q (E.P.underlying t) h[id]? K:=by
 unfold b9V d0q;simp only;split <;> simp_all
@[go_sem] theorem f2O{a b:Nat}{es:List (V×V)}:d0q (some (.map a b)) (some (.map es)) K=K (.int .i64 es.length):=rfl
def c8j(E:Env)(d:Option TypeDesc)(arr:List Nat)(x:V)(lo hi:Option V)(K:V→List Nat→Prop):Prop :=
 match d,x,lo,hi with
 | some (.slice e),.slice (.arr k) e' es,some (.int _ l),_=>(e'=e∧b0A E.P e=true∧0≤l∧l≤es.length∧arr[k]? = some es.length)∧K (.slice (.arr arr.length) e' (es.drop l.toNat)) (arr.set k (es.length+1)++[es.length - l.toNat])
 | some (.slice e),.slice .full e' es,some (.int _ l),_=>(e'=e∧b0A E.P e=true∧0≤l∧l≤es.length)∧K (.slice .full e' (es.drop l.toNat)) arr
 | some (.slice e),.vec id k gen len e',none,some (.int _ h)=>(e'=e∧b0A E.P e=true∧0≤h∧h≤len∧arr[k]? = some gen)∧K (.vec id k gen h.toNat e') arr
 | _,_,_,_=>False
@[go_sem] theorem g0C{ar:List Nat}{x:V}{lo hi:Option V}{K:V→List Nat→Prop}:c4j E ar t x lo hi K=c8j E (E.P.underlying t) ar x lo hi K:=rfl
@[go_sem] theorem f3j{ar:List Nat}{k e e':Nat}{es:List (List V)}{kd:IntKind}{l:Int}{hi:Option V}{K:V→List Nat→Prop}:c8j E (some (.slice e)) ar (.slice (.arr k) e' es) (some (.int kd l)) hi K =
  ((e'=e∧b0A E.P e=true∧0≤l∧l≤es.length∧ar[k]? = some es.length)∧K (.slice (.arr ar.length) e' (es.drop l.toNat)) (ar.set k (es.length+1)++[es.length - l.toNat])):=rfl
@[go_sem] theorem f0P{ar:List Nat}{e e':Nat}{es:List (List V)}{kd:IntKind}{l:Int}{hi:Option V}{K:V→List Nat→Prop}:c8j E (some (.slice e)) ar (.slice .full e' es) (some (.int kd l)) hi K =
  ((e'=e∧b0A E.P e=true∧0≤l∧l≤es.length)∧K (.slice .full e' (es.drop l.toNat)) ar):=rfl
@[go_sem] theorem f3q{ar:List Nat}{id k gen len e e':Nat}{kd:IntKind}{l:Int}{K:V→List Nat→Prop}:c8j E (some (.slice e)) ar (.vec id k gen len e') none (some (.int kd l)) K =
  ((e'=e∧b0A E.P e=true∧0≤l∧l≤len∧ar[k]? = some gen)∧K (.vec id k gen l.toNat e') ar):=rfl
@[go_sem] theorem f6e{s:ByteArray}:c8C P (some .string) (.str s) K=(s.size≤1152921504606846976→K (.int .i64 s.size)):=rfl
@[go_sem] theorem f0e{e e':Nat}{o:Own}{es:List (List V)}:c8C P (some (.slice e)) (.slice o e' es) K=(es.length * P.bytesOf e'≤140737488355328→es.length≤140737488355328→K (.int .i64 es.length)):=rfl
@[go_sem] theorem f6Y{e e':Nat}{es:List (List V)}:c8C P (some (.slice e)) (sl e' es) K=(es.length * P.bytesOf e'≤140737488355328→es.length≤140737488355328→K (.int .i64 es.length)):=by
 cases es with
 | nil=>simp only[c8C,sl,h0J,Nat.zero_mul]
 | cons x r=>rfl
@[go_sem] theorem f6A{e e' i k g l:Nat}:c8C P (some (.slice e)) (.vec i k g l e') K=(l≤140737488355328→K (.int .i64 l)):=rfl
end
def c6v(E:Env)(heap:List VObj)(o:Option VObj)(t:TypeId)(id off:Nat)(x:V)(K:List VObj→Prop):Prop:=match o with
 | some ob=>match ob.cs? with
   | some cs=>(x ≠ .junk∧(cellsV x).all V.cell=true∧(cellsV x).length=E.P.cellsOf t∧(E.P.underlying t).isSome=true∧off+(cellsV x).length≤cs.length) ∧
     K (heap.set id (ob.put (c0S cs off (cellsV x))))
   | none=>False
 | _=>False
def c5L(E:Env)(heap:List VObj)(o:Option VObj)(t:TypeId)(id k gen off:Nat)(x:V)(K:List VObj→Prop):Prop:=match o with
 | some (.vec k' gen' e cs)=>(k'=k∧gen'=gen∧x ≠ .junk∧(cellsV x).all V.cell=true∧(cellsV x).length=E.P.cellsOf t∧(E.P.underlying t).isSome=true∧off+(cellsV x).length≤cs.length∧0<(cellsV x).length) ∧
    K (heap.set id (.vec k gen e (c0S cs off (cellsV x))))
 | _=>False
def d7r(E:Env)(heap:List VObj)(d d':Option TypeDesc)(x y:V)(K:V→List VObj→Prop):Prop :=
 match d,d',x,y with
 | some (.slice e),some (.slice _),.mslice id off len _ _,.slice _ e' es=>match heap[id]? with
  | some ob=>match ob.cs? with
   | some cs=>((es=[]∨e'=e)∧b0A E.P e=true∧es.length≤len∧off+es.flatten.length≤cs.length)∧K (.int .i64 es.length) (heap.set id (ob.put (c0S cs off es.flatten)))
   | none=>False
  | none=>False
 | _,_,_,_=>False
def d8K(E:Env)(heap:List VObj)(ob:Option VObj)(e id off len e':Nat)(es:List (List V))(K:V→List VObj→Prop):Prop:=match ob with
  | some ob=>match ob.cs? with
   | some cs=>((es=[]∨e'=e)∧b0A E.P e=true∧es.length≤len∧off+es.flatten.length≤cs.length)∧K (.int .i64 es.length) (heap.set id (ob.put (c0S cs off es.flatten)))
   | none=>False
  | none=>False
@[go_sem] theorem g4D{x y:V}{K:V→List VObj→Prop}:c6w E heap t t' x y K=d7r E heap (E.P.underlying t) (E.P.underlying t') x y K:=rfl
@[go_sem] theorem d7Z{K:V→List VObj→Prop}{id off len e e':Nat}{es:List (List V)}{cs:List V}:d8K E heap (some (.cells cs)) e id off len e' es K =
 (((es=[]∨e'=e)∧b0A E.P e=true∧es.length≤len∧off+es.flatten.length≤cs.length)∧K (.int .i64 es.length) (heap.set id (.cells (c0S cs off es.flatten)))):=rfl
@[go_sem] theorem d9C{i k g o:Nat}{x:V}{K:List VObj→Prop}:c0s E heap t (.vptr i k g o) x K=c5L E heap heap[i]? t i k g o x K:=rfl
@[go_sem] theorem d7q{e:TypeId}{cs:List V}{i k g o:Nat}{x:V}{K:List VObj→Prop}:c5L E heap (some (.vec k g e cs)) t i k g o x K =
  ((x.some? = true∧(cellsV x).all V.cell=true∧(cellsV x).length=E.P.cellsOf t∧(E.P.underlying t).isSome=true∧o+(cellsV x).length≤cs.length∧0<(cellsV x).length)∧K (heap.set i (.vec k g e (c0S cs o (cellsV x))))):=by
 have:(x≠V.junk)=(x.some? = true):=by
  cases x <;> simp[V.some?]
 simp only[c5L,this,true_and]
@[go_sem] theorem f3P{i o:Nat}{x:V}{K:List VObj→Prop}:c0s E heap t (.ptr i o) x K=c6v E heap heap[i]? t i o x K:=rfl
@[go_sem] theorem d4T{cs:List V}{i o:Nat}{x:V}{K:List VObj→Prop}:c6v E heap (some (.cells cs)) t i o x K =
  ((x.some? = true∧(cellsV x).all V.cell=true∧(cellsV x).length=E.P.cellsOf t∧(E.P.underlying t).isSome=true∧o+(cellsV x).length≤cs.length)∧K (heap.set i (.cells (c0S cs o (cellsV x))))):=by
 have:(x≠V.junk)=(x.some? = true):=by
  cases x <;> simp[V.some?]
 simp only[c6v,this];rfl
def c3P(E:Env)(arr:List Nat)(d d':Option TypeDesc)(s x:V)(K:V→List Nat→Prop):Prop:=match d,d',s,x with
 | some (.slice e),some (.slice _),.slice o e1 es,.slice _ e2 xs =>
  ((es=[]∨e1=e)∧(xs=[]∨e2=e)∧b0W E.P e=true∧(es.length+xs.length) * E.P.bytesOf e≤140737488355328)∧c2Z arr o e e1 es xs K
 | some (.slice e),some .string,.slice o e1 es,.str b =>
  ((es=[]∨e1=e)∧E.P.cellsOf e=1∧b0W E.P e=true∧(es.length+(b2r b).length) * E.P.bytesOf e≤140737488355328)∧c2Z arr o e e1 es (b2r b) K
 | _,_,_,_=>False
def c4d(E:Env)(heap:List VObj)(arr:List Nat)(d d':Option TypeDesc)(s x:V)(K:b1y):Prop :=
 match d,d',x with
 | some (.slice e),some (.slice _),.slice _ e2 xs=>(xs≠[]∧e2=e∧b0W E.P e=true)∧match s with
  | .vec id k gen len e1=>match heap[id]? with
   | some (.vec k' gen' e' cs)=>(k'=k∧gen'=gen∧e1=e∧e'=e∧cs.length=len * E.P.cellsOf e∧(len+xs.length) * E.P.bytesOf e≤140737488355328) ∧
     K (.vec id k (gen+1) (len+xs.length) e) (heap.set id (.vec k (gen+1) e (cs++xs.flatten))) (arr.set k (gen+1))
   | _=>False
  | .slice o e1 es=>(o.fresh=true∧(es=[]∨e1=e)∧(es.length+xs.length) * E.P.bytesOf e≤140737488355328) ∧
    K (.vec heap.length arr.length b8U (es.length+xs.length) e) (heap++[.vec arr.length b8U e (es.flatten++xs.flatten)]) (arr++[b8U])
  | _=>False
 | _,_,_=>False
def d2r(E:Env)(heap:List VObj)(arr:List Nat)(o:Option VObj)(e id k gen len e1:Nat)(xs:List (List V))(K:b1y):Prop:=match o with
 | some (.vec k' gen' e' cs)=>(k'=k∧gen'=gen∧e1=e∧e'=e∧cs.length=len * E.P.cellsOf e∧(len+xs.length) * E.P.bytesOf e≤140737488355328) ∧
     K (.vec id k (gen+1) (len+xs.length) e) (heap.set id (.vec k (gen+1) e (cs++xs.flatten))) (arr.set k (gen+1))
 | _=>False
@[go_sem] theorem g4R{h:List VObj}{arr:List Nat}{x y:V}{K:b1y}:c6i E h arr t t' x y K=c4d E h arr (E.P.underlying t) (E.P.underlying t') x y K:=rfl
@[go_sem] theorem c1j{h:List VObj}{arr:List Nat}{e e' id k gen len e1 e2:Nat}{o:Own}{xs:List (List V)}{K:b1y}:c4d E h arr (some (.slice e)) (some (.slice e')) (.vec id k gen len e1) (.slice o e2 xs) K =
  ((xs≠[]∧e2=e∧b0W E.P e=true)∧d2r E h arr h[id]? e id k gen len e1 xs K):=rfl
@[go_sem] theorem c0a{h:List VObj}{arr:List Nat}{e id k gen len e1 e':Nat}{cs:List V}{xs:List (List V)}{K:b1y}:d2r E h arr (some (.vec k gen e' cs)) e id k gen len e1 xs K =
  ((e1=e∧e'=e∧cs.length=len * E.P.cellsOf e∧(len+xs.length) * E.P.bytesOf e≤140737488355328) ∧
     K (.vec id k (gen+1) (len+xs.length) e) (h.set id (.vec k (gen+1) e (cs++xs.flatten))) (arr.set k (gen+1))):=by
 simp only[d2r,true_and]
@[go_sem] theorem b8x{h:List VObj}{arr:List Nat}{e e' e1 e2:Nat}{o o':Own}{es xs:List (List V)}{K:b1y}:c4d E h arr (some (.slice e)) (some (.slice e')) (.slice o e1 es) (.slice o' e2 xs) K =
  ((xs≠[]∧e2=e∧b0W E.P e=true)∧(o.fresh=true∧(es=[]∨e1=e)∧(es.length+xs.length) * E.P.bytesOf e≤140737488355328) ∧
    K (.vec h.length arr.length b8U (es.length+xs.length) e) (h++[.vec arr.length b8U e (es.flatten++xs.flatten)]) (arr++[b8U])):=rfl
@[go_sem] theorem Own.fresh_nil:Own.fresh .nil=true:=rfl
@[go_sem] theorem f5S{arr:List Nat}{x y:V}{K:V→List Nat→Prop}:b5F E arr t t' x y K=c3P E arr (E.P.underlying t) (E.P.underlying t') x y K:=rfl
section
variable {arr : List Nat} {e e' e1 e2 : Nat} {o : Own} {es xs : List (List V)} {K : V → List Nat → Prop}
@[go_sem] theorem f2r{x:List V}{r:List (List V)}:c3P E arr (some (.slice e)) (some (.slice e')) (.slice .full e1 es) (.slice o e2 (x::r)) K =
  (((es=[]∨e1=e)∧(x::r=[]∨e2=e)∧b0W E.P e=true∧(es.length+(x::r).length) * E.P.bytesOf e≤140737488355328)∧K (.slice (.arr arr.length) e (es++x::r)) (arr++[es.length+(x::r).length])):=rfl
@[go_sem] theorem f5Z:c3P E arr (some (.slice e)) (some (.slice e')) (.slice .nil e1 []) (.slice o e2 xs) K =
  (((xs=[]∨e2=e)∧b0W E.P e=true∧xs.length * E.P.bytesOf e≤140737488355328)∧K (.slice (.arr arr.length) e xs) (arr++[xs.length])):=by
 simp[c3P,c2Z]
@[go_sem] theorem f4m{k:Nat}:c3P E arr (some (.slice e)) (some (.slice e')) (.slice (.arr k) e1 es) (.slice o e2 xs) K =
  (((es=[]∨e1=e)∧(xs=[]∨e2=e)∧b0W E.P e=true∧(es.length+xs.length) * E.P.bytesOf e≤140737488355328) ∧
   (e1=e∧arr[k]? = some es.length)∧K (.slice (.arr k) e (es++xs)) (arr.set k (es.length+xs.length))):=rfl
end
section
variable {arr : List Nat} {e e' e1 e2 : Nat} {es xs : List (List V)} {K : V → List Nat → Prop}
theorem d3J:(xs=[]∨(if xs.isEmpty then 0 else e2)=e)=(xs=[]∨e2=e):=by cases xs <;> simp
@[go_sem] theorem d4r:c3P E arr (some (.slice e)) (some (.slice e')) (.slice .full e1 es) (sl e2 xs) K =
  (((es=[]∨e1=e)∧(xs=[]∨e2=e)∧b0W E.P e=true∧(es.length+xs.length) * E.P.bytesOf e≤140737488355328)∧(xs=[]→K (.slice .full e1 es) arr)∧(¬ xs=[]→K (.slice (.arr arr.length) e (es++xs)) (arr++[es.length+xs.length]))):=by
 have h:c3P E arr (some (.slice e)) (some (.slice e')) (.slice .full e1 es) (sl e2 xs) K=(((es=[]∨e1=e)∧(xs=[]∨(if xs.isEmpty then 0 else e2)=e)∧b0W E.P e=true∧(es.length+xs.length) * E.P.bytesOf e≤140737488355328)∧if xs=[]then K (.slice .full e1 es) arr else K (.slice (.arr arr.length) e (es++xs)) (arr++[es.length+xs.length])):=rfl;rw[h,d3J];by_cases hx:xs=[] <;> simp[hx]
@[go_sem] theorem d8y{k:Nat}:c3P E arr (some (.slice e)) (some (.slice e')) (.slice (.arr k) e1 es) (sl e2 xs) K =
  (((es=[]∨e1=e)∧(xs=[]∨e2=e)∧b0W E.P e=true∧(es.length+xs.length) * E.P.bytesOf e≤140737488355328) ∧
   (e1=e∧arr[k]? = some es.length)∧K (.slice (.arr k) e (es++xs)) (arr.set k (es.length+xs.length))):=by
 rw[←d3J (xs:=xs)];rfl
end
def c2v(E:Env)(d:Option TypeDesc)(t:TypeId)(ps:List (Nat×V))(K:V→Prop):Prop:=match d with
 | some (.struct fs)=>(b6b E t=true∧fs.all (fun f=>b0A E.P f.type)=true) ∧
  match b6B (b9Y E.P fs) (b3v E t) ps with
  | some cs=>K (.agg cs)
  | none=>False
 | some (.array _ e)=>(b6b E t=true∧b0A E.P e=true) ∧
  match b6B (fun i=>some (i * E.P.cellsOf e,E.P.cellsOf e)) (b3v E t) ps with
  | some cs=>K (.agg cs)
  | none=>False
 | _=>False
@[go_sem] theorem f9n{ps:List (Nat×V)}:vBuild E t ps K=c2v E (E.P.underlying t) t ps K:=rfl
def d5O(o:Option (List V))(K:V→Prop):Prop:=match o with
 | some cs=>K (.agg cs)
 | none=>False
@[go_sem] theorem f2F{cs:List V}:d5O (some cs) K=K (.agg cs):=rfl
@[go_sem] theorem d4c{fs:List Field}{ps:List (Nat×V)}:c2v E (some (.struct fs.toArray)) t ps K =
  ((b6b E t=true∧fs.all (fun f=>b0A E.P f.type)=true)∧d5O (b6B (b9Y E.P fs.toArray) (b3v E t) ps) K):=by
 simp only[c2v,List.all_toArray,d5O]
@[go_sem] theorem d4o{n e:Nat}{ps:List (Nat×V)}:c2v E (some (.array n e)) t ps K =
  ((b6b E t=true∧b0A E.P e=true)∧d5O (b6B (fun i=>some (i * E.P.cellsOf e,E.P.cellsOf e)) (b3v E t) ps) K):=rfl
def g7a(E:Env)(d:Option TypeDesc)(len:Nat)(ps:List (Nat×V))(K:V→Prop):Prop:=match d with
 | some (.slice e)=>(b0W E.P e=true∧len * E.P.cellsOf e≤16777216) ∧
  match b5u len (E.P.cellsOf e) (List.replicate len ((b3v E e).map share1)) ps with
  | some es=>K (.slice .full e es)
  | none=>False
 | _=>False
@[go_sem] theorem d6Z{len:Nat}{ps:List (Nat×V)}:vBuildSlice E t len ps K=g7a E (E.P.underlying t) len ps K:=rfl
def g5J(e:TypeId)(o:Option (List (List V)))(K:V→Prop):Prop:=match o with
 | some es=>K (.slice .full e es)
 | none=>False
@[go_sem] theorem f5Y{e:TypeId}{es:List (List V)}:g5J e (some es) K=K (.slice .full e es):=rfl
@[go_sem] theorem f2W{e len:Nat}{ps:List (Nat×V)}:g7a E (some (.slice e)) len ps K =
  ((b0W E.P e=true∧len * E.P.cellsOf e≤16777216)∧g5J e (b5u len (E.P.cellsOf e) (List.replicate len ((b3v E e).map share1)) ps) K):=rfl
def d2o(P:Program)(o:Option Field):Option (Nat×Nat):=o.map fun f=>(f.offset,P.cellsOf f.type)
@[go_sem] theorem f0s{P:Program}{a1 a5 a6:String}{ty off b:Nat}{e:Bool}:d2o P (some ⟨a1,ty,off,e,a5,a6,b⟩)=some (off,P.cellsOf ty):=rfl
@[go_sem] theorem f3i{P:Program}{fs:List Field}{i:Nat}:b9Y P fs.toArray i=d2o P fs[i]?:=by simp[b9Y,d2o]
@[go_sem] theorem f3U{pl:Nat→Option (Nat×Nat)}{cs:List V}:b6B pl cs []=some cs:=rfl
def f1Q(pl:Nat→Option (Nat×Nat))(o:Option (Nat×Nat))(cs:List V)(x:V)(r:List (Nat×V)):Option (List V):=match o with
 | none=>none
 | some (off,size)=>if x.some? = true∧(cellsV x).length=size∧off+size≤cs.length then b6B pl (c0S cs off (cellsV x)) r else none
@[go_sem] theorem f3v{pl:Nat→Option (Nat×Nat)}{cs:List V}{i:Nat}{x:V}{r:List (Nat×V)}:b6B pl cs ((i,x)::r)=f1Q pl (pl i) cs x r:=rfl
@[go_sem] theorem f3G{pl:Nat→Option (Nat×Nat)}{cs:List V}{off size:Nat}{x:V}{r:List (Nat×V)}(h:(x.some? && decide ((cellsV x).length=size) && decide (off+size≤cs.length))=true) :
  f1Q pl (some (off,size)) cs x r=b6B pl (c0S cs off (cellsV x)) r:=by
 simp only[h0k,h0l]at h;simp only[f1Q];rw[if_pos ⟨h.1.1,h.1.2,h.2⟩]
@[go_sem] theorem f3f{n sz:Nat}{es:List (List V)}:b5u n sz es []=some es:=rfl
@[go_sem] theorem d8Z{n sz i:Nat}{es:List (List V)}{x:V}{r:List (Nat×V)}(h:(x.some? && (cellsV x).all V.cell && decide ((cellsV x).length=sz) && decide (i<n))=true) :
  b5u n sz es ((i,x)::r)=b5u n sz (es.set i ((cellsV x).map share1)) r:=by
 simp only[h0k,h0l]at h;simp only[b5u];rw[if_pos ⟨h.1.1.1,h.1.1.2,h.1.2,h.2⟩]
end
section
variable {E : Env} {t t' : TypeId} {K : V → Prop} {heap : List VObj} {L : List VObj → Prop} {M : V → List VObj → Prop} {k : IntKind} {a b : Int}
@[go_sem] theorem f9h{k':IntKind}:vMin (.int k a) (.int k' b) K=K (.int k (if b<a then b else a)):=rfl
@[go_sem] theorem f7w{k':IntKind}:vMax (.int k a) (.int k' b) K=K (.int k (if a<b then b else a)):=rfl
def g5x(o:Option VObj):Option (List (V×V)):=match o with
 | some (.map es)=>some es
 | _=>none
@[go_sem] theorem f4A{es:List (V×V)}:g5x (some (.map es))=some es:=rfl
@[go_sem] theorem f4a{i:Nat}:b8K heap (.map i)=g5x heap[i]?:=rfl
def b1L(E:Env)(et:TypeId)(r:Option (Option (Nat×V)))(ok:Bool)(K:V→Prop):Prop:=match r with
 | some (some (_,v))=>K (if ok then .tuple [v,.bool true]else v)
 | some none=>b0Q E.P et=true∧K (if ok then .tuple [b2S E.P et,.bool false]else b2S E.P et)
 | none=>False
def d0Q(E:Env)(d:Option TypeDesc)(et:TypeId)(es:List (V×V))(k:V)(ok:Bool)(K:V→Prop):Prop:=match d with
 | some d=>d4h d k=true∧b1L E et (b1v d k es 0) ok K
 | none=>False
def d7Q(E:Env)(d:Option TypeDesc)(es:Option (List (V×V)))(k:V)(ok:Bool)(K:V→Prop):Prop:=match d,es with
 | some (.map kt et),some es=>d0Q E (E.P.underlying kt) et es k ok K
 | _,_=>False
@[go_sem] theorem g1w{m k:V}{ok:Bool}:vLook E heap t m k ok K=d7Q E (E.P.underlying t) (b8K heap m) k ok K:=rfl
@[go_sem] theorem f2E{m:V}{s:ByteArray}{ok:Bool}:vLookK E heap t m (.str s) ok K=vLook E heap t m (.str s) ok K:=rfl
@[go_sem] theorem f3t{m:V}{k:IntKind}{n:Int}{ok:Bool}:vLookK E heap t m (.int k n) ok K=vLook E heap t m (.int k n) ok K:=rfl
def d3x(E:Env)(fk:Option (List Nat))(et:TypeId)(es:List (V×V))(xs:List V)(ok:Bool)(K:V→Prop):Prop:=match fk with
 | some ks=>b3F ks xs xs=true∧b1L E et (b1e ks xs es 0) ok K
 | none=>False
def d8z(E:Env)(d:Option TypeDesc)(es:Option (List (V×V)))(xs:List V)(ok:Bool)(K:V→Prop):Prop:=match d,es with
 | some (.map kt et),some es=>d3x E (flatK E.P kt) et es xs ok K
 | _,_=>False
@[go_sem] theorem f2l{m:V}{xs:List V}{ok:Bool}:vLookK E heap t m (.agg xs) ok K=d8z E (E.P.underlying t) (b8K heap m) xs ok K:=rfl
@[go_sem] theorem f2Y{kt et:Nat}{es:List (V×V)}{xs:List V}{ok:Bool}:d8z E (some (.map kt et)) (some es) xs ok K=d3x E (flatK E.P kt) et es xs ok K:=rfl
@[go_sem] theorem d9M{ks:List Nat}{et:Nat}{es:List (V×V)}{xs:List V}{ok:Bool}:d3x E (some ks) et es xs ok K=(b3F ks xs xs=true∧b1L E et (b1e ks xs es 0) ok K):=rfl
@[go_sem] theorem f2N{kt et:Nat}{es:List (V×V)}{k:V}{ok:Bool}:d7Q E (some (.map kt et)) (some es) k ok K=d0Q E (E.P.underlying kt) et es k ok K:=rfl
@[go_sem] theorem d9D{d:TypeDesc}{et:Nat}{es:List (V×V)}{k:V}{ok:Bool}:d0Q E (some d) et es k ok K=(d4h d k=true∧b1L E et (b1v d k es 0) ok K):=rfl
@[go_sem] theorem f3K{et i:Nat}{v:V}:b1L E et (some (some (i,v))) true K=K (.tuple [v,.bool true]):=rfl
@[go_sem] theorem d9W{et i:Nat}{v:V}:b1L E et (some (some (i,v))) false K=K v:=rfl
@[go_sem] theorem b9I{et:Nat}:b1L E et (some none) true K=(b0Q E.P et=true∧K (.tuple [b2S E.P et,.bool false])):=rfl
@[go_sem] theorem b8D{et:Nat}:b1L E et (some none) false K=(b0Q E.P et=true∧K (b2S E.P et)):=rfl
def b3Z(heap:List VObj)(id:Nat)(es:List (V×V))(k v:V)(r:Option (Option (Nat×V)))(L:List VObj→Prop):Prop:=match r with
 | some (some (j,_))=>L (heap.set id (.map (es.set j (k,v))))
 | some none=>L (heap.set id (.map (es++[(k,v)])))
 | none=>False
def d8U(heap:List VObj)(o:Option VObj)(d:Option TypeDesc)(id:Nat)(k v:V)(L:List VObj→Prop):Prop:=match o,d with
 | some (.map es),some d=>d4h d k=true∧b3Z heap id es k v (b1v d k es 0) L
 | _,_=>False
def f6h(E:Env)(heap:List VObj)(d:Option TypeDesc)(m k v:V)(L:List VObj→Prop):Prop:=match d,m with
 | some (.map kt _),.map id=>d8U heap heap[id]? (E.P.underlying kt) id k v L
 | _,_=>False
@[go_sem] theorem f5l{m k v:V}:vMapSet E heap t m k v L=f6h E heap (E.P.underlying t) m k v L:=rfl
@[go_sem] theorem d8g{m v:V}{s:ByteArray}:vMapSetK E heap t m (.str s) v L=vMapSet E heap t m (.str s) v L:=rfl
@[go_sem] theorem d7B{m v:V}{k:IntKind}{n:Int}:vMapSetK E heap t m (.int k n) v L=vMapSet E heap t m (.int k n) v L:=rfl
def f1O(heap:List VObj)(o:Option VObj)(fk:Option (List Nat))(id:Nat)(xs:List V)(v:V)(L:List VObj→Prop):Prop:=match o,fk with
 | some (.map es),some ks=>b3F ks xs xs=true∧b3Z heap id es (.agg xs) v (b1e ks xs es 0) L
 | _,_=>False
def f4e(E:Env)(heap:List VObj)(d:Option TypeDesc)(m:V)(xs:List V)(v:V)(L:List VObj→Prop):Prop:=match d,m with
 | some (.map kt _),.map id=>f1O heap heap[id]? (flatK E.P kt) id xs v L
 | _,_=>False
@[go_sem] theorem d7x{m v:V}{xs:List V}:vMapSetK E heap t m (.agg xs) v L=f4e E heap (E.P.underlying t) m xs v L:=rfl
@[go_sem] theorem f5q{kt et id:Nat}{xs:List V}{v:V}:f4e E heap (some (.map kt et)) (.map id) xs v L=f1O heap heap[id]? (flatK E.P kt) id xs v L:=rfl
@[go_sem] theorem f3E{id:Nat}{ks:List Nat}{es:List (V×V)}{xs:List V}{v:V}:f1O heap (some (.map es)) (some ks) id xs v L=(b3F ks xs xs=true∧b3Z heap id es (.agg xs) v (b1e ks xs es 0) L):=rfl
@[go_sem] theorem f3X{kt et id:Nat}{k v:V}:f6h E heap (some (.map kt et)) (.map id) k v L=d8U heap heap[id]? (E.P.underlying kt) id k v L:=rfl
@[go_sem] theorem f2n{id:Nat}{d:TypeDesc}{es:List (V×V)}{k v:V}:d8U heap (some (.map es)) (some d) id k v L=(d4h d k=true∧b3Z heap id es k v (b1v d k es 0) L):=rfl
@[go_sem] theorem c4c{id j:Nat}{es:List (V×V)}{k v u:V}:b3Z heap id es k v (some (some (j,u))) L=L (heap.set id (.map (es.set j (k,v)))):=rfl
@[go_sem] theorem c1S{id:Nat}{es:List (V×V)}{k v:V}:b3Z heap id es k v (some none) L=L (heap.set id (.map (es++[(k,v)]))):=rfl
@[go_sem] theorem f8p{k':IntKind}:d4h (.int k) (.int k' a)=decide (k'=k):=rfl
@[go_sem] theorem f8D{s:ByteArray}:d4h .string (.str s)=true:=rfl
@[go_sem] theorem f6d{d:TypeDesc}{k:V}{i:Nat}:b1v d k [] i=some none:=rfl
def d8T(d:TypeDesc)(k:V)(v:V)(r:List (V×V))(i:Nat)(o:Option Bool):Option (Option (Nat×V)):=match o with
 | some true=>some (some (i,v))
 | some false=>b1v d k r (i+1)
 | none=>none
@[go_sem] theorem f2w{d:TypeDesc}{k k' v:V}{r:List (V×V)}{i:Nat}:b1v d k ((k',v)::r) i=d8T d k v r i (b7C d k k'):=rfl
@[go_sem] theorem f1K{d:TypeDesc}{k v:V}{r:List (V×V)}{i:Nat}:d8T d k v r i (some false)=b1v d k r (i+1):=rfl
@[go_sem] theorem f5j{d:IntKind}:b7C (.int d) (.int k a) (.int k b)=some (a == b):=by simp[b7C]
def d2y(E:Env)(heap:List VObj)(d:Option TypeDesc)(l c:V)(M:V→List VObj→Prop):Prop:=match d,l,c with
 | some (.slice e),.int _ n,.int _ n'=>(n=n'∧b0W E.P e=true∧0≤n∧n.toNat * E.P.bytesOf e≤140737488355328) ∧
   M (.mslice heap.length 0 n.toNat n.toNat e) (heap++[.cells (List.replicate n.toNat (b2M E.P e)).flatten])
 | _,_,_=>False
@[go_sem] theorem d8N{l c:V}:b3k E heap t l c M=d2y E heap (E.P.underlying t) l c M:=rfl
@[go_sem] theorem f3Q{e:Nat}{k k':IntKind}{n:Nat}:d2y E heap (some (.slice e)) (.int k n) (.int k' n) M =
  ((b0W E.P e=true∧n * E.P.bytesOf e≤140737488355328)∧M (.mslice heap.length 0 n n e) (heap++[.cells (List.replicate n (b2M E.P e)).flatten])):=by
 simp[d2y]
def d1k(heap:List VObj)(d:Option TypeDesc)(x:V)(M:V→List VObj→Prop):Prop:=match d,x with
 | some .string,.str s=>M (.ptr heap.length 0) (heap++[.siter s 0])
 | _,_=>False
@[go_sem] theorem f7x{x:V}:c1B E heap t x M=d1k heap (E.P.underlying t) x M:=rfl
@[go_sem] theorem f0J{s:ByteArray}:d1k heap (some .string) (.str s) M=M (.ptr heap.length 0) (heap++[.siter s 0]):=rfl
def d8O(heap:List VObj)(id:Nat)(o:Option VObj)(M:V→List VObj→Prop):Prop:=match o with
 | some (.siter s pos)=>if pos<s.size then M (.tuple [.bool true,.int .i64 pos,.int .i32 (Utf8.decode s pos).1]) (heap.set id (.siter s (pos+(Utf8.decode s pos).2)))else M (.tuple [.bool false]) heap
 | _=>False
@[go_sem] theorem g3g{id:Nat}:c8K heap (.ptr id 0) M=d8O heap id heap[id]? M:=rfl
@[go_sem] theorem d9d{id pos:Nat}{s:ByteArray}:d8O heap id (some (.siter s pos)) M =
  if pos<s.size then M (.tuple [.bool true,.int .i64 pos,.int .i32 (Utf8.decode s pos).1]) (heap.set id (.siter s (pos+(Utf8.decode s pos).2)))else M (.tuple [.bool false]) heap:=rfl
end
section
variable {cs : List V} {k : IntKind} {n : Int} {b : Bool} {s : ByteArray} {o : Own} {e : Nat} {es : List (List V)} {i j l c : Nat} {x : V}
@[go_sem] theorem f3e:cellsV (.agg cs)=cs:=rfl
@[go_sem] theorem f3m:cellsV (.int k n)=[.int k n]:=rfl
@[go_sem] theorem f0S:cellsV (.bool b)=[.bool b]:=rfl
@[go_sem] theorem f3g:cellsV (.str s)=[.str s]:=rfl
@[go_sem] theorem d8c:cellsV (.slice o e es)=[.slice o e es]:=rfl
@[go_sem] theorem f6L:cellsV (sl e es)=[sl e es]:=rfl
@[go_sem] theorem f0a:cellsV (.fptr cs)=[.fptr cs]:=rfl
@[go_sem] theorem f3H:cellsV (.map i)=[.map i]:=rfl
@[go_sem] theorem f9x:(V.agg cs).some? = true:=rfl
@[go_sem] theorem f7k:(V.int k n).some? = true:=rfl
@[go_sem] theorem f6f:(V.bool b).some? = true:=rfl
@[go_sem] theorem f8w:(V.str s).some? = true:=rfl
@[go_sem] theorem f3w:(V.slice o e es).some? = true:=rfl
@[go_sem] theorem g2d:(sl e es).some? = true:=rfl
@[go_sem] theorem f3Y:(V.fptr cs).some? = true:=rfl
@[go_sem] theorem f8d:(V.map i).some? = true:=rfl
@[go_sem] theorem f9f:(V.int k n).cell=true:=rfl
@[go_sem] theorem f5r:(V.bool b).cell=true:=rfl
@[go_sem] theorem f9g:(V.str s).cell=true:=rfl
@[go_sem] theorem f2x:(V.slice o e es).cell=true:=rfl
@[go_sem] theorem g0t:(sl e es).cell=true:=rfl
@[go_sem] theorem f5a:(V.fptr cs).cell=true:=rfl
@[go_sem] theorem f8i:(V.map i).cell=true:=rfl
@[go_sem] theorem f3h:share1 (.int k n) = .int k n:=rfl
@[go_sem] theorem f2c:share1 (.bool b) = .bool b:=rfl
@[go_sem] theorem f3x:share1 (.str s) = .str s:=rfl
@[go_sem] theorem d8o:share1 (.slice o e es)=sl e es:=rfl
@[go_sem] theorem g5m:sl e [] = .slice .shared 0 []:=rfl
@[go_sem] theorem f5J:share1 (sl e es)=sl e es:=by cases es <;> rfl
@[go_sem] theorem f2P:share1 (.map i) = .map i:=rfl
@[go_sem] theorem f2L:shareA (.agg cs) = .agg (cs.map share1):=rfl
@[go_sem] theorem f3s:shareA (.int k n) = .int k n:=rfl
@[go_sem] theorem f0E:shareA (.bool b) = .bool b:=rfl
@[go_sem] theorem f2G:shareA (.str s) = .str s:=rfl
@[go_sem] theorem d7X:shareA (.slice o e es)=sl e es:=rfl
@[go_sem] theorem d9A:share (.tuple cs) = .tuple (cs.map shareA):=rfl
@[go_sem] theorem f6F:share (.agg cs) = .agg (cs.map share1):=rfl
@[go_sem] theorem f6m:share (.int k n) = .int k n:=rfl
@[go_sem] theorem f2Z:share (.bool b) = .bool b:=rfl
@[go_sem] theorem f3V:share (.str s) = .str s:=rfl
@[go_sem] theorem f0N:share (.slice o e es)=sl e es:=rfl
@[go_sem] theorem f8X:share (sl e es)=sl e es:=by cases es <;> rfl
@[go_sem] theorem f2K:share (.fptr cs) = .fptr cs:=rfl
end
@[go_sem] theorem g2s{E:Env}{t:TypeId}:b3v E t=b2M E.P t:=rfl
@[go_sem] theorem f9q{E:Env}{t:TypeId}:b6b E t=b0Q E.P t:=rfl
theorem b0y{E:Env}{f:FuncId}{fn:Func}{c:Code}{args:List V}{heap:List VObj}{arr:List Nat}{K:b1y}(hf:E.P.funcs[f]? = some fn)(hbody:fn.body=some c)(hn:args.length≤fn.ntmps)
  (h:vc E heap.length arr.length fn.ntmps c ⟨b9v 0 args,heap,arr⟩ (d8j E fn.results.toList K)):b0q E f args heap arr K :=
 c5b hf hbody hn (b5p _ _ _ h)
theorem b0i{E:Env}{f:FuncId}{fn:Func}{c:Code}{args:List V}{r:V}(hf:E.P.funcs[f]? = some fn)(hbody:fn.body=some c)(hn:args.length≤fn.ntmps)(hp:b0Y args=true)(hr:r.pure=true)
  (h:vc E 0 0 fn.ntmps c ⟨b9v 0 args,[],[]⟩ (d8j E fn.results.toList (f1r r))) (hal:E.alive=E:=by exact rfl):b0s E f args r :=
 c8e hf hbody hn hp hr (b5p _ _ _ h) hal
end Go.Vg
namespace Go.Vg
open Go.RowKit
def Own.lt(ka:Nat):Own→Bool
 | .arr k=>decide (k<ka)
 | _=>true
mutual
def V.lt(k ka:Nat):V→Bool
 | .ptr id _=>decide (id<k)
 | .mslice id _ _ _ _=>decide (id<k)
 | .map id=>decide (id<k)
 | .fptr cs=>ltL k ka cs
 | .slice o _ es=>o.lt ka && b6K k ka es
 | .func _ cs=>ltL k ka cs
 | .meth _ cs=>ltL k ka cs
 | .iface _ v=>v.lt k ka
 | .agg cs=>ltL k ka cs
 | .tuple cs=>ltL k ka cs
 | .vec _ j _ _ _=>decide (j<ka)
 | .vptr _ j _ _=>decide (j<ka)
 | _=>true
def ltL(k ka:Nat):List V→Bool
 | []=>true
 | x::r=>x.lt k ka && ltL k ka r
def b6K(k ka:Nat):List (List V)→Bool
 | []=>true
 | x::r=>ltL k ka x && b6K k ka r
end
mutual
theorem V.lt_pure(k ka:Nat):∀ x:V,x.pure=true→x.lt k ka=true
 | .junk,_ | .bool _,_ | .int _ _,_ | .str _,_ | .nilp,_ | .nilmap,_ | .nilfunc,_ | .nilif,_=>rfl
 | .ptr ..,h | .mslice ..,h | .map _,h=>by simp[V.pure]at h
 | .fptr cs,h=>b4k k ka cs h
 | .slice o _ es,h=>by
  simp only[V.pure,h0k]at h;simp only[V.lt,h0k];exact⟨by cases o <;> first | rfl | simp[Own.plain]at h,b0m k ka es h.2⟩
 | .func _ cs,h=>b4k k ka cs h
 | .meth _ cs,h=>b4k k ka cs h
 | .iface _ v,h=>V.lt_pure k ka v h
 | .agg cs,h=>b4k k ka cs h
 | .tuple cs,h=>b4k k ka cs h
theorem b4k(k ka:Nat):∀ x:List V,b0Y x=true→ltL k ka x=true
 | [],_=>rfl
 | x::r,h=>by
  simp only[b0Y,h0k]at h;simp only[ltL,h0k];exact⟨V.lt_pure k ka x h.1,b4k k ka r h.2⟩
theorem b0m(k ka:Nat):∀ x:List (List V),b0P x=true→b6K k ka x=true
 | [],_=>rfl
 | x::r,h=>by
  simp only[b0P,h0k]at h;simp only[b6K,h0k];exact⟨b4k k ka x h.1,b0m k ka r h.2⟩
end
theorem b5d{k ka:Nat}{cs:List V}(h:ltL k ka cs=true):∀ (j:Nat) c,cs[j]? = some c→c.lt k ka=true:=by
 induction cs with
 | nil=>intro j c hc;simp at hc
 | cons x r ih =>
  simp only[ltL,h0k]at h;intro j c hc;cases j with
  | zero=>simp at hc;exact hc ▸ h.1
  | succ j=>exact ih h.2 j c (by simpa using hc)
theorem d6D{k ka:Nat}{cs:List (List V)}(h:b6K k ka cs=true):∀ (j:Nat) c,cs[j]? = some c→ltL k ka c=true:=by
 induction cs with
 | nil=>intro j c hc;simp at hc
 | cons x r ih =>
  simp only[b6K,h0k]at h;intro j c hc;cases j with
  | zero=>simp at hc;exact hc ▸ h.1
  | succ j=>exact ih h.2 j c (by simpa using hc)
def Gh.cut(G:Gh)(k ka:Nat):Gh:=⟨G.F,G.φ.take k,G.ρ.take ka⟩
theorem b1J{α:Type}{l:List α}{k j:Nat}(h:j<k):(l.take k)[j]? = l[j]?:=by
 rw[List.getElem?_take,if_pos h]
theorem b1d{α:Type}{l:List α}{k j:Nat}{x:α}(h:(l.take k)[j]? = some x):j<k∧l[j]? = some x:=by
 rw[List.getElem?_take]at h;split at h
 ·exact⟨by assumption,h⟩
 ·cases h
theorem d2I.cut{G:Gh}{arr:List Nat}{k ka j gen:Nat}{C:Nat→Nat→Prop}(h:d2I G arr j gen C)(hj:j<ka):d2I (G.cut k ka) (arr.take ka) j gen C:=by
 obtain⟨n,h1,h2,h3⟩:=h;refine⟨n,(b1J hj).trans h1,h2,fun e=>?_⟩;obtain⟨b,hi,h4,h5⟩:=h3 e;exact⟨b,hi,(b1J hj).trans h4,h5⟩
theorem RV.cut{P:Program}{G:Gh}{arr:List Nat}{k ka:Nat}{x:V}{v:Value}(hx:RV P G arr x v):x.lt k ka=true→RV P (G.cut k ka) (arr.take ka) x v:=by
 induction hx with
 | junk v=>intro _;exact .junk v
 | bool b=>intro _;exact .bool b
 | int k n=>intro _;exact .int k n
 | str s hs=>intro _;exact .str s hs
 | nilp=>intro _;exact .nilp
 | ptr id off b hb=>intro h;simp only[V.lt,h0l]at h;exact .ptr id off b ((b1J h).trans hb)
 | fptr cs b o hd _ ih =>
  intro h;simp only[V.lt]at h;refine .fptr cs b o hd fun j c v hc hv=>ih j c v hc hv (b5d h j c hc)
 | sodd e a c=>intro _;exact .sodd _ _ _
 | snil o e ho =>
  intro h;refine .snil o e ?_;simp only[V.lt,h0k]at h;cases o <;> simp_all [Own.lt,c1w]
 | slice o e es b off cap ho h1 h2 h3 h4 hd _ ih =>
  intro h;simp only[V.lt,h0k]at h;refine .slice o e es b off cap ?_ h1 h2 h3 h4 hd fun i el j c v hi hj hv=>ih i el j c v hi hj hv (b5d (d6D h.2 i el hi) j c hj)
  cases o with
  | arr kk =>
   obtain⟨n,g1,g2,g3⟩:=ho;have hk:kk<ka:=by simpa[Own.lt]using h.1
   exact⟨n,(b1J hk).trans g1,g2,fun e=>(b1J hk).trans (g3 e)⟩
  | _=>exact ho
 | mslice id off len cap e b hb h1 h2 h3=>intro h;simp only[V.lt,h0l]at h;exact .mslice id off len cap e b ((b1J h).trans hb) h1 h2 h3
 | nilmap=>intro _;exact .nilmap
 | map id b hb=>intro h;simp only[V.lt,h0l]at h;exact .map id b ((b1J h).trans hb)
 | nilfunc=>intro _;exact .nilfunc
 | func f caps cs hl _ ih =>
  intro h;simp only[V.lt]at h;exact .func f caps cs hl fun j c v hj hv=>ih j c v hj hv (b5d h j c hj)
 | meth f xs vs hl _ ih =>
  intro h;simp only[V.lt]at h;exact .meth f xs vs hl fun j c v hj hv=>ih j c v hj hv (b5d h j c hj)
 | nilif=>intro _;exact .nilif
 | iface t x v _ ih=>intro h;simp only[V.lt]at h;exact .iface t x v (ih h)
 | agg cs vs hl _ ih =>
  intro h;simp only[V.lt]at h;exact .agg cs vs hl fun j c v hj hv=>ih j c v hj hv (b5d h j c hj)
 | tuple cs vs hl _ ih =>
  intro h;simp only[V.lt]at h;exact .tuple cs vs hl fun j c v hj hv=>ih j c v hj hv (b5d h j c hj)
 | vec id j gen len e b o cap hv h1 h2 =>
  intro h;simp only[V.lt,h0l]at h;exact .vec id j gen len e b o cap (hv.cut h) h1 h2
 | vptr id j gen off b o hv =>
  intro h;simp only[V.lt,h0l]at h;exact .vptr id j gen off b o (hv.cut h)
def ltP(k ka:Nat):List (V×V)→Bool
 | []=>true
 | (x,y)::r=>x.lt k ka && y.lt k ka && ltP k ka r
theorem d1y{k ka:Nat}{es:List (V×V)}(h:ltP k ka es=true):∀ (j:Nat) x y,es[j]? = some (x,y)→x.lt k ka=true∧y.lt k ka=true:=by
 induction es with
 | nil=>intro j x y hc;simp at hc
 | cons e r ih =>
  obtain⟨a,b⟩:=e;simp only[ltP,h0k]at h;intro j x y hc;cases j with
  | zero=>simp at hc;obtain⟨rfl,rfl⟩:=hc;exact h.1
  | succ j=>exact ih h.2 j x y (by simpa using hc)
def VObj.lt(k ka:Nat):VObj→Bool
 | .cells cs=>ltL k ka cs
 | .map es=>ltP k ka es
 | .siter _ _=>true
 | .dead=>true
 | .tcells _ cs=>ltL k ka cs
 | .builder _ _=>true
 | .vec j _ _ cs=>decide (j<ka) && ltL k ka cs
def ltH(k ka:Nat):List VObj→Bool
 | []=>true
 | o::r=>o.lt k ka && ltH k ka r
theorem d2a{k ka:Nat}{h:List VObj}(hh:ltH k ka h=true):∀ (j:Nat) o,h[j]? = some o→o.lt k ka=true:=by
 induction h with
 | nil=>intro j c hc;simp at hc
 | cons x r ih =>
  simp only[ltH,h0k]at hh;intro j c hc;cases j with
  | zero=>simp at hc;exact hc ▸ hh.1
  | succ j=>exact ih hh.2 j c (by simpa using hc)
def ltT(k ka:Nat):List (Nat×V)→Bool
 | []=>true
 | (_,x)::r=>x.lt k ka && ltT k ka r
theorem d4M{k ka:Nat}:∀ {tm:List (Nat×V)},ltT k ka tm=true→∀ i,(b1Z tm i).lt k ka=true:=by
 intro tm;induction tm with
 | nil=>intro _ i;rfl
 | cons p r ih =>
  obtain⟨j,x⟩:=p;intro h i;simp only[ltT,h0k]at h;simp only[b1Z];split
  ·exact h.1
  ·exact ih h.2 i
theorem c3s.cut{P:Program}{G:Gh}{arr:List Nat}{w:World}{b k ka:Nat}{ob:VObj}(h:c3s P G arr w b ob)(hl:ob.lt k ka=true):c3s P (G.cut k ka) (arr.take ka) w b ob:=by
 cases ob with
 | cells cs =>
  obtain⟨c,e,h1,h2,h3⟩:=h;exact⟨c,e,h1,h2,fun j x hj=>(h3 j x hj).imp fun v hv=>⟨hv.1,hv.2.cut (b5d hl j x hj)⟩⟩
 | map es =>
  obtain⟨m,clk,h1,h2,h3⟩:=h;exact⟨m,clk,h1,h2,fun j kx vx hj=>(h3 j kx vx hj).imp fun e he=>⟨he.1,he.2.1.cut (d1y hl j _ _ hj).1,he.2.2.cut (d1y hl j _ _ hj).2⟩⟩
 | siter s pos=>exact h
 | dead=>trivial
 | vec _ _ _ _=>trivial
 | builder t s=>exact h
 | tcells t cs =>
  obtain⟨c,h1,h2,h3⟩:=h;exact⟨c,h1,h2,fun j x hj=>(h3 j x hj).imp fun v hv=>⟨hv.1,hv.2.cut (b5d hl j x hj)⟩⟩
theorem RelW.cut{E:Env}{G:Gh}{heap:List VObj}{arr:List Nat}{w0:Base}{w:World}(h:RelW E G heap arr w0 w){k ka:Nat}(hl:ltH k ka (heap.take k)=true) :
  RelW E (G.cut k ka) (heap.take k) (arr.take ka) w0 w:=by
 refine⟨h.newF,fun g cs hg=>⟨(h.glob g cs hg).1,(h.glob g cs hg).2.pure (h.glob g cs hg).1 _ _ fun _ _ _ h=>h⟩,h.below,h.frz,h.one,?_,by simp[Gh.cut,h.lenφ],?_,?_,?_,by simp[Gh.cut,h.lenρ],?_,?_,?_,?_,h.ini,⟨fun id j gen e cs hid=>?_,fun id id' j g g' e e' cs cs' h1 h2=>h.vs.uni id id' j g g' e e' cs cs' (b1d h1).2 (b1d h2).2⟩⟩
 rotate_right 1
 ·have hlt:=d2a hl id _ hid;simp only[VObj.lt,h0k,h0l]at hlt;obtain⟨q1,q2,b,hi,q3,q4,q5⟩:=h.vs.at_ id j gen e cs (b1d hid).2;exact⟨(b1J hlt.1).trans q1,q2,b,hi,(b1J hlt.1).trans q3,q4,fun i x hi=>(q5 i x hi).imp fun v hv=>⟨hv.1,hv.2.1.cut (b5d hlt.2 i x hi),hv.2.2⟩⟩
 ·intro id ob hid;have hlt:=d2a hl id ob hid;obtain⟨h1,h2⟩:=b1d hid;obtain⟨b,hb,hr⟩:=h.obj id ob h2;exact⟨b,(b1J h1).trans hb,hr.cut hlt⟩
 ·intro i j b hi hj;exact h.nod i j b (b1d hi).2 (b1d hj).2
 ·intro id b o hb hd;exact h.sep id b o (b1d hb).2 (by rwa [b1J (b1d hb).1]at hd)
 ·intro id b hb;exact h.geφ id b (b1d hb).2
 ·intro j b lo hi hj hlt;obtain⟨r1,r2,r3,r4⟩:=h.reg j b lo hi (b1d hj).2 hlt;exact⟨r1,fun id hid ob hob=>r2 id (b1d hid).2 ob (b1d hob).2,r3,r4⟩
 ·intro i j b lo hi lo' hi' hij hi1 hj1 h1 h2;exact h.regd i j b lo hi lo' hi' hij (b1d hi1).2 (b1d hj1).2 h1 h2
 ·intro j b lo hi hj;exact h.fre j b lo hi (b1d hj).2
 ·intro id t s b hi hb;refine(h.bld id t s b (b1d hi).2 (b1d hb).2).keep rfl fun g hg ⟨s1,s2,s3⟩=>⟨rfl,s1,fun i hi'=>s2 i (b1d hi').2,fun j lo hi' hj=>s3 j lo hi' (b1d hj).2⟩
theorem b7h.cut{E:Env}{hb ab n:Nat}{tm:List (Nat×V)}{h:List VObj}{a:List Nat}{k ka:Nat}(hl:ltH k ka (h.take k)=true)(ht:ltT k ka tm=true)(h1:hb≤k)(h2:ab≤ka) :
  b7h E hb ab n ⟨tm,h,a⟩ ⟨tm,h.take k,a.take ka⟩:=by
 intro B G ac w q1 q2 q3 q4;refine⟨G.cut k ka,⟨q3.F,fun id b hb=>?_,fun j m hj=>?_⟩,q4.rw.cut hl,⟨fun i=>(q4.rt.tm i).cut (d4M ht i),q4.rt.sz⟩,q4.df⟩
 ·have:=(h0b.1 hb).1;exact(b1J (by omega)).trans (q3.φ id b hb)
 ·have:=(h0b.1 hj).1;obtain⟨n',g1,g2,g3⟩:=q3.ρ j m hj;exact⟨n',(b1J (by omega)).trans g1,g2,fun e=>(b1J (by omega)).trans (g3 e)⟩
def tell1(N:Nat):V→V→Prop
 | _,.junk=>True
 | .slice _ e es,.slice .shared e' es'=>es=es'∧(es=[]∨e=e')
 | .slice .nil _ es,.slice (.arr k) _ es'=>es=[]∧es'=[]∧k<N
 | x,y=>x=y
def b7v(N:Nat):List V→List V→Prop
 | [],[]=>True
 | x::r,y::q=>tell1 N x y∧b7v N r q
 | _,_=>False
def tell(N:Nat):V→V→Prop
 | .agg cs,.agg cs'=>b7v N cs cs'
 | x,y=>tell1 N x y
theorem RV.nil_is{P:Program}{G:Gh}{arr:List Nat}{e:TypeId}{es:List (List V)}{v:Value}(h:RV P G arr (.slice .nil e es) v):v = .slice none 0 0∧es=[]:=by
 cases h with
 | snil=>exact⟨rfl,rfl⟩
 | slice _ _ _ _ _ _ ho=>exact ho.elim
theorem RV.tell1{P:Program}{G:Gh}{arr:List Nat}{x y:V}{v:Value}(h:RV P G arr x v)(ht:tell1 arr.length x y):RV P G arr y v:=by
 unfold Vg.tell1 at ht;split at ht
 ·exact .junk _
 ·obtain⟨rfl,he⟩:=ht;rcases he with rfl | rfl
  ·exact h.anyElem
  ·cases h with
   | snil=>exact .snil _ _ trivial
   | sodd=>exact .sodd _ _ _
   | slice _ _ _ b off cap ho h1 h2 h3 h4 h5 h6=>exact .slice _ _ _ _ _ _ trivial h1 h2 h3 h4 h5 h6
 ·obtain⟨rfl,rfl,hk⟩:=ht;rw[h.nil_is.1];exact .snil _ _ ⟨_,h0f hk⟩
 ·exact ht ▸ h
theorem b9Q{N:Nat}:∀ {cs cs':List V},b7v N cs cs'→cs'.length=cs.length∧∀ (j:Nat) y,cs'[j]? = some y→∃ x,cs[j]? = some x∧Vg.tell1 N x y:=by
 intro cs;induction cs with
 | nil=>intro cs' h;cases cs' with
  | nil=>exact⟨rfl,by simp⟩
  | cons=>exact h.elim
 | cons x r ih =>
  intro cs' h;cases cs' with
  | nil=>exact h.elim
  | cons y q =>
   obtain⟨h1,h2⟩:=h;obtain⟨g1,g2⟩:=ih h2;refine⟨by simp[g1],fun j z hj=>?_⟩;cases j with
   | zero=>simp at hj;subst hj;exact⟨x,rfl,h1⟩
   | succ j=>simpa using g2 j z (by simpa using hj)
theorem RV.tell{P:Program}{G:Gh}{arr:List Nat}{x y:V}{v:Value}(h:RV P G arr x v)(ht:tell arr.length x y):RV P G arr y v:=by
 unfold Vg.tell at ht;split at ht
 ·rename_i cs cs';obtain⟨h1,h2⟩:=b9Q ht;cases h with
  | agg _ vs hl hr =>
   refine .agg _ _ (by omega) fun j c u hc hu=>?_
   obtain⟨x,hx,hxy⟩:=h2 j c hc;exact(hr j x u hx hu).tell1 hxy
 ·exact h.tell1 ht
def b6C(N:Nat):List (Nat×V)→List (Nat×V)→Prop
 | [],_=>True
 | (j,y)::r,tm=>tell N (b1Z tm j) y∧b6C N r tm
theorem c5M{N:Nat}:∀ {tm' tm:List (Nat×V)},b6C N tm' tm→∀ i,b1Z tm' i = .junk∨tell N (b1Z tm i) (b1Z tm' i):=by
 intro tm';induction tm' with
 | nil=>intro tm _ i;exact .inl rfl
 | cons p r ih =>
  obtain⟨j,y⟩:=p;intro tm h i;simp only[b1Z];split
  ·rename_i e;subst e;exact .inr h.1
  ·exact ih h.2 i
def b6M(N:Nat):VObj→VObj→Prop
 | .cells cs,.cells cs'=>b7v N cs cs'
 | .tcells t cs,.tcells t' cs'=>t=t'∧b7v N cs cs'
 | _,.dead=>True
 | x,y=>x=y
def b5w(N:Nat):List VObj→List VObj→Prop
 | _,[]=>True
 | x::r,y::q=>b6M N x y∧b5w N r q
 | [],_::_=>False
theorem c4A{N:Nat}:∀ {h h':List VObj},b5w N h h'→h'.length≤h.length∧∀ (j:Nat) y,h'[j]? = some y→∃ x,h[j]? = some x∧b6M N x y:=by
 intro h;induction h with
 | nil=>intro h' ht;cases h' with
  | nil=>exact⟨h0q _,by simp⟩
  | cons=>exact ht.elim
 | cons x r ih =>
  intro h' ht;cases h' with
  | nil=>exact⟨Nat.zero_le _,by simp⟩
  | cons y q =>
   obtain⟨h1,h2⟩:=ht;obtain⟨g1,g2⟩:=ih h2;refine⟨by simp;omega,fun j z hj=>?_⟩;cases j with
   | zero=>simp at hj;subst hj;exact⟨x,rfl,h1⟩
   | succ j=>simpa using g2 j z (by simpa using hj)
theorem c3s.tell{P:Program}{G:Gh}{arr:List Nat}{w:World}{b:Nat}{x y:VObj}(h:c3s P G arr w b x)(ht:b6M arr.length x y):c3s P G arr w b y:=by
 unfold b6M at ht;split at ht
 ·rename_i cs cs';obtain⟨c,e,h1,h2,h3⟩:=h;obtain⟨g1,g2⟩:=b9Q ht;refine⟨c,e,h1,by omega,fun j y hj=>?_⟩;obtain⟨x,hx,hxy⟩:=g2 j y hj;exact(h3 j x hx).imp fun v hv=>⟨hv.1,hv.2.tell1 hxy⟩
 ·rename_i t cs t' cs';obtain⟨rfl,ht⟩:=ht;obtain⟨c,h1,h2,h3⟩:=h;obtain⟨g1,g2⟩:=b9Q ht;refine⟨c,h1,by omega,fun j y hj=>?_⟩;obtain⟨x,hx,hxy⟩:=g2 j y hj;exact(h3 j x hx).imp fun v hv=>⟨hv.1,hv.2.tell1 hxy⟩
 ·trivial
 ·exact ht ▸ h
theorem b7h.tell{E:Env}{hb ab n:Nat}{tm tm':List (Nat×V)}{h h':List VObj}{a:List Nat}(ht:b6C a.length tm' tm)(hh:b5w a.length h h')(hl:h'.length=h.length) :
  b7h E hb ab n ⟨tm,h,a⟩ ⟨tm',h',a⟩:=by
 intro B G ac w q1 q2 q3 q4;obtain⟨g1,g2⟩:=c4A hh;have r:=q4.rw;have hbl:∀ (id:Nat) t s,h'[id]? = some (.builder t s)→h[id]? = some (.builder t s):=fun id t s hi=>by
  obtain⟨x,hx,hxy⟩:=g2 id _ hi;cases x
  case builder=>cases hxy;exact hx
  all_goals cases hxy
 have hvc:∀ (id k gen:Nat) e cs,h'[id]? = some (.vec k gen e cs)→h[id]? = some (.vec k gen e cs):=fun id k gen e cs hi=>by
  obtain⟨x,hx,hxy⟩:=g2 id _ hi;cases x
  case vec=>cases hxy;exact hx
  all_goals cases hxy
 have hlo:∀ (k id:Nat) ob,h'[id]? = some ob→(∀ x,h[id]? = some x→x.looseAt k=true)→ob.looseAt k=true:=fun k id ob hob hz=>by
  obtain⟨x,hx,hxy⟩:=g2 id ob hob;have:=hz x hx;cases x
  case dead=>cases ob <;> first | rfl | cases hxy
  case vec=>cases ob <;> first | rfl | (cases hxy;exact this) | cases hxy
  all_goals cases this
 refine⟨G,q3,⟨r.newF,r.glob,r.below,r.frz,r.one,fun id ob hid=>?_,by rw[r.lenφ];exact hl.symm,r.nod,fun id b o hb hd=>r.sep id b o hb fun hd'=>hd ?_,r.geφ,r.lenρ,fun k b lo hi hk hlt=>⟨(r.reg k b lo hi hk hlt).1,fun id hid ob hob=>hlo k id ob hob fun x hx=>(r.reg k b lo hi hk hlt).2.1 id hid x hx,(r.reg k b lo hi hk hlt).2.2⟩,r.regd,r.fre,fun id t s b hi hb=>?_,r.ini,
  r.vs.keep (Ext.refl _ _) hvc (fun _ _ _ _ h _ _=>h) fun _ _ _ _ _ _ _ _ _=>rfl⟩,⟨fun i=>?_,q4.rt.sz⟩,q4.df⟩
 ·obtain⟨x,hx,hxy⟩:=g2 id ob hid;exact(r.obj id x hx).imp fun b hb=>⟨hb.1,hb.2.tell hxy⟩
 ·have hlt:id<h'.length:=by rw[hl];exact(h0b.1 hd').1
  obtain⟨x,hx,hxy⟩:=g2 id _ (h0f hlt);rw[hd']at hx;cases hx
  rw[h0f hlt];generalize h'[id]=y at hxy;cases y <;> first | rfl | cases hxy
 ·exact(r.bld id t s b (hbl id t s hi) hb).keep rfl fun _ _ hs=>⟨rfl,hs⟩
 ·rcases c5M ht i with e | e
  ·show RV _ _ _ (b1Z tm' i) _;rw[e];exact .junk _
  ·exact(q4.rt.tm i).tell e
theorem b7h.slot{E:Env}{hb ab n:Nat}{tm:List (Nat×V)}{h:List VObj}{a:List Nat}(m:Nat):b7h E hb ab n ⟨tm,h,a⟩ ⟨tm,h,a++[m]⟩:=by
 intro B G ac w q1 q2 q3 q4;obtain⟨g1,g2⟩:=q4.rw.slot m;exact⟨_,q3.trans g1,g2,q4.rt.mono g1,q4.df⟩
def b8I:List Nat→List Nat→Prop
 | _,[]=>True
 | [],_::_=>True
 | x::r,y::q=>x=y∧b8I r q
theorem d1h:∀ {a a':List Nat},b8I a a'→∃ z,(a++z).take a'.length=a'∧(a.length≤a'.length→a++z=a')∧(a'.length<a.length→z=[]):=by
 intro a;induction a with
 | nil =>
  intro a' _;exact⟨a',by simp,fun _=>rfl,by simp⟩
 | cons x r ih =>
  intro a' h;cases a' with
  | nil=>exact⟨[],by simp,by simp,by simp⟩
  | cons y q =>
   obtain⟨rfl,h2⟩:=h;obtain⟨z,g1,g2,g3⟩:=ih h2;refine⟨z,by simp[g1],fun hl=>?_,fun hl=>?_⟩
   ·simp at hl;simp[g2 hl]
   ·simp at hl;exact g3 hl
theorem b7h.slots{E:Env}{hb ab n:Nat}{tm:List (Nat×V)}{h:List VObj}:∀ (z a:List Nat),b7h E hb ab n ⟨tm,h,a⟩ ⟨tm,h,a++z⟩:=by
 intro z;induction z with
 | nil=>intro a;rw[h0F];exact b7h.refl
 | cons m z ih =>
  intro a;have:=(b7h.slot (E:=E) (hb:=hb) (ab:=ab) (n:=n) (tm:=tm) (h:=h) (a:=a) m).trans (ih (a++[m]));simpa using this
theorem c8J{N:Nat}:∀ {h h':List VObj},b5w N h h'→b5w N h (h'++h.drop h'.length):=by
 intro h;have refl1:∀ x,Vg.tell1 N x x:=fun x=>by
  unfold Vg.tell1;split <;> simp_all
 have reflL:∀ cs,b7v N cs cs:=fun cs=>by
  induction cs with
  | nil=>trivial
  | cons x r ih=>exact⟨refl1 x,ih⟩
 have reflO:∀ o,b6M N o o:=fun o=>by
  cases o with
  | cells cs=>exact reflL cs
  | map es=>rfl
  | siter s pos=>rfl
  | dead=>trivial
  | tcells t cs=>exact⟨rfl,reflL cs⟩
  | builder t s=>rfl
  | vec _ _ _ _=>rfl
 have refl:∀ h,b5w N h h:=fun h=>by
  induction h with
  | nil=>trivial
  | cons x r ih=>exact⟨reflO x,ih⟩
 induction h with
 | nil=>intro h' ht;cases h' with
  | nil=>trivial
  | cons=>exact ht.elim
 | cons x r ih =>
  intro h' ht;cases h' with
  | nil=>exact refl _
  | cons y q=>exact⟨ht.1,ih ht.2⟩
def c5u(hb ab:Nat)(s t:St):Prop :=
 b6C t.arr.length t.tmps s.tmps∧b5w t.arr.length s.heap t.heap∧b8I s.arr t.arr∧hb≤t.heap.length∧ab≤t.arr.length ∧
 ((s.heap.length≤t.heap.length∧s.arr.length≤t.arr.length)∨(ltH t.heap.length t.arr.length t.heap=true∧ltT t.heap.length t.arr.length t.tmps=true))
theorem c5u.weak{E:Env}{hb ab n:Nat}{s t:St}(h:c5u hb ab s t):b7h E hb ab n s t:=by
 obtain⟨tm,hp,a⟩:=s;obtain⟨tm',hp',a'⟩:=t;obtain⟨h1,h2,h3,h4,h5,h6⟩:=h;simp only at h1 h2 h3 h4 h5 h6;obtain⟨z,z1,z2,z3⟩:=d1h h3;refine(b7h.slots z a).trans ?_;obtain⟨l1,_⟩:=c4A h2;rcases h6 with⟨g1,g2⟩ | ⟨g1,g2⟩
 ·rw[z2 g2];exact b7h.tell h1 h2 (by omega)
 ·have hlen:a'.length≤(a++z).length:=by
   have:=congrArg List.length z1;rw[List.length_take]at this;omega
  have mono1:∀ x y,Vg.tell1 a'.length x y→Vg.tell1 (a++z).length x y:=by
   intro x y hxy;unfold Vg.tell1 at hxy ⊢;split at hxy <;> try trivial
   exact⟨hxy.1,hxy.2.1,by omega⟩
  have monoL:∀ cs cs',b7v a'.length cs cs'→b7v (a++z).length cs cs':=by
   intro cs;induction cs with
   | nil=>intro cs' h;cases cs' <;> exact h
   | cons x r ih=>intro cs' h;cases cs' with
    | nil=>exact h
    | cons y q=>exact⟨mono1 _ _ h.1,ih _ h.2⟩
  have mono:∀ x y,Vg.tell a'.length x y→Vg.tell (a++z).length x y:=by
   intro x y hxy;unfold Vg.tell at hxy ⊢;split at hxy
   ·exact monoL _ _ hxy
   ·exact mono1 _ _ hxy
  have monoT:∀ t' t'',b6C a'.length t' t''→b6C (a++z).length t' t'':=by
   intro t';induction t' with
   | nil=>intro _ _;trivial
   | cons p r ih=>intro t'' h;exact⟨mono _ _ h.1,ih _ h.2⟩
  have monoO:∀ x y,b6M a'.length x y→b6M (a++z).length x y:=by
   intro x y hxy;unfold b6M at hxy ⊢;split at hxy
   ·exact monoL _ _ hxy
   ·exact⟨hxy.1,monoL _ _ hxy.2⟩
   ·trivial
   ·exact hxy
  have monoH:∀ x y,b5w a'.length x y→b5w (a++z).length x y:=by
   intro x;induction x with
   | nil=>intro y h;cases y <;> exact h
   | cons o r ih=>intro y h;cases y with
    | nil=>trivial
    | cons p q=>exact⟨monoO _ _ h.1,ih _ h.2⟩
  refine(b7h.tell (h':=hp'++hp.drop hp'.length) (monoT _ _ h1) (c8J (monoH _ _ h2)) (by simp;omega)).trans ?_;have:=b7h.cut (E:=E) (hb:=hb) (ab:=ab) (n:=n) (tm:=tm') (h:=hp'++hp.drop hp'.length) (a:=a++z) (k:=hp'.length) (ka:=a'.length) (by simpa using g1) g2 h4 h5
  rwa [z1,List.take_left']at this
  rfl
def d5v{α:Type}(hb ab:Nat)(S:α→St)(I:α→Prop)(μ:α→Nat)(m:Nat)(Q:VEx→St→Prop):VEx→St→Prop:=c4U (fun s=>∃ a,μ a<m∧I a∧c5u hb ab s (S a)) Q
section
variable {α : Type} {hb ab m i : Nat} {S : α → St} {I : α → Prop} {μ : α → Nat} {Q : VEx → St → Prop} {s : St}
@[go_sem] theorem d7E:d5v hb ab S I μ m Q .normal s=∃ a,μ a<m∧I a∧c5u hb ab s (S a):=rfl
@[go_sem] theorem f2C:d5v hb ab S I μ m Q (.exit i) s=Q (.exit i) s:=rfl
@[go_sem] theorem f6q:d5v hb ab S I μ m Q .ret s=Q .ret s:=rfl
end
theorem b1u{E:Env}{hb ab n:Nat}{x:Code}{s:St}{Q:VEx→St→Prop}{α:Type}(S:α→St)(I:α→Prop)(μ:α→Nat)(a0:α)(h0:c5u hb ab s (S a0))(hI:I a0)
  (round:∀ a,I a→vc E hb ab n x (S a) (d5v hb ab S I μ (μ a) Q)):Snd E hb ab n (.loop x) s Q :=
 c3m (fun m t=>∃ a,t=S a∧I a∧μ a=m) ⟨_,_,h0.weak,a0,rfl,hI,rfl⟩ fun m t ⟨a,ht,hi,hm⟩=>by
  subst ht hm;refine(b5p _ _ _ (round a hi)).mono fun e s hq=>?_
  cases e with
  | normal =>
   obtain⟨a',h1,h2,h3⟩:=hq;exact⟨μ a',S a',h1,h3.weak,a',rfl,h2,rfl⟩
  | exit id=>exact hq
  | ret=>exact hq
def d1P{α β:Type}(hb ab:Nat)(S:List α→β→St)(I:List α→List α→β→Prop)(pre:List α)(x:α)(post:List α)(Q:VEx→St→Prop):VEx→St→Prop :=
 c4U (fun s=>∃ b,I (pre++[x]) post b∧c5u hb ab s (S (pre++[x]) b)) Q
section
variable {α β : Type} {hb ab i : Nat} {S : List α → β → St} {I : List α → List α → β → Prop} {pre post : List α} {x : α} {Q : VEx → St → Prop} {s : St}
@[go_sem] theorem d8a:d1P hb ab S I pre x post Q .normal s=∃ b,I (pre++[x]) post b∧c5u hb ab s (S (pre++[x]) b):=rfl
@[go_sem] theorem f2m:d1P hb ab S I pre x post Q (.exit i) s=Q (.exit i) s:=rfl
@[go_sem] theorem f5L:d1P hb ab S I pre x post Q .ret s=Q .ret s:=rfl
end
def f1z(Q:VEx→St→Prop):VEx→St→Prop:=c4U (fun _=>False) Q
section
variable {i : Nat} {Q : VEx → St → Prop} {s : St}
@[go_sem] theorem f2Q:f1z Q (.exit i) s=Q (.exit i) s:=rfl
end
theorem b0l{E:Env}{hb ab n:Nat}{c:Code}{s:St}{Q:VEx→St→Prop}{α β:Type}(xs:List α)(S:List α→β→St)(I:List α→List α→β→Prop)(b0:β)(h0:c5u hb ab s (S [] b0))(hI:I [] xs b0)
  (stop:∀ b,I xs [] b→vc E hb ab n c (S xs b) (f1z Q))
  (step:∀ pre x post b,xs=pre++x::post→I pre (x::post) b→vc E hb ab n c (S pre b) (d1P hb ab S I pre x post Q)):Snd E hb ab n (.loop c) s Q:=by
 refine c3m (fun m t=>∃ pre post b,t=S pre b∧xs=pre++post∧I pre post b∧post.length=m) ⟨_,_,h0.weak,[],xs,b0,rfl,rfl,hI,rfl⟩ fun m t ⟨pre,post,b,ht,hx,hi,hm⟩=>?_
 subst ht;cases post with
 | nil =>
  have:xs=pre:=by simpa using hx
  subst this;refine(b5p _ _ _ (stop b hi)).mono fun e s hq=>?_
  cases e with
  | normal=>exact hq.elim
  | exit id=>exact hq
  | ret=>exact hq
 | cons x post =>
  refine(b5p _ _ _ (step pre x post b hx hi)).mono fun e s hq=>?_
  cases e with
  | normal =>
   obtain⟨b',h1,h2⟩:=hq;refine⟨post.length,S (pre++[x]) b',by simp at hm;omega,h2.weak,pre++[x],post,b',rfl,by simp[hx],h1,rfl⟩
  | exit id=>exact hq
  | ret=>exact hq
section
variable {N k k' ka : Nat} {x y : V} {kd : IntKind} {a b : Int} {p q : Bool} {s s' : ByteArray} {o : Own} {e e' i j c l : Nat} {es es' : List (List V)} {cs cs' : List V} {tm r : List (Nat × V)} {h h' : List VObj} {g9X bs : List Nat}
@[go_sem] theorem g2L{hb ab:Nat}:c5u hb ab ⟨tm,h,g9X⟩ ⟨r,h',bs⟩=(b6C bs.length r tm∧b5w bs.length h h'∧b8I g9X bs∧hb≤h'.length∧ab≤bs.length ∧
 ((h.length≤h'.length∧g9X.length≤bs.length)∨(ltH h'.length bs.length h'=true∧ltT h'.length bs.length r=true))):=rfl
@[go_sem] theorem f2V:b6C N [] tm=True:=rfl
@[go_sem] theorem f0p:b6C N ((j,y)::r) tm=(tell N (b1Z tm j) y∧b6C N r tm):=rfl
@[go_sem] theorem f4I:b5w N h []=True:=by cases h <;> rfl
@[go_sem] theorem f2D{u v:VObj}:b5w N (u::h) (v::h')=(b6M N u v∧b5w N h h'):=rfl
@[go_sem] theorem d9f:b6M N (.cells cs) (.cells cs')=b7v N cs cs':=rfl
@[go_sem] theorem f4c{ms ms':List (V×V)}:b6M N (.map ms) (.map ms')=(ms=ms'):=by simp[b6M]
@[go_sem] theorem f5D:b8I [] (j::bs)=True:=rfl
@[go_sem] theorem f3u:b8I (i::g9X) (j::bs)=(i=j∧b8I g9X bs):=rfl
@[go_sem] theorem c8D{u v:List V}:b7v N (x::u) (y::v)=(tell1 N x y∧b7v N u v):=rfl
@[go_sem] theorem f7g:tell N (.int kd a) (.int kd b)=(a=b):=by simp[tell,tell1]
@[go_sem] theorem f5u:tell N (.bool p) (.bool q)=(p=q):=by simp[tell,tell1]
@[go_sem] theorem f9e:tell N (.str s) (.str s')=(s=s'):=by simp[tell,tell1]
@[go_sem] theorem d9R:tell N (.slice o e es) (.slice .shared e' es')=(es=es'∧(es=[]∨e=e')):=by
 cases o <;> simp[tell,tell1]
theorem c2J:tell1 N (.slice o e es) (sl e' es')=(es=es'∧(es=[]∨e=e')):=by
 have:tell1 N (.slice o e es) (sl e' es')=(es=es'∧(es=[]∨e=if es'.isEmpty then 0 else e')):=by
  unfold sl;cases o <;> simp[tell1]
 rw[this];refine propext ⟨fun⟨h1,h2⟩=>⟨h1,?_⟩,fun⟨h1,h2⟩=>⟨h1,?_⟩⟩ <;> subst h1 <;> cases es <;> simp_all
attribute [go_sem] c2J
@[go_sem] theorem g4J:tell N (.slice o e es) (sl e' es')=(es=es'∧(es=[]∨e=e')):=c2J (N:=N) (o:=o)
@[go_sem] theorem d3d:tell1 N (sl e es) (sl e' es')=(es=es'∧(es=[]∨e=e')):=by
 have:tell1 N (sl e es) (sl e' es')=(es=es'∧(es=[]∨(if es.isEmpty then 0 else e)=e')):=c2J (N:=N) (o := .shared);rw[this];cases es <;> simp
@[go_sem] theorem f8j:tell N (sl e es) (sl e' es')=(es=es'∧(es=[]∨e=e')):=d3d (N:=N)
@[go_sem] theorem f9c:tell N (.slice (.arr k) e es) (.slice (.arr k') e' es')=(k=k'∧e=e'∧es=es'):=by simp[tell,tell1]
@[go_sem] theorem f5z:tell N (.slice .full e es) (.slice .full e' es')=(e=e'∧es=es'):=by simp[tell,tell1]
@[go_sem] theorem f8W:tell N (.slice .nil e es) (.slice (.arr k) e' es')=(es=[]∧es'=[]∧k<N):=by simp[tell,tell1]
@[go_sem] theorem f6k:tell1 N (.int kd a) (.int kd b)=(a=b):=by simp[tell1]
@[go_sem] theorem f6J:tell1 N (.slice (.arr k) e es) (.slice (.arr k') e' es')=(k=k'∧e=e'∧es=es'):=by simp[tell1]
@[go_sem] theorem f6O:tell1 N (.slice .nil e es) (.slice (.arr k) e' es')=(es=[]∧es'=[]∧k<N):=by simp[tell1]
@[go_sem] theorem c1h:tell1 N x x=True:=by
 unfold tell1;split <;> simp_all
@[go_sem] theorem b4C:∀ {cs:List V},b7v N cs cs=True
 | []=>rfl
 | x::r=>by rw[c8D,c1h,b4C,true_and]
@[go_sem] theorem b7s:tell N x x=True:=by
 unfold tell;split
 ·exact b4C
 ·exact c1h
@[go_sem] theorem f2v{u:VObj}:b6M N u .dead=True:=by cases u <;> rfl
@[go_sem] theorem b6i{u:VObj}:b6M N u u=True:=by
 cases u with
 | cells cs=>exact b4C
 | map es=>exact eq_true rfl
 | siter s pos=>exact eq_true rfl
 | dead=>rfl
 | tcells t cs=>show(t=t∧b7v N cs cs)=True;rw[b4C];simp
 | builder t s=>exact eq_true rfl
 | vec _ _ _ _=>exact eq_true rfl
@[go_sem] theorem f3p:tell1 N x .junk=True:=by cases x <;> rfl
@[go_sem] theorem g0o:ltH k ka []=true:=rfl
@[go_sem] theorem f8H{u:VObj}:ltH k ka (u::h)=(u.lt k ka && ltH k ka h):=rfl
@[go_sem] theorem f4Y:(VObj.cells cs).lt k ka=ltL k ka cs:=rfl
@[go_sem] theorem g3D{ms:List (V×V)}:(VObj.map ms).lt k ka=ltP k ka ms:=rfl
@[go_sem] theorem f8e:VObj.dead.lt k ka=true:=rfl
@[go_sem] theorem g2z:ltT k ka []=true:=rfl
@[go_sem] theorem f7t:ltT k ka ((j,x)::r)=(x.lt k ka && ltT k ka r):=rfl
@[go_sem] theorem f7y{u:List V}:ltL k ka (x::u)=(x.lt k ka && ltL k ka u):=rfl
@[go_sem] theorem g4b:V.junk.lt k ka=true:=rfl
@[go_sem] theorem g7m:(V.int kd a).lt k ka=true:=rfl
@[go_sem] theorem g1q:(V.bool p).lt k ka=true:=rfl
@[go_sem] theorem g7o:(V.str s).lt k ka=true:=rfl
@[go_sem] theorem g0q:V.nilp.lt k ka=true:=rfl
@[go_sem] theorem g2Q:V.nilmap.lt k ka=true:=rfl
@[go_sem] theorem g6C:(V.ptr i j).lt k ka=decide (i<k):=rfl
@[go_sem] theorem g9K:(V.mslice i j l c e).lt k ka=decide (i<k):=rfl
@[go_sem] theorem g6P:(V.map i).lt k ka=decide (i<k):=rfl
@[go_sem] theorem g2R:(V.fptr cs).lt k ka=ltL k ka cs:=rfl
@[go_sem] theorem g5O:(V.agg cs).lt k ka=ltL k ka cs:=rfl
@[go_sem] theorem g3R:(V.func i cs).lt k ka=ltL k ka cs:=rfl
@[go_sem] theorem f5e:(V.slice .shared e es).lt k ka=b6K k ka es:=by simp[V.lt,Own.lt]
@[go_sem] theorem g9k:(sl e es).lt k ka=b6K k ka es:=by simp[sl,V.lt,Own.lt]
@[go_sem] theorem g9Q:(sl e es).pure=b0P es:=by simp[sl,V.pure,Own.plain]
@[go_sem] theorem g2r:(V.slice .full e es).lt k ka=b6K k ka es:=by simp[V.lt,Own.lt]
@[go_sem] theorem g8m:(V.slice .nil e es).lt k ka=b6K k ka es:=by simp[V.lt,Own.lt]
@[go_sem] theorem g5o:(V.slice (.arr i) e es).lt k ka=(decide (i<ka) && b6K k ka es):=rfl
@[go_sem] theorem f5U{u:List (List V)}:b6K k ka (cs::u)=(ltL k ka cs && b6K k ka u):=rfl
@[go_sem] theorem g7k(h:b0P es=true):b6K k ka es=true:=b0m _ _ _ h
@[go_sem] theorem g8T(h:b0Y cs=true):ltL k ka cs=true:=b4k _ _ _ h
@[go_sem] theorem g8X:b0Y []=true:=rfl
@[go_sem] theorem g8w{u:List V}:b0Y (x::u)=(x.pure && b0Y u):=rfl
@[go_sem] theorem g8z:b0P []=true:=rfl
@[go_sem] theorem g0r{u:List (List V)}:b0P (cs::u)=(b0Y cs && b0P u):=rfl
@[go_sem] theorem g8W:(V.int kd a).pure=true:=rfl
@[go_sem] theorem g8j:(V.bool p).pure=true:=rfl
@[go_sem] theorem g9w:(V.str s).pure=true:=rfl
@[go_sem] theorem g7s:(V.fptr cs).pure=b0Y cs:=rfl
@[go_sem] theorem g9t:(V.agg cs).pure=b0Y cs:=rfl
@[go_sem] theorem g1L:(V.tuple cs).pure=b0Y cs:=rfl
@[go_sem] theorem f8P:(V.slice .shared e es).pure=b0P es:=by simp[V.pure,Own.plain]
end
section
variable {α β : Type} {pre post : List α} {x : α}
@[go_sem] theorem f8J{f:α→β}{d:β}:((pre++x::post).map f).getD (Int.toNat (pre.length:Int)) d=f x:=by simp
@[go_sem] theorem d8b:((pre.length:Int)<((pre++x::post).length:Int))=True:=by simp;omega
@[go_sem] theorem g3B{i:Int}:(i<i)=False:=by simp
@[go_sem] theorem g7K{n:Nat}:((0:Int)≤(n:Int))=True:=by simp
theorem wrap_small{x:Int}(h : -9223372036854775808≤x)(h':x≤9223372036854775807):IntKind.i64.wrap x=x:=by
 simp only[IntKind.wrap,IntKind.signed,IntKind.bits];simp;omega
@[go_sem] theorem b0g{n:Nat}(h:n≤1152921504606846976):IntKind.i64.wrap ((n:Int)+1)=((n+1:Nat):Int):=by
 rw[Vg.wrap_small (by omega) (by omega)];simp
theorem c2w{C:Nat}(h:(pre++x::post).length≤C)(hC:C≤1152921504606846976):pre.length≤1152921504606846976:=by simp at h;omega
theorem b2t{C:Nat}(h:(pre++x::post).length≤C):pre.length≤C:=by simp at h;omega
end
theorem d4v{α β:Type}{pre:List α}{x:α}{f:α→β}:(pre++[x]).map f=pre.map f++[f x]:=by simp
theorem d5m{α:Type}{pre:List α}{x:α}:(pre++[x]).length=pre.length+1:=by simp
attribute [go_sem] d5m d4v h0F h0q Nat.zero_le true_or or_true ne_eq not_true_eq_false not_false_eq_true decide_true decide_false true_implies false_implies implies_true h0v false_and and_false
end Go.Vg
