import Derived.Test.YtighfcpaplmaiaaGreatDoorVgL
import Derived.Orders
import Derived.Below
import Derived.Test.YtighfcpaplmaiaaGreatDoorVgT
import Derived.KernelRfl
import Derived.Lib.LaidTab
import Derived.Lib.ItoaNum
set_option linter.unusedVariables false
set_option linter.unusedSimpArgs false
namespace Go.Vg
open Go.RowKit
def jk1:V→V
 | .ptr .. | .mslice .. | .map _ | .vec .. | .vptr .. => .junk
 | x=>share1 x
def jkA:V→V
 | .fptr cs => .fptr (cs.map jk1)
 | x=>x
theorem RV.jk1{P:Program}{G:Gh}{arr:List Nat}{x:V}{v:Value}(h:RV P G arr x v):RV P G arr (jk1 x) v:=by
 cases x <;> first | exact .junk _ | exact h.share1
theorem RV.jkA{P:Program}{G:Gh}{arr:List Nat}{x:V}{v:Value}(h:RV P G arr x v):RV P G arr (jkA x) v:=by
 cases x
 case fptr cs =>
  cases h with
  | fptr _ b o hd hr =>
   refine .fptr _ b o (fun j hj=>hd j (by simpa using hj)) fun j c v hc hv=>?_
   rw[h0u]at hc;obtain⟨c',hc',rfl⟩:=h0p.1 hc;exact(hr j c' v hc' hv).jk1
 all_goals exact h
def b0B(E:Env)(f:FuncId)(args:List V)(r:V):Prop:=∃ cargs,(args=cargs∨args.map jkA=cargs)∧b0s E f cargs r
theorem b8a.jkA{P:Program}{G:Gh}{arr:List Nat}{args:List V}{vals:Array Value}(h:b8a P G arr args vals):b8a P G arr (args.map jkA) vals:=by
 refine⟨by rw[h0v];exact h.1,fun j x v hx hv=>?_⟩;rw[h0u]at hx;obtain⟨x',hx',rfl⟩:=h0p.1 hx;exact(h.2 j x' v hx' hv).jkA
theorem b0s.callsR{E:Env}{f:FuncId}{args cargs:List V}{heap:List VObj}{arr:List Nat}{r:V}{K:b1y}(h:b0s E f cargs r)(ha:∀ G arr vals,b8a E.P G arr args vals→b8a E.P G arr cargs vals)(hk:K r heap arr) :
  b0q E f args heap arr K:=by
 obtain⟨h1,h2,h3⟩:=h;intro G w0 w vals hr hargs;have hargs':b8a E.P ⟨G.F,[],[]⟩ [] cargs vals:=by
  have:=ha _ _ _ hargs;exact⟨this.1,fun j x v hx hv=>(this.2 j x v hx hv).pure (b2Y h1 j x hx) _ _ fun _ _ _ h=>h⟩
 refine(h3 _ _ w vals hr.al.hide hargs').mono fun e w' hg=>?_
 obtain⟨val,he,v,heap',arr',G',hv,hx,hr',hrv⟩:=hg.alive;refine .inl ⟨val,he,r,heap,arr,{ G with F:=G'.F },hk,?_⟩;subst hv
 replace hr':=hr'.unal
 obtain⟨g1,g2⟩:=hr.back (F':=G'.F) hx.F hr'.newF hr'.frz hr'.one hr'.below;exact⟨g2,g1,hrv.pure h2 _ _ fun _ _ _ h=>h⟩
theorem b0s.callsJ{E:Env}{f:FuncId}{args cargs:List V}{heap:List VObj}{arr:List Nat}{r:V}{K:b1y}(h:b0s E f cargs r)(ha:(args.map share).map Vg.jkA=cargs)(hk:K r heap arr) :
  b0q E f args heap arr K:=h.callsR (fun _ _ _ hh=>ha ▸ hh.share.jkA) hk
theorem b0B.calls{E:Env}{f:FuncId}{args:List V}{heap:List VObj}{arr:List Nat}{r:V}{K:b1y}(h:b0B E f (args.map share) r)(hk:K r heap arr):b0q E f args heap arr K:=by
 obtain⟨cargs,hc | hc,hp⟩:=h
 ·exact hp.calls hc hk
 ·exact hp.callsJ hc hk
def vPC(E:Env)(f:FuncId)(args:List V)(h:List VObj)(a:List Nat)(K:b1y):Prop:=∃ r,b0B E f (args.map share) r∧K r h a
def vLenC(E:Env)(t:TypeId)(x:V)(K:V→Prop):Prop :=
 match E.P.underlying t,x with
 | some .string,.str s=>K (.int .i64 s.size)
 | some (.slice _),.slice _ _ es=>K (.int .i64 es.length)
 | some (.slice _),.mslice _ _ len _ _=>K (.int .i64 len)
 | some (.slice _),.vec _ _ _ len _=>K (.int .i64 len)
 | _,_=>False
theorem c9t{E:Env}{t:TypeId}{x:V}{K:V→Prop}(h:vLenC E t x K):d4e E t x K:=by
 unfold vLenC at h;unfold d4e;cases hd:E.P.underlying t with
 | none=>rw[hd]at h;exact h.elim
 | some d =>
  rw[hd]at h;cases d <;> cases x <;> first
   | exact h.elim
   | exact fun _=>h
   | exact fun _ _=>h
def b1m(E:Env)(c:Bool)(s:St)(op:Op)(K:b1y):Prop :=
 match op with
 | .call cl=>match cl.callee with
  | .value f=>match ev E s.tmps f with
   | .func fid caps=>b0t E.P fid=true∧if c=true then b0q E fid (cl.args.toList.map (ev E s.tmps)++caps) s.heap s.arr K else vPC E fid (cl.args.toList.map (ev E s.tmps)++caps) s.heap s.arr K
   | .meth fid xs=>b0t E.P fid=true∧if c=true then b0q E fid (xs++cl.args.toList.map (ev E s.tmps)) s.heap s.arr K else vPC E fid (xs++cl.args.toList.map (ev E s.tmps)) s.heap s.arr K
   | _=>False
  | .builtin .len=>match cl.argTypes[0]?,cl.args.toList with
   | some t,[x]=>vLenC E t (ev E s.tmps x) fun r=>K r s.heap s.arr
   | _,_=>False
  | _=>c2K E s cl K
 | .panic _=>False
 | .slice t x lo hi mx=>(E.vecT t && b6J (ev E s.tmps x) (lo.map (ev E s.tmps)) (hi.map (ev E s.tmps)) (mx.map (ev E s.tmps)))=false∧vSlice E t (ev E s.tmps x) (lo.map (ev E s.tmps)) (hi.map (ev E s.tmps)) (mx.map (ev E s.tmps)) fun r=>K r s.heap s.arr
 | op=>vop E s op K
theorem c5s{E:Env}{h:List VObj}{t:TypeId}{x:V}{K:V→Prop}(hv:vLenC E t x K):b9V E h t x K:=by
 cases x <;> try exact c9t hv
 unfold vLenC at hv;split at hv <;> first | exact hv.elim | (rename_i hx;cases hx)
theorem d4Y{E:Env}{c:Bool}{s:St}{op:Op}{K:b1y}(h:b1m E c s op K):vop E s op K:=by
 cases op <;> try exact h
 case panic=>exact h.elim
 case slice t x lo hi mx =>
  simp only[b1m]at h;simp only[vop];rw[h.1];exact h.2
 rename_i cl;simp only[b1m]at h;simp only[vop,c2K];split at h
 ·rename_i f hc;rw[hc];simp only;split at h
  ·rename_i fid caps hf;rw[hf];refine⟨h.1,?_⟩;have h2:=h.2;split at h2
   ·exact h2
   ·obtain⟨r,h3,h4⟩:=h2;exact h3.calls h4
  ·rename_i fid xs hf;rw[hf];refine⟨h.1,?_⟩;have h2:=h.2;split at h2
   ·exact h2
   ·obtain⟨r,h3,h4⟩:=h2;exact h3.calls h4
  ·exact h.elim
 ·rename_i hc;rw[hc];simp only;split at h
  ·rename_i t x h1 h2;rw[h1,h2];exact c5s h
  ·exact h.elim
 ·exact h
inductive Cls where
 | still | read | deff | ceff
 deriving DecidableEq
def cls(c:Bool):Op→Cls
 | .move _ | .assign _ | .pick _ _ _ | .build _ _ | .buildSlice _ _ _ | .nilCheck _ | .binOp _ _ _ _ _ | .unOp _ _ _ | .convert _ _ _ | .makeFunc _ _ _ | .slice _ _ _ _ _ | .fieldAddr _ _ _ | .field _ _ _
 | .indexAddr _ _ _ | .index _ _ _ | .extract _ _ | .makeInterface _ _ => .still
 | .load _ _ | .lookup _ _ _ _ => .read
 | .call cl=>match cl.callee with
  | .value _=>if c=true then .ceff else .still
  | .builtin .len | .builtin .min | .builtin .max => .still
  | _ => .deff
 | _ => .deff
def Det(f:(V→Prop)→Prop):Prop:=∀ K,f K→∃ v,K v∧∀ K',K' v→f K'
theorem Det.vHead{cs:List V}:Det (vHead cs):=by
 intro K h;cases cs with
 | nil=>exact h.elim
 | cons c r=>exact⟨c,h,fun _ h'=>h'⟩
theorem Det.vIntOp{op:BinOp}{k:IntKind}{a b:Int}:Det (vIntOp op k a b):=by
 intro K h;unfold Vg.vIntOp at h ⊢;cases op <;> simp only at h ⊢ <;> first
  | exact h.elim
  | exact⟨_,h,fun _ h'=>h'⟩
  | exact⟨_,h.2,fun _ h'=>⟨h.1,h'⟩⟩
theorem Det.vStrOp{op:BinOp}{a b:ByteArray}:Det (vStrOp op a b):=by
 intro K h;unfold Vg.vStrOp at h ⊢;cases op <;> simp only at h ⊢ <;> first
  | exact h.elim
  | exact⟨_,h,fun _ h'=>h'⟩
  | exact⟨_,h.2,fun _ h'=>⟨h.1,h'⟩⟩
theorem Det.vBin{E:Env}{op:BinOp}{t:TypeId}{x y:V}:Det (vBin E op t x y):=by
 intro K h;unfold Vg.vBin at h ⊢;split at h
 ·obtain⟨v,h1,h2⟩:=Det.vIntOp K h.2;exact⟨v,h1,fun K' h'=>⟨h.1,h2 K' h'⟩⟩
 ·exact Det.vStrOp K h
 ·obtain⟨h1,h2⟩:=h;cases op <;> simp only at h2 ⊢ <;> first
   | exact h2.elim
   | exact⟨_,h2,fun _ h'=>⟨h1,h'⟩⟩
 ·obtain⟨h1,h2⟩:=h;unfold f2I at h2 ⊢;split at h2
  ·exact⟨_,h2,fun _ h'=>⟨h1,h'⟩⟩
  ·exact⟨_,h2,fun _ h'=>⟨h1,h'⟩⟩
  ·exact h2.elim
 ·exact h.elim
theorem Det.vNilI{E:Env}{op:BinOp}{t:TypeId}{x:V}:Det (vNilI E op t x):=by
 intro K h;unfold Vg.vNilI at h ⊢;split at h <;> first | exact⟨_,h,fun _ h'=>h'⟩ | exact h.elim
theorem Det.vBinC{E:Env}{op:BinOp}{t:TypeId}{c:Bool}{x y:V}:Det (vBinC E op t c x y):=by
 cases c
 ·exact Det.vBin
 ·exact Det.vNilI
theorem Det.vMkIface{E:Env}{t:TypeId}{x:V}:Det (vMkIface E t x):=by
 intro K h;unfold Vg.vMkIface at h ⊢;split at h <;> first | exact⟨_,h,fun _ h'=>h'⟩ | exact h.elim
theorem Det.vUn{op:UnOp}{x:V}:Det (vUn op x):=by
 intro K h;unfold Vg.vUn at h ⊢;split at h
 ·exact⟨_,h,fun _ h'=>h'⟩
 ·exact⟨_,h,fun _ h'=>h'⟩
 ·exact h.elim
theorem Det.vPart{E:Env}{t:TypeId}{cs:List V}{off:Nat}:Det (vPart E t cs off):=by
 intro K h;unfold Vg.vPart at h ⊢;split at h
 ·exact⟨_,h.2,fun _ h'=>⟨h.1,h'⟩⟩
 ·exact⟨_,h.2,fun _ h'=>⟨h.1,h'⟩⟩
 ·obtain⟨v,h1,h2⟩:=Det.vHead K h;refine⟨v,h1,fun K' h'=>?_⟩;exact h2 K' h'
 ·exact h.elim
theorem Det.vLoadL{E:Env}{t:TypeId}{cs:List V}:Det (vLoadL E t cs):=by
 intro K h;unfold Vg.vLoadL at h ⊢;split at h
 ·exact⟨_,h.2,fun _ h'=>⟨h.1,h'⟩⟩
 ·exact⟨_,h.2,fun _ h'=>⟨h.1,h'⟩⟩
 ·obtain⟨v,h1,h2⟩:=Det.vHead K h;refine⟨v,h1,fun K' h'=>?_⟩;exact h2 K' h'
 ·exact h.elim
theorem Det.vFieldAddr{E:Env}{t:TypeId}{a:V}{f:Nat}:Det (vFieldAddr E t a f):=by
 intro K h;unfold Vg.vFieldAddr at h ⊢;split at h
 ·split at h
  ·obtain⟨h0,h⟩:=h;split at h
   ·exact⟨_,h,fun _ h'=>⟨h0,h'⟩⟩
   ·exact⟨_,h,fun _ h'=>⟨h0,h'⟩⟩
   ·exact⟨_,h,fun _ h'=>⟨h0,h'⟩⟩
   ·exact h.elim
  ·exact h.elim
 ·exact h.elim
theorem Det.vIndexAddr{E:Env}{t:TypeId}{x i:V}:Det (vIndexAddr E t x i):=by
 intro K h;unfold Vg.vIndexAddr at h ⊢;split at h <;> first
  | exact⟨_,h.2,fun _ h'=>⟨h.1,h'⟩⟩
  | exact h.elim
theorem Det.vIndex{E:Env}{t:TypeId}{x i:V}:Det (vIndex E t x i):=by
 intro K h;unfold Vg.vIndex at h ⊢;split at h
 ·exact⟨_,h.2,fun _ h'=>⟨h.1,h'⟩⟩
 ·obtain⟨v,h1,h2⟩:=Det.vPart K h.2;exact⟨v,h1,fun K' h'=>⟨h.1,h2 K' h'⟩⟩
 ·exact h.elim
theorem Det.vLenC{E:Env}{t:TypeId}{x:V}:Det (vLenC E t x):=by
 intro K h;unfold Vg.vLenC at h ⊢;split at h <;> first
  | exact⟨_,h,fun _ h'=>h'⟩
  | exact h.elim
theorem Det.vLook{E:Env}{h:List VObj}{t:TypeId}{m k:V}{ok:Bool}:Det (vLook E h t m k ok):=by
 intro K hh;unfold Vg.vLook at hh ⊢;split at hh
 ·split at hh
  ·obtain⟨h0,hh⟩:=hh;split at hh
   ·exact⟨_,hh,fun _ h'=>⟨h0,h'⟩⟩
   ·exact⟨_,hh.2,fun _ h'=>⟨h0,hh.1,h'⟩⟩
   ·exact hh.elim
  ·exact hh.elim
 ·exact hh.elim
theorem Det.vLookK{E:Env}{h:List VObj}{t:TypeId}{m k:V}{ok:Bool}:Det (vLookK E h t m k ok):=by
 intro K hh;unfold Vg.vLookK at hh ⊢;split at hh
 ·unfold Vg.vLookA at hh ⊢;split at hh
  ·split at hh
   ·obtain⟨h0,hh⟩:=hh;split at hh
    ·exact⟨_,hh,fun _ h'=>⟨h0,h'⟩⟩
    ·exact⟨_,hh.2,fun _ h'=>⟨h0,hh.1,h'⟩⟩
    ·exact hh.elim
   ·exact hh.elim
  ·exact hh.elim
 ·exact Det.vLook _ hh
theorem Det.vMapSetK{E:Env}{h:List VObj}{t:TypeId}{m k v:V}{L:List VObj→Prop}(hv:vMapSetK E h t m k v L):∃ h',L h'∧∀ L':List VObj→Prop,L' h'→vMapSetK E h t m k v L':=by
 unfold Vg.vMapSetK at hv ⊢;split at hv
 ·unfold Vg.vMapSetA at hv ⊢;split at hv
  ·split at hv
   ·obtain⟨h0,hv⟩:=hv;split at hv
    ·exact⟨_,hv,fun _ h'=>⟨h0,h'⟩⟩
    ·exact⟨_,hv,fun _ h'=>⟨h0,h'⟩⟩
    ·exact hv.elim
   ·exact hv.elim
  ·exact hv.elim
 ·unfold Vg.vMapSet at hv ⊢;split at hv
  ·split at hv
   ·obtain⟨h0,hv⟩:=hv;split at hv
    ·exact⟨_,hv,fun _ h'=>⟨h0,h'⟩⟩
    ·exact⟨_,hv,fun _ h'=>⟨h0,h'⟩⟩
    ·exact hv.elim
   ·exact hv.elim
  ·exact hv.elim
theorem Det.vMin{x y:V}:Det (vMin x y):=by
 intro K hh;unfold Vg.vMin at hh ⊢;split at hh <;> first | exact⟨_,hh,fun _ h'=>h'⟩ | exact hh.elim
theorem Det.vMax3{x y z:V}:Det (vMax3 x y z):=by
 intro K hh;unfold Vg.vMax3 at hh ⊢;split at hh <;> first | exact⟨_,hh,fun _ h'=>h'⟩ | exact hh.elim
theorem Det.vMax{x y:V}:Det (vMax x y):=by
 intro K hh;unfold Vg.vMax at hh ⊢;split at hh <;> first | exact⟨_,hh,fun _ h'=>h'⟩ | exact hh.elim
theorem Det.vSlice{E:Env}{t:TypeId}{x:V}{lo hi mx:Option V}:Det (vSlice E t x lo hi mx):=by
 intro K h;unfold Vg.vSlice at h ⊢;split at h
 ·split at h
  ·exact⟨_,h.2,fun _ h'=>⟨h.1,h'⟩⟩
  ·exact h.elim
 ·split at h
  ·exact⟨_,h.2,fun _ h'=>⟨h.1,h'⟩⟩
  ·exact h.elim
 ·exact h.elim
theorem Det.vBuild{E:Env}{t:TypeId}{ps:List (Nat×V)}:Det (vBuild E t ps):=by
 intro K h;unfold Vg.vBuild at h ⊢;split at h
 ·obtain⟨h0,h⟩:=h;split at h
  ·rename_i hf;exact⟨_,h,fun _ h'=>⟨h0,h'⟩⟩
  ·exact h.elim
 ·obtain⟨h0,h⟩:=h;split at h
  ·exact⟨_,h,fun _ h'=>⟨h0,h'⟩⟩
  ·exact h.elim
 ·exact h.elim
theorem Det.vBuildSlice{E:Env}{t:TypeId}{n:Nat}{ps:List (Nat×V)}:Det (vBuildSlice E t n ps):=by
 intro K h;unfold Vg.vBuildSlice at h ⊢;split at h
 ·obtain⟨h0,h⟩:=h;split at h
  ·exact⟨_,h,fun _ h'=>⟨h0,h'⟩⟩
  ·exact h.elim
 ·exact h.elim
theorem b4O{E:Env}{c:Bool}{tm:List (Nat×V)}{h:List VObj}{a:List Nat}{op:Op}{K:b1y}(hs:cls c op = .still)(hv:b1m E c ⟨tm,h,a⟩ op K) :
  ∃ v,K v h a∧∀ h' a' K',K' v h' a'→b1m E c ⟨tm,h',a'⟩ op K':=by
 cases op <;> simp only[cls]at hs <;> try(exact Cls.noConfusion hs)
 case move x=>exact⟨_,hv,fun _ _ _ h'=>h'⟩
 case assign x=>exact⟨_,hv,fun _ _ _ h'=>h'⟩
 case pick x y z =>
  simp only[b1m,vop]at hv ⊢;split at hv
  ·exact⟨_,hv,fun _ _ _ h'=>h'⟩
  ·exact hv.elim
 case build t ps =>
  simp only[b1m,vop]at hv ⊢;obtain⟨v,h1,h2⟩:=Det.vBuild _ hv;exact⟨v,h1,fun h' a' K' hk=>h2 _ hk⟩
 case buildSlice t n ps =>
  simp only[b1m,vop]at hv ⊢;obtain⟨v,h1,h2⟩:=Det.vBuildSlice _ hv;exact⟨v,h1,fun h' a' K' hk=>h2 _ hk⟩
 case nilCheck x =>
  simp only[b1m,vop]at hv ⊢;split at hv
  ·exact⟨_,hv,fun _ _ _ h'=>h'⟩
  ·exact⟨_,hv,fun _ _ _ h'=>h'⟩
  ·exact⟨_,hv,fun _ _ _ h'=>h'⟩
  ·exact hv.elim
 case binOp op t x y ty =>
  simp only[b1m,vop]at hv ⊢;obtain⟨v,h1,h2⟩:=Det.vBinC _ hv;exact⟨v,h1,fun h' a' K' hk=>h2 _ hk⟩
 case makeInterface t x =>
  simp only[b1m,vop]at hv ⊢;obtain⟨v,h1,h2⟩:=Det.vMkIface _ hv;exact⟨v,h1,fun h' a' K' hk=>h2 _ hk⟩
 case unOp op t x =>
  simp only[b1m,vop]at hv ⊢;obtain⟨v,h1,h2⟩:=Det.vUn _ hv;exact⟨v,h1,fun h' a' K' hk=>h2 _ hk⟩
 case convert s d x =>
  simp only[b1m,vop]at hv ⊢;split at hv
  ·exact⟨_,hv,fun _ _ _ h'=>h'⟩
  ·exact⟨_,hv,fun _ _ _ h'=>h'⟩
  ·obtain⟨h0,hv⟩:=hv;split at hv
   ·exact⟨_,hv,fun _ _ _ h'=>⟨h0,h'⟩⟩
   ·exact hv.elim
  ·exact⟨_,hv.2,fun _ _ _ h'=>⟨hv.1,h'⟩⟩
  ·exact hv.elim
 case makeFunc f first caps =>
  simp only[b1m,vop]at hv ⊢;split at hv
  ·split at hv
   ·exact⟨_,hv,fun _ _ _ h'=>h'⟩
   ·exact⟨_,hv.2,fun _ _ _ h'=>⟨hv.1,h'⟩⟩
  ·exact hv.elim
 case slice t x lo hi mx =>
  simp only[b1m]at hv ⊢;obtain⟨v,h1,h2⟩:=Det.vSlice _ hv.2;exact⟨v,h1,fun h' a' K' hk=>⟨hv.1,h2 _ hk⟩⟩
 case fieldAddr t x f =>
  simp only[b1m,vop]at hv ⊢;obtain⟨v,h1,h2⟩:=Det.vFieldAddr _ hv;exact⟨v,h1,fun h' a' K' hk=>h2 _ hk⟩
 case field t x f =>
  simp only[b1m,vop]at hv ⊢;split at hv
  ·split at hv
   ·rename_i hf;obtain⟨v,h1,h2⟩:=Det.vPart _ hv;exact⟨v,h1,fun h' a' K' hk=>h2 _ hk⟩
   ·exact hv.elim
  ·exact hv.elim
 case indexAddr t x i =>
  simp only[b1m,vop]at hv ⊢;obtain⟨v,h1,h2⟩:=Det.vIndexAddr _ hv;exact⟨v,h1,fun h' a' K' hk=>h2 _ hk⟩
 case index t x i =>
  simp only[b1m,vop]at hv ⊢;obtain⟨v,h1,h2⟩:=Det.vIndex _ hv;exact⟨v,h1,fun h' a' K' hk=>h2 _ hk⟩
 case extract x i =>
  simp only[b1m,vop]at hv ⊢;split at hv
  ·split at hv
   ·exact⟨_,hv,fun _ _ _ h'=>h'⟩
   ·exact hv.elim
  ·exact hv.elim
 case call cl =>
  simp only[b1m]at hv ⊢;split at hv
  ·rename_i f hc;rw[hc]at hs;simp only at hs;split at hs
   ·cases hs
   rename_i hcf;split at hv
   ·obtain⟨h0,hv⟩:=hv;rw[if_neg hcf]at hv;obtain⟨r,h1,h2⟩:=hv;refine⟨r,h2,fun h' a' K' hk=>⟨h0,?_⟩⟩;rw[if_neg hcf];exact⟨r,h1,hk⟩
   ·obtain⟨h0,hv⟩:=hv;rw[if_neg hcf]at hv;obtain⟨r,h1,h2⟩:=hv;refine⟨r,h2,fun h' a' K' hk=>⟨h0,?_⟩⟩;rw[if_neg hcf];exact⟨r,h1,hk⟩
   ·exact hv.elim
  ·rename_i hc;split at hv
   ·obtain⟨v,h1,h2⟩:=Det.vLenC _ hv;exact⟨v,h1,fun h' a' K' hk=>h2 _ hk⟩
   ·exact hv.elim
  ·rename_i h1 h2;unfold c2K at hv ⊢;split at hv
   ·rename_i hc;exact absurd hc h2
   ·split at hv
    ·obtain⟨v,g1,g2⟩:=Det.vMin _ hv;exact⟨v,g1,fun h' a' K' hk=>g2 _ hk⟩
    ·exact hv.elim
   ·split at hv
    ·obtain⟨v,g1,g2⟩:=Det.vMax _ hv;exact⟨v,g1,fun h' a' K' hk=>g2 _ hk⟩
    ·obtain⟨v,g1,g2⟩:=Det.vMax3 _ hv;exact⟨v,g1,fun h' a' K' hk=>g2 _ hk⟩
    ·exact hv.elim
   ·rename_i hc;rw[hc]at hs;cases hs
   ·rename_i hc;rw[hc]at hs;cases hs
   ·rename_i f hc;exact absurd hc (h1 f)
   ·exact hv.elim
theorem c0x{E:Env}{c:Bool}{tm:List (Nat×V)}{h:List VObj}{a:List Nat}{op:Op}{K:b1y}(hs:cls c op = .read)(hv:b1m E c ⟨tm,h,a⟩ op K) :
  ∃ v,K v h a∧∀ K',K' v h a→b1m E c ⟨tm,h,a⟩ op K':=by
 cases op <;> simp only[cls]at hs <;> try(exact Cls.noConfusion hs)
 case load t x =>
  simp only[b1m,vop]at hv ⊢;split at hv
  ·obtain⟨v,h1,h2⟩:=Det.vLoadL _ hv;exact⟨v,h1,fun K' hk=>h2 _ hk⟩
  ·exact hv.elim
 case lookup t m k ok =>
  simp only[b1m,vop]at hv ⊢;obtain⟨v,h1,h2⟩:=Det.vLookK _ hv;exact⟨v,h1,fun K' hk=>h2 _ hk⟩
 case call cl =>
  exfalso;revert hs;split
  ·split <;> simp
  ·simp
  ·simp
  ·simp
  ·simp
theorem f1W{h z:List VObj}{x:V}{cs:List V}(hx:vAt h x=some cs):vAt (h++z) x=some cs:=by
 have key:∀ (id:Nat) o,h[id]? = some o→(h++z)[id]? = some o:=fun id o ho=>by
  rw[h0e (h0b.1 ho).1];exact ho
 cases x <;> simp only[vAt]at hx ⊢ <;> try(exact hx)
 case ptr id off =>
  cases ho:h[id]? with
  | none=>rw[ho]at hx;cases hx
  | some o=>rw[ho]at hx;rw[key id o ho];exact hx
 case vptr id k g off =>
  cases ho:h[id]? with
  | none=>rw[ho]at hx;cases hx
  | some o=>rw[ho]at hx;rw[key id o ho];exact hx
theorem c4r{h z:List VObj}{x:V}{es:List (V×V)}(hx:b8K h x=some es):b8K (h++z) x=some es:=by
 have key:∀ (id:Nat) o,h[id]? = some o→(h++z)[id]? = some o:=fun id o ho=>by
  rw[h0e (h0b.1 ho).1];exact ho
 cases x <;> simp only[b8K]at hx ⊢ <;> try(exact hx)
 case map id =>
  cases ho:h[id]? with
  | none=>rw[ho]at hx;cases hx
  | some o=>rw[ho]at hx;rw[key id o ho];exact hx
theorem c9d{E:Env}{h z:List VObj}{t:TypeId}{m' k':V}{ok:Bool}{K:V→Prop}(h3:vLookK E h t m' k' ok K):vLookK E (h++z) t m' k' ok K:=by
 unfold vLookK at h3 ⊢;split at h3
 ·unfold vLookA at h3 ⊢;cases hd:E.P.underlying t with
  | none=>rw[hd]at h3;exact h3.elim
  | some d =>
   cases hma:b8K h m' with
   | none=>rw[hd,hma]at h3;cases d <;> exact h3.elim
   | some es=>rw[hd,hma]at h3;rw[c4r hma];exact h3
 ·rename_i hk;unfold vLook at h3 ⊢;cases hd:E.P.underlying t with
  | none=>rw[hd]at h3;exact h3.elim
  | some d =>
   cases hma:b8K h m' with
   | none=>rw[hd,hma]at h3;cases d <;> exact h3.elim
   | some es=>rw[hd,hma]at h3;rw[c4r hma];exact h3
theorem c9m{E:Env}{c:Bool}{tm:List (Nat×V)}{h:List VObj}{a:List Nat}{op:Op}{K:b1y}(hs:cls c op = .read)(hv:b1m E c ⟨tm,h,a⟩ op K) :
  ∃ v,K v h a∧∀ z K',K' v (h++z) a→b1m E c ⟨tm,h++z,a⟩ op K':=by
 cases op <;> simp only[cls]at hs <;> try(exact Cls.noConfusion hs)
 case load t x =>
  simp only[b1m,vop]at hv ⊢;split at hv
  ·rename_i cs hcs;obtain⟨v,h1,h2⟩:=Det.vLoadL _ hv;refine⟨v,h1,fun z K' hk=>?_⟩;rw[show vAt (h++z) (ev E tm x)=some cs from f1W hcs];exact h2 (fun r=>K' r (h++z) a) hk
  ·exact hv.elim
 case lookup t m k ok =>
  simp only[b1m,vop]at hv ⊢;obtain⟨v,h1,h2⟩:=Det.vLookK _ hv;refine⟨v,h1,fun z K' hk=>?_⟩;have h3:=h2 (fun r=>K' r (h++z) a) hk;generalize ev E tm m=m' at h3;generalize ev E tm k=k' at h3;exact c9d h3
 case call cl =>
  exfalso;revert hs;split
  ·split <;> simp
  ·simp
  ·simp
  ·simp
  ·simp
def g0N:Op→Bool
 | .alloc _ | .box _ _ | .makeMap _ _ | .makeSlice _ _ _=>true
 | _=>false
theorem d4u{E:Env}{c:Bool}{tm:List (Nat×V)}{h:List VObj}{a:List Nat}{op:Op}{K:b1y}(hs:g0N op=true)(hv:b1m E c ⟨tm,h,a⟩ op K) :
  ∃ v x,K v (h++[x]) a∧∀ K',K' v (h++[x]) a→b1m E c ⟨tm,h,a⟩ op K':=by
 cases op <;> simp only[g0N,h0r]at hs
 case alloc t =>
  simp only[b1m,vop]at hv ⊢;exact⟨_,_,hv.2,fun _ h'=>⟨hv.1,h'⟩⟩
 case box t x =>
  simp only[b1m,vop]at hv ⊢;exact⟨_,_,hv.2,fun _ h'=>⟨hv.1,h'⟩⟩
 case makeMap t r =>
  simp only[b1m,vop]at hv ⊢;exact⟨_,_,hv.2,fun _ h'=>⟨hv.1,h'⟩⟩
 case makeSlice t l c =>
  simp only[b1m,vop,b3k]at hv ⊢;split at hv
  ·exact⟨_,_,hv.2,fun _ h'=>⟨hv.1,h'⟩⟩
  ·exact hv.elim
theorem c0E{E:Env}{c:Bool}{s:St}{op:Op}{K:b1y}(hs:cls c op = .deff)(hv:b1m E c s op K):∃ v h' a',K v h' a'∧∀ K',K' v h' a'→b1m E c s op K':=by
 cases op <;> simp only[cls]at hs <;> try(exact Cls.noConfusion hs)
 all_goals try(exact hv.elim)
 case alloc t =>
  simp only[b1m,vop]at hv ⊢;exact⟨_,_,_,hv.2,fun _ h'=>⟨hv.1,h'⟩⟩
 case box t x =>
  simp only[b1m,vop]at hv ⊢;exact⟨_,_,_,hv.2,fun _ h'=>⟨hv.1,h'⟩⟩
 case store t x y =>
  simp only[b1m,vop,c0s]at hv ⊢;split at hv
  ·split at hv
   ·split at hv
    ·exact⟨_,_,_,hv.2,fun _ h'=>⟨hv.1,h'⟩⟩
    ·exact hv.elim
   ·exact hv.elim
  ·split at hv
   ·exact⟨_,_,_,hv.2,fun _ h'=>⟨hv.1,h'⟩⟩
   ·exact hv.elim
  ·exact hv.elim
 case mapUpdate t m k v =>
  simp only[b1m,vop]at hv ⊢;obtain⟨h',h1,h2⟩:=Det.vMapSetK hv;exact⟨_,_,_,h1,fun K' hk=>h2 _ hk⟩
 case insert t m k v =>
  simp only[b1m,vop]at hv ⊢;obtain⟨h',h1,h2⟩:=Det.vMapSetK hv;exact⟨_,_,_,h1,fun K' hk=>h2 _ hk⟩
 case makeMap t r =>
  simp only[b1m,vop]at hv ⊢;exact⟨_,_,_,hv.2,fun _ h'=>⟨hv.1,h'⟩⟩
 case makeSlice t l c =>
  simp only[b1m,vop,b3k]at hv ⊢;split at hv
  ·exact⟨_,_,_,hv.2,fun _ h'=>⟨hv.1,h'⟩⟩
  ·exact hv.elim
 case range t x =>
  simp only[b1m,vop,c1B]at hv ⊢;split at hv
  ·exact⟨_,_,_,hv,fun _ h'=>h'⟩
  ·exact hv.elim
 case next x str =>
  simp only[b1m,vop,c8K]at hv ⊢;obtain⟨h0,hv⟩:=hv;split at hv
  ·split at hv
   ·split at hv
    ·rename_i hp;refine⟨_,_,_,hv,fun _ h'=>⟨h0,?_⟩⟩;rw[if_pos hp];exact h'
    ·rename_i hp;refine⟨_,_,_,hv,fun _ h'=>⟨h0,?_⟩⟩;rw[if_neg hp];exact h'
   ·exact hv.elim
  ·exact hv.elim
 case call cl =>
  simp only[b1m]at hv ⊢;split at hv
  ·rename_i hc;rw[hc]at hs;simp only at hs;split at hs <;> cases hs
  ·rename_i hc;rw[hc]at hs;cases hs
  ·rename_i h1 h2;unfold c2K at hv ⊢;split at hv
   ·rename_i hc;exact absurd hc h2
   ·rename_i hc;rw[hc]at hs;cases hs
   ·rename_i hc;rw[hc]at hs;cases hs
   ·split at hv
    ·unfold d9S at hv ⊢;split at hv
     ·rename_i hvt;simp only[if_pos hvt];unfold c6i at hv ⊢;split at hv
      case h_2=>exact hv.elim
      obtain⟨h0,hv⟩:=hv;split at hv
      ·split at hv
       ·exact⟨_,_,_,hv.2,fun _ h'=>⟨h0,hv.1,h'⟩⟩
       ·exact hv.elim
      ·exact⟨_,_,_,hv.2,fun _ h'=>⟨h0,hv.1,h'⟩⟩
      ·exact hv.elim
     rename_i hvt;simp only[if_neg hvt];unfold b5F at hv ⊢;split at hv
     ·obtain⟨h0,hv⟩:=hv;unfold c2Z at hv ⊢;split at hv
      ·exact hv.elim
      ·split at hv
       ·rename_i hx0;exact⟨_,_,_,hv,fun _ h'=>⟨h0,by simp only[hx0,if_true];exact h'⟩⟩
       ·rename_i hx0;exact⟨_,_,_,hv,fun _ h'=>⟨h0,by simp only[hx0,if_false];exact h'⟩⟩
      ·exact⟨_,_,_,hv.2,fun _ h'=>⟨h0,hv.1,h'⟩⟩
      ·exact⟨_,_,_,hv.2,fun _ h'=>⟨h0,hv.1,h'⟩⟩
     ·obtain⟨h0,hv⟩:=hv;unfold c2Z at hv ⊢;split at hv
      ·exact hv.elim
      ·split at hv
       ·rename_i hx0;exact⟨_,_,_,hv,fun _ h'=>⟨h0,by simp only[hx0,if_true];exact h'⟩⟩
       ·rename_i hx0;exact⟨_,_,_,hv,fun _ h'=>⟨h0,by simp only[hx0,if_false];exact h'⟩⟩
      ·exact⟨_,_,_,hv.2,fun _ h'=>⟨h0,hv.1,h'⟩⟩
      ·exact⟨_,_,_,hv.2,fun _ h'=>⟨h0,hv.1,h'⟩⟩
     ·exact hv.elim
    ·exact hv.elim
   ·split at hv
    ·unfold c6w at hv ⊢;split at hv
     case h_2=>exact hv.elim
     split at hv
     case h_2=>exact hv.elim
     split at hv
     case h_2=>exact hv.elim
     exact⟨_,_,_,hv.2,fun _ h'=>⟨hv.1,h'⟩⟩
    ·exact hv.elim
   ·rename_i f hc;exact absurd hc (h1 f)
   ·exact hv.elim
theorem b2B{E:Env}{c:Bool}{s:St}{op:Op}{K K':b1y}(hv:b1m E c s op K)(hk:∀ v h a,K v h a→K' v h a):b1m E c s op K':=by
 cases hc:cls c op with
 | still =>
  obtain⟨tm,h,a⟩:=s;obtain⟨v,h1,h2⟩:=b4O hc hv;exact h2 _ _ _ (hk _ _ _ h1)
 | read =>
  obtain⟨tm,h,a⟩:=s;obtain⟨v,h1,h2⟩:=c0x hc hv;exact h2 _ (hk _ _ _ h1)
 | deff =>
  obtain⟨v,h',a',h1,h2⟩:=c0E hc hv;exact h2 _ (hk _ _ _ h1)
 | ceff =>
  cases op <;> simp only[cls]at hc <;> try(exact Cls.noConfusion hc)
  rename_i cl;simp only[b1m]at hv ⊢;split at hc
  ·rename_i f hf;split at hc
   ·rename_i hct;simp only[hf]at hv ⊢;split at hv
    ·obtain⟨h0,hv⟩:=hv;rw[if_pos hct]at hv;refine⟨h0,?_⟩;rw[if_pos hct];exact hv.mono hk
    ·obtain⟨h0,hv⟩:=hv;rw[if_pos hct]at hv;refine⟨h0,?_⟩;rw[if_pos hct];exact hv.mono hk
    ·exact hv.elim
   ·cases hc
  ·cases hc
  ·cases hc
  ·cases hc
  ·cases hc
theorem b7S{E:Env}{c:Bool}{tm tm':List (Nat×V)}{h:List VObj}{a:List Nat}{op:Op}{K:b1y}(hx:∀ x∈op.operands,ev E tm x=ev E tm' x)(hv:b1m E c ⟨tm,h,a⟩ op K):b1m E c ⟨tm',h,a⟩ op K:=by
 have hps:∀ (ps:Array (Nat×Operand)),(∀ x∈ps.toList.map (·.2),ev E tm x=ev E tm' x)→(ps.toList.map fun p=>(p.1,ev E tm p.2))=ps.toList.map fun p=>(p.1,ev E tm' p.2):=by
  intro ps hp;refine List.map_congr_left fun p hp'=>?_
  rw[hp p.2 (h1p.2 ⟨p,hp',rfl⟩)]
 have hxs:∀ (xs:Array Operand),(∀ x∈xs,ev E tm x=ev E tm' x)→xs.toList.map (ev E tm)=xs.toList.map (ev E tm'):=by
  intro xs hp;exact List.map_congr_left fun x hx=>hp x (by simpa using hx)
 cases op <;> simp only[Op.operands]at hx <;> simp only[b1m,vop]at hv ⊢
 all_goals try(exact hv.elim)
 case move x=>rw[hx x (by simp)]at hv;exact hv
 case assign x=>rw[hx x (by simp)]at hv;exact hv
 case pick x y z=>rw[hx x (by simp),hx y (by simp),hx z (by simp)]at hv;exact hv
 case alloc t=>exact hv
 case box t x=>rw[hx x (by simp)]at hv;exact hv
 case build t ps=>rw[hps ps (by simpa using hx)]at hv;exact hv
 case buildSlice t n ps=>rw[hps ps (by simpa using hx)]at hv;exact hv
 case load t x=>rw[hx x (by simp)]at hv;exact hv
 case store t x y=>rw[hx x (by simp),hx y (by simp)]at hv;exact hv
 case nilCheck x=>rw[hx x (by simp)]at hv;exact hv
 case makeInterface t x=>rw[hx x (by simp)]at hv;exact hv
 case binOp op t x y ty=>rw[hx x (by simp),hx y (by simp)]at hv;exact hv
 case unOp op t x=>rw[hx x (by simp)]at hv;exact hv
 case convert s d x=>rw[hx x (by simp)]at hv;exact hv
 case makeFunc f first caps =>
  have e1:=hxs caps fun x hx'=>hx x (by simp[hx'])
  have e2:=hxs first fun x hx'=>hx x (by simp[hx'])
  split at hv
  ·split at hv
   ·rename_i h1;rw[e1]at hv;exact hv
   ·rename_i h1;rw[h1]at e2;rw[e2]at hv;exact hv
  ·exact hv.elim
 case slice t x lo hi mx =>
  rw[hx x (by simp)]at hv;have e:∀ o:Option Operand,(∀ x∈o,ev E tm x=ev E tm' x)→o.map (ev E tm)=o.map (ev E tm'):=by
   intro o ho;cases o with
   | none=>rfl
   | some x=>simp[ho x rfl]
  rw[e lo fun x hx'=>hx x (by simp at hx';simp[hx']),e hi fun x hx'=>hx x (by simp at hx';simp[hx']),e mx fun x hx'=>hx x (by simp at hx';simp[hx'])]at hv;exact hv
 case fieldAddr t x f=>rw[hx x (by simp)]at hv;exact hv
 case field t x f=>rw[hx x (by simp)]at hv;exact hv
 case indexAddr t x i=>rw[hx x (by simp),hx i (by simp)]at hv;exact hv
 case index t x i=>rw[hx x (by simp),hx i (by simp)]at hv;exact hv
 case extract x i=>rw[hx x (by simp)]at hv;exact hv
 case lookup t m k ok=>rw[hx m (by simp),hx k (by simp)]at hv;exact hv
 case mapUpdate t m k v=>rw[hx m (by simp),hx k (by simp),hx v (by simp)]at hv;exact hv
 case insert t m k v=>rw[hx m (by simp),hx k (by simp),hx v (by simp)]at hv;exact hv
 case makeMap t r=>exact hv
 case makeSlice t l c=>rw[hx l (by simp),hx c (by simp)]at hv;exact hv
 case range t x=>rw[hx x (by simp)]at hv;exact hv
 case next x str=>rw[hx x (by simp)]at hv;exact hv
 case call cl =>
  simp only[Call.operands]at hx;have ha:cl.args.toList.map (ev E tm)=cl.args.toList.map (ev E tm'):=hxs cl.args fun x hx'=>hx x (by simp[hx'])
  split at hv
  ·rename_i f hc;rw[hx f (by simp[hc])]at hv;rw[ha]at hv;exact hv
  ·rename_i hc;split at hv
   ·rename_i t x h1 h2;have hm:x∈cl.args:=by
     have:x∈cl.args.toList:=by rw[h2];simp
     simpa using this
    rw[hx x (by simp[hm])]at hv;exact hv
   ·exact hv.elim
  ·rename_i h1 h2;have hm:∀ z∈cl.args.toList,ev E tm z=ev E tm' z:=fun z hz=>hx z (by
    have:z∈cl.args:=by simpa using hz
    simp[this])
   unfold c2K at hv ⊢;split at hv
   ·rename_i hc;exact absurd hc h2
   ·split at hv
    ·rename_i x y g2;rw[hm x (by rw[g2];simp),hm y (by rw[g2];simp)]at hv;simp only[g2];exact hv
    ·exact hv.elim
   ·split at hv
    ·rename_i x y g2;rw[hm x (by rw[g2];simp),hm y (by rw[g2];simp)]at hv;simp only[g2];exact hv
    ·rename_i x y z g2;rw[hm x (by rw[g2];simp),hm y (by rw[g2];simp),hm z (by rw[g2];simp)]at hv;simp only[g2];exact hv
    ·exact hv.elim
   ·split at hv
    ·rename_i t t' x y g1 g2;rw[hm x (by rw[g2];simp),hm y (by rw[g2];simp)]at hv;simp only[g1,g2];exact hv
    ·exact hv.elim
   ·split at hv
    ·rename_i t t' x y g1 g2;rw[hm x (by rw[g2];simp),hm y (by rw[g2];simp)]at hv;simp only[g1,g2];exact hv
    ·exact hv.elim
   ·rename_i f hc;exact absurd hc (h1 f)
   ·exact hv.elim
end Go.Vg
namespace Go.Vg
open Go.RowKit
def St.eqv(s t:St):Prop:=(∀ i,b1Z s.tmps i=b1Z t.tmps i)∧s.heap=t.heap∧s.arr=t.arr
theorem St.eqv.refl(s:St):s.eqv s:=⟨fun _=>rfl,rfl,rfl⟩
theorem St.eqv.put{s t:St}(h:s.eqv t)(d:Option Nat)(x:V):(s.put d x).eqv (t.put d x):=by
 cases d with
 | none=>exact h
 | some d=>exact⟨fun i=>by simp only[St.put,b1Z];rw[h.1 i],h.2.1,h.2.2⟩
theorem c7g(s:St){x y:Option Nat}(v u:V)(h:∀ d,x=some d→y≠some d):((s.put x v).put y u).eqv ((s.put y u).put x v):=by
 cases x with
 | none=>cases y <;> exact .refl _
 | some d =>
  cases y with
  | none=>exact .refl _
  | some e =>
   refine⟨fun i=>?_,rfl,rfl⟩;simp only[St.put,b1Z];by_cases h1:i=e
   ·by_cases h2:i=d
    ·exact absurd (by rw[←h1,←h2]) (h d rfl)
    ·rw[if_pos h1,if_neg h2,if_pos h1]
   ·rw[if_neg h1,if_neg h1]
theorem f3S{E:Env}{tm tm':List (Nat×V)}(h:∀ i,b1Z tm i=b1Z tm' i)(x:Operand):ev E tm x=ev E tm' x:=by
 cases x <;> first | exact h _ | rfl
def gst(ops:List Oper)(n:Nat)(o:Oper)(tm:List (Nat×V)):Option Bool :=
 match o.guard with
 | none=>some true
 | some (g,want)=>match b5Y ops g with
  | some d=>if d<n then(match b1Z tm d with | .bool b=>some (b == want) | .tuple []=>some false | _=>none)else none
  | none=>none
def dAt(E:Env)(n:Nat)(ops:List Oper)(cs:List Nat)(i:Nat)(K:St→Prop)(s:St):Prop :=
 match ops[i]? with
 | none=>K s
 | some o=>c3A n o=true∧∃ b,gst ops n o s.tmps=some b∧(b=true→b1m E (cs.contains i) s o.op fun v h a=>K (St.put ⟨s.tmps,h,a⟩ o.dst v))∧(b=false→K (s.put o.dst (.tuple [])))
section
variable {E : Env} {n : Nat} {ops : List Oper} {cs : List Nat}
theorem b4l{i:Nat}{K K':St→Prop}{s:St}(h:dAt E n ops cs i K s)(hk:∀ s,K s→K' s):dAt E n ops cs i K' s:=by
 unfold dAt at *;split
 ·rename_i ho;rw[ho]at h;exact hk _ h
 ·rename_i o ho;rw[ho]at h;obtain⟨h0,b,h1,h2,h3⟩:=h;exact⟨h0,b,h1,fun e=>b2B (h2 e) fun _ _ _=>hk _,fun e=>hk _ (h3 e)⟩
theorem c0G{o:Oper}{tm tm':List (Nat×V)}(h:∀ d∈o.looksAt ops.toArray,b1Z tm d=b1Z tm' d):gst ops n o tm=gst ops n o tm':=by
 unfold gst;cases hg:o.guard with
 | none=>rfl
 | some p =>
  obtain⟨g,want⟩:=p;simp only;cases hd:b5Y ops g with
  | none=>rfl
  | some d =>
   simp only;have:b1Z tm d=b1Z tm' d:=by
    refine h d ?_;unfold Oper.looksAt;rw[hg];refine h0E.2 (.inr ?_);unfold b5Y at hd;cases ho:ops[g]? with
    | none=>rw[ho]at hd;cases hd
    | some og=>rw[ho]at hd;simp only at hd;simp[ho,hd]
   rw[this]
theorem c6P{o:Oper}{tm tm':List (Nat×V)}(h:∀ d∈o.looksAt ops.toArray,b1Z tm d=b1Z tm' d):∀ x∈o.op.operands,ev E tm x=ev E tm' x:=by
 intro x hx;cases x with
 | tmp t =>
  refine h t ?_;unfold Oper.looksAt;refine h0E.2 (.inl (List.mem_filterMap.2 ⟨.tmp t,by simpa using hx,rfl⟩))
 | _=>rfl
theorem c2r{i:Nat}{K:St→Prop}{s t:St}(hk:∀ s t,St.eqv s t→K s→K t)(hst:s.eqv t)(h:dAt E n ops cs i K s):dAt E n ops cs i K t:=by
 unfold dAt at *;split
 ·rename_i ho;rw[ho]at h;exact hk _ _ hst h
 ·rename_i o ho;rw[ho]at h;obtain⟨h0,b,h1,h2,h3⟩:=h;obtain⟨tm,hp,a⟩:=s;obtain⟨tm',hp',a'⟩:=t;obtain⟨e1,e2,e3⟩:=hst;simp only at e1 e2 e3;subst e2 e3;refine⟨h0,b,by rw[←h1];exact c0G fun d _=>(e1 d).symm,fun e=>?_,fun e=>hk _ _ (St.eqv.put (s:=⟨tm,hp,a⟩) (t:=⟨tm',hp,a⟩) ⟨e1,rfl,rfl⟩ _ _) (h3 e)⟩;refine b7S (tm:=tm) (fun x _=>f3S e1 x) (b2B (h2 e) fun v h a hv=>hk _ _ (St.eqv.put (s:=⟨tm,h,a⟩) (t:=⟨tm',h,a⟩) ⟨e1,rfl,rfl⟩ _ _) hv)
def c3S(cs:List Nat)(ops:List Oper)(i j:Nat):Bool :=
 match ops[i]?,ops[j]? with
 | some x,some y=>match cls (cs.contains i) x.op,cls (cs.contains j) y.op with
  | .still,_=>true
  | .read,.still | .read,.read=>true
  | .read,.deff=>g0N y.op
  | .deff,.still=>true
  | _,_=>false
 | _,_=>false
theorem c0D{s:St}{d:Option Nat}{x:V}{i:Nat}(h:d≠some i):b1Z (s.put d x).tmps i=b1Z s.tmps i:=by
 cases d with
 | none=>rfl
 | some d=>simp only[St.put,b1Z];rw[if_neg (fun e=>h (by rw[e]))]
theorem swap{i j:Nat}{oi oj:Oper}(hi:ops[i]? = some oi)(hj:ops[j]? = some oj)(hap:oi.apart ops.toArray oj=true)(hc:c3S cs ops i j=true){W:St→Prop}(hW:∀ s t,St.eqv s t→W s→W t){s:St}
  (h:dAt E n ops cs i (dAt E n ops cs j W) s):dAt E n ops cs j (dAt E n ops cs i W) s:=by
 obtain⟨a1,a2,a3⟩:=Oper.apart_spec hap
 -- j sees nothing of i's slot,nor i of j's
 have seej:∀ (tm:List (Nat×V)) (hp:List VObj) (ar:List Nat) v,∀ d∈oj.looksAt ops.toArray,b1Z (St.put ⟨tm,hp,ar⟩ oi.dst v).tmps d=b1Z tm d:=fun tm hp ar v d hd=>c0D (s:=⟨tm,hp,ar⟩) fun e=>a1 d e hd
 have seei:∀ (tm:List (Nat×V)) (hp:List VObj) (ar:List Nat) v,∀ d∈oi.looksAt ops.toArray,b1Z (St.put ⟨tm,hp,ar⟩ oj.dst v).tmps d=b1Z tm d:=fun tm hp ar v d hd=>c0D (s:=⟨tm,hp,ar⟩) fun e=>a3 d e hd
 obtain⟨tm,hp,ar⟩:=s;simp only[dAt,hi]at h;obtain⟨h0,b,h1,h2,h3⟩:=h
 -- the way back for i: from a state after j
 have goi:∀ (u:V) (h':List VObj) (a':List Nat),(b=true→b1m E (cs.contains i) ⟨tm,h',a'⟩ oi.op fun v h2 a2=>W ((St.put ⟨tm,h2,a2⟩ oi.dst v).put oj.dst u)) →
   (b=false→W ((St.put ⟨tm,h',a'⟩ oi.dst (.tuple [])).put oj.dst u))→dAt E n ops cs i W (St.put ⟨tm,h',a'⟩ oj.dst u):=by
  intro u h' a' g1 g2;simp only[dAt,hi];refine⟨h0,b,by rw[←h1];exact c0G (seei tm h' a' u),fun e=>?_,fun e=>hW _ _ (c7g _ _ _ a2) (g2 e)⟩;have:=b7S (E:=E) (tm':=(St.put ⟨tm,h',a'⟩ oj.dst u).tmps) (c6P (ops:=ops) fun d hd=>(seei tm h' a' u d hd).symm) (g1 e);have e2:∀ h2 a2,(⟨(St.put ⟨tm,h',a'⟩ oj.dst u).tmps,h2,a2⟩:St)=St.put ⟨tm,h2,a2⟩ oj.dst u:=fun h2 a2=>by cases oj.dst <;> rfl
  rw[e2]at this;have e3:(⟨(St.put ⟨tm,h',a'⟩ oj.dst u).tmps,(St.put ⟨tm,h',a'⟩ oj.dst u).heap,(St.put ⟨tm,h',a'⟩ oj.dst u).arr⟩:St)=St.put ⟨tm,h',a'⟩ oj.dst u:=by cases oj.dst <;> rfl
  refine b2B this fun v h2 a2' hv=>?_
  rw[e2];exact hW _ _ (c7g _ _ _ a2) hv
 -- j's own part,in a state from b2q i
 have goj:∀ (v:V) (h':List VObj) (a':List Nat) (W':V→List VObj→List Nat→Prop) (W0:Prop),dAt E n ops cs j W (St.put ⟨tm,h',a'⟩ oi.dst v) →
   c3A n oj=true∧∃ b',gst ops n oj tm=some b'∧(b'=true→b1m E (cs.contains j) ⟨tm,h',a'⟩ oj.op fun u h2 a2=>W ((St.put ⟨tm,h2,a2⟩ oi.dst v).put oj.dst u)) ∧
    (b'=false→W ((St.put ⟨tm,h',a'⟩ oi.dst v).put oj.dst (.tuple []))):=by
  intro v h' a' W' W0 hd;simp only[dAt,hj]at hd;obtain⟨g0,b',g1,g2,g3⟩:=hd;refine⟨g0,b',by rw[←g1];exact(c0G (seej tm h' a' v)).symm,fun e=>?_,g3⟩;have e2:∀ h2 a2,(⟨(St.put ⟨tm,h',a'⟩ oi.dst v).tmps,h2,a2⟩:St)=St.put ⟨tm,h2,a2⟩ oi.dst v:=fun h2 a2=>by cases oi.dst <;> rfl
  have:=g2 e;rw[show St.put ⟨tm,h',a'⟩ oi.dst v=⟨(St.put ⟨tm,h',a'⟩ oi.dst v).tmps,h',a'⟩from(e2 h' a').symm]at this;refine b7S (c6P (ops:=ops) (seej tm h' a' v)) (b2B this fun u h2 a2' hu=>?_);rw[e2]at hu;exact hu
 -- the two cases of i
 have fin:∀ (g:c3A n oj=true∧∃ b',gst ops n oj tm=some b' ∧
   (b'=true→b1m E (cs.contains j) ⟨tm,hp,ar⟩ oj.op fun u h2 a2=>dAt E n ops cs i W (St.put ⟨tm,h2,a2⟩ oj.dst u))∧(b'=false→dAt E n ops cs i W (St.put ⟨tm,hp,ar⟩ oj.dst (.tuple [])))),
   dAt E n ops cs j (dAt E n ops cs i W) ⟨tm,hp,ar⟩:=by
  intro g;simp only[dAt,hj];exact g
 cases hb:b with
 | false =>
  have hd:=h3 hb;obtain⟨g0,b',g1,g2,g3⟩:=goj (.tuple []) hp ar (fun _ _ _=>True) True hd;exact fin ⟨g0,b',g1,fun e=>b2B (g2 e) fun u h2 a2' hu=>goi u h2 a2' (fun e=>by rw[hb]at e;cases e) fun _=>hu,fun e=>goi (.tuple []) hp ar (fun e=>by rw[hb]at e;cases e) fun _=>g3 e⟩
 | true =>
  have hv:=h2 hb;unfold c3S at hc;rw[hi,hj]at hc;simp only at hc;cases hci:cls (cs.contains i) oi.op with
  | still =>
   obtain⟨v,k1,k2⟩:=b4O hci hv;obtain⟨g0,b',g1,g2,g3⟩:=goj v hp ar (fun _ _ _=>True) True k1;exact fin ⟨g0,b',g1,fun e=>b2B (g2 e) fun u h2 a2' hu=>goi u h2 a2' (fun _=>k2 _ _ _ hu) (fun e=>by rw[hb]at e;cases e),
    fun e=>goi (.tuple []) hp ar (fun _=>k2 _ _ _ (g3 e)) (fun e=>by rw[hb]at e;cases e)⟩
  | read =>
   obtain⟨v,k1,k3⟩:=c9m hci hv;have k2:∀ K',K' v hp ar→b1m E (cs.contains i) ⟨tm,hp,ar⟩ oi.op K':=fun K' hk=>by
    have:=k3 [] K';rw[h0F]at this;exact this hk
   obtain⟨g0,b',g1,g2,g3⟩:=goj v hp ar (fun _ _ _=>True) True k1;refine fin ⟨g0,b',g1,fun e=>?_,fun e=>goi (.tuple []) hp ar (fun _=>k2 _ (g3 e)) (fun e=>by rw[hb]at e;cases e)⟩;rw[hci]at hc;cases hcj:cls (cs.contains j) oj.op with
   | still =>
    obtain⟨u,m1,m2⟩:=b4O hcj (g2 e);exact m2 _ _ _ (goi u hp ar (fun _=>k2 _ m1) (fun e=>by rw[hb]at e;cases e))
   | read =>
    obtain⟨u,m1,m2⟩:=c0x hcj (g2 e);exact m2 _ (goi u hp ar (fun _=>k2 _ m1) (fun e=>by rw[hb]at e;cases e))
   | deff =>
    rw[hcj]at hc;obtain⟨u,x,m1,m2⟩:=d4u hc (g2 e);exact m2 _ (goi u (hp++[x]) ar (fun _=>k3 _ _ m1) (fun e=>by rw[hb]at e;cases e))
   | ceff=>rw[hcj]at hc;cases hc
  | deff =>
   rw[hci]at hc;obtain⟨v,h',a',k1,k2⟩:=c0E hci hv;obtain⟨g0,b',g1,g2,g3⟩:=goj v h' a' (fun _ _ _=>True) True k1;cases hcj:cls (cs.contains j) oj.op with
   | still =>
    refine fin ⟨g0,b',g1,fun e=>?_,fun e=>goi (.tuple []) hp ar (fun _=>k2 _ (g3 e)) (fun e=>by rw[hb]at e;cases e)⟩;obtain⟨u,m1,m2⟩:=b4O hcj (g2 e);exact m2 _ _ _ (goi u hp ar (fun _=>k2 _ m1) (fun e=>by rw[hb]at e;cases e))
   | read=>rw[hcj]at hc;cases hc
   | deff=>rw[hcj]at hc;cases hc
   | ceff=>rw[hcj]at hc;cases hc
  | ceff =>
   rw[hci]at hc;cases hcj:cls (cs.contains j) oj.op <;> rw[hcj]at hc <;> cases hc
def c9z(E:Env)(n:Nat)(ops:List Oper)(cs:List Nat)(Q:St→Prop):Nat→Array Bool→St→Prop
 | 0,listed,s=>Region.ready .any ops.toArray listed=[]∧Q s
 | fuel+1,listed,s=>(Region.ready .any ops.toArray listed=[]→Q s)∧∀ i∈Region.ready .any ops.toArray listed,dAt E n ops cs i (c9z E n ops cs Q fuel (listed.setIfInBounds i true)) s
theorem c6L{Q:St→Prop}(hQ:∀ s t,St.eqv s t→Q s→Q t):∀ (fuel:Nat) (listed:Array Bool) (s t:St),s.eqv t→c9z E n ops cs Q fuel listed s→c9z E n ops cs Q fuel listed t
 | 0,_,s,t,he,h=>⟨h.1,hQ s t he h.2⟩
 | fuel+1,listed,s,t,he,h=>⟨fun h0=>hQ s t he (h.1 h0),fun i hi=>c2r (c6L hQ fuel _) he (h.2 i hi)⟩
def c6r(ops:List Oper):Nat→Nat→Nat→Bool
 | 0,_,_=>false
 | fuel+1,j,i=>match ops[j]? with
  | some o=>o.after.any fun e=>Region.binds .any e && (e.on == i || c6r ops fuel e.on i)
  | none=>false
def b9H(ops:List Oper)(listed:Array Bool):Prop:=∀ j o,ops[j]? = some o→listed.getD j false=true→∀ e∈o.after,Region.binds .any e=true→listed.getD e.on false=true
theorem c0p{listed:Array Bool}(hc:b9H ops listed){i:Nat}(hi:listed.getD i false=false):∀ (fuel j:Nat) o,ops[j]? = some o→(∀ e∈o.after,Region.binds .any e=true→listed.getD e.on false=true)→c6r ops fuel j i=false
 | 0,_,_,_,_=>rfl
 | fuel+1,j,o,ho,ha=>by
  cases hw:c6r ops (fuel+1) j i with
  | false=>rfl
  | true =>
   simp only[c6r,ho]at hw;obtain⟨e,he,hb⟩:=Array.any_eq_true'.1 hw;simp only[h0k,h1u,beq_iff_eq]at hb;have hl:=ha e he hb.1;rcases hb.2 with h1 | h1
   ·rw[h1,hi]at hl;cases hl
   ·cases hoe:ops[e.on]? with
    | none=>cases fuel <;> simp[c6r,hoe]at h1
    | some oe =>
     rw[c0p hc hi fuel e.on oe hoe (hc e.on oe hoe hl)]at h1;cases h1
def d5g(ops:List Oper)(cs:List Nat)(listed:Array Bool)(i:Nat):Bool :=
 match ops[i]? with
 | none=>false
 | some oi=>(List.range ops.length).all fun j=>j == i || listed.getD j true || c6r ops ops.length j i || match ops[j]? with
   | some oj=>oi.apart ops.toArray oj && c3S cs ops i j
   | none=>true
theorem b6j{listed:Array Bool}{i:Nat}(hc:b9H ops listed)(hr:i∈Region.ready .any ops.toArray listed):b9H ops (listed.setIfInBounds i true):=by
 intro j o ho hj e he hb;obtain⟨_,oi,hoi,hall⟩:=mem_ready.1 hr;by_cases hij:i=j
 ·subst hij;have:oi=o:=by
   have:ops.toArray[i]? = ops[i]?:=by simp
   rw[this,ho]at hoi;exact(Option.some.inj hoi).symm
  subst this;exact getD_set_true (hall e he hb)
 ·rw[getD_set_ne false hij]at hj;exact getD_set_true (hc j o ho hj e he hb)
theorem first{Q:St→Prop}(hQ:∀ s t,St.eqv s t→Q s→Q t){i:Nat}{oi:Oper}(hi:ops[i]? = some oi) :
  ∀ (fuel:Nat) (listed:Array Bool) (s:St),b9H ops listed→listed.size=ops.length →
   (∀ j oj,ops[j]? = some oj→j≠i→listed.getD j true=false→c6r ops ops.length j i=false→oi.apart ops.toArray oj=true∧c3S cs ops i j=true) →
   i∈Region.ready .any ops.toArray listed→dAt E n ops cs i (c9z E n ops cs Q fuel (listed.setIfInBounds i true)) s→c9z E n ops cs Q (fuel+1) listed s:=by
 intro fuel;induction fuel with
 | zero =>
  intro listed s _ hsz hfree hr H;refine⟨fun h=>(by rw[h]at hr;cases hr),fun j hj=>?_⟩;by_cases hji:j=i
  ·subst hji;exact H
  ·exfalso
   -- if j were ready beside i,it would be ready behind i
   have hj':=ready_mono hj hji;have hsome:∃ t,c9z E n ops cs Q 0 (listed.setIfInBounds i true) t∨True:=⟨s,.inr trivial⟩
   have key:Region.ready .any ops.toArray (listed.setIfInBounds i true)=[]∨True := .inr trivial;obtain⟨hjun,oj,hoj,hall⟩:=mem_ready.1 hj;have hoj':ops[j]? = some oj:=by simpa using hoj
   obtain⟨hap,hcp⟩:=hfree j oj hoj' hji hjun (c0p ‹b9H ops listed› (by
    have:=(mem_ready.1 hr).1;have hlt:i<listed.size:=by rw[hsz];exact(h0b.1 hi).1
    simp[hlt]at this ⊢;exact this) _ j oj hoj' hall)
   -- H tells of a state in which nothing is ready,unless i is an effectful call
   simp only[dAt,hi]at H;obtain⟨_,b,_,h2,h3⟩:=H;have none_:∀ t,c9z E n ops cs Q 0 (listed.setIfInBounds i true) t→False:=fun t ht=>by rw[ht.1]at hj';cases hj'
   cases b with
   | false=>exact none_ _ (h3 rfl)
   | true =>
    have hv:=h2 rfl;obtain⟨tm,hp,ar⟩:=s;unfold c3S at hcp;rw[hi,hoj']at hcp;simp only at hcp;cases hci:cls (cs.contains i) oi.op with
    | still=>obtain⟨v,k1,_⟩:=b4O hci hv;exact none_ _ k1
    | read=>obtain⟨v,k1,_⟩:=c0x hci hv;exact none_ _ k1
    | deff=>obtain⟨v,h',a',k1,_⟩:=c0E hci hv;exact none_ _ k1
    | ceff =>
     rw[hci]at hcp;cases hcj:cls (cs.contains j) oj.op <;> rw[hcj]at hcp <;> cases hcp
 | succ fuel ih =>
  intro listed s hcl hsz hfree hr H;refine⟨fun h=>(by rw[h]at hr;cases hr),fun j hj=>?_⟩;by_cases hji:j=i
  ·subst hji;exact H
  ·obtain⟨hjun,oj,hoj,hall⟩:=mem_ready.1 hj;have hoj':ops[j]? = some oj:=by simpa using hoj
   have hiun:listed.getD i false=false:=by
    have:=(mem_ready.1 hr).1;have hlt:i<listed.size:=by rw[hsz];exact(h0b.1 hi).1
    simp[hlt]at this ⊢;exact this
   obtain⟨hap,hcp⟩:=hfree j oj hoj' hji hjun (c0p hcl hiun _ j oj hoj' hall);have h1:dAt E n ops cs i (dAt E n ops cs j (c9z E n ops cs Q fuel ((listed.setIfInBounds i true).setIfInBounds j true))) s:=b4l H fun t ht=>ht.2 j (ready_mono hj hji)
   have h2:=swap hi hoj' hap hcp (c6L hQ fuel _) h1;refine b4l h2 fun t ht=>ih (listed.setIfInBounds j true) t (b6j hcl hj) (by simpa using hsz) (fun k ok hk hki hun hno=>hfree k ok hk hki ?_ hno) (ready_mono hr (Ne.symm hji)) ?_
   ·by_cases hjk:j=k
    ·subst hjk;exact hjun
    ·rw[getD_set_ne true hjk]at hun;exact hun
   ·rw[Array.setIfInBounds_comm _ _ hji];exact ht
def f3L(E:Env)(n:Nat)(ops:List Oper)(cs:List Nat)(Q:St→Prop):Nat→Nat→St→Prop
 | 0,_,s=>Q s
 | fuel+1,k,s=>dAt E n ops cs k (f3L E n ops cs Q fuel (k+1)) s
def b7g(ops:List Oper)(cs:List Nat):Nat→Nat→Array Bool→Bool
 | 0,_,listed=>(Region.ready .any ops.toArray listed).isEmpty
 | fuel+1,k,listed=>(Region.ready .any ops.toArray listed).contains k && d5g ops cs listed k && b7g ops cs fuel (k+1) (listed.setIfInBounds k true)
def d8t(ops:List Oper)(cs:List Nat):Bool:=b7g ops cs ops.length 0 (Array.replicate ops.length false)
theorem c1L{Q:St→Prop}(hQ:∀ s t,St.eqv s t→Q s→Q t):∀ (fuel k:Nat) (listed:Array Bool) (s:St),b9H ops listed→listed.size=ops.length→b7g ops cs fuel k listed=true →
  f3L E n ops cs Q fuel k s→c9z E n ops cs Q fuel listed s
 | 0,k,listed,s,_,_,hB,h=>⟨by simpa[b7g]using hB,h⟩
 | fuel+1,k,listed,s,hcl,hsz,hB,h=>by
  simp only[b7g,h0k]at hB;obtain⟨⟨hr,ho⟩,hB'⟩:=hB;have hr':k∈Region.ready .any ops.toArray listed:=by simpa using hr
  unfold d5g at ho;cases hk:ops[k]? with
  | none=>rw[hk]at ho;cases ho
  | some ok =>
   rw[hk]at ho;simp only[List.all_eq_true,List.mem_range]at ho;refine first hQ hk fuel listed s hcl hsz (fun j oj hj hjk hun hno=>?_) hr' (b4l h fun t ht=>c1L hQ fuel (k+1) _ t (b6j hcl hr') (by simpa using hsz) hB' ht);have:=ho j (h0b.1 hj).1;simp only[hj,h1u,beq_iff_eq,hjk,false_or,hun,h0r,hno,h0k]at this;exact this
theorem b4F{Q:St→Prop}{w0:Base}{QQ:Exit→Act→World→Prop}:∀ (fuel:Nat) (listed:Array Bool) (s:St) (G:Gh) (a:Act) (w:World),Rel E G s w0 n a w→c9z E n ops cs Q fuel listed s →
  (∀ s' G' a' w',Q s'→Ext G s.arr G' s'.arr→Rel E G' s' w0 n a' w'→QQ .normal a' w')→(∀ ch a' w',a'.defers=w0.dfs→d6S E G s.arr w0 ch w'→QQ (.panic ch) a' w')→wpAny E.P .any ops.toArray QQ fuel listed a w
 | 0,listed,s,G,a,w,hr,h,hq,_=>⟨h.1,hq s G a w h.2 (Ext.refl _ _) hr⟩
 | fuel+1,listed,s,G,a,w,hr,h,hq,hdi=>by
  refine⟨fun h0=>hq s G a w (h.1 h0) (Ext.refl _ _) hr,fun i hi=>?_⟩;have hd:=h.2 i hi;unfold dAt at hd;unfold wpOp;have e:ops.toArray[i]? = ops[i]?:=by simp
  rw[e];cases ho:ops[i]? with
  | none =>
   rw[ho]at hd;exact b4F fuel _ s G a w hr hd hq hdi
  | some o =>
   rw[ho]at hd;obtain⟨h0,b,h1,h2,h3⟩:=hd;have hw:Region.wanted o (yielded ops.toArray a.tmps)=b:=by
    unfold gst at h1;cases hg:o.guard with
    | none=>rw[hg]at h1;simp only[Option.some.injEq]at h1;subst h1;unfold Region.wanted;rw[hg]
    | some p =>
     obtain⟨g,want⟩:=p;rw[hg]at h1;simp only at h1;split at h1
     ·rename_i d hd;split at h1
      ·split at h1
       ·rename_i bb hbb;simp only[Option.some.injEq]at h1;rw[←h1];exact c3X hr.rt hg hd hbb
       ·rename_i hbb;simp only[Option.some.injEq]at h1;rw[←h1];exact b8F hr.rt hg hd (by assumption) hbb
       ·cases h1
      ·cases h1
     ·cases h1
   simp only[hw];cases b with
   | true =>
    rw[if_pos rfl];refine .inl ((d1g hr.rw hr.rt (d4Y (h2 rfl))).wp (fun ch w' hh=>hdi ch a w' hr.df hh) fun v val heap' arr' G' w' g1 g2 g3 g4=>?_);exact b4F fuel _ _ G' _ w' (Rel.put hr.rt hr.df h0 g2 g3 g4) g1 (fun s' G'' a' w'' q1 q2 q3=>hq s' G'' a' w'' q1 (g2.trans (by simpa using q2)) q3)
     fun ch a' w'' q1 q2=>hdi ch a' w'' q1 (q2.ext (by simpa using g2))
   | false =>
    rw[if_neg (by simp)];exact b4F fuel _ _ G _ w (Rel.put (o:=o) (v := .tuple []) (val:=undef) hr.rt hr.df h0 (Ext.refl _ _) hr.rw RV.undef) (h3 rfl) (fun s' G'' a' w'' q1 q2 q3=>hq s' G'' a' w'' q1 (by simpa using q2) q3)
     fun ch a' w'' q1 q2=>hdi ch a' w'' q1 (by simpa using q2)
def b6v(E:Env)(n:Nat)(ops:List Oper)(cs:List Nat):Nat→List Oper→St→(St→Prop)→Prop
 | _,[],s,Q=>Q s
 | k,o::r,s,Q=>c3A n o=true∧match o.guard with
  | none=>b1m E (cs.contains k) s o.op fun v heap' arr'=>b6v E n ops cs (k+1) r (St.put ⟨s.tmps,heap',arr'⟩ o.dst v) Q
  | some (j,want)=>match b5Y ops j with
   | some d=>d<n∧match b1Z s.tmps d with
    | .bool b=>(b=want→b1m E (cs.contains k) ⟨(d,.bool want)::s.tmps,s.heap,s.arr⟩ o.op fun v heap' arr'=>b6v E n ops cs (k+1) r (St.put ⟨(d,.bool want)::s.tmps,heap',arr'⟩ o.dst v) Q) ∧
      (b = !want→b6v E n ops cs (k+1) r (St.put ⟨(d,.bool (!want))::s.tmps,s.heap,s.arr⟩ o.dst (.tuple [])) Q)
    | .tuple []=>b6v E n ops cs (k+1) r (s.put o.dst (.tuple [])) Q
    | _=>False
   | none=>False
theorem c4D{s:St}{d:Nat}{x:V}(h:b1Z s.tmps d=x):St.eqv ⟨(d,x)::s.tmps,s.heap,s.arr⟩ s:=by
 refine⟨fun i=>?_,rfl,rfl⟩;simp only[b1Z];split
 ·rename_i e;subst e;exact h.symm
 ·rfl
theorem f4Q{Q:St→Prop}(hQ:∀ s t,St.eqv s t→Q s→Q t):∀ (l:List Oper) (k:Nat) (s:St),(∀ j,l[j]? = ops[k+j]?)→b6v E n ops cs k l s Q→f3L E n ops cs Q l.length k s:=by
 intro l;induction l with
 | nil=>intro k s _ h;exact h
 | cons o l ih =>
  intro k s hl h;obtain⟨hd,hg⟩:=h;have h0:ops[k]? = some o:=by have:=hl 0;simp at this;exact this.symm
  have hl':∀ j,l[j]? = ops[k+1+j]?:=fun j=>by have:=hl (j+1);simpa[h1s,Nat.add_comm 1 j]using this
  have heq:∀ (fuel k:Nat) (s t:St),St.eqv s t→f3L E n ops cs Q fuel k s→f3L E n ops cs Q fuel k t:=by
   intro fuel;induction fuel with
   | zero=>intro k s t he h;exact hQ s t he h
   | succ fuel ihf=>intro k s t he h;exact c2r (ihf (k+1)) he h
  simp only[h0o,f3L];cases hgu:o.guard with
  | none =>
   rw[hgu]at hg;simp only[dAt,h0];exact⟨hd,true,by unfold gst;rw[hgu],fun _=>b2B hg fun v h a hv=>ih (k+1) _ hl' hv,fun e=>by cases e⟩
  | some p =>
   obtain⟨j,want⟩:=p;rw[hgu]at hg;simp only at hg;split at hg
   case h_2=>exact hg.elim
   rename_i d hdo;obtain⟨hdn,hg⟩:=hg;split at hg
   case h_3=>exact hg.elim
   case h_2 =>
    rename_i hlu;simp only[dAt,h0];refine⟨hd,false,?_,(fun e=>by cases e),fun _=>ih (k+1) _ hl' hg⟩;unfold gst;rw[hgu];simp only[hdo,hdn,if_true,hlu]
   rename_i b hlb;by_cases e:b=want
   ·subst e;refine c2r (heq _ _) (c4D hlb) ?_;simp only[dAt,h0];refine⟨hd,true,?_,fun _=>b2B (hg.1 rfl) fun v h a hv=>ih (k+1) _ hl' hv,fun e=>by cases e⟩;unfold gst;rw[hgu];simp only[hdo,hdn,if_true,b1Z];simp
   ·have e':b = !want:=by cases b <;> cases want <;> simp_all
    subst e';refine c2r (heq _ _) (c4D hlb) ?_;simp only[dAt,h0];refine⟨hd,false,?_,(fun e=>by cases e),fun _=>ih (k+1) _ hl' (hg.2 rfl)⟩;unfold gst;rw[hgu];simp only[hdo,hdn,if_true,b1Z];simp
theorem d6s{hb ab:Nat}{s:St}{Q:VEx→St→Prop}{id:Nat}(hm:E.P.follows .mixedOrders=true)(hB:d8t ops cs=true)(h:b6v E n ops cs 0 ops s (Q .normal)) :
  Snd E hb ab n (.region id ops.toArray true) s Q:=by
 intro B G a w h1 h2 h3 h4;have h5:Rel E G s B.w0 n a { w with drawn:=w.drawn+1 }:=⟨h4.rw.drew _,h4.rt,h4.df⟩
 refine wp_region_any hm ?_;have hlex:=f4Q (E:=E) (n:=n) (ops:=ops) (cs:=cs) (Q:=fun s=>∃ t,St.eqv t s∧Q .normal t) (fun s t he ⟨u,hu,hq⟩=>⟨u,⟨fun i=>(hu.1 i).trans (he.1 i),hu.2.1.trans he.2.1,hu.2.2.trans he.2.2⟩,hq⟩) ops 0 s (fun j=>by simp)
  (by
   have mono:∀ (l:List Oper) (k:Nat) (s:St) (M M':St→Prop),(∀ s,M s→M' s)→b6v E n ops cs k l s M→b6v E n ops cs k l s M':=by
    intro l;induction l with
    | nil=>intro k s M M' hm h;exact hm _ h
    | cons o l ih =>
     intro k s M M' hm h;obtain⟨h0,h⟩:=h;refine⟨h0,?_⟩;split
     ·rename_i hg;rw[hg]at h;exact b2B h fun _ _ _=>ih _ _ _ _ hm
     ·rename_i j want hg;rw[hg]at h;simp only at h;split
      ·rename_i d hd;rw[hd]at h;refine⟨h.1,?_⟩;have h':=h.2;split
       ·rename_i b hb;rw[hb]at h';exact⟨fun e=>b2B (h'.1 e) fun _ _ _=>ih _ _ _ _ hm,fun e=>ih _ _ _ _ hm (h'.2 e)⟩
       ·rename_i hb;rw[hb]at h';exact ih _ _ _ _ hm h'
       ·rename_i hno hno';split at h'
        ·rename_i b hb;exact absurd hb (hno b)
        ·rename_i hb;exact absurd hb hno'
        ·exact h'
      ·rename_i hd;rw[hd]at h;exact h
   exact mono _ _ _ _ _ (fun t ht=>⟨t,.refl _,ht⟩) h)
 have hany:=c1L (E:=E) (n:=n) (cs:=cs) (Q:=fun s=>∃ t,St.eqv t s∧Q .normal t) (fun s t he ⟨u,hu,hq⟩=>⟨u,⟨fun i=>(hu.1 i).trans (he.1 i),hu.2.1.trans he.2.1,hu.2.2.trans he.2.2⟩,hq⟩) ops.length 0 (Array.replicate ops.length false) s
  (fun j o ho hj=>by
   have:(Array.replicate ops.length false).getD j false=false:=by simp[h1w,Array.getElem?_replicate];split <;> rfl
   rw[this]at hj;cases hj) (by simp) hB hlex
 have:=b4F (w0:=B.w0) (QQ:=f0K E n B Q) ops.length _ s G a _ h5 hany (fun s' G' a' w' ⟨t,ht,hq⟩ q2 q3 => .inl ⟨.normal,t,G',rfl,hq,by rw[ht.2.2];exact h3.trans q2,⟨by rw[ht.2.1,ht.2.2];exact q3.rw,⟨fun i=>by
   show RV _ _ _ (b1Z t.tmps i) _;rw[ht.1 i,ht.2.2];exact q3.rt.tm i,q3.rt.sz⟩,q3.df⟩⟩)
  fun ch a' w' q1 q2 => .inr ⟨ch,rfl,q1,q2.ext h3⟩
 simpa using this
end
end Go.Vg
namespace Go.Vg
open Go.RowKit
def c5R(E:Env)(n:Nat)(ops:List Oper)(cs:List Nat)(k:Nat)(r:List Oper)(d:Option Nat)(M:St→Prop)(tm:List (Nat×V)):b1y:=fun v h a=>b6v E n ops cs k r (St.put ⟨tm,h,a⟩ d v) M
def c8B(E:Env)(n:Nat)(ops:List Oper)(cs:List Nat)(k:Nat)(r:List Oper)(op:Op)(dst:Option Nat)(s:St)(M:St→Prop)(d:Nat)(want:Bool)(x:V):Prop :=
 match x with
 | .bool b=>(b=want→b1m E (cs.contains k) ⟨(d,.bool want)::s.tmps,s.heap,s.arr⟩ op (c5R E n ops cs (k+1) r dst M ((d,.bool want)::s.tmps))) ∧
   (b = !want→c5R E n ops cs (k+1) r dst M ((d,.bool (!want))::s.tmps) (.tuple []) s.heap s.arr)
 | .tuple []=>c5R E n ops cs (k+1) r dst M s.tmps (.tuple []) s.heap s.arr
 | _=>False
def g2Y(E:Env)(n:Nat)(ops:List Oper)(cs:List Nat)(k:Nat)(r:List Oper)(op:Op)(dst:Option Nat)(s:St)(M:St→Prop)(want:Bool)(o:Option Nat):Prop :=
 match o with
 | some d=>d<n∧c8B E n ops cs k r op dst s M d want (b1Z s.tmps d)
 | none=>False
def f6D(E:Env)(c:Bool)(x:V)(args:List V)(heap:List VObj)(arr:List Nat)(K:b1y):Prop:=match x with
 | .func fid caps=>b0t E.P fid=true∧if c=true then b0q E fid (args++caps) heap arr K else vPC E fid (args++caps) heap arr K
 | .meth fid xs=>b0t E.P fid=true∧if c=true then b0q E fid (xs++args) heap arr K else vPC E fid (xs++args) heap arr K
 | _=>False
def d7w(d:Option TypeDesc)(x:V)(K:V→Prop):Prop:=match d,x with
 | some .string,.str s=>K (.int .i64 s.size)
 | some (.slice _),.slice _ _ es=>K (.int .i64 es.length)
 | some (.slice _),.mslice _ _ len _ _=>K (.int .i64 len)
 | some (.slice _),.vec _ _ _ len _=>K (.int .i64 len)
 | _,_=>False
theorem b0L{E:Env}{f:FuncId}{args cargs:List V}{h:List VObj}{a:List Nat}{r:V}{K:b1y}(hp:b0s E f cargs r)(ha:args.map share=cargs)(hk:K r h a):vPC E f args h a K:=⟨r,⟨_,.inl ha,hp⟩,hk⟩
theorem vPd{E:Env}{f:FuncId}{args cargs:List V}{h:List VObj}{a:List Nat}{r:V}{K:b1y}(hp:b0s E f cargs r)(hk:K r h a)(ha:args.map share=cargs:=by simp -implicitDefEqProofs only[go_sem]):vPC E f args h a K:=b0L hp ha hk
@[go_sem] theorem g7T{e:TypeId}{es:List (List V)}:jk1 (sl e es)=sl e es:=by cases es <;> rfl
@[go_sem] theorem f9Q{i:Nat}:jk1 (.map i) = .junk:=rfl
section
variable {E : Env} {n k j d : Nat} {ops r : List Oper} {cs : List Nat} {M : St → Prop} {tm : List (Nat × V)} {h : List VObj} {ar : List Nat} {K : b1y} {v : V} {op : Op} {dst : Option Nat} {b c want : Bool} {t t' : TypeId} {x y z : Operand}
theorem d0s{s:St}:b6v E n ops cs k [] s M=M s:=rfl
theorem c8O{ty:TypeId}{pos:String}{after:Array Edge}:b6v E n ops cs k (⟨dst,op,ty,pos,after,none⟩::r) ⟨tm,h,ar⟩ M =
  (c3A n ⟨dst,.move (.tmp 0),ty,pos,after,none⟩=true∧b1m E (cs.contains k) ⟨tm,h,ar⟩ op (c5R E n ops cs (k+1) r dst M tm)):=rfl
theorem c6A{ty:TypeId}{pos:String}{after:Array Edge}:b6v E n ops cs k (⟨dst,op,ty,pos,after,some (j,want)⟩::r) ⟨tm,h,ar⟩ M =
  (c3A n ⟨dst,.move (.tmp 0),ty,pos,after,none⟩=true∧g2Y E n ops cs k r op dst ⟨tm,h,ar⟩ M want (b5Y ops j)):=by
 simp only[b6v,g2Y];congr 1
@[go_sem] theorem f4i:c5R E n ops cs k r none M tm v h ar=b6v E n ops cs k r ⟨tm,h,ar⟩ M:=rfl
@[go_sem] theorem f4X:c5R E n ops cs k r (some d) M tm v h ar=b6v E n ops cs k r ⟨(d,v)::tm,h,ar⟩ M:=rfl
@[go_sem] theorem f4M:g2Y E n ops cs k r op dst ⟨tm,h,ar⟩ M want (some d)=(d<n∧c8B E n ops cs k r op dst ⟨tm,h,ar⟩ M d want (b1Z tm d)):=rfl
@[go_sem] theorem g7d:c8B E n ops cs k r op dst ⟨tm,h,ar⟩ M d true (.bool b)=((b=true→b1m E (cs.contains k) ⟨(d,.bool true)::tm,h,ar⟩ op (c5R E n ops cs (k+1) r dst M ((d,.bool true)::tm))) ∧
 (b=false→c5R E n ops cs (k+1) r dst M ((d,.bool false)::tm) (.tuple []) h ar)):=rfl
@[go_sem] theorem g6Y:c8B E n ops cs k r op dst ⟨tm,h,ar⟩ M d false (.bool b)=((b=false→b1m E (cs.contains k) ⟨(d,.bool false)::tm,h,ar⟩ op (c5R E n ops cs (k+1) r dst M ((d,.bool false)::tm))) ∧
 (b=true→c5R E n ops cs (k+1) r dst M ((d,.bool true)::tm) (.tuple []) h ar)):=rfl
@[go_sem] theorem g7D:c8B E n ops cs k r op dst ⟨tm,h,ar⟩ M d want (.tuple [])=c5R E n ops cs (k+1) r dst M tm (.tuple []) h ar:=rfl
@[go_sem high] theorem f9Z:c8B E n ops cs k r op dst ⟨tm,h,ar⟩ M d true (.bool true)=b1m E (cs.contains k) ⟨(d,.bool true)::tm,h,ar⟩ op (c5R E n ops cs (k+1) r dst M ((d,.bool true)::tm)):=by simp[c8B]
@[go_sem high] theorem g4V:c8B E n ops cs k r op dst ⟨tm,h,ar⟩ M d true (.bool false)=c5R E n ops cs (k+1) r dst M ((d,.bool false)::tm) (.tuple []) h ar:=by simp[c8B]
@[go_sem high] theorem g3C:c8B E n ops cs k r op dst ⟨tm,h,ar⟩ M d false (.bool false)=b1m E (cs.contains k) ⟨(d,.bool false)::tm,h,ar⟩ op (c5R E n ops cs (k+1) r dst M ((d,.bool false)::tm)):=by simp[c8B]
@[go_sem high] theorem g3r:c8B E n ops cs k r op dst ⟨tm,h,ar⟩ M d false (.bool true)=c5R E n ops cs (k+1) r dst M ((d,.bool true)::tm) (.tuple []) h ar:=by simp[c8B]
attribute [go_sem ↓] d0s c8O c6A
variable {s : St}
theorem d4s:b1m E c s (.move x) K=vop E s (.move x) K:=rfl
theorem c8Y:b1m E c s (.assign x) K=vop E s (.assign x) K:=rfl
theorem d7a:b1m E c s (.pick x y z) K=vop E s (.pick x y z) K:=rfl
theorem d0W:b1m E c s (.alloc t) K=vop E s (.alloc t) K:=rfl
theorem d9v:b1m E c s (.box t x) K=vop E s (.box t x) K:=rfl
theorem d1f{ps:Array (Nat×Operand)}:b1m E c s (.build t ps) K=vop E s (.build t ps) K:=rfl
theorem c0W{m:Nat}{ps:Array (Nat×Operand)}:b1m E c s (.buildSlice t m ps) K=vop E s (.buildSlice t m ps) K:=rfl
theorem d7i:b1m E c s (.load t x) K=vop E s (.load t x) K:=rfl
theorem d0T:b1m E c s (.store t x y) K=vop E s (.store t x y) K:=rfl
theorem c3Q:b1m E c s (.nilCheck x) K=vop E s (.nilCheck x) K:=rfl
theorem f1J{o:BinOp}:b1m E c s (.binOp o t x y t') K=vop E s (.binOp o t x y t') K:=rfl
theorem f5g{o:UnOp}:b1m E c s (.unOp o t x) K=vop E s (.unOp o t x) K:=rfl
theorem c5I:b1m E c s (.convert t t' x) K=vop E s (.convert t t' x) K:=rfl
theorem c4k{f:Fn}{l m:Array Operand}:b1m E c s (.makeFunc f l m) K=vop E s (.makeFunc f l m) K:=rfl
def g5Y(E:Env)(b c:Bool)(h:List VObj)(ar:List Nat)(t:TypeId)(x:V)(lo hi mx:Option V)(K:b1y):Prop:=match b,c with
 | true,true=>False
 | _,_=>vSlice E t x lo hi mx (kv K h ar)
theorem d2P{lo hi mx:Option Operand}:b1m E c ⟨tm,h,ar⟩ (.slice t x lo hi mx) K=g5Y E (E.vecT t) (b6J (ev E tm x) (evO E tm lo) (evO E tm hi) (evO E tm mx)) h ar t (ev E tm x) (evO E tm lo) (evO E tm hi) (evO E tm mx) K:=by
 have e:∀ o:Option Operand,o.map (ev E tm)=evO E tm o:=fun o=>by cases o <;> rfl
 simp only[b1m,e];unfold g5Y;cases E.vecT t <;> cases b6J (ev E tm x) (evO E tm lo) (evO E tm hi) (evO E tm mx) <;> simp <;> rfl
theorem c3x{f:Nat}:b1m E c s (.fieldAddr t x f) K=vop E s (.fieldAddr t x f) K:=rfl
theorem d3B{f:Nat}:b1m E c s (.field t x f) K=vop E s (.field t x f) K:=rfl
theorem c2S:b1m E c s (.indexAddr t x y) K=vop E s (.indexAddr t x y) K:=rfl
theorem d3Y:b1m E c s (.index t x y) K=vop E s (.index t x y) K:=rfl
theorem c5Z{f:Nat}:b1m E c s (.extract x f) K=vop E s (.extract x f) K:=rfl
theorem d5j{f:Operand}{g9X:List Operand}{tys:Array TypeId}:b1m E c ⟨tm,h,ar⟩ (.call ⟨.value f,g9X.toArray,tys⟩) K=f6D E c (ev E tm f) (evL E tm g9X) h ar K:=rfl
theorem f0A{ty:TypeId}{tys:List TypeId}:b1m E c ⟨tm,h,ar⟩ (.call ⟨.builtin .len,#[x],(ty::tys).toArray⟩) K=vLenC E ty (ev E tm x) (kv K h ar):=by
 simp only[b1m,List.getElem?_toArray,List.getElem?_cons_zero];rfl
theorem c8Q:b1m E c ⟨tm,h,ar⟩ (.call ⟨.builtin .append,#[x,y],#[t,t']⟩) K=d9S E h ar t t' (ev E tm x) (ev E tm y) K:=rfl
theorem d4X:b1m E c ⟨tm,h,ar⟩ (.call ⟨.builtin .copy,#[x,y],#[t,t']⟩) K=c6w E h t t' (ev E tm x) (ev E tm y) (fun r h'=>K r h' ar):=rfl
attribute [go_sem ↓] d4X
theorem c9v{ok:Bool}:b1m E c s (.lookup t x y ok) K=vop E s (.lookup t x y ok) K:=rfl
theorem c3u:b1m E c s (.mapUpdate t x y z) K=vop E s (.mapUpdate t x y z) K:=rfl
theorem c8E:b1m E c s (.insert t x y z) K=vop E s (.insert t x y z) K:=rfl
theorem c5J{r:Option Operand}:b1m E c s (.makeMap t r) K=vop E s (.makeMap t r) K:=rfl
theorem c3a:b1m E c s (.makeSlice t x y) K=vop E s (.makeSlice t x y) K:=rfl
theorem f0H{tys:Array TypeId}:b1m E c ⟨tm,h,ar⟩ (.call ⟨.builtin .min,#[x,y],tys⟩) K=vMin (ev E tm x) (ev E tm y) (kv K h ar):=rfl
theorem f1C{tys:Array TypeId}:b1m E c ⟨tm,h,ar⟩ (.call ⟨.builtin .max,#[x,y],tys⟩) K=vMax (ev E tm x) (ev E tm y) (kv K h ar):=rfl
theorem d5H:b1m E c s (.makeInterface t x) K=vop E s (.makeInterface t x) K:=rfl
attribute [go_sem ↓] d5H
attribute [go_sem ↓] c9v c3u c8E c5J c3a f0H f1C d4s c8Y d7a d0W d9v d1f c0W d7i d0T c3Q f1J f5g c5I c4k d2P c3x d3B c2S d3Y c5Z d5j f0A c8Q
variable {K : V → Prop} {caps g9X : List V} {f : FuncId}
@[go_sem] theorem f6w{K:b1y}:f6D E false (.func f caps) g9X h ar K=(b0t E.P f=true∧vPC E f (g9X++caps) h ar K):=by simp[f6D]
@[go_sem] theorem f5C{K:b1y}:f6D E true (.func f caps) g9X h ar K=(b0t E.P f=true∧b0q E f (g9X++caps) h ar K):=by simp[f6D]
@[go_sem] theorem g3t{x:V}:vLenC E t x K=d7w (E.P.underlying t) x K:=rfl
@[go_sem] theorem f5c{e e':Nat}{es:List (List V)}:d7w (some (.slice e)) (sl e' es) K=K (.int .i64 es.length):=rfl
end
attribute [go_sem] List.contains_nil List.contains_cons Bool.or_false Bool.or_true h0Y Bool.true_or h0r Bool.true_eq_false
end Go.Vg
namespace Go.Vg
open Go.RowKit
theorem RV.oneCell{P:Program}{G:Gh}{arr:List Nat}{x:V}{v:Value}(h:RV P G arr x v)(hc:x.cell=true):v.oneCell'=true:=by
 obtain⟨h1,h2⟩:=h.cell_one hc;cases v <;> first | rfl | exact absurd rfl (h1 _) | exact absurd rfl (h2 _)
theorem RelW.freezeO{E:Env}{G:Gh}{heap:List VObj}{arr:List Nat}{w0:Base}{w:World}(h:RelW E G heap arr w0 w){id:Nat}{cs:List V}(hh:heap[id]? = some (.cells cs))(hc:cs.all V.cell=true) :
  ∃ G' b,G.φ[id]? = some b∧Ext G arr G' arr∧RelW E G' (heap.set id .dead) arr w0 w∧G'.φ=G.φ∧∀ (j:Nat) c,cs[j]? = some c→∃ u,G'.F b j=some u∧RV E.P G' arr c u:=by
 obtain⟨b,hb,c,e,g1,g2,g3⟩:=h.obj id _ hh;have hidl:=(h0b.1 hh).1;have hF0:∀ o,G.F b o=none:=fun o=>h.sep id b o hb (by rw[hh];simp)
 let G':Gh:=⟨fun b' o=>if b'=b then c[o]? else G.F b' o,G.φ,G.ρ⟩
 have hx:Ext G arr G' arr:=by
  refine⟨fun b' o v hv=>?_,fun _ _ h=>h,fun _ n h=>⟨n,h,h0q _,fun _=>rfl⟩⟩;show(if b'=b then c[o]? else G.F b' o)=_;rw[if_neg (fun e=>by subst e;rw[hF0]at hv;cases hv)];exact hv
 refine⟨G',b,hb,hx,⟨fun b' o v hv hlt=>h.newF b' o v ?_ hlt,fun g cs hg=>⟨(h.glob g cs hg).1,(h.glob g cs hg).2.mono hx⟩,h.below,fun b' o v hv=>?_,fun b' o v hv=>?_,fun i ob hi=>?_,by simp[G',h.lenφ],h.nod,fun i b' o hi hd=>?_,h.geφ,h.lenρ,fun k b' lo hi hk hlt=>?_,h.regd,h.fre,fun i t s b' hi hb'=>by
  by_cases ei:i=id
  ·subst ei;rw[h0i hidl]at hi;cases hi
  ·rw[h0m (Ne.symm ei)]at hi;exact(h.bld i t s b' hi hb').keep rfl fun g hg ⟨s1,s2,s3⟩=>⟨rfl,fun o=>by
    show(if g=b then c[o]? else G.F g o)=none;rw[if_neg (fun e=>s2 id (by rw[e];exact hb))];exact s1 o,s2,s3⟩,h.ini,h.vs.keep hx (fun i k gen e cs hi=>by
   by_cases ei:i=id
   ·subst ei;rw[h0i hidl]at hi;cases hi
   ·rwa [h0m (Ne.symm ei)]at hi) (fun _ _ _ _ h _ _=>h) fun _ _ _ _ _ _ _ _ _=>rfl⟩,rfl,fun j x hj=>?_⟩
 ·change (if b'=b then c[o]? else G.F b' o)=some v at hv
  rw[if_neg (fun e=>by have:=(h.geφ id b hb).1;omega)]at hv;exact hv
 ·change (if b'=b then c[o]? else G.F b' o)=some v at hv
  by_cases eb:b'=b
  ·rw[if_pos eb]at hv;subst eb;simp only[World.cell?,g1,h0y,h0r,if_false];exact hv
  ·rw[if_neg eb]at hv;exact h.frz _ _ _ hv
 ·change (if b'=b then c[o]? else G.F b' o)=some v at hv
  by_cases eb:b'=b
  ·rw[if_pos eb]at hv;have ho:o<cs.length:=by rw[←g2];exact(h0B.1 hv).1
   obtain⟨u,hu,hr⟩:=g3 o _ (h0f ho);rw[hv]at hu;cases hu
   exact hr.oneCell (List.all_eq_true.1 hc _ (List.getElem_mem ho))
  ·rw[if_neg eb]at hv;exact h.one _ _ _ hv
 ·by_cases ei:i=id
  ·subst ei;rw[h0i hidl]at hi;cases hi
   exact⟨b,hb,trivial⟩
  ·rw[h0m (Ne.symm ei)]at hi;obtain⟨b',hb',hr⟩:=h.obj i ob hi;exact⟨b',hb',hr.keep hx rfl⟩
 ·show(if b'=b then c[o]? else G.F b' o)=none;by_cases ei:i=id
  ·subst ei;rw[h0i hidl]at hd;exact absurd rfl hd
  ·rw[h0m (Ne.symm ei)]at hd;rw[if_neg (fun e=>ei (h.nod i id b' hi (by rw[e];exact hb)))];exact h.sep i b' o hi hd
 ·obtain⟨r1,r2,r3,r4⟩:=h.reg k b' lo hi hk hlt;refine⟨r1,fun i hi ob hob=>?_,fun o h1 h2=>?_,r4⟩
  ·by_cases ei:i=id
   ·subst ei;rw[h0i hidl]at hob;cases hob;rfl
   ·rw[h0m (Ne.symm ei)]at hob;exact r2 i hi ob hob
  show(if b'=b then c[o]? else G.F b' o)=none;rw[if_neg (fun e=>by have:=r2 id (by rw[e];exact hb) _ hh;cases this)];exact r3 o h1 h2
 ·obtain⟨u,hu,hr⟩:=g3 j x hj;exact⟨u,by show(if b=b then c[j]? else _)=_;rw[if_pos rfl];exact hu,hr.mono hx⟩
def b3a(sz:Nat):Nat→List V→List (List V)
 | 0,_=>[]
 | n+1,cs=>cs.take sz::b3a sz n (cs.drop sz)
theorem b5O(sz:Nat):∀ (n:Nat) (cs:List V),(b3a sz n cs).length=n
 | 0,_=>rfl
 | n+1,cs=>by simp[b3a,b5O sz n]
theorem b5C(sz:Nat):∀ (n:Nat) (cs:List V) (i:Nat) el,n * sz≤cs.length→(b3a sz n cs)[i]? = some el→el.length=sz∧∀ (j:Nat) c,el[j]? = some c→cs[i * sz+j]? = some c
 | 0,_,i,el,_,h=>by simp[b3a]at h
 | n+1,cs,i,el,hl,h=>by
  rw[h0V,Nat.one_mul]at hl;cases i with
  | zero =>
   simp[b3a]at h;subst h;refine⟨by simp;omega,fun j c hj=>?_⟩;obtain⟨h1,h2⟩:=b1d hj;simpa using h2
  | succ i =>
   simp only[b3a,g9Y]at h;obtain⟨h1,h2⟩:=b5C sz n (cs.drop sz) i el (by simp;omega) h;refine⟨h1,fun j c hj=>?_⟩;have:=h2 j c hj;rw[h1d]at this;rw[←this];congr 1;rw[h0V];omega
theorem RV.thaw{P:Program}{G G':Gh}{arr:List Nat}{id len cap e b:Nat}{cs:List V}{v:Value}(h:RV P G arr (.mslice id 0 len cap e) v)(hb:G.φ[id]? = some b)(hok:b0W P e=true)(hl:len * P.cellsOf e≤cs.length)
  (hc:∀ (j:Nat) c,cs[j]? = some c→∃ u,G'.F b j=some u∧RV P G' arr c u):RV P G' arr (Vg.sl e (b3a (P.cellsOf e) len cs)) v:=by
 obtain⟨i,z,hi,hz,hz1,hzs,his,hib,hs1,hb1,hb2⟩:=b2J hok;cases h with
 | mslice _ _ _ _ _ b' hb' h1 h2 h3 =>
  rw[hb]at hb';cases hb'
  have hlen:=b5O (P.cellsOf e) len cs;have:=RV.ofCells (P:=P) (G:=G') (arr:=arr) (o := .shared) (e:=e) (es:=b3a (P.cellsOf e) len cs) (b:=b) (off:=0) (cap:=cap) trivial (fun i el hi=>(b5C _ _ _ _ _ hl hi).1) (by rw[hlen];exact h3) hb1 (by rw[hlen];exact h2)
   (fun i el j c hi hj=>by
    obtain⟨u,hu,hr⟩:=hc _ _ ((b5C _ _ _ _ _ hl hi).2 j c hj);exact⟨u,by rw[h0w];exact hu,hr⟩)
  rw[hlen]at this;exact this.sl
def f8Q(P:Program)(o:Option VObj)(len e:Nat)(r:V):Prop:=match o with
 | some (.cells cs)=>cs.all V.cell=true∧b0W P e=true∧len * P.cellsOf e≤cs.length∧sl e (b3a (P.cellsOf e) len cs)=r
 | _=>False
def f4J(P:Program)(h:List VObj)(v r:V):Prop:=match v with
 | .mslice id 0 len _ e=>f8Q P h[id]? len e r
 | v=>share v=r
def f7U(P:Program)(r:V):b1y:=fun v h _=>f4J P h v r
section
variable {P : Program} {r v : V} {h : List VObj} {a : List Nat} {id len cap e : Nat} {o : Own} {es : List (List V)}
@[go_sem] theorem g3x:f7U P r v h a=f4J P h v r:=rfl
@[go_sem] theorem g0m:f4J P h (.mslice id 0 len cap e) r=f8Q P h[id]? len e r:=rfl
@[go_sem] theorem f2s{cs:List V}:f8Q P (some (.cells cs)) len e r=(cs.all V.cell=true∧b0W P e=true∧len * P.cellsOf e≤cs.length∧sl e (b3a (P.cellsOf e) len cs)=r):=rfl
@[go_sem] theorem f3D:f4J P h (.slice o e es) r=(sl e es=r):=rfl
end
theorem d3i{E:Env}{f:FuncId}{fn:Func}{c:Code}{args:List V}{r:V}(hf:E.P.funcs[f]? = some fn)(hbody:fn.body=some c)(hn:args.length≤fn.ntmps)(hp:b0Y args=true)(hr:r.pure=true)
  (h:vc E 0 0 fn.ntmps c ⟨b9v 0 args,[],[]⟩ (d8j E fn.results.toList (f7U E.P r))) (hal:E.alive=E:=by exact rfl):b0s E f args r:=by
 refine⟨hp,hr,?_⟩;have:=b0y (heap:=[]) (arr:=[]) (K:=f7U E.P r) hf hbody hn h;rw[←hal]at this;intro G w0 w vals hrel ha;refine(this G w0 w vals hrel ha).mono fun e w' hg=>?_
 obtain⟨val,he,v,heap',arr',G',hv,hx,hr',hrv⟩:=hg.alive;unfold f7U f4J at hv;split at hv
 ·rename_i id len cap el;unfold f8Q at hv;split at hv
  ·rename_i cs hh;obtain⟨h1,h2,h3,rfl⟩:=hv;obtain⟨G'',b,hb,hx'',hr'',hφ,hc⟩:=hr'.freezeO hh h1;exact .inl ⟨val,he,_,_,arr',G'',rfl,hx.trans hx'',hr'',hrv.thaw hb h2 h3 hc⟩
  ·exact hv.elim
 ·exact .inl ⟨val,he,share v,heap',arr',G',hv,hx,hr',hrv.share⟩
def frV(P:Program)(id:Nat)(cs:List V):V→V
 | .mslice i off len cap e=>if i=id then(if off=0∧b0W P e=true∧len * P.cellsOf e≤cs.length then sl e (b3a (P.cellsOf e) len cs)else .junk)else .mslice i off len cap e
 | x=>x
def frT(P:Program)(id:Nat)(cs:List V)(tm:List (Nat×V)):List (Nat×V):=tm.map fun p=>(p.1,frV P id cs p.2)
theorem d7j{P:Program}{id:Nat}{cs:List V}:∀ (tm:List (Nat×V)) (i:Nat),b1Z (frT P id cs tm) i=frV P id cs (b1Z tm i):=by
 intro tm;induction tm with
 | nil=>intro i;rfl
 | cons p r ih =>
  obtain⟨j,x⟩:=p;intro i;have:=ih i;simp only[frT,h0s,b1Z]at this ⊢;split
  ·rfl
  ·exact this
theorem RV.frV{P:Program}{G G':Gh}{arr:List Nat}{id b:Nat}{cs:List V}{x:V}{v:Value}(h:RV P G arr x v)(hx:Ext G arr G' arr)(hb:G.φ[id]? = some b)
  (hc:∀ (j:Nat) c,cs[j]? = some c→∃ u,G'.F b j=some u∧RV P G' arr c u):RV P G' arr (frV P id cs x) v:=by
 cases x
 case mslice i off len cap e =>
  simp only[Vg.frV];split
  ·rename_i ei;subst ei;split
   ·rename_i hh;obtain⟨rfl,h1,h2⟩:=hh;exact h.thaw hb h1 h2 hc
   ·exact .junk _
  ·exact h.mono hx
 all_goals exact h.mono hx
section
variable {h l m : List VObj} {a b : List Nat} {i j k n n' : Nat} {x : VObj}
@[go_sem] theorem f7l:(h++l).length=h.length+l.length:=h0h
@[go_sem] theorem f8z:(h++l)++m=h++(l++m):=h0x _ _ _
@[go_sem] theorem g3k:(h++l)[h.length]? = l[0]?:=by rw[h0g (h0q _)];simp
@[go_sem] theorem f8s:(h++l)[h.length+i]? = l[i]?:=by rw[h0g (by omega)];simp
@[go_sem] theorem f9A:(h++l).set h.length x=h++l.set 0 x:=by rw[h0N _ _ (h0q _)];simp
@[go_sem] theorem f4P:(h++l).set (h.length+i) x=h++l.set i x:=by rw[h0N _ _ (by omega)];simp
@[go_sem] theorem f4H:n+0=n:=rfl
@[go_sem] theorem f1Z:(a.set k n).set k n'=a.set k n':=List.set_set ..
theorem c2p(h:a[k]? = some n):(a.set k n')[k]? = some n':=h0i (h0b.1 h).1
@[go_sem] theorem f1h:(a.set k n).length=a.length:=List.length_set
theorem b0r{N:Nat}:∀ {h:List VObj},b5w N h h
 | []=>trivial
 | x::r=>⟨by rw[b6i];trivial,b0r⟩
@[go_sem] theorem f3z{N:Nat}:b5w N h h=True:=eq_true b0r
@[go_sem] theorem f5B{N:Nat}:b5w N (h++l) (h++m)=b5w N l m:=by
 induction h with
 | nil=>rfl
 | cons x r ih =>
  show(b6M N x x∧b5w N (r++l) (r++m))=_;rw[b6i,true_and,ih]
@[go_sem] theorem b2o:b8I a a=True:=by
 induction a with
 | nil=>rfl
 | cons x r ih=>show(x=x∧b8I r r)=True;rw[ih];simp
@[go_sem] theorem g8k:n≤n+k:=Nat.le_add_right _ _
end
def g0i(hb ab:Nat)(t:St)(Q:VEx→St→Prop):VEx→St→Prop:=c4U (fun s=>c5u hb ab s t) Q
section
variable {E : Env} {hb ab n i : Nat} {s t : St} {Q : VEx → St → Prop} {x y : Code}
@[go_sem] theorem f0M:g0i hb ab t Q .normal s=c5u hb ab s t:=rfl
@[go_sem] theorem f6Z:g0i hb ab t Q .ret s=Q .ret s:=rfl
theorem c3h(t:St)(hx:vc E hb ab n x s (g0i hb ab t Q))(hy:Snd E hb ab n y t Q):Snd E hb ab n (.seq x y) s Q :=
 d2w (fun s'=>c5u hb ab s' t) ((b5p _ _ _ hx).mono fun e s' h=>by cases e <;> exact h) fun s' h=>c7I h.weak hy
end
theorem d2F{E:Env}{f:FuncId}{fn:Func}{c:Code}{args:List V}{r:V}(hf:E.P.funcs[f]? = some fn)(hbody:fn.body=some c)(hn:args.length≤fn.ntmps)(hp:b0Y args=true)(hr:r.pure=true)
  (h:Snd E 0 0 fn.ntmps c ⟨b9v 0 args,[],[]⟩ (d8j E fn.results.toList (f1r r))) (hal:E.alive=E:=by exact rfl):b0s E f args r :=
 c8e hf hbody hn hp hr h hal
end Go.Vg
namespace Go.Vg
open Go.RowKit
theorem RelW.belowW{E:Env}{G:Gh}{heap:List VObj}{arr:List Nat}{w0:Base}{w w':World}(h:RelW E G heap arr w0 w)(hb:Below w.heap.size w w'):RelW E G heap arr w0 w':=by
 have hs:=hb.size;refine⟨h.newF,h.glob,h.below.trans (hb.mono h.below.size),fun b o v hv=>?_,h.one,fun id ob hi=>?_,h.lenφ,h.nod,h.sep,fun id b hb'=>?_,h.lenρ,fun k b lo hi hk hlt=>?_,h.regd,h.fre,h.bldA hb.block (fun _ _ hs=>hs),h.ini,h.vsK (Ext.refl _ _) (fun _ _ _ _ _ h=>h) (fun _ _ h _=>h) hb.block⟩
 ·have hc:=h.frz b o v hv;have hlt:b<w.heap.size:=by
   rcases h1A b w.heap.size with h' | h'
   ·exact h'
   ·simp[World.cell?,h1C h']at hc
  rw[hb.cell (p:=⟨b,o,none⟩) hlt];exact hc
 ·obtain⟨b,hb',hr⟩:=h.obj id ob hi;exact⟨b,hb',hr.keep (Ext.refl _ _) (hb.block b (h.geφ id b hb').2)⟩
 ·obtain⟨g1,g2⟩:=h.geφ id b hb';exact⟨g1,by omega⟩
 ·obtain⟨⟨c,e,r0,r1⟩,r2,r3,r4⟩:=h.reg k b lo hi hk hlt;have hb':b<w.heap.size:=by
   rcases h1A b w.heap.size with h' | h'
   ·exact h'
   ·simp[h1C h']at r0
  exact⟨⟨c,e,by rw[hb.block b hb'];exact r0,r1⟩,r2,r3,r4⟩
theorem RelW.iniW{E:Env}{G:Gh}{heap:List VObj}{arr:List Nat}{w0:Base}{w:World}(h:RelW E G heap arr w0 w):E.ini w:=E.iniM _ _ h.ini h.below
def b6P(E:Env)(lo hi:Option Int)(n:Nat)(C:Prop)(R:Nat→Nat→V)(K:V→Prop):Prop:=match lo,hi with
 | some l,some h=>(0≤l∧l≤h∧h≤n)∧C∧K (R l.toNat h.toNat)
 | _,_=>False
@[go_sem] theorem d7V{E:Env}{l h:Int}{n:Nat}{C:Prop}{R:Nat→Nat→V}{K:V→Prop}:b6P E (some l) (some h) n C R K=((0≤l∧l≤h∧h≤n)∧C∧K (R l.toNat h.toNat)):=rfl
def b8l(E:Env)(d:Option TypeDesc)(x:V)(lo hi mx:Option V)(K:V→Prop):Prop:=match d,x,mx with
 | some .string,.str s,none=>b6P E (b2x 0 lo) (b2x s.size hi) s.size True (fun l h => .str (s.extract l h)) K
 | some (.slice e),.slice _ e' es,none=>b6P E (b2x 0 lo) (b2x es.length hi) es.length ((es=[]∨e'=e)∧b0A E.P e=true) (fun l h=>sl e ((es.take h).drop l)) K
 | _,_,_=>False
@[go_sem] theorem f8a{E:Env}{t:TypeId}{x:V}{lo hi mx:Option V}{K:V→Prop}:vSlice E t x lo hi mx K=b8l E (E.P.underlying t) x lo hi mx K:=by
 unfold vSlice;generalize E.P.underlying t=d;split
 ·simp only[b8l];cases b2x 0 lo <;> cases b2x _ hi <;> simp[b6P]
 ·rename_i e e' es;simp only[b8l];cases b2x 0 lo <;> cases b2x (es.length:Int) hi <;> simp only[b6P]
  apply propext;constructor
  ·rintro⟨⟨a,b,c⟩,d⟩;exact⟨c,⟨a,b⟩,d⟩
  ·rintro⟨c,⟨a,b⟩,d⟩;exact⟨⟨a,b,c⟩,d⟩
 ·rename_i h1 h2;unfold b8l;split
  ·exact(h1 _ rfl rfl rfl).elim
  ·exact(h2 _ _ _ _ rfl rfl rfl).elim
  ·rfl
@[go_sem] theorem d9k{E:Env}{s:ByteArray}{lo hi:Option V}{K:V→Prop}:b8l E (some .string) (.str s) lo hi none K=b6P E (b2x 0 lo) (b2x s.size hi) s.size True (fun l h => .str (s.extract l h)) K:=rfl
@[go_sem] theorem d6N{E:Env}{o:Own}{e e':TypeId}{es:List (List V)}{lo hi:Option V}{K:V→Prop}:b8l E (some (.slice e)) (.slice o e' es) lo hi none K=b6P E (b2x 0 lo) (b2x es.length hi) es.length ((es=[]∨e'=e)∧b0A E.P e=true) (fun l h=>sl e ((es.take h).drop l)) K:=rfl
@[go_sem] theorem f1A{d:Int}:b2x d none=some d:=rfl
@[go_sem] theorem f3o{d:Int}{k:IntKind}{i:Int}:b2x d (some (.int k i))=some i:=rfl
@[go_sem] theorem f4w{α:Type}{a:α}{l m:List α}:List.append (a::l) m=a::List.append l m:=rfl
@[go_sem] theorem f9D{α:Type}{m:List α}:List.append [] m=m:=rfl
@[go_sem] theorem g9W{α:Type}{a b:α}:(if False then a else b)=b:=if_neg id
@[go_sem] theorem g9S{α:Type}{a b:α}:(if True then a else b)=a:=if_pos trivial
@[go_sem] theorem f5O{f:FuncId}{cs:List V}:(V.func f cs).pure=b0Y cs:=by simp[V.pure]
theorem b8a.cons{P:Program}{G:Gh}{arr:List Nat}{x:V}{l:List V}{vals:Array Value}(h:b8a P G arr (x::l) vals) :
  ∃ v vs,vals = #[v]++vs∧RV P G arr x v∧b8a P G arr l vs:=by
 obtain⟨h1,h2⟩:=h;simp only[h0o]at h1;have h0:0<vals.size:=by omega
 refine⟨vals[0],vals.extract 1 vals.size,?_,h2 0 x _ rfl (h0t h0),by simp;omega,fun j y v hy hv=>h2 (j+1) y v (by simpa using hy) ?_⟩
 ·apply Array.ext_getElem?;intro i;rw[Array.getElem?_append];split
  ·rename_i hi;have:i=0:=by simpa using hi
   subst this;simp[h0]
  ·rename_i hi;simp only[Array.size_singleton]at hi ⊢;rw[Array.getElem?_extract];split
   ·congr 1;omega
   ·rw[h1C (by omega)]
 ·rw[Array.getElem?_extract]at hv;split at hv
  ·rw[←hv];congr 1;omega
  ·cases hv
theorem b8a.nil{P:Program}{G:Gh}{arr:List Nat}{vals:Array Value}(h:b8a P G arr [] vals):vals = #[]:=Array.eq_empty_of_size_eq_zero h.1.symm
theorem b9h{E:Env}{f:FuncId}{args:List V}{r:V}{val:Value}(hp:b0Y args=true)(hr:r.pure=true)(hrv:∀ G arr,RV E.P G arr r val)
  (h:∀ G w0 w vals,RelW E.alive G [] [] w0 w→b8a E.P G [] args vals→Calls E.P f vals w fun e w'=>e = .returned val∧Below w.heap.size w w'):b0s E f args r:=by
 refine⟨hp,hr,fun G w0 w vals hrel ha=>(h G w0 w vals hrel ha).mono fun e w' ⟨he,hb⟩=>?_⟩;exact .inl ⟨val,he,r,[],[],G,rfl,Ext.refl _ _,hrel.belowW hb,hrv _ _⟩
end Go.Vg
namespace Go.Vg
open Go
inductive Nd where
 | mk (kind:Int) (text:ByteArray) (gaps:List ByteArray) (kids:List Nd)
def Nd.kind:Nd→Int | .mk k _ _ _=>k
def Nd.text:Nd→ByteArray | .mk _ t _ _=>t
def Nd.gaps:Nd→List ByteArray | .mk _ _ g _=>g
def Nd.kids:Nd→List Nd | .mk _ _ _ ks=>ks
def b0n(s:ByteArray):List V:=[.str s]
mutual
def Nd.enc:Nd→List V
 | .mk k t g ks=>[.int .i64 k,.str t,sl 9 (g.map b0n),sl 66 (Nd.encs ks)]
def Nd.encs:List Nd→List (List V)
 | []=>[]
 | n::r=>n.enc::Nd.encs r
end
@[go_sem] theorem c6T:∀ l,Nd.encs l=l.map Nd.enc
 | []=>rfl
 | n::r=>by rw[Nd.encs,c6T r];rfl
@[go_sem] theorem b8y{k t g ks}:(Nd.mk k t g ks).enc=[.int .i64 k,.str t,sl 9 (g.map b0n),sl 66 (ks.map Nd.enc)]:=by
 rw[Nd.enc,c6T]
@[go_sem] theorem b3z(n:Nd):n.enc.length=4:=by cases n;rfl
@[go_sem] theorem f7Z(n:Nd):List.take 4 n.enc=n.enc:=by cases n;rfl
@[go_sem] theorem d2M(n:Nd):List.map share1 n.enc=n.enc:=by cases n;simp -implicitDefEqProofs only[go_sem]
@[go_sem] theorem d5Q(n:Nd):n.enc.all V.cell=true:=by cases n;rfl
@[go_sem] theorem c3O:∀ l:List ByteArray,b0P (l.map b0n)=true
 | []=>rfl
 | n::r=>by show(b0Y _ && b0P (r.map b0n))=true;rw[c3O r];rfl
mutual
theorem c6F:∀ n:Nd,b0Y n.enc=true
 | .mk _ _ _ ks=>by simp -implicitDefEqProofs only[Nd.enc,go_sem];exact b8V ks
theorem b8V:∀ l:List Nd,b0P (l.map Nd.enc)=true
 | []=>rfl
 | n::r=>by simp only[h0s,b0P,c6F n,b8V r,Bool.and_self]
end
attribute [go_sem] c6F b8V
theorem Nd.all{P:Nd→Prop}(h:∀ k t g (ks:List Nd),(∀ x∈ks,P x)→P (.mk k t g ks)):∀ n,P n :=
 Nd.rec (motive_1:=P) (motive_2:=fun l=>∀ x∈l,P x) (fun k t g ks ih=>h k t g ks ih) (by simp) fun n r hn hr x hx=>by
  rcases h0C.1 hx with e | e
  ·exact e ▸ hn
  ·exact hr x e
theorem b1x{α:Type}{pre post:List α}{x:α}:x∈pre++x::post:=by simp
theorem b1W{s:ByteArray}{pre post:List UInt8}{x:UInt8}(h:s.data.toList=pre++x::post):b5q s (pre.length:Int)=x.toNat:=by
 have h1:s.data.toList[pre.length]? = some x:=by rw[h];simp
 have h2:s.data[pre.length]? = some x:=by simpa using h1
 unfold b5q;have h3:s[(Int.toNat (pre.length:Int))]? = some x:=by
  have:Int.toNat (pre.length:Int)=pre.length:=by simp
  rw[this];obtain⟨hl,hx⟩:=h0B.1 h2;have hl':pre.length<s.size:=hl;rw[getElem?_pos s pre.length hl'];exact congrArg some hx
 rw[h3]
theorem b3Q{s:ByteArray}:s.size=s.data.toList.length:=by simp
structure Shp where
 first:List (Int×Int)
 rk:Int
 rg:Int
 text:Int
 words:List ByteArray
 own:Int
def d5u(p:Int×Int):List V:=[.int .i64 p.1,.int .i64 p.2]
def Shp.enc(s:Shp):List V:=[sl 256 (s.first.map d5u),.int .i64 s.rk,.int .i64 s.rg,.int .i64 s.text,sl 9 (s.words.map b0n),.int .i64 s.own]
def c5N:List Shp:=[
 ⟨[],0,0,0,[],0⟩,
 ⟨[],0,1,0,[],1⟩,
 ⟨[(3,0),(5,0),(6,0)],0,0,1,[],2⟩,
 ⟨[],4,0,0,[],2⟩,
 ⟨[(5,0)],0,0,1,[],1⟩,
 ⟨[],0,0,1,[],1⟩,
 ⟨[],0,2,0,[],2⟩,
 ⟨[(8,0)],2,0,1,[],4⟩,
 ⟨[],0,0,2,[],2⟩,
 ⟨[(0,3)],0,0,1,[],4⟩,
 ⟨[(0,3)],0,0,1,[],4⟩,
 ⟨[(0,3)],0,0,1,[],3⟩,
 ⟨[(0,3)],0,0,0,[],2⟩,
 ⟨[(0,3),(6,0),(14,0)],0,0,0,[],1⟩,
 ⟨[(6,0)],0,0,0,[],1⟩,
 ⟨[(0,3),(6,0)],0,0,0,[],1⟩,
 ⟨[(0,3)],0,0,0,[],1⟩,
 ⟨[],0,0,3,[],1⟩,
 ⟨[],0,0,4,[⟨#[116,114,117,101]⟩,⟨#[102,97,108,115,101]⟩],1⟩,
 ⟨[],0,0,1,[],1⟩,
 ⟨[],0,3,1,[],3⟩,
 ⟨[(0,3)],0,3,1,[],4⟩,
 ⟨[],0,0,1,[],4⟩,
 ⟨[],0,0,4,[⟨#[115,101,108,102]⟩],1⟩,
 ⟨[(0,3),(0,3)],0,0,4,[⟨#[124]⟩,⟨#[38]⟩,⟨#[61,61]⟩,⟨#[60]⟩,⟨#[43]⟩,⟨#[45]⟩,⟨#[42]⟩,⟨#[47]⟩],1⟩,
 ⟨[(0,3)],0,0,4,[⟨#[45]⟩,⟨#[33]⟩],1⟩,
 ⟨[(0,3)],0,0,0,[],2⟩]
def c0o:List V:=(c5N.map Shp.enc).flatten
def Shp.zero:Shp:=⟨[],0,0,0,[],0⟩
def shp(k:Int):Shp:=c5N.getD k.toNat Shp.zero
theorem b3W{k:Int}(h:0≤k)(h':k<27):List.drop (k.toNat * 6) c0o=(shp k).enc++List.drop (k.toNat * 6+6) c0o:=by
 obtain⟨n,rfl⟩:=h0X h;have hn:n<27:=by omega
 simp only[Int.ofNat_eq_natCast,h0n,shp];have key:∀ (l:List Shp) (n:Nat),n<l.length→List.drop (n * 6) (l.map Shp.enc).flatten=(l.getD n Shp.zero).enc++List.drop (n * 6+6) (l.map Shp.enc).flatten:=by
  intro l;induction l with
  | nil=>intro n hn;simp at hn
  | cons x r ih =>
   intro n hn;have hx:x.enc.length=6:=rfl;cases n with
   | zero =>
    simp only[h0s,h1b,Nat.zero_mul,List.drop_zero,h0w];rw[←hx,List.drop_left];rfl
   | succ n =>
    have:=ih n (by simpa using hn);have e1:∀ m,List.drop (6+m) (x.enc++(List.map Shp.enc r).flatten)=List.drop m (List.map Shp.enc r).flatten:=fun m=>by
     rw[←hx,←h1y,List.drop_left]
    rw[h0s,h1b,show(n+1) * 6=6+n * 6 by omega,e1,this,show 6+n * 6+6=6+(n * 6+6)by omega,e1];rfl
 exact key c5N n hn
theorem b2Q{s:ByteArray}{l:List UInt8}(h:s.data.toList=l):s.size=l.length:=by rw[b3Q,h]
end Go.Vg
namespace Go.Proofs.YtighfcpaplmaiaaGreatDoor
open Go Go.Vg Go.Proofs
def iniW(w:World):Prop:=True
theorem d1L(w w':World)(h:iniW w)(hb:Go.RowKit.Below w.heap.size w w'):iniW w':=h
noncomputable def envD(D:List VObj→List Nat→Prop):Env:={ P:=Tryz.prog,gl:=fun g=>if g=0 then some c0o else none,tag:=fun t=>decide (t=999999),byteT:=5,ini:=iniW,iniM:=d1L,die:=D }
noncomputable def env:Env:=envD fun _ _=>False
@[go_sem] theorem g3W{t:TypeId}:env.tag t=decide (t=999999):=rfl
@[go_sem] theorem c8X:env.gl 0=some c0o:=rfl
@[go_sem] theorem f9s{t:TypeId}:env.vecT t=false:=rfl
@[go_sem] theorem g3K:env.P=Tryz.prog:=rfl
noncomputable def envV(tv:TypeId):Env:={ env with vecT:=fun t=>decide (t=tv) }
@[go_sem] theorem g8x{tv:TypeId}:(envV tv).P=Tryz.prog:=rfl
@[go_sem] theorem f7S{tv t:TypeId}:(envV tv).tag t=decide (t=999999):=rfl
@[go_sem] theorem f4o{tv t:TypeId}:(envV tv).vecT t=decide (t=tv):=rfl
theorem b0q.toE{E E':Env}(hP:E.P=E'.P)(hg:E.gl=E'.gl)(hB:E.byteT=E'.byteT)(hI:∀ w,E.ini w↔E'.ini w)(hd:∀ h a,E.die h a→E'.die h a){f:FuncId}{args:List V}{h:List VObj}{a:List Nat}{K:b1y}(hc:b0q E f args h a K) :
  b0q E' f args h a K:=by
 intro G w0 w vals hr ha;have h2:=(hc G w0 w vals (hr.env (E:=E') (E':=E) hP.symm hg.symm hB.symm (hI _).2) (hP ▸ ha)).mono fun e w' hgo=>show d9U E' G a w0 K e w' by
  rcases hgo with⟨val,he,v,heap',arr',G',h1,h2,h3,h4⟩ | ⟨ch,he,h0,heap',arr',G',h1,h2,h3⟩
  ·exact .inl ⟨val,he,v,heap',arr',G',h1,h2,h3.env (E:=E) (E':=E') hP hg hB (hI _).1,hP ▸ h4⟩
  ·exact .inr ⟨ch,he,h0,heap',arr',G',hd _ _ h1,h2,h3.env (E:=E) (E':=E') hP hg hB (hI _).1⟩
 exact hP ▸ h2
theorem b0q.toV{tv:TypeId}{f:FuncId}{args:List V}{h:List VObj}{a:List Nat}{K:b1y}(hc:b0q env f args h a K):b0q (envV tv) f args h a K :=
 b0q.toE (E:=env) (E':=envV tv) rfl rfl rfl (fun _=>Iff.rfl) (fun _ _ h=>h) hc
theorem b0q.ofV{tv:TypeId}{f:FuncId}{args:List V}{h:List VObj}{a:List Nat}{K:b1y}(hc:b0q (envV tv) f args h a K):b0q env f args h a K :=
 b0q.toE (E:=envV tv) (E':=env) rfl rfl rfl (fun _=>Iff.rfl) (fun _ _ h=>h) hc
theorem b0s.toV{tv:TypeId}{f:FuncId}{args:List V}{r:V}(h:b0s env f args r):b0s (envV tv) f args r :=
 ⟨h.1,h.2.1,b0q.toE (E:=env.alive) (E':=(envV tv).alive) rfl rfl rfl (fun _=>Iff.rfl) (fun _ _ h=>h) h.2.2⟩
theorem b0s.ofV{tv:TypeId}{f:FuncId}{args:List V}{r:V}(h:b0s (envV tv) f args r):b0s env f args r :=
 ⟨h.1,h.2.1,b0q.toE (E:=(envV tv).alive) (E':=env.alive) rfl rfl rfl (fun _=>Iff.rfl) (fun _ _ h=>h) h.2.2⟩
theorem b4c:env.P.follows .mixedOrders=true:=by
 rw[g3K];kernel_rfl
theorem sdq{E:Env}{n:Nat}{ops:List Oper}{hb ab:Nat}{s:St}{Q:VEx→St→Prop}{id:Nat}(h:b6v E n ops [] 0 ops s (Q .normal))(hB:d8t ops []=true:=by kernel_rfl)(hm:E.P.follows .mixedOrders=true:=by exact b4c):Snd E hb ab n (.region id ops.toArray true) s Q:=d6s hm hB h
end Go.Proofs.YtighfcpaplmaiaaGreatDoor
namespace Go.Vg
def b1K(c:Int):Bool:=decide (48≤c) && decide (c≤57)
def b3Y(c:Int):Bool:=decide (97≤c) && decide (c≤122) || decide (65≤c) && decide (c≤90) || decide (c=95)
def b9o(s:ByteArray):Bool:=decide (s=⟨#[102,110]⟩) || decide (s=⟨#[99,108,97,115,115]⟩) || decide (s=⟨#[99,111,110,115,116]⟩) || decide (s=⟨#[108,101,116]⟩) || decide (s=⟨#[114,101,116,117,114,110]⟩) || decide (s=⟨#[105,102]⟩) || decide (s=⟨#[101,108,115,101]⟩) || decide (s=⟨#[119,104,105,108,101]⟩)
 || decide (s=⟨#[110,101,119]⟩) || decide (s=⟨#[115,101,108,102]⟩) || decide (s=⟨#[116,114,117,101]⟩) || decide (s=⟨#[102,97,108,115,101]⟩)
def b6x(c:Int):Bool:=b3Y c || b1K c
def b0F(s:ByteArray):Bool := !decide ((s.size:Int)<1) && !decide (32<(s.size:Int)) && !b1K (b5q s 0) && !b9o s && s.data.toList.all fun c=>b6x c.toNat
theorem c0n{s:ByteArray}{x:UInt8}{r:List UInt8}(h:s.data.toList=x::r):b5q s 0=x.toNat:=b1W (pre:=[]) h
end Go.Vg
namespace Go.Proofs.YtighfcpaplmaiaaGreatDoor
open Go Go.Vg Go.Proofs
theorem c8a(c:Int):b0s env 242 [.int .u8 c] (.bool (b1K c)):=by
 refine b0i (fn:=Tryz.f242) Tryz.func242 rfl (by rw[Tryz.ntmps242];simp) rfl rfl ?_;simp -implicitDefEqProofs only[go_sem,Tryz.f242,b1K]
 grind
theorem d0K(c:Int):b0s env 244 [.int .u8 c] (.bool (b3Y c)):=by
 refine b0i (fn:=Tryz.f244) Tryz.func244 rfl (by rw[Tryz.ntmps244];simp) rfl rfl ?_;simp -implicitDefEqProofs only[go_sem,Tryz.f244,b3Y]
 grind
theorem c9C(s:ByteArray):b0s env 243 [.str s] (.bool (b9o s)):=by
 refine b0i (fn:=Tryz.f243) Tryz.func243 rfl (by rw[Tryz.ntmps243];simp) rfl rfl ?_;simp -implicitDefEqProofs only[go_sem,Tryz.f243,b9o];simp +contextual
theorem d4K(s:ByteArray):b0s env 231 [.str s] (.bool (b0F s)):=by
 refine b0i (fn:=Tryz.f231) Tryz.func231 rfl (by rw[Tryz.ntmps231];simp) rfl rfl ?_;simp -implicitDefEqProofs only[go_sem,Tryz.f231];intro hs;refine⟨fun a1 _=>⟨fun a2=>⟨by omega,?_⟩,fun a2=>?_⟩,fun a1=>?_⟩
 ·refine(c8a _).calls rfl ?_;simp -implicitDefEqProofs only[go_sem];refine⟨fun a3=>?_,fun a3=>?_⟩
  ·refine(c9C _).calls rfl ?_;simp -implicitDefEqProofs only[go_sem];refine⟨fun a4=>?_,fun a4=>?_⟩
   ·simp[b0F,a4]
   ·refine b0l (β:=Unit) s.data.toList (fun pre _=>⟨[(3,.int .i64 pre.length),(0,.str s)],[],[]⟩) (fun pre _ _=>pre.all fun c=>b6x c.toNat) () ?_ ?_ ?_ ?_
    ·simp -implicitDefEqProofs only[go_sem];trivial
    ·rfl
    ·intro _ i1;simp -implicitDefEqProofs only[go_sem,←b3Q];intro _;simp[b0F,a1,a2,a3,a4];simpa using i1
    ·rintro pre x post _ hx i1;have hz:=b2Q hx;simp -implicitDefEqProofs only[go_sem,hz,b1W hx];intro hl;refine(d0K _).calls rfl ?_;simp -implicitDefEqProofs only[go_sem,hz,b1W hx];have hnext:=b0g (b2t hl);refine⟨fun c=>(c8a _).calls rfl ?_,fun c=>⟨(),?_,hnext⟩⟩
     ·simp -implicitDefEqProofs only[go_sem];refine⟨fun d=>?_,fun d=>⟨(),?_,hnext⟩⟩
      ·have:(s.data.toList.all fun c=>b6x c.toNat)=false:=by rw[hx];simp_all [b6x]
       unfold b0F;rw[this];simp
      ·simp_all [b6x]
     ·simp_all [b6x]
  ·simp[b0F,a3]
 ·simp[b0F,a2]
 ·simp[b0F,a1]
theorem c7L(l:List ByteArray)(s:ByteArray):b0s env 22 [sl 9 (l.map b0n),.str s] (.bool (l.any fun x=>decide (x=s))):=by
 refine b0i (fn:=Tryz.f22) Tryz.func22 rfl (by rw[Tryz.ntmps22];simp) (by simp -implicitDefEqProofs only[go_sem]) rfl ?_;simp -implicitDefEqProofs only[go_sem,Tryz.f22];refine b0l (β:=Unit) l (fun pre _=>⟨[(5,.int .i64 pre.length),(0,sl 9 (l.map b0n)),(1,.str s)],[],[]⟩) (fun pre _ _=>(pre.any fun x=>decide (x=s))=false) () ?_ ?_ ?_ ?_
 ·simp -implicitDefEqProofs only[go_sem];trivial
 ·rfl
 ·intro _ i1;simp -implicitDefEqProofs only[go_sem,i1]
 ·rintro pre x post _ rfl i1;simp -implicitDefEqProofs only[go_sem,b0n];intro _ hl;refine⟨fun c=>?_,fun c=>⟨(),?_,b0g (c2w hl (by decide))⟩⟩
  ·simp[c]
  ·simp_all
end Go.Proofs.YtighfcpaplmaiaaGreatDoor
namespace Go.Vg
def f8g(n:Nat):ByteArray:=if h:n<10 then b9L [48+(n % 10:Nat)]else f8g (n / 10)++b9L [48+(n % 10:Nat)]
 termination_by n
 decreasing_by omega
end Go.Vg
namespace Go.Proofs.YtighfcpaplmaiaaGreatDoor
open Go Go.Vg Go.Proofs
theorem f5F{x:Int}(h:0≤x)(h':x≤255):IntKind.u8.wrap x=x:=by
 simp only[IntKind.wrap,IntKind.signed,IntKind.bits];simp;omega
theorem b4K(a b:List ByteArray):b0s env 11 [sl 9 (a.map b0n),sl 9 (b.map b0n)] (.bool (decide (a=b))):=by
 refine b0i (fn:=Tryz.f11) Tryz.func11 rfl (by rw[Tryz.ntmps11];simp) (by simp -implicitDefEqProofs only[go_sem]) rfl ?_;simp -implicitDefEqProofs only[go_sem,Tryz.f11];intro _ h1 _ h2;refine⟨fun c=>?_,fun c=>?_⟩
 ·have:a≠b:=by rintro rfl;simp at c
  simp[this]
 ·have hl:a.length=b.length:=by simp at c;omega
  refine b0l (β:=Unit) a (fun pre _=>⟨[(5,.int .i64 pre.length),(0,sl 9 (a.map b0n)),(1,sl 9 (b.map b0n))],[],[]⟩) (fun pre _ _=>∃ r,b=pre++r) () ?_ ⟨b,rfl⟩ ?_ ?_
  ·simp -implicitDefEqProofs only[go_sem];trivial
  ·rintro _ ⟨r,hr⟩;simp -implicitDefEqProofs only[go_sem];have:r=[]:=h0G (by have:=congrArg List.length hr;simp at this;omega);subst this;simp[hr]
  ·rintro pre x post _ rfl ⟨r,rfl⟩;rcases r with _ | ⟨y,r⟩
   ·simp at hl
   ·simp -implicitDefEqProofs only[go_sem];intro _ hl;refine sdq ?_;have hl2:((pre.length:Int)<((pre++y::r).length:Int))=True:=d8b;simp -implicitDefEqProofs only[go_sem,b0n,hl2];refine⟨fun c=>?_,fun c=>⟨(),⟨r,?_⟩,b0g (c2w hl (by decide))⟩⟩
    ·simp_all
    ·simp_all
end Go.Proofs.YtighfcpaplmaiaaGreatDoor
namespace Go.Vg
mutual
def left:Nd→Int→Int→Int
 | .mk k t g ks,b0o,levels=>if b0o<1∨levels<1∨b0o<(ks.length:Int)then -1 else b7n ks (b0o - 1) (levels - 1)
def b7n:List Nd→Int→Int→Int
 | [],rest,_=>rest
 | n::r,rest,levels=>if left n rest levels<0 then -1 else b7n r (left n rest levels) levels
end
theorem f1a:∀ nd n l,left nd n l≤n∨left nd n l = -1:=by
 refine Nd.all fun k t g ks ih n l=>?_
 have key:∀ (ks:List Nd),(∀ x∈ks,∀ n l,left x n l≤n∨left x n l = -1)→∀ n l,b7n ks n l≤n∨b7n ks n l = -1:=by
  intro ks;induction ks with
  | nil=>intro _ n l;exact .inl (by rw[b7n];exact Int.le_refl _)
  | cons x r ihr =>
   intro h n l;rw[b7n];split
   ·exact .inr rfl
   ·have h1:=h x (by simp) n l;have h2:=ihr (fun y hy=>h y (by simp[hy])) (left x n l) l;omega
 rw[left];split
 ·exact .inr rfl
 ·have:=key ks ih (n - 1) (l - 1);omega
def b3S:List ByteArray→Int→Int
 | [],rest=>rest
 | g::r,rest=>if rest≤(g.size:Int)then -1 else b3S r (rest - g.size - 1)
mutual
def b3u:Nd→Int→Int
 | .mk k t g ks,bytes=>if bytes<(t.size:Int)∨bytes<(g.length:Int)then -1 else if b3S g (bytes - t.size)<0 then -1 else b5t ks (b3S g (bytes - t.size))
def b5t:List Nd→Int→Int
 | [],rest=>rest
 | n::r,rest=>if b3u n rest<0 then -1 else b5t r (b3u n rest)
end
theorem c4B:∀ g n,b3S g n≤n∨b3S g n = -1:=by
 intro g;induction g with
 | nil=>intro n;exact .inl (by rw[b3S];exact Int.le_refl _)
 | cons x r ih =>
  intro n;rw[b3S];split
  ·exact .inr rfl
  ·have:=ih (n - x.size - 1);omega
theorem c8p:∀ nd n,b3u nd n≤n∨b3u nd n = -1:=by
 refine Nd.all fun k t g ks ih n=>?_
 have key:∀ (ks:List Nd),(∀ x∈ks,∀ n,b3u x n≤n∨b3u x n = -1)→∀ n,b5t ks n≤n∨b5t ks n = -1:=by
  intro ks;induction ks with
  | nil=>intro _ n;exact .inl (by rw[b5t];exact Int.le_refl _)
  | cons x r ihr =>
   intro h n;rw[b5t];split
   ·exact .inr rfl
   ·have h1:=h x (by simp) n;have h2:=ihr (fun y hy=>h y (by simp[hy])) (b3u x n);omega
 rw[b3u];split
 ·exact .inr rfl
 ·split
  ·exact .inr rfl
  ·have h1:=c4B g (n - t.size);have h2:=key ks ih (b3S g (n - t.size));omega
end Go.Vg
namespace Go.Proofs.YtighfcpaplmaiaaGreatDoor
open Go Go.Vg Go.Proofs
theorem d9V:(nd:Nd)→∀ (b0o levels:Int) (h1:b0o≤1000000) (h2:levels≤1000000),b0s env 137 [.agg nd.enc,.int .i64 b0o,.int .i64 levels] (.int .i64 (left nd b0o levels)):=by
  refine Nd.all fun k t g ks ih b0o levels h1 h2=>?_
  refine b0i (fn:=Tryz.f137) Tryz.func137 rfl (by rw[Tryz.ntmps137];simp) (by simp -implicitDefEqProofs only[go_sem]) rfl ?_;simp -implicitDefEqProofs only[go_sem,Tryz.f137];refine⟨fun a1=>⟨fun a2 a3' a3=>⟨fun a4=>?_,fun a4=>?_⟩,fun a2=>?_⟩,fun a1=>?_⟩
  · rw[left,if_pos (by omega)]
  · refine b0l (β:=Int) ks (fun pre r=>⟨[(8,.int .i64 pre.length),(7,.int .i64 r),(3,.ptr 0 0),(2,.int .i64 levels)],[VObj.cells (Nd.mk k t g ks).enc],[]⟩)
       (fun _ post r=>b7n post r (levels - 1)=left (.mk k t g ks) b0o levels∧r≤1000000) (b0o - 1) ?_ ?_ ?_ ?_
    · simp -implicitDefEqProofs only[go_sem]
      exact⟨rfl,Vg.wrap_small (by omega) (by omega)⟩
    · exact⟨by rw[left,if_neg (by omega)],by omega⟩
    · rintro r ⟨i1,i2⟩
      simp -implicitDefEqProofs only[go_sem,←i1,b7n]
    · rintro pre x post r rfl ⟨i1,i2⟩
      have hl:=b2t a3;simp -implicitDefEqProofs only[go_sem];rw[Vg.wrap_small (by omega) (by omega)];intro _ _;refine(ih x b1x r (levels - 1) i2 (by omega)).calls (by simp -implicitDefEqProofs only[go_sem]) ?_;simp -implicitDefEqProofs only[go_sem];refine⟨fun c=>?_,fun c=>⟨left x r (levels - 1),⟨?_,?_⟩,b0g (by omega),rfl⟩⟩
      · rw[←i1,b7n,if_pos c]
      · rw[←i1,b7n,if_neg c]
      · have:=f1a x r (levels - 1);omega
  · rw[left,if_pos (by omega)]
  · rw[left,if_pos (by omega)]
theorem f2d(nd:Nd)(b0o levels:Int)(h1:b0o≤1000000)(h2:levels≤1000000):b0s env 83 [.agg nd.enc,.int .i64 b0o,.int .i64 levels] (.bool (decide (0≤left nd b0o levels))):=by
 refine b0i (fn:=Tryz.f83) Tryz.func83 rfl (by rw[Tryz.ntmps83];simp) (by simp -implicitDefEqProofs only[go_sem]) rfl ?_;simp -implicitDefEqProofs only[go_sem,Tryz.f83];refine(d9V nd b0o levels h1 h2).calls (by simp -implicitDefEqProofs only[go_sem]) ?_;simp -implicitDefEqProofs only[go_sem]
theorem d6W:(nd:Nd)→∀ (bytes:Int) (h1:bytes≤1000000),b0s env 84 [.agg nd.enc,.int .i64 bytes] (.int .i64 (b3u nd bytes)):=by
 refine Nd.all fun k t g ks ih bytes h1=>?_
 refine b0i (fn:=Tryz.f84) Tryz.func84 rfl (by rw[Tryz.ntmps84];simp) (by simp -implicitDefEqProofs only[go_sem]) rfl ?_;simp -implicitDefEqProofs only[go_sem,Tryz.f84];intro ht;refine⟨fun a1 _ hg=>⟨fun a2=>?_,fun a2 _=>?_⟩,fun a1=>?_⟩
 ·rw[b3u,if_pos (by omega)]
 ·refine b0l (β:=Int) g (fun pre r=>⟨[(6,.int .i64 pre.length),(5,.int .i64 r),(2,.ptr 0 0)],[VObj.cells (Nd.mk k t g ks).enc],[]⟩)
   (fun _ post r=>b3S post r=b3S g (bytes - t.size)∧r≤1000000∧0≤r) (bytes - t.size) ?_ ?_ ?_ ?_
  ·simp -implicitDefEqProofs only[go_sem];exact⟨rfl,Vg.wrap_small (by omega) (by omega)⟩
  ·exact⟨rfl,by omega,by omega⟩
  ·rintro r ⟨i1,i2,i3⟩;simp -implicitDefEqProofs only[go_sem];intro _ _;refine b0l (β:=Int) ks (fun pre r=>⟨[(7,.int .i64 pre.length),(5,.int .i64 r),(2,.ptr 0 0)],[VObj.cells (Nd.mk k t g ks).enc],[]⟩)
    (fun _ post r=>b5t post r=b3u (.mk k t g ks) bytes∧r≤1000000∧0≤r) r ?_ ?_ ?_ ?_
   ·simp -implicitDefEqProofs only[go_sem];trivial
   ·refine⟨?_,i2,i3⟩;rw[b3u,if_neg (by omega),←i1,b3S,if_neg (by omega)]
   ·rintro r' ⟨j1,j2,j3⟩;simp -implicitDefEqProofs only[go_sem,←j1,b5t]
   ·rintro pre x post r' rfl ⟨j1,j2,j3⟩;simp -implicitDefEqProofs only[go_sem];intro _ hl;refine(ih x b1x r' j2).calls (by simp -implicitDefEqProofs only[go_sem]) ?_;simp -implicitDefEqProofs only[go_sem];have hw:b3u x r'≤1000000:=by have:=c8p x r';omega
    refine⟨fun c=>?_,fun c=>⟨b3u x r',⟨?_,?_,?_⟩,b0g (by have:=b2t hl;omega),rfl⟩⟩
    ·rw[←j1,b5t,if_pos c]
    ·rw[←j1,b5t,if_neg c]
    ·exact hw
    ·omega
  ·rintro pre x post r rfl ⟨i1,i2,i3⟩;simp -implicitDefEqProofs only[go_sem,b0n];intro _ hl hx;refine⟨fun c=>?_,fun c _=>⟨r - x.size - 1,⟨?_,by omega,by omega⟩,b0g (by have:=b2t hl;omega),?_⟩⟩
   ·rw[b3u,if_neg (by omega),if_pos];rw[←i1,b3S,if_pos c];decide
   ·rw[←i1,b3S,if_neg (by omega)]
   ·rw[Vg.wrap_small (x:=r - x.size) (by omega) (by omega),Vg.wrap_small (by omega) (by omega)]
 ·rw[b3u,if_pos (by omega)]
theorem d6M(nd:Nd)(b0o levels bytes:Int)(h1:b0o≤1000000)(h2:levels≤1000000)(h3:bytes≤1000000) :
  b0s env 51 [.agg nd.enc,.int .i64 b0o,.int .i64 levels,.int .i64 bytes] (.bool (decide (0≤left nd b0o levels) && decide (0≤b3u nd bytes))):=by
 refine b0i (fn:=Tryz.f51) Tryz.func51 rfl (by rw[Tryz.ntmps51];simp) (by simp -implicitDefEqProofs only[go_sem]) rfl ?_;simp -implicitDefEqProofs only[go_sem,Tryz.f51];refine(f2d nd b0o levels h1 h2).calls (by simp -implicitDefEqProofs only[go_sem]) ?_;simp -implicitDefEqProofs only[go_sem];refine⟨fun c=>(d6W nd bytes h3).calls (by simp -implicitDefEqProofs only[go_sem]) ?_,fun c=>?_⟩
 ·simp -implicitDefEqProofs only[go_sem];simp[c]
 ·simp[c]
end Go.Proofs.YtighfcpaplmaiaaGreatDoor
namespace Go.Vg
mutual
def b0o:Nd→List Nd
 | .mk k t g ks => .mk k t g ks::b0k ks
def b0k:List Nd→List Nd
 | []=>[]
 | n::r=>b0o n++b0k r
end
theorem b1s(x:Nd):∀ pre,b0k (pre++[x])=b0k pre++b0o x
 | []=>by simp[b0k]
 | y::r=>by simp[b0k,b1s x r]
theorem b1n:∀ a b,b0k (a++b)=b0k a++b0k b
 | [],b=>rfl
 | y::r,b=>by simp[b0k,b1n r b]
end Go.Vg
namespace Go.Proofs.YtighfcpaplmaiaaGreatDoor
open Go Go.Vg Go.Proofs
end Go.Proofs.YtighfcpaplmaiaaGreatDoor
namespace Go.Vg
def b1D(k:Int):Int:=if k=2∨k=7∨k=9 then 1 else if(10≤k∧k≤13)∨k=15∨k=16 then 2 else if 17≤k∧k≤26 then 3 else 0
def b0S(k:Int):Int:=if k=2∨k=13 then 3 else if k=15∨k=24 then 2 else if k=4∨k=7∨k=9∨k=10∨k=11∨k=12∨k=16∨k=21∨k=25∨k=26 then 1 else 0
def b9M(k:Int):Int:=if k=3∨k=20 then 16 else if k=21 then 17 else 200
end Go.Vg
namespace Go.Proofs.YtighfcpaplmaiaaGreatDoor
open Go Go.Vg Go.Proofs
theorem c7Z(k:Int):b0s env 248 [.int .i64 k] (.int .i64 (b1D k)):=by
 refine b0i (fn:=Tryz.f248) Tryz.func248 rfl (by rw[Tryz.ntmps248];simp) rfl rfl ?_;simp -implicitDefEqProofs only[go_sem,Tryz.f248,b1D]
 repeat' (first | apply And.intro | intro)
 all_goals(congr 1;repeat' split)
 all_goals omega
theorem d6O(k:Int):b0s env 238 [.int .i64 k] (.int .i64 (b0S k)):=by
 refine b0i (fn:=Tryz.f238) Tryz.func238 rfl (by rw[Tryz.ntmps238];simp) rfl rfl ?_;simp -implicitDefEqProofs only[go_sem,Tryz.f238,b0S]
 repeat' (first | apply And.intro | intro)
 all_goals(congr 1;repeat' split)
 all_goals omega
theorem d9x(k:Int):b0s env 219 [.int .i64 k] (.int .i64 (b9M k)):=by
 refine b0i (fn:=Tryz.f219) Tryz.func219 rfl (by rw[Tryz.ntmps219];simp) rfl rfl ?_;simp -implicitDefEqProofs only[go_sem,Tryz.f219,b9M]
 repeat' (first | apply And.intro | intro)
 all_goals(congr 1;repeat' split)
 all_goals omega
end Go.Proofs.YtighfcpaplmaiaaGreatDoor
namespace Go.Vg
def b9P(t:ByteArray):Int:=if t=⟨#[124]⟩then 1 else if t=⟨#[38]⟩then 2 else if t=⟨#[61,61]⟩∨t=⟨#[60]⟩then 3 else if t=⟨#[43]⟩∨t=⟨#[45]⟩then 4 else if t=⟨#[42]⟩∨t=⟨#[47]⟩then 5 else 0
def b3s(k:Int)(t:ByteArray):Int:=if k=24 then b9P t else if k=25 then 6 else if b1D k=3 then 7 else 0
def Nd.level(n:Nd):Int:=b3s n.kind n.text
def b2s(k:Int)(t:ByteArray):Bool:=if k=8 then !decide (t=⟨#[]⟩)else decide (k=2∨k=4∨k=5∨k=7∨k=9∨k=10∨k=11∨k=17∨k=19∨k=20∨k=21∨k=22)
end Go.Vg
namespace Go.Proofs.YtighfcpaplmaiaaGreatDoor
open Go Go.Vg Go.Proofs
theorem b4i(n:Nd):b0s env 249 [.agg n.enc] (.int .i64 n.level):=by
 obtain⟨k,t,g,ks⟩:=n;refine b0i (fn:=Tryz.f249) Tryz.func249 rfl (by rw[Tryz.ntmps249];simp) (by simp -implicitDefEqProofs only[go_sem]) rfl ?_;simp -implicitDefEqProofs only[go_sem,Tryz.f249,Nd.level,Nd.kind,Nd.text,b3s];refine⟨fun h=>?_,fun h=>?_⟩
 ·simp +contextual [h,b9P]
 ·simp only[h,if_false];refine⟨fun h2=>by simp[h2],fun h2=>?_⟩;simp only[h2,if_false];refine(c7Z k).calls rfl ?_;simp -implicitDefEqProofs only[go_sem];refine⟨fun c=>by simp[c],fun c=>by simp[c]⟩
theorem c7C(n:Nd):b0s env 230 [.agg n.enc] (.bool (b2s n.kind n.text)):=by
 obtain⟨k,t,g,ks⟩:=n;refine b0i (fn:=Tryz.f230) Tryz.func230 rfl (by rw[Tryz.ntmps230];simp) (by simp -implicitDefEqProofs only[go_sem]) rfl ?_;simp -implicitDefEqProofs only[go_sem,Tryz.f230,Nd.kind,Nd.text,b2s];refine⟨fun h=>by simp[h];rfl,fun h=>?_⟩;simp only[h,if_false];simp +contextual
end Go.Proofs.YtighfcpaplmaiaaGreatDoor
