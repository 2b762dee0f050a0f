import Derived.Test.YtighfcpaplmaiaaGreatDoorVgL
import Derived.Orders
set_option linter.unusedVariables false
set_option linter.unusedSimpArgs false
namespace Go.Vg
open Go.RowKit
def jk1:V→V
 | .ptr .. | .mslice .. | .map _ | .vec .. | .vptr .. => .junk
 | x=>share1 x
def jkA:V→V
 | .fptr cs => .fptr (cs.map jk1)
 | x=>x
theorem RV.jk1{P:Program}{G:Gh}{arr:List Nat}{x:V}{v:Value}(h:RV P G arr x v):RV P G arr (jk1 x) v:=by
 cases x <;> first | exact .junk _ | exact h.share1
theorem RV.jkA{P:Program}{G:Gh}{arr:List Nat}{x:V}{v:Value}(h:RV P G arr x v):RV P G arr (jkA x) v:=by
 cases x
 case fptr cs =>
  cases h with
  | fptr _ b o hd hr =>
   refine .fptr _ b o (fun j hj=>hd j (by simpa using hj)) fun j c v hc hv=>?_
   rw[g9q]at hc
   obtain⟨c',hc',rfl⟩:=g9l.1 hc
   exact(hr j c' v hc' hv).jk1
 all_goals exact h
def b0E(E:Env)(f:FuncId)(args:List V)(r:V):Prop:=∃ cargs,(args=cargs∨args.map jkA=cargs)∧b0u E f cargs r
theorem b8d.jkA{P:Program}{G:Gh}{arr:List Nat}{args:List V}{vals:Array Value}(h:b8d P G arr args vals):b8d P G arr (args.map jkA) vals:=by
 refine⟨by rw[g9r];exact h.1,fun j x v hx hv=>?_⟩
 rw[g9q]at hx
 obtain⟨x',hx',rfl⟩:=g9l.1 hx
 exact(h.2 j x' v hx' hv).jkA
theorem b0u.callsR{E:Env}{f:FuncId}{args cargs:List V}{heap:List VObj}{arr:List Nat}{r:V}{K:b1z}(h:b0u E f cargs r)(ha:∀ G arr vals,b8d E.P G arr args vals→b8d E.P G arr cargs vals)(hk:K r heap arr) :
  b0r E f args heap arr K:=by
 obtain⟨h1,h2,h3⟩:=h
 intro G w0 w vals hr hargs
 have hargs':b8d E.P ⟨G.F,[],[]⟩ [] cargs vals:=by
  have:=ha _ _ _ hargs
  exact⟨this.1,fun j x v hx hv=>(this.2 j x v hx hv).pure (b2L h1 j x hx) _ _ fun _ _ _ h=>h⟩
 refine(h3 _ _ w vals hr.al.hide hargs').mono fun e w' hg=>?_
 obtain⟨val,he,v,heap',arr',G',hv,hx,hr',hrv⟩:=hg.alive
 refine .inl ⟨val,he,r,heap,arr,{ G with F:=G'.F },hk,?_⟩
 subst hv
 replace hr':=hr'.unal
 obtain⟨g1,g2⟩:=hr.back (F':=G'.F) hx.F hr'.newF hr'.frz hr'.one hr'.below
 exact⟨g2,g1,hrv.pure h2 _ _ fun _ _ _ h=>h⟩
theorem b0u.callsJ{E:Env}{f:FuncId}{args cargs:List V}{heap:List VObj}{arr:List Nat}{r:V}{K:b1z}(h:b0u E f cargs r)(ha:(args.map share).map Vg.jkA=cargs)(hk:K r heap arr) :
  b0r E f args heap arr K:=h.callsR (fun _ _ _ hh=>ha ▸ hh.share.jkA) hk
theorem b0E.calls{E:Env}{f:FuncId}{args:List V}{heap:List VObj}{arr:List Nat}{r:V}{K:b1z}(h:b0E E f (args.map share) r)(hk:K r heap arr):b0r E f args heap arr K:=by
 obtain⟨cargs,hc | hc,hp⟩:=h
 ·exact hp.calls hc hk
 ·exact hp.callsJ hc hk
def vPC(E:Env)(f:FuncId)(args:List V)(h:List VObj)(a:List Nat)(K:b1z):Prop:=∃ r,b0E E f (args.map share) r∧K r h a
def vLenC(E:Env)(t:TypeId)(x:V)(K:V→Prop):Prop :=
 match E.P.underlying t,x with
 | some .string,.str s=>K (.int .i64 s.size)
 | some (.slice _),.slice _ _ es=>K (.int .i64 es.length)
 | some (.slice _),.mslice _ _ len _ _=>K (.int .i64 len)
 | some (.slice _),.vec _ _ _ len _=>K (.int .i64 len)
 | _,_=>False
theorem c7Y{E:Env}{t:TypeId}{x:V}{K:V→Prop}(h:vLenC E t x K):d3h E t x K:=by
 unfold vLenC at h
 unfold d3h
 cases hd:E.P.underlying t with
 | none=>rw[hd]at h;exact h.elim
 | some d =>
  rw[hd]at h
  cases d <;> cases x <;> first
   | exact h.elim
   | exact fun _=>h
   | exact fun _ _=>h
def b1m(E:Env)(c:Bool)(s:St)(op:Op)(K:b1z):Prop :=
 match op with
 | .call cl=>match cl.callee with
  | .value f=>match ev E s.tmps f with
   | .func fid caps=>b0t E.P fid=true∧if c=true then b0r E fid (cl.args.toList.map (ev E s.tmps)++caps) s.heap s.arr K else vPC E fid (cl.args.toList.map (ev E s.tmps)++caps) s.heap s.arr K
   | .meth fid xs=>b0t E.P fid=true∧if c=true then b0r E fid (xs++cl.args.toList.map (ev E s.tmps)) s.heap s.arr K else vPC E fid (xs++cl.args.toList.map (ev E s.tmps)) s.heap s.arr K
   | _=>False
  | .builtin .len=>match cl.argTypes[0]?,cl.args.toList with
   | some t,[x]=>vLenC E t (ev E s.tmps x) fun r=>K r s.heap s.arr
   | _,_=>False
  | _=>c2f E s cl K
 | .panic _=>False
 | .slice t x lo hi mx=>(E.vecT t && b6r (ev E s.tmps x) (lo.map (ev E s.tmps)) (hi.map (ev E s.tmps)) (mx.map (ev E s.tmps)))=false∧vSlice E t (ev E s.tmps x) (lo.map (ev E s.tmps)) (hi.map (ev E s.tmps)) (mx.map (ev E s.tmps)) fun r=>K r s.heap s.arr
 | op=>vop E s op K
theorem c5Q{E:Env}{h:List VObj}{t:TypeId}{x:V}{K:V→Prop}(hv:vLenC E t x K):b8K E h t x K:=by
 cases x <;> try exact c7Y hv
 unfold vLenC at hv
 split at hv <;> first | exact hv.elim | (rename_i hx;cases hx)
theorem d3O{E:Env}{c:Bool}{s:St}{op:Op}{K:b1z}(h:b1m E c s op K):vop E s op K:=by
 cases op <;> try exact h
 case panic=>exact h.elim
 case slice t x lo hi mx =>
  simp only[b1m]at h
  simp only[vop]
  rw[h.1]
  exact h.2
 rename_i cl
 simp only[b1m]at h
 simp only[vop,c2f]
 split at h
 ·rename_i f hc
  rw[hc]
  simp only
  split at h
  ·rename_i fid caps hf
   rw[hf]
   refine⟨h.1,?_⟩
   have h2:=h.2
   split at h2
   ·exact h2
   ·obtain⟨r,h3,h4⟩:=h2
    exact h3.calls h4
  ·rename_i fid xs hf
   rw[hf]
   refine⟨h.1,?_⟩
   have h2:=h.2
   split at h2
   ·exact h2
   ·obtain⟨r,h3,h4⟩:=h2
    exact h3.calls h4
  ·exact h.elim
 ·rename_i hc
  rw[hc]
  simp only
  split at h
  ·rename_i t x h1 h2
   rw[h1,h2]
   exact c5Q h
  ·exact h.elim
 ·exact h
inductive Cls where
 | still | read | deff | ceff
 deriving DecidableEq
def cls(c:Bool):Op→Cls
 | .move _ | .assign _ | .pick _ _ _ | .build _ _ | .buildSlice _ _ _ | .nilCheck _ | .binOp _ _ _ _ _ | .unOp _ _ _ | .convert _ _ _ | .makeFunc _ _ _ | .slice _ _ _ _ _ | .fieldAddr _ _ _ | .field _ _ _
 | .indexAddr _ _ _ | .index _ _ _ | .extract _ _ | .makeInterface _ _ => .still
 | .load _ _ | .lookup _ _ _ _ => .read
 | .call cl=>match cl.callee with
  | .value _=>if c=true then .ceff else .still
  | .builtin .len | .builtin .min | .builtin .max => .still
  | _ => .deff
 | _ => .deff
def Det(f:(V→Prop)→Prop):Prop:=∀ K,f K→∃ v,K v∧∀ K',K' v→f K'
theorem Det.vHead{cs:List V}:Det (vHead cs):=by
 intro K h
 cases cs with
 | nil=>exact h.elim
 | cons c r=>exact⟨c,h,fun _ h'=>h'⟩
theorem Det.vIntOp{op:BinOp}{k:IntKind}{a b:Int}:Det (vIntOp op k a b):=by
 intro K h
 unfold Vg.vIntOp at h ⊢
 cases op <;> simp only at h ⊢ <;> first
  | exact h.elim
  | exact⟨_,h,fun _ h'=>h'⟩
  | exact⟨_,h.2,fun _ h'=>⟨h.1,h'⟩⟩
theorem Det.vStrOp{op:BinOp}{a b:ByteArray}:Det (vStrOp op a b):=by
 intro K h
 unfold Vg.vStrOp at h ⊢
 cases op <;> simp only at h ⊢ <;> first
  | exact h.elim
  | exact⟨_,h,fun _ h'=>h'⟩
  | exact⟨_,h.2,fun _ h'=>⟨h.1,h'⟩⟩
theorem Det.vBin{E:Env}{op:BinOp}{t:TypeId}{x y:V}:Det (vBin E op t x y):=by
 intro K h
 unfold Vg.vBin at h ⊢
 split at h
 ·obtain⟨v,h1,h2⟩:=Det.vIntOp K h.2
  exact⟨v,h1,fun K' h'=>⟨h.1,h2 K' h'⟩⟩
 ·exact Det.vStrOp K h
 ·obtain⟨h1,h2⟩:=h
  cases op <;> simp only at h2 ⊢ <;> first
   | exact h2.elim
   | exact⟨_,h2,fun _ h'=>⟨h1,h'⟩⟩
 ·obtain⟨h1,h2⟩:=h
  unfold f2c at h2 ⊢
  split at h2
  ·exact⟨_,h2,fun _ h'=>⟨h1,h'⟩⟩
  ·exact⟨_,h2,fun _ h'=>⟨h1,h'⟩⟩
  ·exact h2.elim
 ·exact h.elim
theorem Det.vNilI{E:Env}{op:BinOp}{t:TypeId}{x:V}:Det (vNilI E op t x):=by
 intro K h
 unfold Vg.vNilI at h ⊢
 split at h <;> first | exact⟨_,h,fun _ h'=>h'⟩ | exact h.elim
theorem Det.vBinC{E:Env}{op:BinOp}{t:TypeId}{c:Bool}{x y:V}:Det (vBinC E op t c x y):=by
 cases c
 ·exact Det.vBin
 ·exact Det.vNilI
theorem Det.vMkIface{E:Env}{t:TypeId}{x:V}:Det (vMkIface E t x):=by
 intro K h
 unfold Vg.vMkIface at h ⊢
 split at h <;> first | exact⟨_,h,fun _ h'=>h'⟩ | exact h.elim
theorem Det.vUn{op:UnOp}{x:V}:Det (vUn op x):=by
 intro K h
 unfold Vg.vUn at h ⊢
 split at h
 ·exact⟨_,h,fun _ h'=>h'⟩
 ·exact⟨_,h,fun _ h'=>h'⟩
 ·exact h.elim
theorem Det.vPart{E:Env}{t:TypeId}{cs:List V}{off:Nat}:Det (vPart E t cs off):=by
 intro K h
 unfold Vg.vPart at h ⊢
 split at h
 ·exact⟨_,h.2,fun _ h'=>⟨h.1,h'⟩⟩
 ·exact⟨_,h.2,fun _ h'=>⟨h.1,h'⟩⟩
 ·obtain⟨v,h1,h2⟩:=Det.vHead K h
  refine⟨v,h1,fun K' h'=>?_⟩
  exact h2 K' h'
 ·exact h.elim
theorem Det.vLoadL{E:Env}{t:TypeId}{cs:List V}:Det (vLoadL E t cs):=by
 intro K h
 unfold Vg.vLoadL at h ⊢
 split at h
 ·exact⟨_,h.2,fun _ h'=>⟨h.1,h'⟩⟩
 ·exact⟨_,h.2,fun _ h'=>⟨h.1,h'⟩⟩
 ·obtain⟨v,h1,h2⟩:=Det.vHead K h
  refine⟨v,h1,fun K' h'=>?_⟩
  exact h2 K' h'
 ·exact h.elim
theorem Det.vFieldAddr{E:Env}{t:TypeId}{a:V}{f:Nat}:Det (vFieldAddr E t a f):=by
 intro K h
 unfold Vg.vFieldAddr at h ⊢
 split at h
 ·split at h
  ·obtain⟨h0,h⟩:=h
   split at h
   ·exact⟨_,h,fun _ h'=>⟨h0,h'⟩⟩
   ·exact⟨_,h,fun _ h'=>⟨h0,h'⟩⟩
   ·exact⟨_,h,fun _ h'=>⟨h0,h'⟩⟩
   ·exact h.elim
  ·exact h.elim
 ·exact h.elim
theorem Det.vIndexAddr{E:Env}{t:TypeId}{x i:V}:Det (vIndexAddr E t x i):=by
 intro K h
 unfold Vg.vIndexAddr at h ⊢
 split at h <;> first
  | exact⟨_,h.2,fun _ h'=>⟨h.1,h'⟩⟩
  | exact h.elim
theorem Det.vIndex{E:Env}{t:TypeId}{x i:V}:Det (vIndex E t x i):=by
 intro K h
 unfold Vg.vIndex at h ⊢
 split at h
 ·exact⟨_,h.2,fun _ h'=>⟨h.1,h'⟩⟩
 ·obtain⟨v,h1,h2⟩:=Det.vPart K h.2
  exact⟨v,h1,fun K' h'=>⟨h.1,h2 K' h'⟩⟩
 ·exact h.elim
theorem Det.vLenC{E:Env}{t:TypeId}{x:V}:Det (vLenC E t x):=by
 intro K h
 unfold Vg.vLenC at h ⊢
 split at h <;> first
  | exact⟨_,h,fun _ h'=>h'⟩
  | exact h.elim
theorem Det.vLook{E:Env}{h:List VObj}{t:TypeId}{m k:V}{ok:Bool}:Det (vLook E h t m k ok):=by
 intro K hh
 unfold Vg.vLook at hh ⊢
 split at hh
 ·split at hh
  ·obtain⟨h0,hh⟩:=hh
   split at hh
   ·exact⟨_,hh,fun _ h'=>⟨h0,h'⟩⟩
   ·exact⟨_,hh.2,fun _ h'=>⟨h0,hh.1,h'⟩⟩
   ·exact hh.elim
  ·exact hh.elim
 ·exact hh.elim
theorem Det.vLookK{E:Env}{h:List VObj}{t:TypeId}{m k:V}{ok:Bool}:Det (vLookK E h t m k ok):=by
 intro K hh
 unfold Vg.vLookK at hh ⊢
 split at hh
 ·unfold Vg.vLookA at hh ⊢
  split at hh
  ·split at hh
   ·obtain⟨h0,hh⟩:=hh
    split at hh
    ·exact⟨_,hh,fun _ h'=>⟨h0,h'⟩⟩
    ·exact⟨_,hh.2,fun _ h'=>⟨h0,hh.1,h'⟩⟩
    ·exact hh.elim
   ·exact hh.elim
  ·exact hh.elim
 ·exact Det.vLook _ hh
theorem Det.vMapSetK{E:Env}{h:List VObj}{t:TypeId}{m k v:V}{L:List VObj→Prop}(hv:vMapSetK E h t m k v L):∃ h',L h'∧∀ L':List VObj→Prop,L' h'→vMapSetK E h t m k v L':=by
 unfold Vg.vMapSetK at hv ⊢
 split at hv
 ·unfold Vg.vMapSetA at hv ⊢
  split at hv
  ·split at hv
   ·obtain⟨h0,hv⟩:=hv
    split at hv
    ·exact⟨_,hv,fun _ h'=>⟨h0,h'⟩⟩
    ·exact⟨_,hv,fun _ h'=>⟨h0,h'⟩⟩
    ·exact hv.elim
   ·exact hv.elim
  ·exact hv.elim
 ·unfold Vg.vMapSet at hv ⊢
  split at hv
  ·split at hv
   ·obtain⟨h0,hv⟩:=hv
    split at hv
    ·exact⟨_,hv,fun _ h'=>⟨h0,h'⟩⟩
    ·exact⟨_,hv,fun _ h'=>⟨h0,h'⟩⟩
    ·exact hv.elim
   ·exact hv.elim
  ·exact hv.elim
theorem Det.vMin{x y:V}:Det (vMin x y):=by
 intro K hh
 unfold Vg.vMin at hh ⊢
 split at hh <;> first | exact⟨_,hh,fun _ h'=>h'⟩ | exact hh.elim
theorem Det.vMax3{x y z:V}:Det (vMax3 x y z):=by
 intro K hh
 unfold Vg.vMax3 at hh ⊢
 split at hh <;> first | exact⟨_,hh,fun _ h'=>h'⟩ | exact hh.elim
theorem Det.vMax{x y:V}:Det (vMax x y):=by
 intro K hh
 unfold Vg.vMax at hh ⊢
 split at hh <;> first | exact⟨_,hh,fun _ h'=>h'⟩ | exact hh.elim
theorem Det.vSlice{E:Env}{t:TypeId}{x:V}{lo hi mx:Option V}:Det (vSlice E t x lo hi mx):=by
 intro K h
 unfold Vg.vSlice at h ⊢
 split at h
 ·split at h
  ·exact⟨_,h.2,fun _ h'=>⟨h.1,h'⟩⟩
  ·exact h.elim
 ·split at h
  ·exact⟨_,h.2,fun _ h'=>⟨h.1,h'⟩⟩
  ·exact h.elim
 ·exact h.elim
theorem Det.vBuild{E:Env}{t:TypeId}{ps:List (Nat×V)}:Det (vBuild E t ps):=by
 intro K h
 unfold Vg.vBuild at h ⊢
 split at h
 ·obtain⟨h0,h⟩:=h
  split at h
  ·rename_i hf
   exact⟨_,h,fun _ h'=>⟨h0,h'⟩⟩
  ·exact h.elim
 ·obtain⟨h0,h⟩:=h
  split at h
  ·exact⟨_,h,fun _ h'=>⟨h0,h'⟩⟩
  ·exact h.elim
 ·exact h.elim
theorem Det.vBuildSlice{E:Env}{t:TypeId}{n:Nat}{ps:List (Nat×V)}:Det (vBuildSlice E t n ps):=by
 intro K h
 unfold Vg.vBuildSlice at h ⊢
 split at h
 ·obtain⟨h0,h⟩:=h
  split at h
  ·exact⟨_,h,fun _ h'=>⟨h0,h'⟩⟩
  ·exact h.elim
 ·exact h.elim
theorem b4G{E:Env}{c:Bool}{tm:List (Nat×V)}{h:List VObj}{a:List Nat}{op:Op}{K:b1z}(hs:cls c op = .still)(hv:b1m E c ⟨tm,h,a⟩ op K) :
  ∃ v,K v h a∧∀ h' a' K',K' v h' a'→b1m E c ⟨tm,h',a'⟩ op K':=by
 cases op <;> simp only[cls]at hs <;> try(exact Cls.noConfusion hs)
 case move x=>exact⟨_,hv,fun _ _ _ h'=>h'⟩
 case assign x=>exact⟨_,hv,fun _ _ _ h'=>h'⟩
 case pick x y z =>
  simp only[b1m,vop]at hv ⊢
  split at hv
  ·exact⟨_,hv,fun _ _ _ h'=>h'⟩
  ·exact hv.elim
 case build t ps =>
  simp only[b1m,vop]at hv ⊢
  obtain⟨v,h1,h2⟩:=Det.vBuild _ hv
  exact⟨v,h1,fun h' a' K' hk=>h2 _ hk⟩
 case buildSlice t n ps =>
  simp only[b1m,vop]at hv ⊢
  obtain⟨v,h1,h2⟩:=Det.vBuildSlice _ hv
  exact⟨v,h1,fun h' a' K' hk=>h2 _ hk⟩
 case nilCheck x =>
  simp only[b1m,vop]at hv ⊢
  split at hv
  ·exact⟨_,hv,fun _ _ _ h'=>h'⟩
  ·exact⟨_,hv,fun _ _ _ h'=>h'⟩
  ·exact⟨_,hv,fun _ _ _ h'=>h'⟩
  ·exact hv.elim
 case binOp op t x y ty =>
  simp only[b1m,vop]at hv ⊢
  obtain⟨v,h1,h2⟩:=Det.vBinC _ hv
  exact⟨v,h1,fun h' a' K' hk=>h2 _ hk⟩
 case makeInterface t x =>
  simp only[b1m,vop]at hv ⊢
  obtain⟨v,h1,h2⟩:=Det.vMkIface _ hv
  exact⟨v,h1,fun h' a' K' hk=>h2 _ hk⟩
 case unOp op t x =>
  simp only[b1m,vop]at hv ⊢
  obtain⟨v,h1,h2⟩:=Det.vUn _ hv
  exact⟨v,h1,fun h' a' K' hk=>h2 _ hk⟩
 case convert s d x =>
  simp only[b1m,vop]at hv ⊢
  split at hv
  ·exact⟨_,hv,fun _ _ _ h'=>h'⟩
  ·exact⟨_,hv,fun _ _ _ h'=>h'⟩
  ·obtain⟨h0,hv⟩:=hv
   split at hv
   ·exact⟨_,hv,fun _ _ _ h'=>⟨h0,h'⟩⟩
   ·exact hv.elim
  ·exact⟨_,hv.2,fun _ _ _ h'=>⟨hv.1,h'⟩⟩
  ·exact hv.elim
 case makeFunc f first caps =>
  simp only[b1m,vop]at hv ⊢
  split at hv
  ·split at hv
   ·exact⟨_,hv,fun _ _ _ h'=>h'⟩
   ·exact⟨_,hv.2,fun _ _ _ h'=>⟨hv.1,h'⟩⟩
  ·exact hv.elim
 case slice t x lo hi mx =>
  simp only[b1m]at hv ⊢
  obtain⟨v,h1,h2⟩:=Det.vSlice _ hv.2
  exact⟨v,h1,fun h' a' K' hk=>⟨hv.1,h2 _ hk⟩⟩
 case fieldAddr t x f =>
  simp only[b1m,vop]at hv ⊢
  obtain⟨v,h1,h2⟩:=Det.vFieldAddr _ hv
  exact⟨v,h1,fun h' a' K' hk=>h2 _ hk⟩
 case field t x f =>
  simp only[b1m,vop]at hv ⊢
  split at hv
  ·split at hv
   ·rename_i hf
    obtain⟨v,h1,h2⟩:=Det.vPart _ hv
    exact⟨v,h1,fun h' a' K' hk=>h2 _ hk⟩
   ·exact hv.elim
  ·exact hv.elim
 case indexAddr t x i =>
  simp only[b1m,vop]at hv ⊢
  obtain⟨v,h1,h2⟩:=Det.vIndexAddr _ hv
  exact⟨v,h1,fun h' a' K' hk=>h2 _ hk⟩
 case index t x i =>
  simp only[b1m,vop]at hv ⊢
  obtain⟨v,h1,h2⟩:=Det.vIndex _ hv
  exact⟨v,h1,fun h' a' K' hk=>h2 _ hk⟩
 case extract x i =>
  simp only[b1m,vop]at hv ⊢
  split at hv
  ·split at hv
   ·exact⟨_,hv,fun _ _ _ h'=>h'⟩
   ·exact hv.elim
  ·exact hv.elim
 case call cl =>
  simp only[b1m]at hv ⊢
  split at hv
  ·rename_i f hc
   rw[hc]at hs
   simp only at hs
   split at hs
   ·cases hs
   rename_i hcf
   split at hv
   ·obtain⟨h0,hv⟩:=hv
    rw[if_neg hcf]at hv
    obtain⟨r,h1,h2⟩:=hv
    refine⟨r,h2,fun h' a' K' hk=>⟨h0,?_⟩⟩
    rw[if_neg hcf]
    exact⟨r,h1,hk⟩
   ·obtain⟨h0,hv⟩:=hv
    rw[if_neg hcf]at hv
    obtain⟨r,h1,h2⟩:=hv
    refine⟨r,h2,fun h' a' K' hk=>⟨h0,?_⟩⟩
    rw[if_neg hcf]
    exact⟨r,h1,hk⟩
   ·exact hv.elim
  ·rename_i hc
   split at hv
   ·obtain⟨v,h1,h2⟩:=Det.vLenC _ hv
    exact⟨v,h1,fun h' a' K' hk=>h2 _ hk⟩
   ·exact hv.elim
  ·rename_i h1 h2
   unfold c2f at hv ⊢
   split at hv
   ·rename_i hc;exact absurd hc h2
   ·split at hv
    ·obtain⟨v,g1,g2⟩:=Det.vMin _ hv
     exact⟨v,g1,fun h' a' K' hk=>g2 _ hk⟩
    ·exact hv.elim
   ·split at hv
    ·obtain⟨v,g1,g2⟩:=Det.vMax _ hv
     exact⟨v,g1,fun h' a' K' hk=>g2 _ hk⟩
    ·obtain⟨v,g1,g2⟩:=Det.vMax3 _ hv
     exact⟨v,g1,fun h' a' K' hk=>g2 _ hk⟩
    ·exact hv.elim
   ·rename_i hc;rw[hc]at hs;cases hs
   ·rename_i hc;rw[hc]at hs;cases hs
   ·rename_i f hc;exact absurd hc (h1 f)
   ·exact hv.elim
theorem b9I{E:Env}{c:Bool}{tm:List (Nat×V)}{h:List VObj}{a:List Nat}{op:Op}{K:b1z}(hs:cls c op = .read)(hv:b1m E c ⟨tm,h,a⟩ op K) :
  ∃ v,K v h a∧∀ K',K' v h a→b1m E c ⟨tm,h,a⟩ op K':=by
 cases op <;> simp only[cls]at hs <;> try(exact Cls.noConfusion hs)
 case load t x =>
  simp only[b1m,vop]at hv ⊢
  split at hv
  ·obtain⟨v,h1,h2⟩:=Det.vLoadL _ hv
   exact⟨v,h1,fun K' hk=>h2 _ hk⟩
  ·exact hv.elim
 case lookup t m k ok =>
  simp only[b1m,vop]at hv ⊢
  obtain⟨v,h1,h2⟩:=Det.vLookK _ hv
  exact⟨v,h1,fun K' hk=>h2 _ hk⟩
 case call cl =>
  exfalso
  revert hs
  split
  ·split <;> simp
  ·simp
  ·simp
  ·simp
  ·simp
theorem f0v{h z:List VObj}{x:V}{cs:List V}(hx:vAt h x=some cs):vAt (h++z) x=some cs:=by
 have key:∀ (id:Nat) o,h[id]? = some o→(h++z)[id]? = some o:=fun id o ho=>by
  rw[g9a (g8Y.1 ho).1];exact ho
 cases x <;> simp only[vAt]at hx ⊢ <;> try(exact hx)
 case ptr id off =>
  cases ho:h[id]? with
  | none=>rw[ho]at hx;cases hx
  | some o=>rw[ho]at hx;rw[key id o ho];exact hx
 case vptr id k g off =>
  cases ho:h[id]? with
  | none=>rw[ho]at hx;cases hx
  | some o=>rw[ho]at hx;rw[key id o ho];exact hx
theorem c4l{h z:List VObj}{x:V}{es:List (V×V)}(hx:b8n h x=some es):b8n (h++z) x=some es:=by
 have key:∀ (id:Nat) o,h[id]? = some o→(h++z)[id]? = some o:=fun id o ho=>by
  rw[g9a (g8Y.1 ho).1];exact ho
 cases x <;> simp only[b8n]at hx ⊢ <;> try(exact hx)
 case map id =>
  cases ho:h[id]? with
  | none=>rw[ho]at hx;cases hx
  | some o=>rw[ho]at hx;rw[key id o ho];exact hx
theorem c8W{E:Env}{h z:List VObj}{t:TypeId}{m' k':V}{ok:Bool}{K:V→Prop}(h3:vLookK E h t m' k' ok K):vLookK E (h++z) t m' k' ok K:=by
 unfold vLookK at h3 ⊢
 split at h3
 ·unfold vLookA at h3 ⊢
  cases hd:E.P.underlying t with
  | none=>rw[hd]at h3;exact h3.elim
  | some d =>
   cases hma:b8n h m' with
   | none=>rw[hd,hma]at h3;cases d <;> exact h3.elim
   | some es=>rw[hd,hma]at h3;rw[c4l hma];exact h3
 ·rename_i hk
  unfold vLook at h3 ⊢
  cases hd:E.P.underlying t with
  | none=>rw[hd]at h3;exact h3.elim
  | some d =>
   cases hma:b8n h m' with
   | none=>rw[hd,hma]at h3;cases d <;> exact h3.elim
   | some es=>rw[hd,hma]at h3;rw[c4l hma];exact h3
theorem c8E{E:Env}{c:Bool}{tm:List (Nat×V)}{h:List VObj}{a:List Nat}{op:Op}{K:b1z}(hs:cls c op = .read)(hv:b1m E c ⟨tm,h,a⟩ op K) :
  ∃ v,K v h a∧∀ z K',K' v (h++z) a→b1m E c ⟨tm,h++z,a⟩ op K':=by
 cases op <;> simp only[cls]at hs <;> try(exact Cls.noConfusion hs)
 case load t x =>
  simp only[b1m,vop]at hv ⊢
  split at hv
  ·rename_i cs hcs
   obtain⟨v,h1,h2⟩:=Det.vLoadL _ hv
   refine⟨v,h1,fun z K' hk=>?_⟩
   rw[show vAt (h++z) (ev E tm x)=some cs from f0v hcs]
   exact h2 (fun r=>K' r (h++z) a) hk
  ·exact hv.elim
 case lookup t m k ok =>
  simp only[b1m,vop]at hv ⊢
  obtain⟨v,h1,h2⟩:=Det.vLookK _ hv
  refine⟨v,h1,fun z K' hk=>?_⟩
  have h3:=h2 (fun r=>K' r (h++z) a) hk
  generalize ev E tm m=m' at h3
  generalize ev E tm k=k' at h3
  exact c8W h3
 case call cl =>
  exfalso
  revert hs
  split
  ·split <;> simp
  ·simp
  ·simp
  ·simp
  ·simp
def g3H:Op→Bool
 | .alloc _ | .box _ _ | .makeMap _ _ | .makeSlice _ _ _=>true
 | _=>false
theorem d4Z{E:Env}{c:Bool}{tm:List (Nat×V)}{h:List VObj}{a:List Nat}{op:Op}{K:b1z}(hs:g3H op=true)(hv:b1m E c ⟨tm,h,a⟩ op K) :
  ∃ v x,K v (h++[x]) a∧∀ K',K' v (h++[x]) a→b1m E c ⟨tm,h,a⟩ op K':=by
 cases op <;> simp only[g3H,g9n]at hs
 case alloc t =>
  simp only[b1m,vop]at hv ⊢
  exact⟨_,_,hv.2,fun _ h'=>⟨hv.1,h'⟩⟩
 case box t x =>
  simp only[b1m,vop]at hv ⊢
  exact⟨_,_,hv.2,fun _ h'=>⟨hv.1,h'⟩⟩
 case makeMap t r =>
  simp only[b1m,vop]at hv ⊢
  exact⟨_,_,hv.2,fun _ h'=>⟨hv.1,h'⟩⟩
 case makeSlice t l c =>
  simp only[b1m,vop,b2Z]at hv ⊢
  split at hv
  ·exact⟨_,_,hv.2,fun _ h'=>⟨hv.1,h'⟩⟩
  ·exact hv.elim
theorem b9u{E:Env}{c:Bool}{s:St}{op:Op}{K:b1z}(hs:cls c op = .deff)(hv:b1m E c s op K):∃ v h' a',K v h' a'∧∀ K',K' v h' a'→b1m E c s op K':=by
 cases op <;> simp only[cls]at hs <;> try(exact Cls.noConfusion hs)
 all_goals try(exact hv.elim)
 case alloc t =>
  simp only[b1m,vop]at hv ⊢
  exact⟨_,_,_,hv.2,fun _ h'=>⟨hv.1,h'⟩⟩
 case box t x =>
  simp only[b1m,vop]at hv ⊢
  exact⟨_,_,_,hv.2,fun _ h'=>⟨hv.1,h'⟩⟩
 case store t x y =>
  simp only[b1m,vop,b9n]at hv ⊢
  split at hv
  ·split at hv
   ·split at hv
    ·exact⟨_,_,_,hv.2,fun _ h'=>⟨hv.1,h'⟩⟩
    ·exact hv.elim
   ·exact hv.elim
  ·split at hv
   ·exact⟨_,_,_,hv.2,fun _ h'=>⟨hv.1,h'⟩⟩
   ·exact hv.elim
  ·exact hv.elim
 case mapUpdate t m k v =>
  simp only[b1m,vop]at hv ⊢
  obtain⟨h',h1,h2⟩:=Det.vMapSetK hv
  exact⟨_,_,_,h1,fun K' hk=>h2 _ hk⟩
 case insert t m k v =>
  simp only[b1m,vop]at hv ⊢
  obtain⟨h',h1,h2⟩:=Det.vMapSetK hv
  exact⟨_,_,_,h1,fun K' hk=>h2 _ hk⟩
 case makeMap t r =>
  simp only[b1m,vop]at hv ⊢
  exact⟨_,_,_,hv.2,fun _ h'=>⟨hv.1,h'⟩⟩
 case makeSlice t l c =>
  simp only[b1m,vop,b2Z]at hv ⊢
  split at hv
  ·exact⟨_,_,_,hv.2,fun _ h'=>⟨hv.1,h'⟩⟩
  ·exact hv.elim
 case range t x =>
  simp only[b1m,vop,c1u]at hv ⊢
  split at hv
  ·exact⟨_,_,_,hv,fun _ h'=>h'⟩
  ·exact hv.elim
 case next x str =>
  simp only[b1m,vop,c7L]at hv ⊢
  obtain⟨h0,hv⟩:=hv
  split at hv
  ·split at hv
   ·split at hv
    ·rename_i hp
     refine⟨_,_,_,hv,fun _ h'=>⟨h0,?_⟩⟩
     rw[if_pos hp];exact h'
    ·rename_i hp
     refine⟨_,_,_,hv,fun _ h'=>⟨h0,?_⟩⟩
     rw[if_neg hp];exact h'
   ·exact hv.elim
  ·exact hv.elim
 case call cl =>
  simp only[b1m]at hv ⊢
  split at hv
  ·rename_i hc;rw[hc]at hs;simp only at hs;split at hs <;> cases hs
  ·rename_i hc;rw[hc]at hs;cases hs
  ·rename_i h1 h2
   unfold c2f at hv ⊢
   split at hv
   ·rename_i hc;exact absurd hc h2
   ·rename_i hc;rw[hc]at hs;cases hs
   ·rename_i hc;rw[hc]at hs;cases hs
   ·split at hv
    ·unfold d9n at hv ⊢
     split at hv
     ·rename_i hvt
      simp only[if_pos hvt]
      unfold c5A at hv ⊢
      split at hv
      case h_2=>exact hv.elim
      obtain⟨h0,hv⟩:=hv
      split at hv
      ·split at hv
       ·exact⟨_,_,_,hv.2,fun _ h'=>⟨h0,hv.1,h'⟩⟩
       ·exact hv.elim
      ·exact⟨_,_,_,hv.2,fun _ h'=>⟨h0,hv.1,h'⟩⟩
      ·exact hv.elim
     rename_i hvt
     simp only[if_neg hvt]
     unfold b5q at hv ⊢
     split at hv
     ·obtain⟨h0,hv⟩:=hv
      unfold c2K at hv ⊢
      split at hv
      ·exact hv.elim
      ·split at hv
       ·rename_i hx0
        exact⟨_,_,_,hv,fun _ h'=>⟨h0,by simp only[hx0,if_true];exact h'⟩⟩
       ·rename_i hx0
        exact⟨_,_,_,hv,fun _ h'=>⟨h0,by simp only[hx0,if_false];exact h'⟩⟩
      ·exact⟨_,_,_,hv.2,fun _ h'=>⟨h0,hv.1,h'⟩⟩
      ·exact⟨_,_,_,hv.2,fun _ h'=>⟨h0,hv.1,h'⟩⟩
     ·obtain⟨h0,hv⟩:=hv
      unfold c2K at hv ⊢
      split at hv
      ·exact hv.elim
      ·split at hv
       ·rename_i hx0
        exact⟨_,_,_,hv,fun _ h'=>⟨h0,by simp only[hx0,if_true];exact h'⟩⟩
       ·rename_i hx0
        exact⟨_,_,_,hv,fun _ h'=>⟨h0,by simp only[hx0,if_false];exact h'⟩⟩
      ·exact⟨_,_,_,hv.2,fun _ h'=>⟨h0,hv.1,h'⟩⟩
      ·exact⟨_,_,_,hv.2,fun _ h'=>⟨h0,hv.1,h'⟩⟩
     ·exact hv.elim
    ·exact hv.elim
   ·split at hv
    ·unfold c5Z at hv ⊢
     split at hv
     case h_2=>exact hv.elim
     split at hv
     case h_2=>exact hv.elim
     split at hv
     case h_2=>exact hv.elim
     exact⟨_,_,_,hv.2,fun _ h'=>⟨hv.1,h'⟩⟩
    ·exact hv.elim
   ·rename_i f hc;exact absurd hc (h1 f)
   ·exact hv.elim
theorem b2t{E:Env}{c:Bool}{s:St}{op:Op}{K K':b1z}(hv:b1m E c s op K)(hk:∀ v h a,K v h a→K' v h a):b1m E c s op K':=by
 cases hc:cls c op with
 | still =>
  obtain⟨tm,h,a⟩:=s
  obtain⟨v,h1,h2⟩:=b4G hc hv
  exact h2 _ _ _ (hk _ _ _ h1)
 | read =>
  obtain⟨tm,h,a⟩:=s
  obtain⟨v,h1,h2⟩:=b9I hc hv
  exact h2 _ (hk _ _ _ h1)
 | deff =>
  obtain⟨v,h',a',h1,h2⟩:=b9u hc hv
  exact h2 _ (hk _ _ _ h1)
 | ceff =>
  cases op <;> simp only[cls]at hc <;> try(exact Cls.noConfusion hc)
  rename_i cl
  simp only[b1m]at hv ⊢
  split at hc
  ·rename_i f hf
   split at hc
   ·rename_i hct
    simp only[hf]at hv ⊢
    split at hv
    ·obtain⟨h0,hv⟩:=hv
     rw[if_pos hct]at hv
     refine⟨h0,?_⟩
     rw[if_pos hct]
     exact hv.mono hk
    ·obtain⟨h0,hv⟩:=hv
     rw[if_pos hct]at hv
     refine⟨h0,?_⟩
     rw[if_pos hct]
     exact hv.mono hk
    ·exact hv.elim
   ·cases hc
  ·cases hc
  ·cases hc
  ·cases hc
  ·cases hc
theorem b7R{E:Env}{c:Bool}{tm tm':List (Nat×V)}{h:List VObj}{a:List Nat}{op:Op}{K:b1z}(hx:∀ x∈op.operands,ev E tm x=ev E tm' x)(hv:b1m E c ⟨tm,h,a⟩ op K):b1m E c ⟨tm',h,a⟩ op K:=by
 have hps:∀ (ps:Array (Nat×Operand)),(∀ x∈ps.toList.map (·.2),ev E tm x=ev E tm' x)→(ps.toList.map fun p=>(p.1,ev E tm p.2))=ps.toList.map fun p=>(p.1,ev E tm' p.2):=by
  intro ps hp
  refine List.map_congr_left fun p hp'=>?_
  rw[hp p.2 (h0k.2 ⟨p,hp',rfl⟩)]
 have hxs:∀ (xs:Array Operand),(∀ x∈xs,ev E tm x=ev E tm' x)→xs.toList.map (ev E tm)=xs.toList.map (ev E tm'):=by
  intro xs hp
  exact List.map_congr_left fun x hx=>hp x (by simpa using hx)
 cases op <;> simp only[Op.operands]at hx <;> simp only[b1m,vop]at hv ⊢
 all_goals try(exact hv.elim)
 case move x=>rw[hx x (by simp)]at hv;exact hv
 case assign x=>rw[hx x (by simp)]at hv;exact hv
 case pick x y z=>rw[hx x (by simp),hx y (by simp),hx z (by simp)]at hv;exact hv
 case alloc t=>exact hv
 case box t x=>rw[hx x (by simp)]at hv;exact hv
 case build t ps=>rw[hps ps (by simpa using hx)]at hv;exact hv
 case buildSlice t n ps=>rw[hps ps (by simpa using hx)]at hv;exact hv
 case load t x=>rw[hx x (by simp)]at hv;exact hv
 case store t x y=>rw[hx x (by simp),hx y (by simp)]at hv;exact hv
 case nilCheck x=>rw[hx x (by simp)]at hv;exact hv
 case makeInterface t x=>rw[hx x (by simp)]at hv;exact hv
 case binOp op t x y ty=>rw[hx x (by simp),hx y (by simp)]at hv;exact hv
 case unOp op t x=>rw[hx x (by simp)]at hv;exact hv
 case convert s d x=>rw[hx x (by simp)]at hv;exact hv
 case makeFunc f first caps =>
  have e1:=hxs caps fun x hx'=>hx x (by simp[hx'])
  have e2:=hxs first fun x hx'=>hx x (by simp[hx'])
  split at hv
  ·split at hv
   ·rename_i h1
    rw[e1]at hv
    exact hv
   ·rename_i h1
    rw[h1]at e2
    rw[e2]at hv
    exact hv
  ·exact hv.elim
 case slice t x lo hi mx =>
  rw[hx x (by simp)]at hv
  have e:∀ o:Option Operand,(∀ x∈o,ev E tm x=ev E tm' x)→o.map (ev E tm)=o.map (ev E tm'):=by
   intro o ho
   cases o with
   | none=>rfl
   | some x=>simp[ho x rfl]
  rw[e lo fun x hx'=>hx x (by simp at hx';simp[hx']),e hi fun x hx'=>hx x (by simp at hx';simp[hx']),e mx fun x hx'=>hx x (by simp at hx';simp[hx'])]at hv
  exact hv
 case fieldAddr t x f=>rw[hx x (by simp)]at hv;exact hv
 case field t x f=>rw[hx x (by simp)]at hv;exact hv
 case indexAddr t x i=>rw[hx x (by simp),hx i (by simp)]at hv;exact hv
 case index t x i=>rw[hx x (by simp),hx i (by simp)]at hv;exact hv
 case extract x i=>rw[hx x (by simp)]at hv;exact hv
 case lookup t m k ok=>rw[hx m (by simp),hx k (by simp)]at hv;exact hv
 case mapUpdate t m k v=>rw[hx m (by simp),hx k (by simp),hx v (by simp)]at hv;exact hv
 case insert t m k v=>rw[hx m (by simp),hx k (by simp),hx v (by simp)]at hv;exact hv
 case makeMap t r=>exact hv
 case makeSlice t l c=>rw[hx l (by simp),hx c (by simp)]at hv;exact hv
 case range t x=>rw[hx x (by simp)]at hv;exact hv
 case next x str=>rw[hx x (by simp)]at hv;exact hv
 case call cl =>
  simp only[Call.operands]at hx
  have ha:cl.args.toList.map (ev E tm)=cl.args.toList.map (ev E tm'):=hxs cl.args fun x hx'=>hx x (by simp[hx'])
  split at hv
  ·rename_i f hc
   rw[hx f (by simp[hc])]at hv
   rw[ha]at hv
   exact hv
  ·rename_i hc
   split at hv
   ·rename_i t x h1 h2
    have hm:x∈cl.args:=by
     have:x∈cl.args.toList:=by rw[h2];simp
     simpa using this
    rw[hx x (by simp[hm])]at hv
    exact hv
   ·exact hv.elim
  ·rename_i h1 h2
   have hm:∀ z∈cl.args.toList,ev E tm z=ev E tm' z:=fun z hz=>hx z (by
    have:z∈cl.args:=by simpa using hz
    simp[this])
   unfold c2f at hv ⊢
   split at hv
   ·rename_i hc;exact absurd hc h2
   ·split at hv
    ·rename_i x y g2
     rw[hm x (by rw[g2];simp),hm y (by rw[g2];simp)]at hv
     simp only[g2];exact hv
    ·exact hv.elim
   ·split at hv
    ·rename_i x y g2
     rw[hm x (by rw[g2];simp),hm y (by rw[g2];simp)]at hv
     simp only[g2];exact hv
    ·rename_i x y z g2
     rw[hm x (by rw[g2];simp),hm y (by rw[g2];simp),hm z (by rw[g2];simp)]at hv
     simp only[g2];exact hv
    ·exact hv.elim
   ·split at hv
    ·rename_i t t' x y g1 g2
     rw[hm x (by rw[g2];simp),hm y (by rw[g2];simp)]at hv
     simp only[g1,g2];exact hv
    ·exact hv.elim
   ·split at hv
    ·rename_i t t' x y g1 g2
     rw[hm x (by rw[g2];simp),hm y (by rw[g2];simp)]at hv
     simp only[g1,g2];exact hv
    ·exact hv.elim
   ·rename_i f hc;exact absurd hc (h1 f)
   ·exact hv.elim
end Go.Vg
