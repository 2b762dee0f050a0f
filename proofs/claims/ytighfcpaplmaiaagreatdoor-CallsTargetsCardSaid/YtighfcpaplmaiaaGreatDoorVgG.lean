import Derived.Test.YtighfcpaplmaiaaGreatDoorVgFk
import Derived.Test.YtighfcpaplmaiaaGreatDoorVgEc
set_option linter.unusedVariables false
set_option linter.unusedSimpArgs false
namespace Go.Vg
open Go.RowKit
abbrev b1z:=V→List VObj→List Nat→Prop
def b2k(E:Env)(G:Gh)(arr:List Nat)(w0:Base)(K:b1z)(val:Value)(w':World):Prop :=
 ∃ v heap' arr' G',K v heap' arr'∧Ext G arr G' arr'∧RelW E G' heap' arr' w0 w'∧RV E.P G' arr' v val
def b8d(P:Program)(G:Gh)(arr:List Nat)(args:List V)(vals:Array Value):Prop :=
 args.length=vals.size∧∀ (j:Nat) x v,args[j]? = some x→vals[j]? = some v→RV P G arr x v
def d6p(E:Env)(G:Gh)(arr:List Nat)(w0:Base)(ch:List PanicEntry)(w':World):Prop :=
 (∃ t v,ch=[{ v := .iface t v,recovered:=false }])∧∃ heap' arr' G',E.die heap' arr'∧Ext G arr G' arr'∧RelW E G' heap' arr' w0 w'
def d9G(E:Env)(G:Gh)(arr:List Nat)(w0:Base)(K:b1z)(e:Ending)(w':World):Prop :=
 (∃ val,e = .returned val∧b2k E G arr w0 K val w')∨∃ ch,e = .panicked ch∧d6p E G arr w0 ch w'
def b0r(E:Env)(f:FuncId)(args:List V)(heap:List VObj)(arr:List Nat)(K:b1z):Prop :=
 ∀ G w0 w vals,RelW E G heap arr w0 w→b8d E.P G arr args vals→Calls E.P f vals w fun e w'=>d9G E G arr w0 K e w'
theorem RelW.env{E E':Env}(hP:E.P=E'.P)(hg:E.gl=E'.gl)(hB:E.byteT=E'.byteT){w0:Base}(hI:E.ini w0.w→E'.ini w0.w){G:Gh}{heap:List VObj}{arr:List Nat}{w:World}(h:RelW E G heap arr w0 w):RelW E' G heap arr w0 w:=by
 obtain⟨P,gl,tg,bt,i0,i1,d,vt⟩:=E
 obtain⟨P',gl',tg',bt',i0',i1',d',vt'⟩:=E'
 cases hP;cases hg;cases hB
 exact⟨h.newF,h.glob,h.below,h.frz,h.one,h.obj,h.lenφ,h.nod,h.sep,h.geφ,h.lenρ,h.reg,h.regd,h.fre,h.bldA (fun _ _=>rfl) (fun _ _ hs=>hs),hI h.ini,h.vs⟩
theorem RelW.al{E:Env}{G:Gh}{heap:List VObj}{arr:List Nat}{w0:Base}{w:World}(h:RelW E G heap arr w0 w):RelW E.alive G heap arr w0 w:=RelW.env (E:=E) (E':=E.alive) rfl rfl rfl (fun h=>h) h
theorem RelW.unal{E:Env}{G:Gh}{heap:List VObj}{arr:List Nat}{w0:Base}{w:World}(h:RelW E.alive G heap arr w0 w):RelW E G heap arr w0 w:=RelW.env (E:=E.alive) (E':=E) rfl rfl rfl (fun h=>h) h
theorem d9G.alive{E:Env}{G:Gh}{arr:List Nat}{w0:Base}{K:b1z}{e:Ending}{w':World}(h:d9G E.alive G arr w0 K e w'):∃ val,e = .returned val∧b2k E.alive G arr w0 K val w':=by
 rcases h with h | ⟨ch,_,_,_,_,_,h,_⟩
 ·exact h
 ·exact h.elim
theorem b0r.unal{E:Env}{f:FuncId}{args:List V}{heap:List VObj}{arr:List Nat}{K:b1z}(h:b0r E.alive f args heap arr K):b0r E f args heap arr K :=
 fun G w0 w vals hr ha=>(h G w0 w vals hr.al ha).mono fun e w' hg =>
  let⟨val,he,v,heap',arr',G',h1,h2,h3,h4⟩:=hg.alive
  .inl ⟨val,he,v,heap',arr',G',h1,h2,h3.unal,h4⟩
def b0u(E:Env)(f:FuncId)(args:List V)(r:V):Prop :=
 b1a args=true∧r.pure=true∧b0r E.alive f args [] [] fun r' _ _=>r'=r
theorem b8d.share{P:Program}{G:Gh}{arr:List Nat}{args:List V}{vals:Array Value}(h:b8d P G arr args vals):b8d P G arr (args.map share) vals:=by
 refine⟨by rw[g9r];exact h.1,fun j x v hx hv=>?_⟩
 rw[g9q]at hx
 obtain⟨x',hx',rfl⟩:=g9l.1 hx
 exact(h.2 j x' v hx' hv).share
theorem b0u.calls{E:Env}{f:FuncId}{args cargs:List V}{heap:List VObj}{arr:List Nat}{r:V}{K:b1z}(h:b0u E f cargs r)(ha:args.map share=cargs)(hk:K r heap arr) :
  b0r E f args heap arr K:=by
 obtain⟨h1,h2,h3⟩:=h
 intro G w0 w vals hr hargs
 have hargs':b8d E.P ⟨G.F,[],[]⟩ [] cargs vals:=by
  have:=hargs.share
  rw[ha]at this
  exact⟨this.1,fun j x v hx hv=>(this.2 j x v hx hv).pure (b2L h1 j x hx) _ _ fun _ _ _ h=>h⟩
 refine(h3 _ _ w vals hr.al.hide hargs').mono fun e w' hg=>?_
 obtain⟨val,he,v,heap',arr',G',hv,hx,hr',hrv⟩:=hg.alive
 refine .inl ⟨val,he,r,heap,arr,{ G with F:=G'.F },hk,?_⟩
 subst hv
 replace hr':=hr'.unal
 obtain⟨g1,g2⟩:=hr.back (F':=G'.F) hx.F hr'.newF hr'.frz hr'.one hr'.below
 exact⟨g2,g1,hrv.pure h2 _ _ fun _ _ _ h=>h⟩
theorem b0r.mono{E:Env}{f:FuncId}{args:List V}{heap:List VObj}{arr:List Nat}{K K':b1z}(h:b0r E f args heap arr K)(hk:∀ v h a,K v h a→K' v h a) :
  b0r E f args heap arr K':=fun G w0 w vals hr ha=>(h G w0 w vals hr ha).mono fun e w' hg=>hg.imp (fun⟨val,he,v,heap',arr',G',hv,rest⟩=>⟨val,he,v,heap',arr',G',hk _ _ _ hv,rest⟩) id
def b0t(P:Program)(f:FuncId):Bool :=
 match P.funcs[f]? with
 | some fn=>fn.name != "runtime.NumGoroutine" && fn.body.isSome
 | none=>false
theorem c1B{P:Program}{f:FuncId}(h:b0t P f=true)(args:Array Value)(w:World):(callFunc f args).run P w = .ok (.enter f args) w:=by
 unfold b0t at h
 cases hf:P.funcs[f]? with
 | none=>simp[hf]at h
 | some fn =>
  simp only[hf,g9g,bne_iff_ne,ne_eq]at h
  have hb:fn.body.isNone=false:=by
   cases hfb:fn.body <;> simp_all
  have hne:¬ fn.body=none:=fun hn=>by rw[hn]at hb;cases hb
  simp[callFunc,program,Sem.run,hf,h.1,hb,hne]
def d7n(k:IntKind)(a b:Int):Int:=((BitVec.ofInt k.bits a ^^^ BitVec.ofInt k.bits b).toNat:Int)
def vIntOp(op:BinOp)(k:IntKind)(a b:Int)(K:V→Prop):Prop :=
 match op with
 | .add=>K (.int k (k.wrap (a+b)))
 | .sub=>K (.int k (k.wrap (a - b)))
 | .mul=>K (.int k (k.wrap (a * b)))
 | .quo=>b≠0∧K (.int k (k.wrap (a.tdiv b)))
 | .rem=>b≠0∧K (.int k (a.tmod b))
 | .eql=>K (.bool (a == b))
 | .neq=>K (.bool (a != b))
 | .lss=>K (.bool (decide (a<b)))
 | .leq=>K (.bool (decide (a≤b)))
 | .gtr=>K (.bool (decide (a > b)))
 | .geq=>K (.bool (decide (a ≥ b)))
 | .xor=>K (.int k (k.wrap (d7n k a b)))
 | _=>False
def vStrOp(op:BinOp)(a b:ByteArray)(K:V→Prop):Prop :=
 match op with
 | .add=>a.size+b.size≤1152921504606846976∧K (.str (a++b))
 | .eql=>K (.bool (a.toList == b.toList))
 | .neq=>K (.bool (!(a.toList == b.toList)))
 | .lss=>K (.bool (Op.bytesLess a.toList b.toList))
 | .leq=>K (.bool (Op.bytesLess a.toList b.toList || (a.toList == b.toList)))
 | .gtr=>K (.bool (!(Op.bytesLess a.toList b.toList || (a.toList == b.toList))))
 | .geq=>K (.bool (!(Op.bytesLess a.toList b.toList)))
 | _=>False
def c7O(o:Option (List Nat))(xs ys:List V):Prop:=match o with
 | some ks=>b3A ks xs ys=true
 | none=>False
def f2c(op:BinOp)(o:Option Bool)(K:V→Prop):Prop:=match op,o with
 | .eql,some b=>K (.bool b)
 | .neq,some b=>K (.bool (!b))
 | _,_=>False
def vBin(E:Env)(op:BinOp)(t:TypeId)(x y:V)(K:V→Prop):Prop :=
 match x,y with
 | .int k a,.int k' b=>k=k'∧vIntOp op k a b K
 | .str a,.str b=>vStrOp op a b K
 | .bool a,.bool b=>E.P.underlying t=some .bool ∧
  match op with
  | .eql=>K (.bool (a == b))
  | .neq=>K (.bool (!(a == b)))
  | _=>False
 | .agg xs,.agg ys=>c7O (b3f E.P t) xs ys∧f2c op (eqL xs ys) K
 | _,_=>False
theorem d8F{E:Env}{G:Gh}{arr:List Nat}{w:World}{op:BinOp}{t:TypeId}{x y:V}{vx vy:Value}{ox oy:Operand}{K:V→Prop}(hx:RV E.P G arr x vx)(hy:RV E.P G arr y vy)
  (hK:vBin E op t x y K):∃ u z,(do eqGuard op t ox oy vx vy;binOp op t vx vy:Sem Value).run E.P w = .ok u w∧K z∧RV E.P G arr z u:=by
 unfold vBin at hK
 split at hK
 ·rename_i k a k' b
  obtain⟨rfl,hk⟩:=hK
  cases hx;cases hy
  have hg:(eqGuard op t ox oy (.int k a) (.int k b)).run E.P w = .ok () w:=by
   unfold eqGuard;cases op <;> simp
  unfold vIntOp at hk
  simp only[h0z,hg,h0y]
  cases op <;> simp only[]at hk
  case add=>exact⟨_,_,by simp[binOp,Op.intArith],hk,.int _ _⟩
  case sub=>exact⟨_,_,by simp[binOp,Op.intArith],hk,.int _ _⟩
  case mul=>exact⟨_,_,by simp[binOp,Op.intArith],hk,.int _ _⟩
  case quo=>exact⟨_,_,by simp[binOp,Op.intDiv,hk.1],hk.2,.int _ _⟩
  case rem=>exact⟨_,_,by simp[binOp,Op.intDiv,hk.1],hk.2,.int _ _⟩
  case xor=>exact⟨_,_,by simp[binOp,Op.intBits,d7n],hk,.int _ _⟩
  all_goals exact⟨_,_,by simp[binOp,Op.intCmp],hk,.bool _⟩
 ·rename_i a b
  cases hx;cases hy
  have hg:(eqGuard op t ox oy (.string a) (.string b)).run E.P w = .ok () w:=by
   unfold eqGuard;cases op <;> simp
  unfold vStrOp at hK
  simp only[h0z,hg,h0y]
  cases op <;> simp only[]at hK
  case add =>
   refine⟨_,_,?_,hK.2,.str _ (by simpa using hK.1)⟩
   have:¬ (((a.size+b.size:Nat):Int) > IntKind.i64.max):=by
    have:=hK.1
    simp only[IntKind.max,IntKind.signed,IntKind.bits,if_true]
    omega
   simp only[binOp,Op.stringOp]
   rw[if_neg this]
   rfl
  all_goals exact⟨_,_,by simp[binOp,Op.stringOp],hK,.bool _⟩
 rotate_right 2
 ·rename_i xs ys
  obtain⟨h1,h2⟩:=hK
  unfold c7O at h1
  split at h1
  case h_2=>exact h1.elim
  rename_i ks hks
  have hks0:=hks
  obtain⟨-,hst,-⟩:=c2E hks
  cases hx with
  | agg _ vxs hlx hrx =>
  cases hy with
  | agg _ vys hly hry =>
  have hprog:(program:Sem Program).run E.P w = .ok E.P w:=rfl
  have hg:(eqGuard op t ox oy (.agg vxs) (.agg vys)).run E.P w = .ok () w:=by
   unfold eqGuard;cases op <;> simp[hprog,hst]
  have heq:=d1s (w:=w) (hks0) h1 (.agg xs vxs hlx hrx) (.agg ys vys hly hry)
  obtain⟨b,hb,hrun⟩:=heq
  rw[hb]at h2
  simp only[h0z,hg,h0y]
  unfold f2c at h2
  split at h2
  ·rename_i b' e;cases e
   exact⟨_,_,by simp only[binOp,h0z,hrun,h0y,h0A],h2,.bool _⟩
  ·rename_i b' e;cases e
   exact⟨_,_,by simp only[binOp,h0z,hrun,h0y,h0A],h2,.bool _⟩
  ·exact h2.elim
 ·exact hK.elim
 ·rename_i a b
  obtain⟨ht,hk⟩:=hK
  cases hx;cases hy
  have hg:(eqGuard op t ox oy (.bool a) (.bool b)).run E.P w = .ok () w:=by
   unfold eqGuard;cases op <;> simp
  simp only[h0z,hg,h0y]
  cases op <;> simp only[]at hk <;> try exact hk.elim
  case eql=>exact⟨_,_,by simp only[binOp,h0z,c0k a b ht,h0y,h0A],hk,.bool _⟩
  case neq=>exact⟨_,_,by simp only[binOp,h0z,c0k a b ht,h0y,h0A],hk,.bool _⟩
def b8f:Operand→Bool
 | .const .nilIface=>true
 | _=>false
def vNilI(E:Env)(op:BinOp)(t:TypeId)(x:V)(K:V→Prop):Prop :=
 match E.P.underlying t,op,x with
 | some (.interface _),.eql,.nilif=>K (.bool true)
 | some (.interface _),.neq,.nilif=>K (.bool false)
 | some (.interface _),.eql,.iface _ _=>K (.bool false)
 | some (.interface _),.neq,.iface _ _=>K (.bool true)
 | _,_,_=>False
def vBinC(E:Env)(op:BinOp)(t:TypeId)(c:Bool)(x y:V)(K:V→Prop):Prop:=if c=true then vNilI E op t x K else vBin E op t x y K
theorem f0b{E:Env}{G:Gh}{arr:List Nat}{w:World}{op:BinOp}{t:TypeId}{x:V}{vx:Value}{ox oy:Operand}{K:V→Prop}(hx:RV E.P G arr x vx)(ho:b8f oy=true)
  (hK:vNilI E op t x K):∃ u z,(do eqGuard op t ox oy vx .nilIface;binOp op t vx .nilIface:Sem Value).run E.P w = .ok u w∧K z∧RV E.P G arr z u:=by
 have hoy:oy = .const .nilIface:=by
  unfold b8f at ho
  split at ho
  ·rfl
  ·cases ho
 subst hoy
 unfold vNilI at hK
 have heq:∀ ms,E.P.underlying t=some (.interface ms)→(Op.equal t .nilIface .nilIface).run E.P w = .ok true w:=fun ms h=>by
  have:∀ d,(Op.equalIn (d+1) t .nilIface .nilIface).run E.P w = .ok true w:=fun d=>by
   simp only[Op.equalIn,h0z,b0y h,h0y,h0A]
  exact this 9999
 have heq2:∀ ms a b,E.P.underlying t=some (.interface ms)→(Op.equal t (.iface a b) .nilIface).run E.P w = .ok false w:=fun ms a b h=>by
  have:∀ d,(Op.equalIn (d+1) t (.iface a b) .nilIface).run E.P w = .ok false w:=fun d=>by
   simp only[Op.equalIn,h0z,b0y h,h0y,h0A]
  exact this 9999
 have hg1:(eqGuard op t ox (.const .nilIface) .nilIface .nilIface).run E.P w = .ok () w:=by
  unfold eqGuard;cases op <;> simp
 have hg2:∀ a b,(eqGuard op t ox (.const .nilIface) (.iface a b) .nilIface).run E.P w = .ok () w:=fun a b=>by
  unfold eqGuard;cases op <;> simp
 split at hK
 ·rename_i ms hu
  cases hx
  simp only[h0z,hg1,h0y]
  exact⟨_,_,by simp only[binOp,h0z,heq ms hu,h0y,h0A],hK,.bool _⟩
 ·rename_i ms hu
  cases hx
  simp only[h0z,hg1,h0y]
  exact⟨_,_,by simp only[binOp,h0z,heq ms hu,h0y,h0A];rfl,hK,.bool _⟩
 ·rename_i ms a b hu
  cases hx
  simp only[h0z,hg2,h0y]
  exact⟨_,_,by simp only[binOp,h0z,heq2 ms _ _ hu,h0y,h0A],hK,.bool _⟩
 ·rename_i ms a b hu
  cases hx
  simp only[h0z,hg2,h0y]
  exact⟨_,_,by simp only[binOp,h0z,heq2 ms _ _ hu,h0y,h0A];rfl,hK,.bool _⟩
 ·exact hK.elim
def vMkIface(E:Env)(t:TypeId)(x:V)(K:V→Prop):Prop :=
 match E.P.underlying t with
 | some (.interface _)=>False
 | none=>False
 | _=>K (.iface t x)
def d2x(E:Env)(heap:List VObj)(arr:List Nat)(x:V):Prop :=
 match x with
 | .iface _ _=>E.die heap arr
 | _=>False
def vUn(op:UnOp)(x:V)(K:V→Prop):Prop :=
 match op,x with
 | .neg,.int k n=>K (.int k (k.wrap (0 - n)))
 | .not,.bool b=>K (.bool (!b))
 | _,_=>False
def vPart(E:Env)(t:TypeId)(cs:List V)(off:Nat)(K:V→Prop):Prop :=
 match E.P.underlying t with
 | some (.struct _) | some (.array _ _)=>off+E.P.cellsOf t≤cs.length∧K (.agg ((cs.drop off).take (E.P.cellsOf t)))
 | some _=>vHead (cs.drop off) K
 | none=>False
theorem c6t{E:Env}{G:Gh}{arr:List Nat}{w:World}{t:TypeId}{cs:List V}{vs:Array Value}{off:Nat}{K:V→Prop}(hr:RL E.P G arr cs vs)(hK:vPart E t cs off K) :
  ∃ u z,(part t vs off).run E.P w = .ok u w∧K z∧RV E.P G arr z u:=by
 have hagg:∀ d,E.P.underlying t=some d→c0t d=true→off+E.P.cellsOf t≤cs.length∧K (.agg ((cs.drop off).take (E.P.cellsOf t))) →
   ∃ u z,(part t vs off).run E.P w = .ok u w∧K z∧RV E.P G arr z u:=by
  intro d hd hb ⟨h1,h2⟩
  obtain⟨i,hi⟩:=b2C hd
  refine⟨.agg (vs.extract off (off+E.P.cellsOf t)),.agg ((cs.drop off).take (E.P.cellsOf t)),by simp only[part,h0z,b4E hd,hb,h0y,if_true,b0O hi,h0A],h2,.agg _ _ ?_ fun j c v hc hv=>?_⟩
  ·simp[hr.1];omega
  ·have hjl:=(g8Y.1 hc).1
   simp only[List.length_take,h0e]at hjl
   rw[List.getElem?_take,if_pos (by omega),g9Y]at hc
   rw[Array.getElem?_extract]at hv
   have:j<min (off+E.P.cellsOf t) vs.size - off:=by have:=hr.1;omega
   rw[if_pos this]at hv
   exact hr.2 _ _ _ hc hv
 have hone:∀ d,E.P.underlying t=some d→c0t d=false→vHead (cs.drop off) K→∃ u z,(part t vs off).run E.P w = .ok u w∧K z∧RV E.P G arr z u:=by
  intro d hd hb hk
  cases hdrop:cs.drop off with
  | nil=>rw[hdrop]at hk;exact hk.elim
  | cons c r =>
   rw[hdrop]at hk
   have hc:cs[off]? = some c:=by
    have:(cs.drop off)[0]? = some c:=by rw[hdrop];rfl
    rwa [g9Y,h0h]at this
   have hl:off<vs.size:=by rw[hr.1];exact(g8Y.1 hc).1
   refine⟨vs[off],c,?_,hk,hr.2 off c _ hc (g9p hl)⟩
   simp only[part,h0z,b4E hd,hb,h0y,g9n,if_false,g9p hl,h0A]
 unfold vPart at hK
 cases hd:E.P.underlying t with
 | none=>rw[hd]at hK;exact hK.elim
 | some d =>
  rw[hd]at hK
  cases d <;> first | exact hagg _ hd rfl hK | exact hone _ hd rfl hK
def b5b(s:ByteArray)(i:Int):Int:=match s[i.toNat]? with
 | some b=>b.toNat
 | none=>0
def vFieldAddr(E:Env)(s:TypeId)(a:V)(f:Nat)(K:V→Prop):Prop :=
 match E.P.underlying s with
 | some (.struct fs)=>match fs[f]? with
  | some fd=>(b0C E.P fd.type=true∧E.P.cellsOf fd.type≠0) ∧
   match a with
   | .fptr cs=>K (.fptr (cs.drop fd.offset))
   | .ptr id off=>K (.ptr id (off+fd.offset))
   | .vptr id k gen off=>K (.vptr id k gen (off+fd.offset))
   | _=>False
  | none=>False
 | _=>False
def vIndexAddr(E:Env)(t:TypeId)(x ix:V)(K:V→Prop):Prop :=
 match E.P.underlying t,x,ix with
 | some (.slice e),.slice _ e' es,.int _ i=>(e'=e∧b0C E.P e=true∧0≤i∧i<es.length)∧K (.fptr (es.getD i.toNat []))
 | some (.slice e),.mslice id off len _ e',.int _ i=>(e'=e∧b0C E.P e=true∧0≤i∧i<len)∧K (.ptr id (off+i.toNat * E.P.cellsOf e))
 | some (.slice e),.vec id k gen len e',.int _ i=>(e'=e∧b0C E.P e=true∧0≤i∧i<len)∧K (.vptr id k gen (i.toNat * E.P.cellsOf e))
 | some (.array n e),.fptr cs,.int _ i=>(b0C E.P e=true∧0≤i∧i<n)∧K (.fptr (cs.drop (i.toNat * E.P.cellsOf e)))
 | some (.array n e),.ptr id off,.int _ i=>(b0C E.P e=true∧0≤i∧i<n)∧K (.ptr id (off+i.toNat * E.P.cellsOf e))
 | _,_,_=>False
def vIndex(E:Env)(t:TypeId)(x ix:V)(K:V→Prop):Prop :=
 match E.P.underlying t,x,ix with
 | some .string,.str s,.int _ i=>(0≤i∧i<s.size)∧K (.int .u8 (b5b s i))
 | some (.array n e),.agg cs,.int _ i=>(b0C E.P e=true∧0≤i∧i<n)∧vPart E e cs (i.toNat * E.P.cellsOf e) K
 | _,_,_=>False
def d3h(E:Env)(t:TypeId)(x:V)(K:V→Prop):Prop :=
 match E.P.underlying t,x with
 | some .string,.str s=>s.size≤1152921504606846976→K (.int .i64 s.size)
 | some (.slice _),.slice _ e es=>es.length * E.P.bytesOf e≤140737488355328→es.length≤140737488355328→K (.int .i64 es.length)
 | some (.slice _),.mslice _ _ len _ _=>len≤140737488355328→K (.int .i64 len)
 | some (.slice _),.vec _ _ _ len _=>len≤140737488355328→K (.int .i64 len)
 | _,_=>False
def b2v(d:Int):Option V→Option Int
 | none=>some d
 | some (.int _ i)=>some i
 | _=>none
def vSlice(E:Env)(t:TypeId)(x:V)(lo hi mx:Option V)(K:V→Prop):Prop :=
 match E.P.underlying t,x,mx with
 | some .string,.str s,none=>match b2v 0 lo,b2v s.size hi with
  | some l,some h=>(0≤l∧l≤h∧h≤s.size)∧K (.str (s.extract l.toNat h.toNat))
  | _,_=>False
 | some (.slice e),.slice _ e' es,none=>match b2v 0 lo,b2v es.length hi with
  | some l,some h=>((es=[]∨e'=e)∧b0C E.P e=true∧0≤l∧l≤h∧h≤es.length)∧K (sl e ((es.take h.toNat).drop l.toNat))
  | _,_=>False
 | _,_,_=>False
def b8j:V→Bool
 | .slice .full _ _=>true
 | .slice (.arr _) _ _=>true
 | _=>false
def d9n(E:Env)(heap:List VObj)(arr:List Nat)(t t':TypeId)(x y:V)(K:b1z):Prop :=
 if(E.vecT t && !b8j x)=true then c5A E heap arr t t' x y K else b5q E arr t t' x y fun r arr'=>K r heap arr'
def b8K(E:Env)(heap:List VObj)(t:TypeId)(x:V)(K:V→Prop):Prop:=match x with
 | .map id=>match E.P.underlying t,heap[id]? with
  | some (.map _ _),some (.map es)=>K (.int .i64 es.length)
  | _,_=>False
 | x=>d3h E t x K
def b6r:V→Option V→Option V→Option V→Bool
 | .slice (.arr _) _ (_::_),some (.int _ _),none,none=>true
 | .slice .full _ (_::_),some (.int _ _),none,none=>true
 | .vec ..,none,some (.int _ _),none=>true
 | _,_,_,_=>false
def c3Q(E:Env)(arr:List Nat)(t:TypeId)(x:V)(lo hi:Option V)(K:V→List Nat→Prop):Prop :=
 match E.P.underlying t,x,lo,hi with
 | some (.slice e),.slice (.arr k) e' es,some (.int _ l),_=>(e'=e∧b0C E.P e=true∧0≤l∧l≤es.length∧arr[k]? = some es.length)∧K (.slice (.arr arr.length) e' (es.drop l.toNat)) (arr.set k (es.length+1)++[es.length - l.toNat])
 | some (.slice e),.slice .full e' es,some (.int _ l),_=>(e'=e∧b0C E.P e=true∧0≤l∧l≤es.length)∧K (.slice .full e' (es.drop l.toNat)) arr
 | some (.slice e),.vec id k gen len e',none,some (.int _ h)=>(e'=e∧b0C E.P e=true∧0≤h∧h≤len∧arr[k]? = some gen)∧K (.vec id k gen h.toNat e') arr
 | _,_,_,_=>False
def c2f(E:Env)(s:St)(c:Call)(K:b1z):Prop :=
 match c.callee with
 | .builtin .len=>match c.argTypes[0]?,c.args.toList with
  | some t,[x]=>b8K E s.heap t (ev E s.tmps x) fun r=>K r s.heap s.arr
  | _,_=>False
 | .builtin .min=>match c.args.toList with
  | [x,y]=>vMin (ev E s.tmps x) (ev E s.tmps y) fun r=>K r s.heap s.arr
  | _=>False
 | .builtin .max=>match c.args.toList with
  | [x,y]=>vMax (ev E s.tmps x) (ev E s.tmps y) fun r=>K r s.heap s.arr
  | [x,y,z]=>vMax3 (ev E s.tmps x) (ev E s.tmps y) (ev E s.tmps z) fun r=>K r s.heap s.arr
  | _=>False
 | .builtin .append=>match c.argTypes.toList,c.args.toList with
  | [t,t'],[x,y]=>d9n E s.heap s.arr t t' (ev E s.tmps x) (ev E s.tmps y) K
  | _,_=>False
 | .builtin .copy=>match c.argTypes.toList,c.args.toList with
  | [t,t'],[x,y]=>c5Z E s.heap t t' (ev E s.tmps x) (ev E s.tmps y) fun r heap'=>K r heap' s.arr
  | _,_=>False
 | .value f=>match ev E s.tmps f with
  | .func fid caps=>b0t E.P fid=true∧b0r E fid (c.args.toList.map (ev E s.tmps)++caps) s.heap s.arr K
  | .meth fid xs=>b0t E.P fid=true∧b0r E fid (xs++c.args.toList.map (ev E s.tmps)) s.heap s.arr K
  | _=>False
 | _=>False
def f8A:List V→Bool
 | [.nilp,.slice .nil _ []]=>true
 | _=>false
def d6X(E:Env)(t:TypeId)(cs:List V):VObj:=if E.tag t=true then .builder t ⟨#[]⟩else .cells cs
def d1Q(E:Env)(t:TypeId)(cs:List V):Prop:=E.tag t=true→f8A cs=true
def vop(E:Env)(s:St)(op:Op)(K:b1z):Prop :=
 match op with
 | .move x | .assign x=>K (ev E s.tmps x) s.heap s.arr
 | .pick c a b=>match ev E s.tmps c with
  | .bool t=>K (if t then ev E s.tmps a else ev E s.tmps b) s.heap s.arr
  | _=>False
 | .alloc t=>(b5L E t=true∧d1Q E t (b3t E t))∧K (.ptr s.heap.length 0) (s.heap++[d6X E t (b3t E t)]) s.arr
 | .box t x=>(ev E s.tmps x).some? = true∧K (.ptr s.heap.length 0) (s.heap++[.cells (cellsV (ev E s.tmps x))]) s.arr
 | .build t parts=>vBuild E t (parts.toList.map fun p=>(p.1,ev E s.tmps p.2)) fun r=>K r s.heap s.arr
 | .buildSlice t len parts=>vBuildSlice E t len (parts.toList.map fun p=>(p.1,ev E s.tmps p.2)) fun r=>K r s.heap s.arr
 | .load t a=>match vAt s.heap (ev E s.tmps a)with
  | some cs=>vLoadL E t cs fun r=>K r s.heap s.arr
  | none=>False
 | .store t a x=>b9n E s.heap t (ev E s.tmps a) (ev E s.tmps x) fun heap'=>K .junk heap' s.arr
 | .nilCheck x=>match ev E s.tmps x with
  | .ptr id off=>K (.ptr id off) s.heap s.arr
  | .fptr cs=>K (.fptr cs) s.heap s.arr
  | .vptr id k gen off=>K (.vptr id k gen off) s.heap s.arr
  | _=>False
 | .binOp op t x y _=>vBinC E op t (b8f y) (ev E s.tmps x) (ev E s.tmps y) fun r=>K r s.heap s.arr
 | .makeInterface t x=>vMkIface E t (ev E s.tmps x) fun r=>K r s.heap s.arr
 | .panic x=>d2x E s.heap s.arr (ev E s.tmps x)
 | .unOp op _ x=>vUn op (ev E s.tmps x) fun r=>K r s.heap s.arr
 | .convert src dst x=>match E.P.underlying src,E.P.underlying dst,ev E s.tmps x with
  | some _,some (.int k),.int _ n=>K (.int k (k.wrap n)) s.heap s.arr
  | some _,some .string,.str b=>K (.str b) s.heap s.arr
  | some (.slice e),some .string,.slice _ e' es=>((es=[]∨e'=e)∧E.P.underlying e=some (.int .u8)∧E.P.cellsOf e=1)∧match b9t es with
   | some ns=>K (.str (b9e ns)) s.heap s.arr
   | none=>False
  | some .string,some (.slice e),.str b=>(E.P.underlying e=some (.int .u8)∧E.P.cellsOf e=1∧E.P.bytesOf e=1∧b.size≤140737488355328)∧K (sl e (b2o b)) s.heap s.arr
  | _,_,_=>False
 | .makeFunc fn first caps=>match fn with
  | .func f=>match first.toList with
   | []=>K (.func f (caps.toList.map (ev E s.tmps))) s.heap s.arr
   | x::r=>caps.toList=[]∧K (.meth f ((x::r).map (ev E s.tmps))) s.heap s.arr
  | _=>False
 | .slice t x lo hi mx=>if(E.vecT t && b6r (ev E s.tmps x) (lo.map (ev E s.tmps)) (hi.map (ev E s.tmps)) (mx.map (ev E s.tmps)))=true then c3Q E s.arr t (ev E s.tmps x) (lo.map (ev E s.tmps)) (hi.map (ev E s.tmps)) fun r arr'=>K r s.heap arr'
  else vSlice E t (ev E s.tmps x) (lo.map (ev E s.tmps)) (hi.map (ev E s.tmps)) (mx.map (ev E s.tmps)) fun r=>K r s.heap s.arr
 | .fieldAddr t a f=>vFieldAddr E t (ev E s.tmps a) f fun r=>K r s.heap s.arr
 | .field t x f=>match E.P.underlying t,ev E s.tmps x with
  | some (.struct fs),.agg cs=>match fs[f]? with
   | some fd=>vPart E fd.type cs fd.offset fun r=>K r s.heap s.arr
   | none=>False
  | _,_=>False
 | .indexAddr t x ix=>vIndexAddr E t (ev E s.tmps x) (ev E s.tmps ix) fun r=>K r s.heap s.arr
 | .index t x ix=>vIndex E t (ev E s.tmps x) (ev E s.tmps ix) fun r=>K r s.heap s.arr
 | .extract t ix=>match ev E s.tmps t with
  | .tuple vs=>match vs[ix]? with
   | some x=>K x s.heap s.arr
   | none=>False
  | _=>False
 | .lookup t m k ok=>vLookK E s.heap t (ev E s.tmps m) (ev E s.tmps k) ok fun r=>K r s.heap s.arr
 | .mapUpdate t m k v | .insert t m k v=>vMapSetK E s.heap t (ev E s.tmps m) (ev E s.tmps k) (ev E s.tmps v) fun heap'=>K .junk heap' s.arr
 | .makeMap _ r=>r=none∧K (.map s.heap.length) (s.heap++[.map []]) s.arr
 | .makeSlice t l c=>b2Z E s.heap t (ev E s.tmps l) (ev E s.tmps c) fun r heap'=>K r heap' s.arr
 | .range t x=>c1u E s.heap t (ev E s.tmps x) fun r heap'=>K r heap' s.arr
 | .next x str=>str=true∧c7L s.heap (ev E s.tmps x) fun r heap'=>K r heap' s.arr
 | .call c=>c2f E s c K
 | _=>False
def Out(E:Env)(G:Gh)(arr:List Nat)(w0:Base)(K:b1z):Result Next→Prop
 | .ok (.value val) w'=>b2k E G arr w0 K val w'
 | .ok .skip w'=>∃ heap' arr' G',K .junk heap' arr'∧Ext G arr G' arr'∧RelW E G' heap' arr' w0 w'
 | .ok (.enter f args) w'=>Calls E.P f args w' fun e w''=>d9G E G arr w0 K e w''
 | .halt (.panic v) w'=>d6p E G arr w0 [{ v,recovered:=false }] w'
 | _=>False
end Go.Vg
