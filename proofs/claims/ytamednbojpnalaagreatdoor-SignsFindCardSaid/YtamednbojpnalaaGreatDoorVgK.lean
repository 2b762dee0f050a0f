/- The rules by which the conditions are worked out (simp only [go_sem]). What follows a step is told by named conditions, so that simp never looks into it before its turn. -/
import Derived.Test.YtamednbojpnalaaGreatDoorVgJ
import Derived.KernelRfl
set_option linter.unusedVariables false
set_option linter.unusedSimpArgs false
namespace Go.Vg
open Go.RowKit
/-! ### What follows, named -/
def kv(K:Cont)(h:List VObj)(a:List Nat):V→Prop:=fun r=>K r h a
def kh(K:Cont)(a:List Nat):List VObj→Prop:=fun h=>K .junk h a
def ka(K:Cont)(h:List VObj):V→List Nat→Prop:=fun r a=>K r h a
def km(K:Cont)(a:List Nat):V→List VObj→Prop:=fun r h=>K r h a
def kop(E:Env)(n:Nat)(ops r:List Oper)(d:Option Nat)(M:St→Prop)(tm:List (Nat×V)):Cont:=fun v h a=>vops E n ops r (St.put ⟨tm,h,a⟩ d v) M
def kseq(E:Env)(hb ab n:Nat)(y:Code)(Q:VEx→St→Prop):VEx→St→Prop:=thenQ (fun s'=>vc E hb ab n y s' Q) Q
def kblk(i:Nat)(Q:VEx→St→Prop):VEx→St→Prop:=blockQ i Q
def kpure(r:V):Cont:=fun v _ _=>share v=r
def kfin(E:Env)(rs:List ResultVar)(K:Cont):VEx→St→Prop:=fun e s=>(∀ id,e ≠ .exit id)∧vres E s rs fun v=>K v s.heap s.arr
section
variable {E : Env} {hb ab n i j l' : Nat} {tm : List (Nat × V)} {h : List VObj} {a : List Nat} {Q : VEx → St → Prop} {K : Cont} {v r : V} {M : St → Prop} {s : St} {y : Code} {ops l : List Oper} {d : Nat}
@[go_sem] theorem kv_go:kv K h a v=K v h a:=rfl
@[go_sem] theorem kh_go:kh K a h=K .junk h a:=rfl
@[go_sem] theorem km_go:km K a v h=K v h a:=rfl
@[go_sem] theorem ka_go:ka K h v a=K v h a:=rfl
@[go_sem] theorem kop_none:kop E n ops l none M tm v h a=vops E n ops l ⟨tm,h,a⟩ M:=rfl
@[go_sem] theorem kop_some:kop E n ops l (some d) M tm v h a=vops E n ops l ⟨(d,v)::tm,h,a⟩ M:=rfl
@[go_sem] theorem kseq_normal:kseq E hb ab n y Q .normal s=vc E hb ab n y s Q:=rfl
@[go_sem] theorem kseq_exit:kseq E hb ab n y Q (.exit i) s=Q (.exit i) s:=rfl
@[go_sem] theorem kseq_ret:kseq E hb ab n y Q .ret s=Q .ret s:=rfl
@[go_sem] theorem kblk_normal:kblk i Q .normal s=Q .normal s:=rfl
@[go_sem] theorem kblk_ret:kblk i Q .ret s=Q .ret s:=rfl
@[go_sem] theorem kblk_same:kblk i Q (.exit i) s=Q .normal s:=by simp[kblk,blockQ]
@[go_sem] theorem kblk_exit(h:(j == i)=false):kblk i Q (.exit j) s=Q (.exit j) s:=by simp only[kblk,blockQ];rw[if_neg (by simpa using h)]
@[go_sem] theorem kpure_go:kpure r v h a=(share v=r):=rfl
/-! ### Results -/
def vresA(E:Env)(tm:List (Nat×V))(h:List VObj):List ResultVar→List V→(V→Prop)→Prop
 | [],acc,K=>(match acc.reverse with | [v]=>K v | vs=>K (.tuple vs))
 | .tmp t::r,acc,K=>vresA E tm h r (look tm t::acc) K
 | .cell b t::r,acc,K=>match vAt h (look tm b)with
  | some cs=>vLoadL E t cs fun v=>vresA E tm h r (v::acc) K
  | none=>False
theorem vresA_eq:∀ (rs:List ResultVar) (acc:List V) (L:List V→Prop) (K:V→Prop),(∀ vs,L vs=(match acc.reverse++vs with | [v]=>K v | vs=>K (.tuple vs))) →
  vresL E ⟨tm,h,a⟩ rs L=vresA E tm h rs acc K:=by
 intro rs
 induction rs with
 | nil=>intro acc L K hl;simp only[vresL,vresA,hl,List.append_nil]
 | cons r rs ih =>
  intro acc L K hl
  cases r with
  | tmp t =>
   simp only[vresL,vresA]
   exact ih _ _ _ fun vs=>by rw[hl];simp
  | cell b t =>
   simp only[vresL,vresA]
   cases vAt h (look tm b)with
   | none=>rfl
   | some cs =>
    simp only
    congr 1
    funext v
    exact ih _ _ _ fun vs=>by rw[hl];simp
theorem vres_A{rs:List ResultVar}{K:V→Prop}:vres E ⟨tm,h,a⟩ rs K=vresA E tm h rs [] K:=vresA_eq rs [] _ K fun vs=>rfl
def kacc(E:Env)(tm:List (Nat×V))(h:List VObj)(r:List ResultVar)(acc:List V)(K:V→Prop):V→Prop:=fun v=>vresA E tm h r (v::acc) K
@[go_sem] theorem kacc_go{rs:List ResultVar}{acc:List V}{K:V→Prop}:kacc E tm h rs acc K v=vresA E tm h rs (v::acc) K:=rfl
@[go_sem] theorem vresA_nil1{K:V→Prop}:vresA E tm h [] [v] K=K v:=rfl
@[go_sem] theorem vresA_nil0{K:V→Prop}:vresA E tm h [] [] K=K (.tuple []):=rfl
@[go_sem] theorem vresA_nil2{u:V}{K:V→Prop}:vresA E tm h [] [v,u] K=K (.tuple [u,v]):=rfl
@[go_sem] theorem vresA_nil3{u x:V}{K:V→Prop}:vresA E tm h [] [v,u,x] K=K (.tuple [x,u,v]):=rfl
@[go_sem] theorem vresA_tmp{t:Nat}{rs:List ResultVar}{acc:List V}{K:V→Prop}:vresA E tm h (.tmp t::rs) acc K=vresA E tm h rs (look tm t::acc) K:=rfl
def vLoadO(E:Env)(t:TypeId)(o:Option (List V))(K:V→Prop):Prop:=match o with
 | some cs=>vLoadL E t cs K
 | none=>False
@[go_sem] theorem vLoadO_some{t:TypeId}{cs:List V}{K:V→Prop}:vLoadO E t (some cs) K=vLoadL E t cs K:=rfl
@[go_sem] theorem vresA_cell{b:Nat}{t:TypeId}{rs:List ResultVar}{acc:List V}{K:V→Prop}:vresA E tm h (.cell b t::rs) acc K=vLoadO E t (vAt h (look tm b)) (kacc E tm h rs acc K):=rfl
@[go_sem] theorem kfin_normal{rs:List ResultVar}:kfin E rs K .normal ⟨tm,h,a⟩=vresA E tm h rs [] (kv K h a):=by simp only[kfin,vres_A,ne_eq,reduceCtorEq,not_false_eq_true,implies_true,true_and];rfl
@[go_sem] theorem kfin_ret{rs:List ResultVar}:kfin E rs K .ret ⟨tm,h,a⟩=vresA E tm h rs [] (kv K h a):=by simp only[kfin,vres_A,ne_eq,reduceCtorEq,not_false_eq_true,implies_true,true_and];rfl
/-! ### Code -/
theorem vc_skip:vc E hb ab n .skip s Q=Q .normal s:=rfl
theorem vc_label:vc E hb ab n (.label l') s Q=Q .normal s:=rfl
theorem vc_exit:vc E hb ab n (.exit i) s Q=Q (.exit i) s:=rfl
theorem vc_ret:vc E hb ab n .ret s Q=Q .ret s:=rfl
theorem vc_seq{x:Code}:vc E hb ab n (.seq x y) s Q=vc E hb ab n x s (kseq E hb ab n y Q):=rfl
theorem vc_scope:vc E hb ab n (.scope y) s Q=vc E hb ab n y s Q:=rfl
theorem vc_block:vc E hb ab n (.block i y) s Q=vc E hb ab n y s (kblk i Q):=rfl
theorem vc_loop:vc E hb ab n (.loop y) s Q=Snd E hb ab n (.loop y) s Q:=rfl
theorem vc_draw:vc E hb ab n (.region i l.toArray true) s Q=Snd E hb ab n (.region i l.toArray true) s Q:=by simp[vc]
theorem vc_region:vc E hb ab n (.region i l.toArray false) s Q=vops E n l l s (Q .normal):=by simp[vc]
def kcond(E:Env)(hb ab n:Nat)(x y:Code)(s:St)(Q:VEx→St→Prop)(b:V):Prop :=
 match b with
 | .bool b=>(b=true→vc E hb ab n x s Q)∧(b=false→vc E hb ab n y s Q)
 | _=>False
theorem vc_cond{c:Operand}{x:Code}:vc E hb ab n (.cond c x y) s Q=kcond E hb ab n x y s Q (ev E s.tmps c):=rfl
@[go_sem] theorem kcond_bool{b:Bool}{x:Code}:kcond E hb ab n x y s Q (.bool b)=((b=true→vc E hb ab n x s Q)∧(b=false→vc E hb ab n y s Q)):=rfl
@[go_sem high] theorem kcond_true{x:Code}:kcond E hb ab n x y s Q (.bool true)=vc E hb ab n x s Q:=by simp[kcond]
@[go_sem high] theorem kcond_false{x:Code}:kcond E hb ab n x y s Q (.bool false)=vc E hb ab n y s Q:=by simp[kcond]
theorem vops_nil:vops E n ops [] s M=M s:=rfl
theorem vops_cons{op:Op}{dst:Option Tmp}{ty:TypeId}{pos:String}{after:Array Edge}{r:List Oper} :
  vops E n ops (⟨dst,op,ty,pos,after,none⟩::r) ⟨tm,h,a⟩ M=(dstB n ⟨dst,.move (.tmp 0),ty,pos,after,none⟩=true∧vop E ⟨tm,h,a⟩ op (kop E n ops r dst M tm)):=rfl
def kgd(E:Env)(n:Nat)(ops r:List Oper)(op:Op)(dst:Option Nat)(s:St)(M:St→Prop)(d:Nat)(want:Bool)(x:V):Prop :=
 match x with
 | .bool b=>(b=want→vop E ⟨(d,.bool want)::s.tmps,s.heap,s.arr⟩ op (kop E n ops r dst M ((d,.bool want)::s.tmps))) ∧
   (b = !want→kop E n ops r dst M ((d,.bool (!want))::s.tmps) (.tuple []) s.heap s.arr)
 | .tuple []=>kop E n ops r dst M s.tmps (.tuple []) s.heap s.arr
 | _=>False
def kgo(E:Env)(n:Nat)(ops r:List Oper)(op:Op)(dst:Option Nat)(s:St)(M:St→Prop)(want:Bool)(o:Option Nat):Prop :=
 match o with
 | some d=>d<n∧kgd E n ops r op dst s M d want (look s.tmps d)
 | none=>False
theorem vops_guard{op:Op}{dst:Option Tmp}{ty:TypeId}{pos:String}{after:Array Edge}{want:Bool}{r:List Oper} :
  vops E n ops (⟨dst,op,ty,pos,after,some (j,want)⟩::r) ⟨tm,h,a⟩ M=(dstB n ⟨dst,.move (.tmp 0),ty,pos,after,none⟩=true∧kgo E n ops r op dst ⟨tm,h,a⟩ M want (dstOf ops j)):=by
 simp only[vops,kgo]
 congr 1
@[go_sem] theorem kgo_some{op:Op}{dst:Option Nat}{want:Bool}:kgo E n ops l op dst ⟨tm,h,a⟩ M want (some d)=(d<n∧kgd E n ops l op dst ⟨tm,h,a⟩ M d want (look tm d)):=rfl
section
variable {op : Op} {dst : Option Nat} {b : Bool}
@[go_sem] theorem kgd_t:kgd E n ops l op dst ⟨tm,h,a⟩ M d true (.bool b)=((b=true→vop E ⟨(d,.bool true)::tm,h,a⟩ op (kop E n ops l dst M ((d,.bool true)::tm))) ∧
 (b=false→kop E n ops l dst M ((d,.bool false)::tm) (.tuple []) h a)):=rfl
@[go_sem] theorem kgd_f:kgd E n ops l op dst ⟨tm,h,a⟩ M d false (.bool b)=((b=false→vop E ⟨(d,.bool false)::tm,h,a⟩ op (kop E n ops l dst M ((d,.bool false)::tm))) ∧
 (b=true→kop E n ops l dst M ((d,.bool true)::tm) (.tuple []) h a)):=rfl
@[go_sem] theorem kgd_u{want:Bool}:kgd E n ops l op dst ⟨tm,h,a⟩ M d want (.tuple [])=kop E n ops l dst M tm (.tuple []) h a:=rfl
@[go_sem high] theorem kgd_tt:kgd E n ops l op dst ⟨tm,h,a⟩ M d true (.bool true)=vop E ⟨(d,.bool true)::tm,h,a⟩ op (kop E n ops l dst M ((d,.bool true)::tm)):=by simp[kgd]
@[go_sem high] theorem kgd_tf:kgd E n ops l op dst ⟨tm,h,a⟩ M d true (.bool false)=kop E n ops l dst M ((d,.bool false)::tm) (.tuple []) h a:=by simp[kgd]
@[go_sem high] theorem kgd_ff:kgd E n ops l op dst ⟨tm,h,a⟩ M d false (.bool false)=vop E ⟨(d,.bool false)::tm,h,a⟩ op (kop E n ops l dst M ((d,.bool false)::tm)):=by simp[kgd]
@[go_sem high] theorem kgd_ft:kgd E n ops l op dst ⟨tm,h,a⟩ M d false (.bool true)=kop E n ops l dst M ((d,.bool true)::tm) (.tuple []) h a:=by simp[kgd]
end
attribute [go_sem ↓] vc_scope vc_skip vc_label vc_exit vc_ret vc_seq vc_block vc_loop vc_draw vc_region vc_cond vops_nil vops_cons vops_guard
end
/-! ### Small words -/
section
variable {α : Type} {a : α} {l : List α} {i j : Nat} {x : V} {r : List (Nat × V)}
theorem look_ne(h:(i == j)=false):look ((j,x)::r) i=look r i:=by
 simp only[look];rw[if_neg (by simpa using h)]
theorem look_eq:look ((i,x)::r) i=x:=by simp[look]
theorem look_nil:look [] i = .junk:=rfl
attribute [go_sem] look_ne look_eq look_nil
theorem nth_zero:(a::l)[0]? = some a:=rfl
theorem nth_succ(h:(i == 0)=false):(a::l)[i]? = l[i - 1]?:=by
 cases i with
 | zero=>simp at h
 | succ i=>simp
theorem drop_zero:List.drop 0 l=l:=rfl
theorem drop_succ(h:(i == 0)=false):List.drop i (a::l)=List.drop (i - 1) l:=by
 cases i with
 | zero=>simp at h
 | succ i=>simp
theorem repl_zero:List.replicate 0 a=[]:=rfl
theorem repl_succ(h:(i == 0)=false):List.replicate i a=a::List.replicate (i - 1) a:=by
 cases i with
 | zero=>simp at h
 | succ i=>rfl
theorem getD_zero{d:α}:(a::l).getD 0 d=a:=rfl
theorem getD_succ{d:α}(h:(i == 0)=false):(a::l).getD i d=l.getD (i - 1) d:=by
 cases i with
 | zero=>simp at h
 | succ i=>simp
theorem take_zero:List.take 0 l=[]:=rfl
theorem take_succ(h:(i == 0)=false):List.take i (a::l)=a::List.take (i - 1) l:=by
 cases i with
 | zero=>simp at h
 | succ i=>simp
theorem set_zero{b:α}:(a::l).set 0 b=b::l:=rfl
theorem set_succ{b:α}(h:(i == 0)=false):(a::l).set i b=a::l.set (i - 1) b:=by
 cases i with
 | zero=>simp at h
 | succ i=>simp
theorem app_cons{m:List α}:(a::l)++m=a::(l++m):=rfl
theorem app_nil{m:List α}:[]++m=m:=rfl
theorem len_nil:([]:List α).length=0:=rfl
theorem len_cons:(a::l).length=l.length+1:=rfl
theorem map_nil{β:Type}{f:α→β}:[].map f=[]:=rfl
theorem map_cons{β:Type}{f:α→β}:(a::l).map f=f a::l.map f:=rfl
theorem arr_nth:l.toArray[i]? = l[i]?:=by simp
theorem all_nil{f:α→Bool}:[].all f=true:=rfl
theorem all_cons{f:α→Bool}:(a::l).all f=(f a && l.all f):=rfl
attribute [go_sem] Option.isSome_some nth_zero nth_succ drop_zero drop_succ repl_zero repl_succ getD_zero getD_succ take_zero take_succ set_zero set_succ app_cons app_nil len_nil len_cons map_nil map_cons arr_nth all_nil all_cons
 Bool.true_and Bool.and_true Bool.false_and Bool.and_false Bool.not_true Bool.not_false true_and and_true decide_eq_true_eq decide_eq_false_iff_not eq_self
 Nat.reduceBEq Nat.reduceLT Nat.reduceLeDiff Nat.reduceEqDiff Nat.reduceAdd Nat.reduceMul Nat.reduceSub Int.reduceToNat Int.reduceLT Int.reduceLE Int.reduceAdd Int.reduceSub Int.reduceMul Int.reduceNeg Int.reduceEq and_self List.isEmpty_cons List.isEmpty_nil List.toList_toArray
theorem dstOf_zero{o:Oper}{l:List Oper}:dstOf (o::l) 0=o.dst:=rfl
theorem dstOf_succ{o:Oper}{l:List Oper}(h:(i == 0)=false):dstOf (o::l) i=dstOf l (i - 1):=by
 cases i with
 | zero=>simp at h
 | succ i=>simp[dstOf]
theorem dst_mk{d:Option Tmp}{op:Op}{ty:TypeId}{pos:String}{after:Array Edge}{g:Option (Nat×Bool)}:(Oper.mk d op ty pos after g).dst=d:=rfl
theorem dstB_some{n d:Nat}{op:Op}{ty:TypeId}{pos:String}{after:Array Edge}{g:Option (Nat×Bool)}:dstB n ⟨some d,op,ty,pos,after,g⟩=decide (d<n):=rfl
theorem dstB_none{n:Nat}{op:Op}{ty:TypeId}{pos:String}{after:Array Edge}{g:Option (Nat×Bool)}:dstB n ⟨none,op,ty,pos,after,g⟩=true:=rfl
attribute [go_sem] dstOf_zero dstOf_succ dst_mk dstB_some dstB_none enumV over
end
/-! ### Operations, one rule each -/
section
variable {E : Env} {t t' : TypeId} {K : V → Prop} {k : IntKind} {a b : Int}
@[go_sem] theorem vBin_add:vBin E .add t (.int k a) (.int k b) K=K (.int k (k.wrap (a+b))):=by simp[vBin,vIntOp]
@[go_sem] theorem vBin_sub:vBin E .sub t (.int k a) (.int k b) K=K (.int k (k.wrap (a - b))):=by simp[vBin,vIntOp]
@[go_sem] theorem vBin_mul:vBin E .mul t (.int k a) (.int k b) K=K (.int k (k.wrap (a * b))):=by simp[vBin,vIntOp]
@[go_sem] theorem vBin_quo:vBin E .quo t (.int k a) (.int k b) K=(b≠0∧K (.int k (k.wrap (a.tdiv b)))):=by simp[vBin,vIntOp]
@[go_sem] theorem vBin_rem:vBin E .rem t (.int k a) (.int k b) K=(b≠0∧K (.int k (a.tmod b))):=by simp[vBin,vIntOp]
@[go_sem] theorem vBin_eql:vBin E .eql t (.int k a) (.int k b) K=K (.bool (decide (a=b))):=by simp[vBin,vIntOp];rfl
@[go_sem] theorem vBin_neq:vBin E .neq t (.int k a) (.int k b) K=K (.bool (!decide (a=b))):=by simp[vBin,vIntOp,bne];rfl
@[go_sem] theorem vBin_lss:vBin E .lss t (.int k a) (.int k b) K=K (.bool (decide (a<b))):=by simp[vBin,vIntOp]
@[go_sem] theorem vBin_leq:vBin E .leq t (.int k a) (.int k b) K=K (.bool (decide (a≤b))):=by simp[vBin,vIntOp]
@[go_sem] theorem vBin_gtr:vBin E .gtr t (.int k a) (.int k b) K=K (.bool (decide (b<a))):=by simp[vBin,vIntOp]
@[go_sem] theorem vBin_geq:vBin E .geq t (.int k a) (.int k b) K=K (.bool (decide (b≤a))):=by simp[vBin,vIntOp]
theorem toList_loop(a:ByteArray):∀ (n i:Nat) (r:List UInt8),a.size - i=n→ByteArray.toList.loop a i r=r.reverse++a.data.toList.drop i:=by
 intro n
 induction n with
 | zero =>
  intro i r h
  unfold ByteArray.toList.loop
  rw[if_neg (by omega)]
  have:a.data.toList.length≤i:=by simpa using(by omega:a.size≤i)
  rw[List.drop_eq_nil_of_le this];simp
 | succ n ih =>
  intro i r h
  unfold ByteArray.toList.loop
  rw[if_pos (by omega),ih (i+1) _ (by omega)]
  have hl:i<a.data.toList.length:=by simpa using(by omega:i<a.size)
  rw[List.drop_eq_getElem_cons hl]
  have hg:a.get! i=a.data.toList[i]:=by
   have hs:i<a.data.size:=by simpa using hl
   show a.data[i]! = _
   rw[getElem!_pos a.data i hs];simp
  simp[hg]
theorem toList_data(a:ByteArray):a.toList=a.data.toList:=by
 have:=toList_loop a (a.size - 0) 0 [] rfl
 simpa[ByteArray.toList]using this
theorem toList_beq(a b:ByteArray):(a.toList == b.toList)=decide (a=b):=by
 rw[Bool.eq_iff_iff]
 simp only[beq_iff_eq,decide_eq_true_eq,toList_data]
 constructor
 ·intro h
  cases a;cases b
  simp at h
  rw[h]
 ·rintro rfl;rfl
section
variable {x y : ByteArray}
@[go_sem] theorem vBin_sadd:vBin E .add t (.str x) (.str y) K=(x.size+y.size≤1152921504606846976∧K (.str (x++y))):=rfl
@[go_sem] theorem vBin_seql:vBin E .eql t (.str x) (.str y) K=K (.bool (decide (x=y))):=by simp only[vBin,vStrOp,toList_beq]
@[go_sem] theorem vBin_sneq:vBin E .neq t (.str x) (.str y) K=K (.bool (!decide (x=y))):=by simp only[vBin,vStrOp,toList_beq]
end
@[go_sem] theorem vUn_not{b:Bool}:vUn .not (.bool b) K=K (.bool (!b)):=rfl
end
section
variable {E : Env} {tm : List (Nat × V)} {h : List VObj} {ar : List Nat} {K : Cont} {x y z : Operand} {t t' : TypeId}
@[go_sem] theorem ev_tmp{i:Nat}:ev E tm (.tmp i)=look tm i:=rfl
@[go_sem] theorem ev_const{v:Value}:ev E tm (.const v)=ofV v:=rfl
@[go_sem] theorem ev_func{f:FuncId}:ev E tm (.func f) = .func f []:=rfl
def evG(o:Option (List V)):V:=match o with
 | some cs => .fptr cs
 | none => .junk
@[go_sem] theorem evG_some{cs:List V}:evG (some cs) = .fptr cs:=rfl
@[go_sem] theorem ev_global{g:Nat}:ev E tm (.global g)=evG (E.gl g):=rfl
@[go_sem] theorem ofV_bool{b:Bool}:ofV (.bool b) = .bool b:=rfl
@[go_sem] theorem ofV_int{k:IntKind}{n:Int}:ofV (.int k n) = .int k n:=rfl
@[go_sem] theorem ofV_nilp:ofV (.pointer none) = .nilp:=rfl
@[go_sem] theorem ofV_nils:ofV (.slice none 0 0) = .slice .nil 0 []:=rfl
@[go_sem] theorem ofV_nilm:ofV (.map none) = .nilmap:=rfl
def strV(s:ByteArray):V:=if s.size≤1152921504606846976 then .str s else .junk
@[go_sem] theorem ofV_str{b:ByteArray}:ofV (.string b)=strV b:=rfl
@[go_sem] theorem strV_lit{l:List UInt8}(h:decide (l.length≤1000000)=true):strV ⟨l.toArray⟩ = .str ⟨l.toArray⟩:=by
 refine if_pos ?_
 have:l.length≤1000000:=by simpa using h
 show l.toArray.size≤_
 simp;omega
theorem vop_move:vop E ⟨tm,h,ar⟩ (.move x) K=kv K h ar (ev E tm x):=rfl
theorem vop_assign:vop E ⟨tm,h,ar⟩ (.assign x) K=kv K h ar (ev E tm x):=rfl
def vPick(c a b:V)(K:V→Prop):Prop:=match c with
 | .bool t=>K (if t then a else b)
 | _=>False
@[go_sem high] theorem vPick_true{a c:V}{K:V→Prop}:vPick (.bool true) a c K=K a:=rfl
@[go_sem high] theorem vPick_false{a c:V}{K:V→Prop}:vPick (.bool false) a c K=K c:=rfl
theorem vop_pick:vop E ⟨tm,h,ar⟩ (.pick x y z) K=vPick (ev E tm x) (ev E tm y) (ev E tm z) (kv K h ar):=rfl
theorem vop_alloc:vop E ⟨tm,h,ar⟩ (.alloc t) K=((zeroOK E t=true∧newOK E t (zeroL E t))∧kv K (h++[newO E t (zeroL E t)]) ar (.ptr h.length 0)):=rfl
theorem vop_box:vop E ⟨tm,h,ar⟩ (.box t x) K=((ev E tm x).some? = true∧kv K (h++[.cells (cellsV (ev E tm x))]) ar (.ptr h.length 0)):=rfl
def evP(E:Env)(tm:List (Nat×V))(ps:List (Nat×Operand)):List (Nat×V):=ps.map fun p=>(p.1,ev E tm p.2)
@[go_sem] theorem evP_nil:evP E tm []=[]:=rfl
@[go_sem] theorem evP_cons{i:Nat}{r:List (Nat×Operand)}:evP E tm ((i,x)::r)=(i,ev E tm x)::evP E tm r:=rfl
theorem vop_build{ps:List (Nat×Operand)}:vop E ⟨tm,h,ar⟩ (.build t ps.toArray) K=vBuild E t (evP E tm ps) (kv K h ar):=rfl
theorem vop_buildSlice{n:Nat}{ps:List (Nat×Operand)}:vop E ⟨tm,h,ar⟩ (.buildSlice t n ps.toArray) K=vBuildSlice E t n (evP E tm ps) (kv K h ar):=rfl
theorem vop_load:vop E ⟨tm,h,ar⟩ (.load t x) K=vLoadO E t (vAt h (ev E tm x)) (kv K h ar):=rfl
theorem vop_store:vop E ⟨tm,h,ar⟩ (.store t x y) K=vStore E h t (ev E tm x) (ev E tm y) (kh K ar):=rfl
def vNil(x:V)(K:V→Prop):Prop:=match x with
 | .ptr id off=>K (.ptr id off)
 | .fptr cs=>K (.fptr cs)
 | .vptr id k gen off=>K (.vptr id k gen off)
 | _=>False
@[go_sem] theorem vNil_ptr{i o:Nat}{K:V→Prop}:vNil (.ptr i o) K=K (.ptr i o):=rfl
@[go_sem] theorem vNil_fptr{cs:List V}{K:V→Prop}:vNil (.fptr cs) K=K (.fptr cs):=rfl
theorem vop_nilCheck:vop E ⟨tm,h,ar⟩ (.nilCheck x) K=vNil (ev E tm x) (kv K h ar):=rfl
theorem vop_bin{op:BinOp}:vop E ⟨tm,h,ar⟩ (.binOp op t x y t') K=vBinC E op t (isNilC y) (ev E tm x) (ev E tm y) (kv K h ar):=rfl
theorem vop_mkif:vop E ⟨tm,h,ar⟩ (.makeInterface t x) K=vMkIface E t (ev E tm x) (kv K h ar):=rfl
theorem vop_panic:vop E ⟨tm,h,ar⟩ (.panic x) K=vPanic E h ar (ev E tm x):=rfl
theorem vop_un{op:UnOp}:vop E ⟨tm,h,ar⟩ (.unOp op t x) K=vUn op (ev E tm x) (kv K h ar):=rfl
def vConv(E:Env)(a b:Option TypeDesc)(x:V)(K:V→Prop):Prop:=match a,b,x with
 | some _,some (.int k),.int _ n=>K (.int k (k.wrap n))
 | some _,some .string,.str b=>K (.str b)
 | some (.slice e),some .string,.slice _ e' es=>((es=[]∨e'=e)∧E.P.underlying e=some (.int .u8)∧E.P.cellsOf e=1)∧match intsOf es with
   | some ns=>K (.str (strOf ns))
   | none=>False
 | some .string,some (.slice e),.str b=>(E.P.underlying e=some (.int .u8)∧E.P.cellsOf e=1∧E.P.bytesOf e=1∧b.size≤140737488355328)∧K (sl e (bytesV b))
 | _,_,_=>False
@[go_sem] theorem vConv_toB{E:Env}{e:Nat}{b:ByteArray}{K:V→Prop}:vConv E (some .string) (some (.slice e)) (.str b) K=((E.P.underlying e=some (.int .u8)∧E.P.cellsOf e=1∧E.P.bytesOf e=1∧b.size≤140737488355328)∧K (sl e (bytesV b))):=rfl
def vStrO(o:Option (List Int))(K:V→Prop):Prop:=match o with
 | some ns=>K (.str (strOf ns))
 | none=>False
@[go_sem] theorem vStrO_some{ns:List Int}{K:V→Prop}:vStrO (some ns) K=K (.str (strOf ns)):=rfl
@[go_sem] theorem vConv_bytes{e e':Nat}{o:Own}{es:List (List V)}{K:V→Prop}:vConv E (some (.slice e)) (some .string) (.slice o e' es) K=(((es=[]∨e'=e)∧E.P.underlying e=some (.int .u8)∧E.P.cellsOf e=1)∧vStrO (intsOf es) K):=rfl
@[go_sem] theorem intsOf_nil:intsOf []=some []:=rfl
@[go_sem] theorem intsOf_cons{n:Int}{r:List (List V)}:intsOf ([.int .u8 n]::r)=(intsOf r).map (n::·):=rfl
@[go_sem] theorem omap_some{α β:Type}{f:α→β}{a:α}:(some a).map f=some (f a):=rfl
@[go_sem] theorem vConv_int{d:TypeDesc}{k k':IntKind}{n:Int}{K:V→Prop}:vConv E (some d) (some (.int k)) (.int k' n) K=K (.int k (k.wrap n)):=rfl
theorem vop_convert:vop E ⟨tm,h,ar⟩ (.convert t t' x) K=vConv E (E.P.underlying t) (E.P.underlying t') (ev E tm x) (kv K h ar):=rfl
def evL(E:Env)(tm:List (Nat×V))(ps:List Operand):List V:=ps.map (ev E tm)
@[go_sem] theorem evL_nil:evL E tm []=[]:=rfl
@[go_sem] theorem evL_cons{r:List Operand}:evL E tm (x::r)=ev E tm x::evL E tm r:=rfl
theorem vop_makeFunc{f:FuncId}{caps:List Operand}:vop E ⟨tm,h,ar⟩ (.makeFunc (.func f) #[] caps.toArray) K=kv K h ar (.func f (evL E tm caps)):=by simp[vop,evL,kv]
theorem vop_makeMeth{f:FuncId}{x:Operand}{r:List Operand}:vop E ⟨tm,h,ar⟩ (.makeFunc (.func f) (x::r).toArray #[]) K=kv K h ar (.meth f (evL E tm (x::r))):=by simp[vop,evL,kv]
def evO(E:Env)(tm:List (Nat×V)):Option Operand→Option V
 | some x=>some (ev E tm x)
 | none=>none
@[go_sem] theorem evO_none:evO E tm none=none:=rfl
@[go_sem] theorem evO_some:evO E tm (some x)=some (ev E tm x):=rfl
def vSlb(E:Env)(b c:Bool)(h:List VObj)(ar:List Nat)(t:TypeId)(x:V)(lo hi mx:Option V)(K:Cont):Prop:=match b,c with
 | true,true=>vTail E ar t x lo hi (ka K h)
 | _,_=>vSlice E t x lo hi mx (kv K h ar)
@[go_sem] theorem vSlb_not{b:Bool}{h:List VObj}{ar:List Nat}{x:V}{lo hi mx:Option V}:vSlb E b false h ar t x lo hi mx K=vSlice E t x lo hi mx (kv K h ar):=by cases b <;> rfl
theorem vop_slice{lo hi mx:Option Operand}:vop E ⟨tm,h,ar⟩ (.slice t x lo hi mx) K=vSlb E (E.vecT t) (tailS (ev E tm x) (evO E tm lo) (evO E tm hi) (evO E tm mx)) h ar t (ev E tm x) (evO E tm lo) (evO E tm hi) (evO E tm mx) K:=by
 have e:∀ o:Option Operand,o.map (ev E tm)=evO E tm o:=fun o=>by cases o <;> rfl
 simp only[vop,e]
 unfold vSlb
 cases E.vecT t <;> cases tailS (ev E tm x) (evO E tm lo) (evO E tm hi) (evO E tm mx) <;> rfl
section
variable {lo hi mx : Option V} {x y y' : V}
@[go_sem] theorem tailS_str{s:ByteArray}:tailS (.str s) lo hi mx=false:=rfl
@[go_sem] theorem tailS_hi:tailS x (some y') (some y) mx=false:=by cases x <;> first | rfl | (rename_i o e es;cases o <;> cases es <;> cases y' <;> rfl)
end
theorem vop_fieldAddr{f:Nat}:vop E ⟨tm,h,ar⟩ (.fieldAddr t x f) K=vFieldAddr E t (ev E tm x) f (kv K h ar):=rfl
def vField(E:Env)(d:Option TypeDesc)(x:V)(f:Nat)(K:V→Prop):Prop:=match d,x with
 | some (.struct fs),.agg cs=>match fs[f]? with
  | some fd=>vPart E fd.type cs fd.offset K
  | none=>False
 | _,_=>False
def vField1(E:Env)(o:Option Field)(cs:List V)(K:V→Prop):Prop:=match o with
 | some fd=>vPart E fd.type cs fd.offset K
 | none=>False
@[go_sem] theorem vField1_some{a1 a5 a6:String}{ty off b:Nat}{e:Bool}{cs:List V}{K:V→Prop}:vField1 E (some ⟨a1,ty,off,e,a5,a6,b⟩) cs K=vPart E ty cs off K:=rfl
@[go_sem] theorem vField_agg{fs:Array Field}{cs:List V}{f:Nat}{K:V→Prop}:vField E (some (.struct fs)) (.agg cs) f K=vField1 E fs[f]? cs K:=rfl
theorem vop_field{f:Nat}:vop E ⟨tm,h,ar⟩ (.field t x f) K=vField E (E.P.underlying t) (ev E tm x) f (kv K h ar):=by
 simp only[vop,vField]
 cases E.P.underlying t with
 | none=>rfl
 | some d=>cases d <;> rfl
theorem vop_indexAddr:vop E ⟨tm,h,ar⟩ (.indexAddr t x y) K=vIndexAddr E t (ev E tm x) (ev E tm y) (kv K h ar):=rfl
theorem vop_index:vop E ⟨tm,h,ar⟩ (.index t x y) K=vIndex E t (ev E tm x) (ev E tm y) (kv K h ar):=rfl
def vExtract(x:V)(i:Nat)(K:V→Prop):Prop:=match x with
 | .tuple vs=>vHead (vs.drop i) K
 | _=>False
@[go_sem] theorem vExtract_tuple{vs:List V}{i:Nat}{K:V→Prop}:vExtract (.tuple vs) i K=vHead (vs.drop i) K:=rfl
@[go_sem] theorem vHead_cons{c:V}{r:List V}{K:V→Prop}:vHead (c::r) K=K c:=rfl
theorem vop_extract{i:Nat}:vop E ⟨tm,h,ar⟩ (.extract x i) K=vExtract (ev E tm x) i (kv K h ar):=by
 simp only[vop,vExtract]
 cases ev E tm x <;> try rfl
 rename_i vs
 simp only[]
 cases h:vs[i]? with
 | none=>rw[List.drop_eq_nil_of_le (List.getElem?_eq_none_iff.1 h)];rfl
 | some y =>
  obtain⟨hl,rfl⟩:=List.getElem?_eq_some_iff.1 h
  rw[List.drop_eq_getElem_cons hl];rfl
def vFn(E:Env)(x:V)(args:List V)(heap:List VObj)(arr:List Nat)(K:Cont):Prop:=match x with
 | .func fid caps=>callB E.P fid=true∧VCalls E fid (args++caps) heap arr K
 | .meth fid xs=>callB E.P fid=true∧VCalls E fid (xs++args) heap arr K
 | _=>False
@[go_sem] theorem vFn_func{f:FuncId}{caps as:List V}{h:List VObj}{r:List Nat}{K:Cont}:vFn E (.func f caps) as h r K=(callB E.P f=true∧VCalls E f (as++caps) h r K):=rfl
theorem vop_call{f:Operand}{as:List Operand}{tys:Array TypeId}:vop E ⟨tm,h,ar⟩ (.call ⟨.value f,as.toArray,tys⟩) K=vFn E (ev E tm f) (evL E tm as) h ar K:=rfl
theorem vop_len{ty:TypeId}{tys:List TypeId}:vop E ⟨tm,h,ar⟩ (.call ⟨.builtin .len,#[x],(ty::tys).toArray⟩) K=vLenM E h ty (ev E tm x) (kv K h ar):=by
 simp only[vop,vCall,List.getElem?_toArray,List.getElem?_cons_zero];rfl
theorem vop_append:vop E ⟨tm,h,ar⟩ (.call ⟨.builtin .append,#[x,y],#[t,t']⟩) K=vApp E h ar t t' (ev E tm x) (ev E tm y) K:=rfl
theorem vop_copy:vop E ⟨tm,h,ar⟩ (.call ⟨.builtin .copy,#[x,y],#[t,t']⟩) K=vCopy E h t t' (ev E tm x) (ev E tm y) (fun r h'=>K r h' ar):=rfl
attribute [go_sem ↓] vop_copy
def vApb(E:Env)(b c:Bool)(h:List VObj)(ar:List Nat)(t t':TypeId)(x y:V)(K:Cont):Prop:=match b,c with
 | true,false=>vAppV E h ar t t' x y K
 | _,_=>vAppend E ar t t' x y (ka K h)
@[go_sem] theorem vApp_d{h:List VObj}{ar:List Nat}{x y:V}:vApp E h ar t t' x y K=vApb E (E.vecT t) (asList x) h ar t t' x y K:=by
 unfold vApp vApb
 cases E.vecT t <;> cases asList x <;> rfl
@[go_sem] theorem vApb_false{c:Bool}{h:List VObj}{ar:List Nat}{x y:V}:vApb E false c h ar t t' x y K=vAppend E ar t t' x y (ka K h):=by cases c <;> rfl
@[go_sem] theorem vApb_true{h:List VObj}{ar:List Nat}{x y:V}:vApb E true false h ar t t' x y K=vAppV E h ar t t' x y K:=rfl
@[go_sem] theorem asList_full{e:Nat}{es:List (List V)}:asList (.slice .full e es)=true:=rfl
@[go_sem] theorem asList_arr{k e:Nat}{es:List (List V)}:asList (.slice (.arr k) e es)=true:=rfl
@[go_sem] theorem asList_nil{e:Nat}{es:List (List V)}:asList (.slice .nil e es)=false:=rfl
@[go_sem] theorem asList_vec{a b c d e:Nat}:asList (.vec a b c d e)=false:=rfl
theorem vop_lookup{ok:Bool}:vop E ⟨tm,h,ar⟩ (.lookup t x y ok) K=vLookK E h t (ev E tm x) (ev E tm y) ok (kv K h ar):=rfl
theorem vop_mapUpdate:vop E ⟨tm,h,ar⟩ (.mapUpdate t x y z) K=vMapSetK E h t (ev E tm x) (ev E tm y) (ev E tm z) (kh K ar):=rfl
theorem vop_insert:vop E ⟨tm,h,ar⟩ (.insert t x y z) K=vMapSetK E h t (ev E tm x) (ev E tm y) (ev E tm z) (kh K ar):=rfl
theorem vop_makeMap:vop E ⟨tm,h,ar⟩ (.makeMap t none) K=kv K (h++[.map []]) ar (.map h.length):=by simp[vop,kv]
theorem vop_makeSlice:vop E ⟨tm,h,ar⟩ (.makeSlice t x y) K=vMakeSlice E h t (ev E tm x) (ev E tm y) (km K ar):=rfl
theorem vop_range:vop E ⟨tm,h,ar⟩ (.range t x) K=vRange E h t (ev E tm x) (km K ar):=rfl
theorem vop_next:vop E ⟨tm,h,ar⟩ (.next x true) K=vNext h (ev E tm x) (km K ar):=by simp[vop];rfl
theorem vop_min{tys:Array TypeId}:vop E ⟨tm,h,ar⟩ (.call ⟨.builtin .min,#[x,y],tys⟩) K=vMin (ev E tm x) (ev E tm y) (kv K h ar):=rfl
theorem vop_max{tys:Array TypeId}:vop E ⟨tm,h,ar⟩ (.call ⟨.builtin .max,#[x,y],tys⟩) K=vMax (ev E tm x) (ev E tm y) (kv K h ar):=rfl
theorem vop_max3{z:Operand}{tys:Array TypeId}:vop E ⟨tm,h,ar⟩ (.call ⟨.builtin .max,#[x,y,z],tys⟩) K=vMax3 (ev E tm x) (ev E tm y) (ev E tm z) (kv K h ar):=rfl
section
variable {E : Env} {op : BinOp} {t : TypeId} {u v : V} {M : V → Prop} {c : Bool}
@[go_sem] theorem isNilC_tmp{i:Nat}:isNilC (.tmp i)=false:=rfl
@[go_sem] theorem isNilC_int{k:IntKind}{n:Int}:isNilC (.const (.int k n))=false:=rfl
@[go_sem] theorem isNilC_str{s:ByteArray}:isNilC (.const (.string s))=false:=rfl
@[go_sem] theorem vBinC_false:vBinC E op t false u v M=vBin E op t u v M:=rfl
def vNilD(d:Option TypeDesc)(op:BinOp)(x:V)(K:V→Prop):Prop :=
 match d,op,x with
 | some (.interface _),.eql,.nilif=>K (.bool true)
 | some (.interface _),.neq,.nilif=>K (.bool false)
 | some (.interface _),.eql,.iface _ _=>K (.bool false)
 | some (.interface _),.neq,.iface _ _=>K (.bool true)
 | _,_,_=>False
def vMkD(d:Option TypeDesc)(t:TypeId)(x:V)(K:V→Prop):Prop :=
 match d with
 | some (.interface _)=>False
 | none=>False
 | _=>K (.iface t x)
@[go_sem] theorem vMkIface_d:vMkIface E t u M=vMkD (E.P.underlying t) t u M:=rfl
@[go_sem] theorem vBin_agg{xs ys:List V}:vBin E op t (.agg xs) (.agg ys) M=(vFlat (flatK E.P t) xs ys∧vEqA op (eqL xs ys) M):=rfl
@[go_sem] theorem fits_nil:fits [] [] []=true:=rfl
@[go_sem] theorem fits_str{ks:List Nat}{a b:ByteArray}{xs ys:List V}:fits (0::ks) (.str a::xs) (.str b::ys)=fits ks xs ys:=by simp[fits,fit1]
@[go_sem] theorem fits_int{ks:List Nat}{k:IntKind}{a b:Int}{xs ys:List V}:fits (1::ks) (.int k a::xs) (.int k b::ys)=fits ks xs ys:=by simp[fits,fit1]
@[go_sem] theorem eqL_nil:eqL [] []=some true:=rfl
def andO(b:Bool)(o:Option Bool):Option Bool:=o.map (b && ·)
@[go_sem] theorem andO_some{a b:Bool}:andO a (some b)=some (a && b):=rfl
@[go_sem] theorem eqL_int{k:IntKind}{a b:Int}{xs ys:List V}:eqL (.int k a::xs) (.int k b::ys)=andO (decide (a=b)) (eqL xs ys):=by
 simp only[eqL,eq1,andO,if_true];cases eqL xs ys <;> rfl
@[go_sem] theorem vEqA_eql{b:Bool}:vEqA .eql (some b) M=M (.bool b):=rfl
@[go_sem] theorem vEqA_neq{b:Bool}:vEqA .neq (some b) M=M (.bool (!b)):=rfl
end
attribute [go_sem ↓] vop_max3 vop_mkif vop_panic
attribute [go_sem ↓] vop_lookup vop_mapUpdate vop_insert vop_makeMap vop_makeSlice vop_range vop_next vop_min vop_max vop_move vop_assign vop_pick vop_alloc vop_box vop_build vop_buildSlice vop_load vop_store vop_nilCheck vop_bin vop_un vop_convert vop_makeFunc vop_makeMeth vop_slice vop_fieldAddr vop_field vop_indexAddr vop_index vop_extract vop_call vop_len vop_append
end
/-! ### The same with the type's description in sight -/
section
variable {E : Env} {t t' : TypeId} {K : V → Prop} {heap : List VObj}
@[go_sem] theorem vAt_fptr{cs:List V}:vAt heap (.fptr cs)=some cs:=rfl
def vObj(o:Option VObj)(off:Nat):Option (List V):=match o with
 | some ob=>ob.cs?.map fun cs=>cs.drop off
 | _=>none
@[go_sem] theorem newO_eq{E:Env}{t:TypeId}{cs:List V}:newO E t cs=if E.tag t=true then .builder t ⟨#[]⟩else .cells cs:=rfl
@[go_sem] theorem newOK_eq{E:Env}{t:TypeId}{cs:List V}:newOK E t cs=(E.tag t=true→isBZ cs=true):=rfl
@[go_sem] theorem vObj_cells{cs:List V}{off:Nat}:vObj (some (.cells cs)) off=some (cs.drop off):=rfl
def vObjV(o:Option VObj)(k gen off:Nat):Option (List V):=match o with
 | some (.vec k' gen' _ cs)=>if k'=k∧gen'=gen then some (cs.drop off)else none
 | _=>none
@[go_sem] theorem vAt_ptr{i o:Nat}:vAt heap (.ptr i o)=vObj heap[i]? o:=rfl
def vLoadD(E:Env)(d:Option TypeDesc)(t:TypeId)(cs:List V)(K:V→Prop):Prop:=match d with
 | some (.struct _) | some (.array _ _)=>E.P.cellsOf t≤cs.length∧K (.agg (cs.take (E.P.cellsOf t)))
 | some _=>vHead cs K
 | none=>False
@[go_sem] theorem vLoadL_d{cs:List V}:vLoadL E t cs K=vLoadD E (E.P.underlying t) t cs K:=rfl
@[go_sem] theorem vLoadD_struct{cs:List V}{fs:Array Field}:vLoadD E (some (.struct fs)) t cs K=(E.P.cellsOf t≤cs.length∧K (.agg (cs.take (E.P.cellsOf t)))):=rfl
@[go_sem] theorem vLoadD_array{cs:List V}{n e:Nat}:vLoadD E (some (.array n e)) t cs K=(E.P.cellsOf t≤cs.length∧K (.agg (cs.take (E.P.cellsOf t)))):=rfl
@[go_sem] theorem vLoadD_int{cs:List V}{k:IntKind}:vLoadD E (some (.int k)) t cs K=vHead cs K:=rfl
@[go_sem] theorem vLoadD_bool{cs:List V}:vLoadD E (some .bool) t cs K=vHead cs K:=rfl
@[go_sem] theorem vLoadD_str{cs:List V}:vLoadD E (some .string) t cs K=vHead cs K:=rfl
@[go_sem] theorem vLoadD_slice{cs:List V}{e:Nat}:vLoadD E (some (.slice e)) t cs K=vHead cs K:=rfl
@[go_sem] theorem vLoadD_ptr{cs:List V}{e:Nat}:vLoadD E (some (.pointer e)) t cs K=vHead cs K:=rfl
@[go_sem] theorem vLoadD_map{cs:List V}{k e:Nat}:vLoadD E (some (.map k e)) t cs K=vHead cs K:=rfl
def vPartD(E:Env)(d:Option TypeDesc)(t:TypeId)(cs:List V)(off:Nat)(K:V→Prop):Prop:=match d with
 | some (.struct _) | some (.array _ _)=>off+E.P.cellsOf t≤cs.length∧K (.agg ((cs.drop off).take (E.P.cellsOf t)))
 | some _=>vHead (cs.drop off) K
 | none=>False
@[go_sem] theorem vPart_d{cs:List V}{o:Nat}:vPart E t cs o K=vPartD E (E.P.underlying t) t cs o K:=rfl
@[go_sem] theorem vPartD_int{cs:List V}{o:Nat}{k:IntKind}:vPartD E (some (.int k)) t cs o K=vHead (cs.drop o) K:=rfl
@[go_sem] theorem vPartD_str{cs:List V}{o:Nat}:vPartD E (some .string) t cs o K=vHead (cs.drop o) K:=rfl
@[go_sem] theorem vPartD_slice{cs:List V}{o e:Nat}:vPartD E (some (.slice e)) t cs o K=vHead (cs.drop o) K:=rfl
def vFieldD(E:Env)(d:Option TypeDesc)(a:V)(f:Nat)(K:V→Prop):Prop:=match d with
 | some (.struct fs)=>match fs[f]? with
  | some fd=>(infoOK E.P fd.type=true∧E.P.cellsOf fd.type≠0) ∧
   match a with
   | .fptr cs=>K (.fptr (cs.drop fd.offset))
   | .ptr id off=>K (.ptr id (off+fd.offset))
   | .vptr id k gen off=>K (.vptr id k gen (off+fd.offset))
   | _=>False
  | none=>False
 | _=>False
@[go_sem] theorem vFieldAddr_d{a:V}{f:Nat}:vFieldAddr E t a f K=vFieldD E (E.P.underlying t) a f K:=rfl
def vFieldE(E:Env)(o:Option Field)(a:V)(K:V→Prop):Prop:=match o with
  | some fd=>(infoOK E.P fd.type=true∧E.P.cellsOf fd.type≠0) ∧
   match a with
   | .fptr cs=>K (.fptr (cs.drop fd.offset))
   | .ptr id off=>K (.ptr id (off+fd.offset))
   | .vptr id k gen off=>K (.vptr id k gen (off+fd.offset))
   | _=>False
  | none=>False
@[go_sem] theorem vFieldD_struct{fs:Array Field}{a:V}{f:Nat}:vFieldD E (some (.struct fs)) a f K=vFieldE E fs[f]? a K:=rfl
@[go_sem] theorem vFieldE_fptr{a1 a5 a6:String}{ty off b:Nat}{e:Bool}{cs:List V}:vFieldE E (some ⟨a1,ty,off,e,a5,a6,b⟩) (.fptr cs) K=((infoOK E.P ty=true∧E.P.cellsOf ty≠0)∧K (.fptr (cs.drop off))):=rfl
@[go_sem] theorem vFieldE_vptr{a1 a5 a6:String}{ty off b:Nat}{e:Bool}{i k g o:Nat}:vFieldE E (some ⟨a1,ty,off,e,a5,a6,b⟩) (.vptr i k g o) K=((infoOK E.P ty=true∧E.P.cellsOf ty≠0)∧K (.vptr i k g (o+off))):=rfl
@[go_sem] theorem vFieldE_ptr{a1 a5 a6:String}{ty off b:Nat}{e:Bool}{i o:Nat}:vFieldE E (some ⟨a1,ty,off,e,a5,a6,b⟩) (.ptr i o) K=((infoOK E.P ty=true∧E.P.cellsOf ty≠0)∧K (.ptr i (o+off))):=rfl
def vIdxD(E:Env)(d:Option TypeDesc)(x ix:V)(K:V→Prop):Prop:=match d,x,ix with
 | some (.slice e),.slice _ e' es,.int _ i=>(e'=e∧infoOK E.P e=true∧0≤i∧i<es.length)∧K (.fptr (es.getD i.toNat []))
 | some (.slice e),.mslice id off len _ e',.int _ i=>(e'=e∧infoOK E.P e=true∧0≤i∧i<len)∧K (.ptr id (off+i.toNat * E.P.cellsOf e))
 | some (.slice e),.vec id k gen len e',.int _ i=>(e'=e∧infoOK E.P e=true∧0≤i∧i<len)∧K (.vptr id k gen (i.toNat * E.P.cellsOf e))
 | some (.array n e),.fptr cs,.int _ i=>(infoOK E.P e=true∧0≤i∧i<n)∧K (.fptr (cs.drop (i.toNat * E.P.cellsOf e)))
 | some (.array n e),.ptr id off,.int _ i=>(infoOK E.P e=true∧0≤i∧i<n)∧K (.ptr id (off+i.toNat * E.P.cellsOf e))
 | _,_,_=>False
@[go_sem] theorem vIndexAddr_d{x i:V}:vIndexAddr E t x i K=vIdxD E (E.P.underlying t) x i K:=rfl
@[go_sem] theorem vIdxD_slice{e e':Nat}{o:Own}{es:List (List V)}{k:IntKind}{i:Int}:vIdxD E (some (.slice e)) (.slice o e' es) (.int k i) K=((e'=e∧infoOK E.P e=true∧0≤i∧i<es.length)∧K (.fptr (es.getD i.toNat []))):=rfl
@[go_sem] theorem vIdxD_sl{e e':Nat}{es:List (List V)}{k:IntKind}{i:Int}:vIdxD E (some (.slice e)) (sl e' es) (.int k i) K=((e'=e∧infoOK E.P e=true∧0≤i∧i<es.length)∧K (.fptr (es.getD i.toNat []))):=by
 cases es with
 | nil=>simp only[vIdxD,sl,List.length_nil];exact propext ⟨fun h=>absurd h.1.2.2 (by omega),fun h=>absurd h.1.2.2 (by omega)⟩
 | cons x r=>rfl
@[go_sem] theorem vIdxD_mslice{e e' id off len cap:Nat}{k:IntKind}{i:Int}:vIdxD E (some (.slice e)) (.mslice id off len cap e') (.int k i) K=((e'=e∧infoOK E.P e=true∧0≤i∧i<len)∧K (.ptr id (off+i.toNat * E.P.cellsOf e))):=rfl
@[go_sem] theorem vIdxD_vec{e e' id kk g len:Nat}{k:IntKind}{i:Int}:vIdxD E (some (.slice e)) (.vec id kk g len e') (.int k i) K=((e'=e∧infoOK E.P e=true∧0≤i∧i<len)∧K (.vptr id kk g (i.toNat * E.P.cellsOf e))):=rfl
@[go_sem] theorem vIdxD_afptr{n e:Nat}{cs:List V}{k:IntKind}{i:Int}:vIdxD E (some (.array n e)) (.fptr cs) (.int k i) K=((infoOK E.P e=true∧0≤i∧i<n)∧K (.fptr (cs.drop (i.toNat * E.P.cellsOf e)))):=rfl
def vIxD(E:Env)(d:Option TypeDesc)(x ix:V)(K:V→Prop):Prop:=match d,x,ix with
 | some .string,.str s,.int _ i=>(0≤i∧i<s.size)∧K (.int .u8 (byteAt s i))
 | some (.array n e),.agg cs,.int _ i=>(infoOK E.P e=true∧0≤i∧i<n)∧vPart E e cs (i.toNat * E.P.cellsOf e) K
 | _,_,_=>False
@[go_sem] theorem vIndex_d{x i:V}:vIndex E t x i K=vIxD E (E.P.underlying t) x i K:=rfl
@[go_sem] theorem vIxD_str{s:ByteArray}{k:IntKind}{i:Int}:vIxD E (some .string) (.str s) (.int k i) K=((0≤i∧i<s.size)∧K (.int .u8 (byteAt s i))):=rfl
def vLenD(P:Program)(d:Option TypeDesc)(x:V)(K:V→Prop):Prop:=match d,x with
 | some .string,.str s=>s.size≤1152921504606846976→K (.int .i64 s.size)
 | some (.slice _),.slice _ e es=>es.length * P.bytesOf e≤140737488355328→es.length≤140737488355328→K (.int .i64 es.length)
 | some (.slice _),.mslice _ _ len _ _=>len≤140737488355328→K (.int .i64 len)
 | some (.slice _),.vec _ _ _ len _=>len≤140737488355328→K (.int .i64 len)
 | _,_=>False
section
variable {P : Program}
@[go_sem] theorem vLen_d{x:V}:vLen E t x K=vLenD E.P (E.P.underlying t) x K:=rfl
@[go_sem] theorem vLenM_str{h:List VObj}{s:ByteArray}:vLenM E h t (.str s) K=vLen E t (.str s) K:=rfl
@[go_sem] theorem vLenM_slice{h:List VObj}{o:Own}{e:Nat}{es:List (List V)}:vLenM E h t (.slice o e es) K=vLen E t (.slice o e es) K:=rfl
@[go_sem] theorem vLenM_vec{h:List VObj}{a b c d e:Nat}:vLenM E h t (.vec a b c d e) K=vLen E t (.vec a b c d e) K:=rfl
@[go_sem] theorem vLenM_sl{h:List VObj}{e:Nat}{es:List (List V)}:vLenM E h t (sl e es) K=vLen E t (sl e es) K:=by cases es <;> rfl
def vLenMD(d:Option TypeDesc)(o:Option VObj)(K:V→Prop):Prop:=match d,o with
 | some (.map _ _),some (.map es)=>K (.int .i64 es.length)
 | _,_=>False
@[go_sem] theorem vLenD_str{s:ByteArray}:vLenD P (some .string) (.str s) K=(s.size≤1152921504606846976→K (.int .i64 s.size)):=rfl
@[go_sem] theorem vLenD_slice{e e':Nat}{o:Own}{es:List (List V)}:vLenD P (some (.slice e)) (.slice o e' es) K=(es.length * P.bytesOf e'≤140737488355328→es.length≤140737488355328→K (.int .i64 es.length)):=rfl
@[go_sem] theorem vLenD_sl{e e':Nat}{es:List (List V)}:vLenD P (some (.slice e)) (sl e' es) K=(es.length * P.bytesOf e'≤140737488355328→es.length≤140737488355328→K (.int .i64 es.length)):=by
 cases es with
 | nil=>simp only[vLenD,sl,List.length_nil,Nat.zero_mul]
 | cons x r=>rfl
@[go_sem] theorem vLenD_vec{e e' i k g l:Nat}:vLenD P (some (.slice e)) (.vec i k g l e') K=(l≤140737488355328→K (.int .i64 l)):=rfl
end
def vStoreD(E:Env)(heap:List VObj)(o:Option VObj)(t:TypeId)(id off:Nat)(x:V)(K:List VObj→Prop):Prop:=match o with
 | some ob=>match ob.cs? with
   | some cs=>(x ≠ .junk∧(cellsV x).all V.cell=true∧(cellsV x).length=E.P.cellsOf t∧(E.P.underlying t).isSome=true∧off+(cellsV x).length≤cs.length) ∧
     K (heap.set id (ob.put (over cs off (cellsV x))))
   | none=>False
 | _=>False
def vStoreV(E:Env)(heap:List VObj)(o:Option VObj)(t:TypeId)(id k gen off:Nat)(x:V)(K:List VObj→Prop):Prop:=match o with
 | some (.vec k' gen' e cs)=>(k'=k∧gen'=gen∧x ≠ .junk∧(cellsV x).all V.cell=true∧(cellsV x).length=E.P.cellsOf t∧(E.P.underlying t).isSome=true∧off+(cellsV x).length≤cs.length∧0<(cellsV x).length) ∧
    K (heap.set id (.vec k gen e (over cs off (cellsV x))))
 | _=>False
def vCopyD(E:Env)(heap:List VObj)(d d':Option TypeDesc)(x y:V)(K:V→List VObj→Prop):Prop :=
 match d,d',x,y with
 | some (.slice e),some (.slice _),.mslice id off len _ _,.slice _ e' es=>match heap[id]? with
  | some ob=>match ob.cs? with
   | some cs=>((es=[]∨e'=e)∧infoOK E.P e=true∧es.length≤len∧off+es.flatten.length≤cs.length)∧K (.int .i64 es.length) (heap.set id (ob.put (over cs off es.flatten)))
   | none=>False
  | none=>False
 | _,_,_,_=>False
def vCopyO(E:Env)(heap:List VObj)(ob:Option VObj)(e id off len e':Nat)(es:List (List V))(K:V→List VObj→Prop):Prop:=match ob with
  | some ob=>match ob.cs? with
   | some cs=>((es=[]∨e'=e)∧infoOK E.P e=true∧es.length≤len∧off+es.flatten.length≤cs.length)∧K (.int .i64 es.length) (heap.set id (ob.put (over cs off es.flatten)))
   | none=>False
  | none=>False
@[go_sem] theorem vCopy_d{x y:V}{K:V→List VObj→Prop}:vCopy E heap t t' x y K=vCopyD E heap (E.P.underlying t) (E.P.underlying t') x y K:=rfl
@[go_sem] theorem vCopyO_cells{K:V→List VObj→Prop}{id off len e e':Nat}{es:List (List V)}{cs:List V}:vCopyO E heap (some (.cells cs)) e id off len e' es K =
 (((es=[]∨e'=e)∧infoOK E.P e=true∧es.length≤len∧off+es.flatten.length≤cs.length)∧K (.int .i64 es.length) (heap.set id (.cells (over cs off es.flatten)))):=rfl
@[go_sem] theorem vStore_vptr{i k g o:Nat}{x:V}{K:List VObj→Prop}:vStore E heap t (.vptr i k g o) x K=vStoreV E heap heap[i]? t i k g o x K:=rfl
@[go_sem] theorem vStoreV_same{e:TypeId}{cs:List V}{i k g o:Nat}{x:V}{K:List VObj→Prop}:vStoreV E heap (some (.vec k g e cs)) t i k g o x K =
  ((x.some? = true∧(cellsV x).all V.cell=true∧(cellsV x).length=E.P.cellsOf t∧(E.P.underlying t).isSome=true∧o+(cellsV x).length≤cs.length∧0<(cellsV x).length)∧K (heap.set i (.vec k g e (over cs o (cellsV x))))):=by
 have:(x≠V.junk)=(x.some? = true):=by
  cases x <;> simp[V.some?]
 simp only[vStoreV,this,true_and]
@[go_sem] theorem vStore_ptr{i o:Nat}{x:V}{K:List VObj→Prop}:vStore E heap t (.ptr i o) x K=vStoreD E heap heap[i]? t i o x K:=rfl
@[go_sem] theorem vStoreD_cells{cs:List V}{i o:Nat}{x:V}{K:List VObj→Prop}:vStoreD E heap (some (.cells cs)) t i o x K =
  ((x.some? = true∧(cellsV x).all V.cell=true∧(cellsV x).length=E.P.cellsOf t∧(E.P.underlying t).isSome=true∧o+(cellsV x).length≤cs.length)∧K (heap.set i (.cells (over cs o (cellsV x))))):=by
 have:(x≠V.junk)=(x.some? = true):=by
  cases x <;> simp[V.some?]
 simp only[vStoreD,this]
 rfl
def vAppD(E:Env)(arr:List Nat)(d d':Option TypeDesc)(s x:V)(K:V→List Nat→Prop):Prop:=match d,d',s,x with
 | some (.slice e),some (.slice _),.slice o e1 es,.slice _ e2 xs =>
  ((es=[]∨e1=e)∧(xs=[]∨e2=e)∧elemOK E.P e=true∧(es.length+xs.length) * E.P.bytesOf e≤140737488355328)∧vApp1 arr o e e1 es xs K
 | some (.slice e),some .string,.slice o e1 es,.str b =>
  ((es=[]∨e1=e)∧E.P.cellsOf e=1∧elemOK E.P e=true∧(es.length+(bytesV b).length) * E.P.bytesOf e≤140737488355328)∧vApp1 arr o e e1 es (bytesV b) K
 | _,_,_,_=>False
def vAppVD(E:Env)(heap:List VObj)(arr:List Nat)(d d':Option TypeDesc)(s x:V)(K:Cont):Prop :=
 match d,d',x with
 | some (.slice e),some (.slice _),.slice _ e2 xs=>(xs≠[]∧e2=e∧elemOK E.P e=true)∧match s with
  | .vec id k gen len e1=>match heap[id]? with
   | some (.vec k' gen' e' cs)=>(k'=k∧gen'=gen∧e1=e∧e'=e∧cs.length=len * E.P.cellsOf e∧(len+xs.length) * E.P.bytesOf e≤140737488355328) ∧
     K (.vec id k (gen+1) (len+xs.length) e) (heap.set id (.vec k (gen+1) e (cs++xs.flatten))) (arr.set k (gen+1))
   | _=>False
  | .slice o e1 es=>(o.fresh=true∧(es=[]∨e1=e)∧(es.length+xs.length) * E.P.bytesOf e≤140737488355328) ∧
    K (.vec heap.length arr.length gen0 (es.length+xs.length) e) (heap++[.vec arr.length gen0 e (es.flatten++xs.flatten)]) (arr++[gen0])
  | _=>False
 | _,_,_=>False
def vAppVO(E:Env)(heap:List VObj)(arr:List Nat)(o:Option VObj)(e id k gen len e1:Nat)(xs:List (List V))(K:Cont):Prop:=match o with
 | some (.vec k' gen' e' cs)=>(k'=k∧gen'=gen∧e1=e∧e'=e∧cs.length=len * E.P.cellsOf e∧(len+xs.length) * E.P.bytesOf e≤140737488355328) ∧
     K (.vec id k (gen+1) (len+xs.length) e) (heap.set id (.vec k (gen+1) e (cs++xs.flatten))) (arr.set k (gen+1))
 | _=>False
@[go_sem] theorem vAppV_d{h:List VObj}{arr:List Nat}{x y:V}{K:Cont}:vAppV E h arr t t' x y K=vAppVD E h arr (E.P.underlying t) (E.P.underlying t') x y K:=rfl
@[go_sem] theorem vAppVD_vec{h:List VObj}{arr:List Nat}{e e' id k gen len e1 e2:Nat}{o:Own}{xs:List (List V)}{K:Cont}:vAppVD E h arr (some (.slice e)) (some (.slice e')) (.vec id k gen len e1) (.slice o e2 xs) K =
  ((xs≠[]∧e2=e∧elemOK E.P e=true)∧vAppVO E h arr h[id]? e id k gen len e1 xs K):=rfl
@[go_sem] theorem vAppVO_same{h:List VObj}{arr:List Nat}{e id k gen len e1 e':Nat}{cs:List V}{xs:List (List V)}{K:Cont}:vAppVO E h arr (some (.vec k gen e' cs)) e id k gen len e1 xs K =
  ((e1=e∧e'=e∧cs.length=len * E.P.cellsOf e∧(len+xs.length) * E.P.bytesOf e≤140737488355328) ∧
     K (.vec id k (gen+1) (len+xs.length) e) (h.set id (.vec k (gen+1) e (cs++xs.flatten))) (arr.set k (gen+1))):=by
 simp only[vAppVO,true_and]
@[go_sem] theorem vAppVD_slice{h:List VObj}{arr:List Nat}{e e' e1 e2:Nat}{o o':Own}{es xs:List (List V)}{K:Cont}:vAppVD E h arr (some (.slice e)) (some (.slice e')) (.slice o e1 es) (.slice o' e2 xs) K =
  ((xs≠[]∧e2=e∧elemOK E.P e=true)∧(o.fresh=true∧(es=[]∨e1=e)∧(es.length+xs.length) * E.P.bytesOf e≤140737488355328) ∧
    K (.vec h.length arr.length gen0 (es.length+xs.length) e) (h++[.vec arr.length gen0 e (es.flatten++xs.flatten)]) (arr++[gen0])):=rfl
@[go_sem] theorem Own.fresh_nil:Own.fresh .nil=true:=rfl
@[go_sem] theorem vAppend_d{arr:List Nat}{x y:V}{K:V→List Nat→Prop}:vAppend E arr t t' x y K=vAppD E arr (E.P.underlying t) (E.P.underlying t') x y K:=rfl
section
variable {arr : List Nat} {e e' e1 e2 : Nat} {o : Own} {es xs : List (List V)} {K : V → List Nat → Prop}
@[go_sem] theorem vAppD_arr{k:Nat}:vAppD E arr (some (.slice e)) (some (.slice e')) (.slice (.arr k) e1 es) (.slice o e2 xs) K =
  (((es=[]∨e1=e)∧(xs=[]∨e2=e)∧elemOK E.P e=true∧(es.length+xs.length) * E.P.bytesOf e≤140737488355328) ∧
   (e1=e∧arr[k]? = some es.length)∧K (.slice (.arr k) e (es++xs)) (arr.set k (es.length+xs.length))):=rfl
end
section
variable {arr : List Nat} {e e' e1 e2 : Nat} {es xs : List (List V)} {K : V → List Nat → Prop}
theorem sl_cond:(xs=[]∨(if xs.isEmpty then 0 else e2)=e)=(xs=[]∨e2=e):=by cases xs <;> simp
@[go_sem] theorem vAppD_full_sl:vAppD E arr (some (.slice e)) (some (.slice e')) (.slice .full e1 es) (sl e2 xs) K =
  (((es=[]∨e1=e)∧(xs=[]∨e2=e)∧elemOK E.P e=true∧(es.length+xs.length) * E.P.bytesOf e≤140737488355328)∧(xs=[]→K (.slice .full e1 es) arr)∧(¬ xs=[]→K (.slice (.arr arr.length) e (es++xs)) (arr++[es.length+xs.length]))):=by
 have h:vAppD E arr (some (.slice e)) (some (.slice e')) (.slice .full e1 es) (sl e2 xs) K=(((es=[]∨e1=e)∧(xs=[]∨(if xs.isEmpty then 0 else e2)=e)∧elemOK E.P e=true∧(es.length+xs.length) * E.P.bytesOf e≤140737488355328)∧if xs=[]then K (.slice .full e1 es) arr else K (.slice (.arr arr.length) e (es++xs)) (arr++[es.length+xs.length])):=rfl
 rw[h,sl_cond]
 by_cases hx:xs=[] <;> simp[hx]
end
def vBuildD(E:Env)(d:Option TypeDesc)(t:TypeId)(ps:List (Nat×V))(K:V→Prop):Prop:=match d with
 | some (.struct fs)=>(zeroOK E t=true∧fs.all (fun f=>infoOK E.P f.type)=true) ∧
  match fillV (places E.P fs) (zeroL E t) ps with
  | some cs=>K (.agg cs)
  | none=>False
 | some (.array _ e)=>(zeroOK E t=true∧infoOK E.P e=true) ∧
  match fillV (fun i=>some (i * E.P.cellsOf e,E.P.cellsOf e)) (zeroL E t) ps with
  | some cs=>K (.agg cs)
  | none=>False
 | _=>False
@[go_sem] theorem vBuild_d{ps:List (Nat×V)}:vBuild E t ps K=vBuildD E (E.P.underlying t) t ps K:=rfl
def vAggO(o:Option (List V))(K:V→Prop):Prop:=match o with
 | some cs=>K (.agg cs)
 | none=>False
@[go_sem] theorem vAggO_some{cs:List V}:vAggO (some cs) K=K (.agg cs):=rfl
@[go_sem] theorem vBuildD_struct{fs:List Field}{ps:List (Nat×V)}:vBuildD E (some (.struct fs.toArray)) t ps K =
  ((zeroOK E t=true∧fs.all (fun f=>infoOK E.P f.type)=true)∧vAggO (fillV (places E.P fs.toArray) (zeroL E t) ps) K):=by
 simp only[vBuildD,List.all_toArray,vAggO]
@[go_sem] theorem vBuildD_array{n e:Nat}{ps:List (Nat×V)}:vBuildD E (some (.array n e)) t ps K =
  ((zeroOK E t=true∧infoOK E.P e=true)∧vAggO (fillV (fun i=>some (i * E.P.cellsOf e,E.P.cellsOf e)) (zeroL E t) ps) K):=rfl
def vBSD(E:Env)(d:Option TypeDesc)(len:Nat)(ps:List (Nat×V))(K:V→Prop):Prop:=match d with
 | some (.slice e)=>(elemOK E.P e=true∧len * E.P.cellsOf e≤16777216) ∧
  match setEls len (E.P.cellsOf e) (List.replicate len ((zeroL E e).map share1)) ps with
  | some es=>K (.slice .full e es)
  | none=>False
 | _=>False
@[go_sem] theorem vBuildSlice_d{len:Nat}{ps:List (Nat×V)}:vBuildSlice E t len ps K=vBSD E (E.P.underlying t) len ps K:=rfl
def vSlO(e:TypeId)(o:Option (List (List V)))(K:V→Prop):Prop:=match o with
 | some es=>K (.slice .full e es)
 | none=>False
@[go_sem] theorem vSlO_some{e:TypeId}{es:List (List V)}:vSlO e (some es) K=K (.slice .full e es):=rfl
@[go_sem] theorem vBSD_slice{e len:Nat}{ps:List (Nat×V)}:vBSD E (some (.slice e)) len ps K =
  ((elemOK E.P e=true∧len * E.P.cellsOf e≤16777216)∧vSlO e (setEls len (E.P.cellsOf e) (List.replicate len ((zeroL E e).map share1)) ps) K):=rfl
def placeO(P:Program)(o:Option Field):Option (Nat×Nat):=o.map fun f=>(f.offset,P.cellsOf f.type)
@[go_sem] theorem placeO_some{P:Program}{a1 a5 a6:String}{ty off b:Nat}{e:Bool}:placeO P (some ⟨a1,ty,off,e,a5,a6,b⟩)=some (off,P.cellsOf ty):=rfl
@[go_sem] theorem places_get{P:Program}{fs:List Field}{i:Nat}:places P fs.toArray i=placeO P fs[i]?:=by simp[places,placeO]
@[go_sem] theorem fillV_nil{pl:Nat→Option (Nat×Nat)}{cs:List V}:fillV pl cs []=some cs:=rfl
def fillO(pl:Nat→Option (Nat×Nat))(o:Option (Nat×Nat))(cs:List V)(x:V)(r:List (Nat×V)):Option (List V):=match o with
 | none=>none
 | some (off,size)=>if x.some? = true∧(cellsV x).length=size∧off+size≤cs.length then fillV pl (over cs off (cellsV x)) r else none
@[go_sem] theorem fillV_cons{pl:Nat→Option (Nat×Nat)}{cs:List V}{i:Nat}{x:V}{r:List (Nat×V)}:fillV pl cs ((i,x)::r)=fillO pl (pl i) cs x r:=rfl
@[go_sem] theorem fillO_some{pl:Nat→Option (Nat×Nat)}{cs:List V}{off size:Nat}{x:V}{r:List (Nat×V)}(h:(x.some? && decide ((cellsV x).length=size) && decide (off+size≤cs.length))=true) :
  fillO pl (some (off,size)) cs x r=fillV pl (over cs off (cellsV x)) r:=by
 simp only[Bool.and_eq_true,decide_eq_true_eq]at h
 simp only[fillO];rw[if_pos ⟨h.1.1,h.1.2,h.2⟩]
@[go_sem] theorem setEls_nil{n sz:Nat}{es:List (List V)}:setEls n sz es []=some es:=rfl
@[go_sem] theorem setEls_cons{n sz i:Nat}{es:List (List V)}{x:V}{r:List (Nat×V)}(h:(x.some? && (cellsV x).all V.cell && decide ((cellsV x).length=sz) && decide (i<n))=true) :
  setEls n sz es ((i,x)::r)=setEls n sz (es.set i ((cellsV x).map share1)) r:=by
 simp only[Bool.and_eq_true,decide_eq_true_eq]at h
 simp only[setEls];rw[if_pos ⟨h.1.1.1,h.1.1.2,h.1.2,h.2⟩]
end
/-! ### Maps, made slices, letters -/
section
variable {E : Env} {t t' : TypeId} {K : V → Prop} {heap : List VObj} {L : List VObj → Prop} {M : V → List VObj → Prop} {k : IntKind} {a b : Int}
@[go_sem] theorem vMin_int{k':IntKind}:vMin (.int k a) (.int k' b) K=K (.int k (if b<a then b else a)):=rfl
@[go_sem] theorem vMax_int{k':IntKind}:vMax (.int k a) (.int k' b) K=K (.int k (if a<b then b else a)):=rfl
def mapO(o:Option VObj):Option (List (V×V)):=match o with
 | some (.map es)=>some es
 | _=>none
@[go_sem] theorem mapO_some{es:List (V×V)}:mapO (some (.map es))=some es:=rfl
@[go_sem] theorem mapAt_map{i:Nat}:mapAt heap (.map i)=mapO heap[i]?:=rfl
def vLookF(E:Env)(et:TypeId)(r:Option (Option (Nat×V)))(ok:Bool)(K:V→Prop):Prop:=match r with
 | some (some (_,v))=>K (if ok then .tuple [v,.bool true]else v)
 | some none=>zeroOKP E.P et=true∧K (if ok then .tuple [zeroVP E.P et,.bool false]else zeroVP E.P et)
 | none=>False
def vLookE(E:Env)(d:Option TypeDesc)(et:TypeId)(es:List (V×V))(k:V)(ok:Bool)(K:V→Prop):Prop:=match d with
 | some d=>keyV d k=true∧vLookF E et (findV d k es 0) ok K
 | none=>False
def vLookD(E:Env)(d:Option TypeDesc)(es:Option (List (V×V)))(k:V)(ok:Bool)(K:V→Prop):Prop:=match d,es with
 | some (.map kt et),some es=>vLookE E (E.P.underlying kt) et es k ok K
 | _,_=>False
@[go_sem] theorem vLook_d{m k:V}{ok:Bool}:vLook E heap t m k ok K=vLookD E (E.P.underlying t) (mapAt heap m) k ok K:=rfl
@[go_sem] theorem vLookK_str{m:V}{s:ByteArray}{ok:Bool}:vLookK E heap t m (.str s) ok K=vLook E heap t m (.str s) ok K:=rfl
@[go_sem] theorem vLookK_int{m:V}{k:IntKind}{n:Int}{ok:Bool}:vLookK E heap t m (.int k n) ok K=vLook E heap t m (.int k n) ok K:=rfl
def vLookB(E:Env)(fk:Option (List Nat))(et:TypeId)(es:List (V×V))(xs:List V)(ok:Bool)(K:V→Prop):Prop:=match fk with
 | some ks=>fits ks xs xs=true∧vLookF E et (findA ks xs es 0) ok K
 | none=>False
def vLookC(E:Env)(d:Option TypeDesc)(es:Option (List (V×V)))(xs:List V)(ok:Bool)(K:V→Prop):Prop:=match d,es with
 | some (.map kt et),some es=>vLookB E (flatK E.P kt) et es xs ok K
 | _,_=>False
@[go_sem] theorem vLookK_agg{m:V}{xs:List V}{ok:Bool}:vLookK E heap t m (.agg xs) ok K=vLookC E (E.P.underlying t) (mapAt heap m) xs ok K:=rfl
@[go_sem] theorem vLookC_map{kt et:Nat}{es:List (V×V)}{xs:List V}{ok:Bool}:vLookC E (some (.map kt et)) (some es) xs ok K=vLookB E (flatK E.P kt) et es xs ok K:=rfl
@[go_sem] theorem vLookB_some{ks:List Nat}{et:Nat}{es:List (V×V)}{xs:List V}{ok:Bool}:vLookB E (some ks) et es xs ok K=(fits ks xs xs=true∧vLookF E et (findA ks xs es 0) ok K):=rfl
@[go_sem] theorem vLookD_map{kt et:Nat}{es:List (V×V)}{k:V}{ok:Bool}:vLookD E (some (.map kt et)) (some es) k ok K=vLookE E (E.P.underlying kt) et es k ok K:=rfl
@[go_sem] theorem vLookE_some{d:TypeDesc}{et:Nat}{es:List (V×V)}{k:V}{ok:Bool}:vLookE E (some d) et es k ok K=(keyV d k=true∧vLookF E et (findV d k es 0) ok K):=rfl
@[go_sem] theorem vLookF_hit{et i:Nat}{v:V}:vLookF E et (some (some (i,v))) true K=K (.tuple [v,.bool true]):=rfl
@[go_sem] theorem vLookF_hit1{et i:Nat}{v:V}:vLookF E et (some (some (i,v))) false K=K v:=rfl
@[go_sem] theorem vLookF_miss{et:Nat}:vLookF E et (some none) true K=(zeroOKP E.P et=true∧K (.tuple [zeroVP E.P et,.bool false])):=rfl
@[go_sem] theorem vLookF_miss1{et:Nat}:vLookF E et (some none) false K=(zeroOKP E.P et=true∧K (zeroVP E.P et)):=rfl
def vSetF(heap:List VObj)(id:Nat)(es:List (V×V))(k v:V)(r:Option (Option (Nat×V)))(L:List VObj→Prop):Prop:=match r with
 | some (some (j,_))=>L (heap.set id (.map (es.set j (k,v))))
 | some none=>L (heap.set id (.map (es++[(k,v)])))
 | none=>False
def vSetE(heap:List VObj)(o:Option VObj)(d:Option TypeDesc)(id:Nat)(k v:V)(L:List VObj→Prop):Prop:=match o,d with
 | some (.map es),some d=>keyV d k=true∧vSetF heap id es k v (findV d k es 0) L
 | _,_=>False
def vSetD(E:Env)(heap:List VObj)(d:Option TypeDesc)(m k v:V)(L:List VObj→Prop):Prop:=match d,m with
 | some (.map kt _),.map id=>vSetE heap heap[id]? (E.P.underlying kt) id k v L
 | _,_=>False
@[go_sem] theorem vMapSet_d{m k v:V}:vMapSet E heap t m k v L=vSetD E heap (E.P.underlying t) m k v L:=rfl
@[go_sem] theorem vMapSetK_str{m v:V}{s:ByteArray}:vMapSetK E heap t m (.str s) v L=vMapSet E heap t m (.str s) v L:=rfl
@[go_sem] theorem vMapSetK_int{m v:V}{k:IntKind}{n:Int}:vMapSetK E heap t m (.int k n) v L=vMapSet E heap t m (.int k n) v L:=rfl
def vSetA(heap:List VObj)(o:Option VObj)(fk:Option (List Nat))(id:Nat)(xs:List V)(v:V)(L:List VObj→Prop):Prop:=match o,fk with
 | some (.map es),some ks=>fits ks xs xs=true∧vSetF heap id es (.agg xs) v (findA ks xs es 0) L
 | _,_=>False
def vSetC(E:Env)(heap:List VObj)(d:Option TypeDesc)(m:V)(xs:List V)(v:V)(L:List VObj→Prop):Prop:=match d,m with
 | some (.map kt _),.map id=>vSetA heap heap[id]? (flatK E.P kt) id xs v L
 | _,_=>False
@[go_sem] theorem vMapSetK_agg{m v:V}{xs:List V}:vMapSetK E heap t m (.agg xs) v L=vSetC E heap (E.P.underlying t) m xs v L:=rfl
@[go_sem] theorem vSetC_map{kt et id:Nat}{xs:List V}{v:V}:vSetC E heap (some (.map kt et)) (.map id) xs v L=vSetA heap heap[id]? (flatK E.P kt) id xs v L:=rfl
@[go_sem] theorem vSetA_some{id:Nat}{ks:List Nat}{es:List (V×V)}{xs:List V}{v:V}:vSetA heap (some (.map es)) (some ks) id xs v L=(fits ks xs xs=true∧vSetF heap id es (.agg xs) v (findA ks xs es 0) L):=rfl
@[go_sem] theorem vSetD_map{kt et id:Nat}{k v:V}:vSetD E heap (some (.map kt et)) (.map id) k v L=vSetE heap heap[id]? (E.P.underlying kt) id k v L:=rfl
@[go_sem] theorem vSetE_some{id:Nat}{d:TypeDesc}{es:List (V×V)}{k v:V}:vSetE heap (some (.map es)) (some d) id k v L=(keyV d k=true∧vSetF heap id es k v (findV d k es 0) L):=rfl
@[go_sem] theorem vSetF_hit{id j:Nat}{es:List (V×V)}{k v u:V}:vSetF heap id es k v (some (some (j,u))) L=L (heap.set id (.map (es.set j (k,v)))):=rfl
@[go_sem] theorem vSetF_miss{id:Nat}{es:List (V×V)}{k v:V}:vSetF heap id es k v (some none) L=L (heap.set id (.map (es++[(k,v)]))):=rfl
@[go_sem] theorem keyV_int{k':IntKind}:keyV (.int k) (.int k' a)=decide (k'=k):=rfl
@[go_sem] theorem keyV_str{s:ByteArray}:keyV .string (.str s)=true:=rfl
@[go_sem] theorem findV_nil{d:TypeDesc}{k:V}{i:Nat}:findV d k [] i=some none:=rfl
def findC(d:TypeDesc)(k:V)(v:V)(r:List (V×V))(i:Nat)(o:Option Bool):Option (Option (Nat×V)):=match o with
 | some true=>some (some (i,v))
 | some false=>findV d k r (i+1)
 | none=>none
@[go_sem] theorem findV_cons{d:TypeDesc}{k k' v:V}{r:List (V×V)}{i:Nat}:findV d k ((k',v)::r) i=findC d k v r i (sameV d k k'):=rfl
@[go_sem] theorem findC_false{d:TypeDesc}{k v:V}{r:List (V×V)}{i:Nat}:findC d k v r i (some false)=findV d k r (i+1):=rfl
@[go_sem] theorem sameV_int{d:IntKind}:sameV (.int d) (.int k a) (.int k b)=some (a == b):=by simp[sameV]
def vMakeD(E:Env)(heap:List VObj)(d:Option TypeDesc)(l c:V)(M:V→List VObj→Prop):Prop:=match d,l,c with
 | some (.slice e),.int _ n,.int _ n'=>(n=n'∧elemOK E.P e=true∧0≤n∧n.toNat * E.P.bytesOf e≤140737488355328) ∧
   M (.mslice heap.length 0 n.toNat n.toNat e) (heap++[.cells (List.replicate n.toNat (zeroP E.P e)).flatten])
 | _,_,_=>False
@[go_sem] theorem vMakeSlice_d{l c:V}:vMakeSlice E heap t l c M=vMakeD E heap (E.P.underlying t) l c M:=rfl
@[go_sem] theorem vMakeD_int{e:Nat}{k k':IntKind}{n:Nat}:vMakeD E heap (some (.slice e)) (.int k n) (.int k' n) M =
  ((elemOK E.P e=true∧n * E.P.bytesOf e≤140737488355328)∧M (.mslice heap.length 0 n n e) (heap++[.cells (List.replicate n (zeroP E.P e)).flatten])):=by
 simp[vMakeD]
def vRangeD(heap:List VObj)(d:Option TypeDesc)(x:V)(M:V→List VObj→Prop):Prop:=match d,x with
 | some .string,.str s=>M (.ptr heap.length 0) (heap++[.siter s 0])
 | _,_=>False
@[go_sem] theorem vRange_d{x:V}:vRange E heap t x M=vRangeD heap (E.P.underlying t) x M:=rfl
@[go_sem] theorem vRangeD_str{s:ByteArray}:vRangeD heap (some .string) (.str s) M=M (.ptr heap.length 0) (heap++[.siter s 0]):=rfl
def vNextO(heap:List VObj)(id:Nat)(o:Option VObj)(M:V→List VObj→Prop):Prop:=match o with
 | some (.siter s pos)=>if pos<s.size then M (.tuple [.bool true,.int .i64 pos,.int .i32 (Utf8.decode s pos).1]) (heap.set id (.siter s (pos+(Utf8.decode s pos).2)))else M (.tuple [.bool false]) heap
 | _=>False
@[go_sem] theorem vNext_d{id:Nat}:vNext heap (.ptr id 0) M=vNextO heap id heap[id]? M:=rfl
@[go_sem] theorem vNextO_some{id pos:Nat}{s:ByteArray}:vNextO heap id (some (.siter s pos)) M =
  if pos<s.size then M (.tuple [.bool true,.int .i64 pos,.int .i32 (Utf8.decode s pos).1]) (heap.set id (.siter s (pos+(Utf8.decode s pos).2)))else M (.tuple [.bool false]) heap:=rfl
end
/-! ### Values -/
section
variable {cs : List V} {k : IntKind} {n : Int} {b : Bool} {s : ByteArray} {o : Own} {e : Nat} {es : List (List V)} {i j l c : Nat} {x : V}
@[go_sem] theorem cellsV_agg:cellsV (.agg cs)=cs:=rfl
@[go_sem] theorem cellsV_int:cellsV (.int k n)=[.int k n]:=rfl
@[go_sem] theorem cellsV_bool:cellsV (.bool b)=[.bool b]:=rfl
@[go_sem] theorem cellsV_str:cellsV (.str s)=[.str s]:=rfl
@[go_sem] theorem cellsV_slice:cellsV (.slice o e es)=[.slice o e es]:=rfl
@[go_sem] theorem cellsV_sl:cellsV (sl e es)=[sl e es]:=rfl
@[go_sem] theorem cellsV_ms:cellsV (.mslice i j l c e)=[.mslice i j l c e]:=rfl
@[go_sem] theorem cellsV_fptr:cellsV (.fptr cs)=[.fptr cs]:=rfl
@[go_sem] theorem cellsV_map:cellsV (.map i)=[.map i]:=rfl
@[go_sem] theorem some_agg:(V.agg cs).some? = true:=rfl
@[go_sem] theorem some_int:(V.int k n).some? = true:=rfl
@[go_sem] theorem some_bool:(V.bool b).some? = true:=rfl
@[go_sem] theorem some_str:(V.str s).some? = true:=rfl
@[go_sem] theorem some_slice:(V.slice o e es).some? = true:=rfl
@[go_sem] theorem some_sl:(sl e es).some? = true:=rfl
@[go_sem] theorem some_ms:(V.mslice i j l c e).some? = true:=rfl
@[go_sem] theorem some_fptr:(V.fptr cs).some? = true:=rfl
@[go_sem] theorem some_map:(V.map i).some? = true:=rfl
@[go_sem] theorem cell_int:(V.int k n).cell=true:=rfl
@[go_sem] theorem cell_bool:(V.bool b).cell=true:=rfl
@[go_sem] theorem cell_str:(V.str s).cell=true:=rfl
@[go_sem] theorem cell_slice:(V.slice o e es).cell=true:=rfl
@[go_sem] theorem cell_sl:(sl e es).cell=true:=rfl
@[go_sem] theorem cell_fptr:(V.fptr cs).cell=true:=rfl
@[go_sem] theorem cell_map:(V.map i).cell=true:=rfl
@[go_sem] theorem share1_int:share1 (.int k n) = .int k n:=rfl
@[go_sem] theorem share1_bool:share1 (.bool b) = .bool b:=rfl
@[go_sem] theorem share1_str:share1 (.str s) = .str s:=rfl
@[go_sem] theorem share1_slice:share1 (.slice o e es)=sl e es:=rfl
@[go_sem] theorem sl_nil:sl e [] = .slice .shared 0 []:=rfl
@[go_sem] theorem share1_sl:share1 (sl e es)=sl e es:=by cases es <;> rfl
@[go_sem] theorem share1_map:share1 (.map i) = .map i:=rfl
@[go_sem] theorem share1_nilm:share1 .nilmap = .nilmap:=rfl
@[go_sem] theorem shareA_agg:shareA (.agg cs) = .agg (cs.map share1):=rfl
@[go_sem] theorem shareA_int:shareA (.int k n) = .int k n:=rfl
@[go_sem] theorem shareA_bool:shareA (.bool b) = .bool b:=rfl
@[go_sem] theorem shareA_str:shareA (.str s) = .str s:=rfl
@[go_sem] theorem shareA_slice:shareA (.slice o e es)=sl e es:=rfl
@[go_sem] theorem share_tuple:share (.tuple cs) = .tuple (cs.map shareA):=rfl
@[go_sem] theorem share_agg:share (.agg cs) = .agg (cs.map share1):=rfl
@[go_sem] theorem share_int:share (.int k n) = .int k n:=rfl
@[go_sem] theorem share_bool:share (.bool b) = .bool b:=rfl
@[go_sem] theorem share_str:share (.str s) = .str s:=rfl
@[go_sem] theorem share_slice:share (.slice o e es)=sl e es:=rfl
@[go_sem] theorem share_sl:share (sl e es)=sl e es:=by cases es <;> rfl
@[go_sem] theorem share_fptr:share (.fptr cs) = .fptr cs:=rfl
end
/-! ### Zeros -/
@[go_sem] theorem zeroL_p{E:Env}{t:TypeId}:zeroL E t=zeroP E.P t:=rfl
@[go_sem] theorem zeroOK_p{E:Env}{t:TypeId}:zeroOK E t=zeroOKP E.P t:=rfl
/-! ### A function's contract, out of its body's condition -/
theorem vcalls_vc{E:Env}{f:FuncId}{fn:Func}{c:Code}{args:List V}{heap:List VObj}{arr:List Nat}{K:Cont}(hf:E.P.funcs[f]? = some fn)(hbody:fn.body=some c)(hn:args.length≤fn.ntmps)
  (h:vc E heap.length arr.length fn.ntmps c ⟨enumV 0 args,heap,arr⟩ (kfin E fn.results.toList K)):VCalls E f args heap arr K :=
 vcalls_of hf hbody hn (vc_snd _ _ _ h)
theorem vpure_vc{E:Env}{f:FuncId}{fn:Func}{c:Code}{args:List V}{r:V}(hf:E.P.funcs[f]? = some fn)(hbody:fn.body=some c)(hn:args.length≤fn.ntmps)(hp:pureL args=true)(hr:r.pure=true)
  (h:vc E 0 0 fn.ntmps c ⟨enumV 0 args,[],[]⟩ (kfin E fn.results.toList (kpure r))) (hal:E.alive=E:=by exact rfl):VPure E f args r :=
 vpure_of hf hbody hn hp hr (vc_snd _ _ _ h) hal
end Go.Vg
