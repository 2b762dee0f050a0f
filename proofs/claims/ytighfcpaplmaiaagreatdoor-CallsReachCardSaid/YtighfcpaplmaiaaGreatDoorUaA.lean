/- From the reading of a row's arguments to trees, exactly: recursive types, arrays, and what a listed variable holds. -/
import Derived.Test.YtighfcpaplmaiaaGreatDoorVgY
import Derived.Test.YtighfcpaplmaiaaGreatDoorVgOrd
set_option linter.unusedVariables false
set_option linter.unusedSimpArgs false
namespace Go.Vg
open Go.RowKit
inductive Tz where
 | int (k:IntKind) | str | bool
 | sl (e:TypeId) (t:Tz)
 | arr (e:TypeId) (n:Nat) (t:Tz)
 | unit
 | cons (t:TypeId) (f r:Tz)
 | leaf (T:TypeId) (n:Nat) (S:List V→Prop)
def Tz.cells:Tz→Nat
 | .int _ | .str | .bool | .sl _ _=>1
 | .arr _ n t=>n * t.cells
 | .unit=>0
 | .cons _ f r=>f.cells+r.cells
 | .leaf _ n _=>n
def isArr(e:TypeId)(n:Nat):Option TypeDesc→Bool | some (.array n' e')=>decide (e'=e) && decide (n'=n) | _=>false
def Tz.ok(P:Program):Tz→TypeId ⊕ (Nat×List Field)→Bool
 | .int k,.inl T=>isInt k (P.underlying T)
 | .str,.inl T=>isStr (P.underlying T)
 | .bool,.inl T=>isBool (P.underlying T)
 | .sl e t,.inl T=>isSlice e (P.underlying T) && decide (P.cellsOf e=t.cells) && decide (1≤t.cells) && decide (1≤P.bytesOf e) && t.ok P (.inl e)
 | .arr e n t,.inl T=>isArr e n (P.underlying T) && decide (P.cellsOf e=t.cells) && decide (P.cellsOf T=n * t.cells) && t.ok P (.inl e)
 | .unit,.inl T=>match fieldsOf (P.underlying T)with
  | some []=>decide (P.cellsOf T=0)
  | _=>false
 | .unit,.inr (_,[])=>true
 | .cons t f r,.inl T=>match fieldsOf (P.underlying T)with
  | some (fd::fs)=>decide (P.cellsOf T=f.cells+r.cells) && decide (fd.type=t) && decide (fd.offset=0) && decide (P.cellsOf t=f.cells) && f.ok P (.inl t) && r.ok P (.inr (f.cells,fs))
  | _=>false
 | .cons t f r,.inr (o,fd::fs)=>decide (fd.type=t) && decide (fd.offset=o) && decide (P.cellsOf t=f.cells) && f.ok P (.inl t) && r.ok P (.inr (o+f.cells,fs))
 | .leaf R _ _,.inl T=>decide (T=R)
 | _,_=>false
def elemsOf{H:Type}:DataW H→List (DataW H)
 | .slice es _=>es
 | .agg es=>es
 | _=>[]
def Tz.sem{H:Type}:Tz→DataW H→List V→Prop
 | .int k,d,xs=>∃ n,xs=[.int k n]∧d = .lit (.int k n)
 | .str,d,xs=>∃ s:ByteArray,xs=[.str s]∧d = .lit (.string s.data.toList)
 | .bool,d,xs=>∃ b,xs=[.bool b]∧d = .lit (.bool b)
 | .sl e t,d,xs=>∃ es:List (List V),xs=[Vg.sl e es]∧es.length=(elemsOf d).length∧∀ (i:Nat) el,es[i]? = some el→t.sem ((elemsOf d).getD i .nil) el
 | .arr _ n t,d,xs=>∃ es:List (List V),xs=es.flatten∧es.length=n∧(elemsOf d).length=n∧∀ (i:Nat) el,es[i]? = some el→t.sem ((elemsOf d).getD i .nil) el
 | .unit,_,xs=>xs=[]
 | .cons _ f r,d,xs=>∃ a b,xs=a++b∧f.sem ((elemsOf d).headD .nil) a∧r.sem (.agg (elemsOf d).tail) b
 | .leaf _ _ S,_,xs=>S xs
def Tz.val{H:Type}:Tz→DataW H→List V
 | .int k,.lit (.int _ n)=>[.int k n]
 | .str,.lit (.string s)=>[.str ⟨⟨s⟩⟩]
 | .bool,.lit (.bool b)=>[.bool b]
 | .sl e t,d=>[Vg.sl e ((elemsOf d).map t.val)]
 | .arr _ _ t,d=>((elemsOf d).map t.val).flatten
 | .cons _ f r,d=>f.val ((elemsOf d).headD .nil)++r.val (.agg (elemsOf d).tail)
 | _,_=>[]
def Tz.closed:Tz→Bool
 | .sl _ t=>t.closed
 | .arr _ _ t=>t.closed
 | .cons _ f r=>f.closed && r.closed
 | .leaf .. => false
 | _=>true
theorem map_of{α β:Type}{f:α→β}{dflt:α}{ls:List α}{bs:List β}(h1:bs.length=ls.length)(h2:∀ (i:Nat) b,bs[i]? = some b→b=f (ls.getD i dflt)):bs=ls.map f:=by
 apply List.ext_getElem (by simpa using h1)
 intro i hi hj
 rw[h2 i _ (List.getElem?_eq_getElem hi)]
 have:i<ls.length:=by omega
 simp[List.getD_eq_getElem?_getD,List.getElem?_eq_getElem this]
theorem Tz.val_of{H:Type}:∀ (t:Tz) (d:DataW H) (xs:List V),t.closed=true→t.sem d xs→xs=t.val d
 | .int k,d,xs,_,h=>by obtain⟨n,rfl,rfl⟩:=h;rfl
 | .str,d,xs,_,h=>by obtain⟨n,rfl,rfl⟩:=h;rfl
 | .bool,d,xs,_,h=>by obtain⟨n,rfl,rfl⟩:=h;rfl
 | .sl e t,d,xs,hc,h=>by
  obtain⟨es,rfl,h1,h2⟩:=h
  rw[map_of (dflt := .nil) h1 fun i b hb=>t.val_of _ _ hc (h2 i b hb)]
  rfl
 | .arr e n t,d,xs,hc,h=>by
  obtain⟨es,rfl,h1,h1',h2⟩:=h
  rw[map_of (dflt := .nil) (h1.trans h1'.symm) fun i b hb=>t.val_of _ _ hc (h2 i b hb)]
  rfl
 | .unit,d,xs,_,h=>h
 | .cons t f r,d,xs,hc,h=>by
  obtain⟨a,b,rfl,h1,h2⟩:=h
  simp only[Tz.closed,Bool.and_eq_true]at hc
  rw[f.val_of _ _ hc.1 h1,r.val_of _ _ hc.2 h2]
  rfl
theorem flatten_get{α:Type}{c:Nat}:∀ {es:List (List α)} {j:Nat} {x:α},(∀ (i:Nat) el,es[i]? = some el→el.length=c)→es.flatten[j]? = some x→∃ i el k,es[i]? = some el∧el[k]? = some x∧j=i * c+k∧k<c
 | [],j,x,h,hx=>by simp at hx
 | e::es,j,x,h,hx=>by
  have he:=h 0 e rfl
  rw[List.flatten_cons]at hx
  rcases Nat.lt_or_ge j e.length with hj | hj
  ·rw[List.getElem?_append_left hj]at hx
   exact⟨0,e,j,rfl,hx,by omega,by omega⟩
  ·rw[List.getElem?_append_right hj]at hx
   obtain⟨i,el,k,h1,h2,h3,h4⟩:=flatten_get (fun i el hi=>h (i+1) el (by simpa using hi)) hx
   exact⟨i+1,el,k,by simpa using h1,h2,by rw[Nat.add_one_mul];omega,h4⟩
theorem flatten_len{α:Type}{c:Nat}:∀ {es:List (List α)},(∀ (i:Nat) el,es[i]? = some el→el.length=c)→es.flatten.length=es.length * c
 | [],h=>by simp
 | e::es,h=>by
  rw[List.flatten_cons,List.length_append,h 0 e rfl,flatten_len fun i el hi=>h (i+1) el (by simpa using hi),List.length_cons,Nat.add_one_mul]
  omega
section
variable {H : Type} {enc : TypeId × Value → H} {P : Program} {w : World} {G : Gh} {held : Bool}
def LeafR(enc:TypeId×Value→H)(P:Program)(w:World)(G:Gh)(held:Bool)(F:Nat)(T:TypeId)(n:Nat)(S:List V→Prop):Prop:=∀ fuel,fuel<F→∀ (cs:List Value) (d:DataW H) (ps:List MemPlace),
 DataW.trod enc P w 0 (fun _=>true) held fuel T cs=some (d,ps)→(d.weights P T).all (· ≤ reachBytes)=true→∃ xs,S xs∧xs.length=n∧cs.length=n∧Good P G xs (cs[·]?)
def Tz.lv(enc:TypeId×Value→H)(P:Program)(w:World)(G:Gh)(held:Bool):Nat→Tz→Prop
 | F,.sl _ t=>t.lv enc P w G held (F - 1)
 | F,.arr _ _ t=>t.lv enc P w G held (F - 1)
 | F,.cons _ f r=>f.lv enc P w G held (F - 1)∧r.lv enc P w G held F
 | F,.leaf T n S=>LeafR enc P w G held F T n S
 | _,_=>True
def ReadZ(enc:TypeId×Value→H)(P:Program)(w:World)(G:Gh)(held:Bool)(F:Nat)(ty:Tz):Prop:=∀ (T:TypeId) (fuel:Nat) (cs:List Value) (d:DataW H) (ps:List MemPlace),fuel<F→ty.ok P (.inl T)=true→DataW.trod enc P w 0 (fun _=>true) held fuel T cs=some (d,ps) →
 (d.weights P T).all (· ≤ reachBytes)=true→∃ xs,ty.sem d xs∧xs.length=ty.cells∧cs.length=ty.cells∧Good P G xs (cs[·]?)
def ReadFZ(enc:TypeId×Value→H)(P:Program)(w:World)(G:Gh)(held:Bool)(F:Nat)(ty:Tz):Prop:=∀ (o:Nat) (fs:List Field) (fuel:Nat) (cs:List Value) (ys:List (DataW H×List MemPlace)),fuel+1<F→ty.ok P (.inr (o,fs))=true →
 fs.mapM (fun f=>DataW.trod enc P w 0 (fun _=>true) held fuel f.type ((cs.drop f.offset).take (P.cellsOf f.type)))=some ys →
 (DataW.weightsEach P (fs.map (·.type)) (ys.map (·.1))).all (· ≤ reachBytes)=true→∃ xs,ty.sem (.agg (ys.map (·.1))) xs∧xs.length=ty.cells∧Good P G xs fun j=>cs[o+j]?
theorem isArr_eq{e:TypeId}{n:Nat}{d:Option TypeDesc}(h:isArr e n d=true):d=some (.array n e):=by
 unfold isArr at h
 split at h
 ·simp only[Bool.and_eq_true,decide_eq_true_eq]at h
  obtain⟨rfl,rfl⟩:=h
  rfl
 ·cases h
theorem trod_intZ{T:TypeId}{k:IntKind}{f:Nat}{cs:List Value}{d:DataW H}{ps:List MemPlace}(hd:P.underlying T=some (.int k))
  (h:DataW.trod enc P w 0 (fun _=>true) held (f+1) T cs=some (d,ps)):∃ n,cs=[.int k n]∧d = .lit (.int k n):=by
 unfold DataW.trod at h
 rw[hd]at h
 rcases cs with _ | ⟨c,_ | ⟨c',r⟩⟩ <;> (try cases c) <;> simp only[reduceCtorEq]at h
 rename_i k' n
 split at h
 ·rename_i hk
  obtain⟨rfl,hw⟩:=hk
  simp only[Option.some.injEq,Prod.mk.injEq]at h
  exact⟨n,rfl,h.1.symm⟩
 ·cases h
theorem trod_strZ{T:TypeId}{f:Nat}{cs:List Value}{d:DataW H}{ps:List MemPlace}(hd:P.underlying T=some .string)
  (h:DataW.trod enc P w 0 (fun _=>true) held (f+1) T cs=some (d,ps)):∃ s:ByteArray,cs=[.string s]∧d = .lit (.string s.data.toList):=by
 unfold DataW.trod at h
 rw[hd]at h
 rcases cs with _ | ⟨c,_ | ⟨c',r⟩⟩ <;> (try cases c) <;> simp only[reduceCtorEq]at h
 rename_i s
 split at h
 ·simp only[Option.some.injEq,Prod.mk.injEq]at h
  exact⟨s,rfl,h.1.symm⟩
 ·cases h
theorem trod_boolZ{T:TypeId}{f:Nat}{cs:List Value}{d:DataW H}{ps:List MemPlace}(hd:P.underlying T=some .bool)
  (h:DataW.trod enc P w 0 (fun _=>true) held (f+1) T cs=some (d,ps)):∃ b:Bool,cs=[.bool b]∧d = .lit (.bool b):=by
 unfold DataW.trod at h
 rw[hd]at h
 rcases cs with _ | ⟨c,_ | ⟨c',r⟩⟩ <;> (try cases c) <;> simp only[reduceCtorEq]at h
 simp only[Option.some.injEq,Prod.mk.injEq]at h
 exact⟨_,rfl,h.1.symm⟩
theorem trod_sliceZ{T e:TypeId}{f:Nat}{cs:List Value}{d:DataW H}{ps:List MemPlace}(hd:P.underlying T=some (.slice e))
  (h:DataW.trod enc P w 0 (fun _=>true) held (f+1) T cs=some (d,ps)):(cs=[.slice none 0 0]∧d = .nil)∨∃ a len cap elems rest,cs=[.slice (some a) len cap]∧len≤cap ∧
   (List.range len).mapM (fun i=>(w.cells? 0 (a.add (i * P.cellsOf e)) (P.cellsOf e)).bind (DataW.trod enc P w 0 (fun _=>true) held f e))=some elems∧d = .slice (elems.map (·.1)) rest:=by
 unfold DataW.trod at h
 rw[hd]at h
 rcases cs with _ | ⟨c,_ | ⟨c',r⟩⟩ <;> (try cases c) <;> simp only[reduceCtorEq]at h
 rename_i a len cap
 cases a with
 | none =>
  rcases len with _ | len <;> rcases cap with _ | cap <;> simp only[reduceCtorEq]at h
  simp only[Option.some.injEq,Prod.mk.injEq]at h
  exact .inl ⟨rfl,h.1.symm⟩
 | some a =>
  right
  simp only at h
  split at h
  ·rename_i hc
   simp only[Option.bind_eq_some_iff,Option.map_eq_some_iff,Prod.mk.injEq]at h
   obtain⟨elems,he,rest,hr,hd',_⟩:=h
   exact⟨a,len,cap,elems,_,rfl,hc.2.1,he,hd'.symm⟩
  ·cases h
theorem trod_structZ{T:TypeId}{fs:Array Field}{f:Nat}{cs:List Value}{d:DataW H}{ps:List MemPlace}(hd:P.underlying T=some (.struct fs))
  (h:DataW.trod enc P w 0 (fun _=>true) held (f+1) T cs=some (d,ps)):cs.length=P.cellsOf T∧∃ xs,
   fs.toList.mapM (fun fd=>DataW.trod enc P w 0 (fun _=>true) held f fd.type ((cs.drop fd.offset).take (P.cellsOf fd.type)))=some xs∧d = .agg (xs.map (·.1)):=by
 unfold DataW.trod at h
 rw[hd]at h
 simp only at h
 split at h
 ·rename_i hc
  simp only[Option.map_eq_some_iff,Prod.mk.injEq]at h
  obtain⟨xs,hx,hd',_⟩:=h
  exact⟨hc,xs,hx,hd'.symm⟩
 ·cases h
theorem trod_arrayZ{T e:TypeId}{n:Nat}{f:Nat}{cs:List Value}{d:DataW H}{ps:List MemPlace}(hd:P.underlying T=some (.array n e))
  (h:DataW.trod enc P w 0 (fun _=>true) held (f+1) T cs=some (d,ps)):cs.length=P.cellsOf T∧∃ xs,
   (List.range n).mapM (fun i=>DataW.trod enc P w 0 (fun _=>true) held f e ((cs.drop (i * P.cellsOf e)).take (P.cellsOf e)))=some xs∧d = .agg (xs.map (·.1)):=by
 unfold DataW.trod at h
 rw[hd]at h
 simp only at h
 split at h
 ·rename_i hc
  simp only[Option.map_eq_some_iff,Prod.mk.injEq]at h
  obtain⟨xs,hx,hd',_⟩:=h
  exact⟨hc,xs,hx,hd'.symm⟩
 ·cases h
theorem getD_map{α β:Type}{f:α→β}{l:List α}{i:Nat}{a:α}{b:β}(h:l[i]? = some a):(l.map f).getD i b=f a:=by
 simp[List.getD_eq_getElem?_getD,h]
theorem Tz.read(hG:∀ b o v,w.cell? ⟨b,o,none⟩=some v→v.oneCell'=true→G.F b o=some v):∀ (ty:Tz) (F:Nat),ty.lv enc P w G held F→ReadZ enc P w G held F ty∧ReadFZ enc P w G held F ty:=by
 intro ty
 induction ty with
 | int k =>
  intro F _
  refine⟨fun T fuel cs d ps hF hok ht hw=>?_,fun o fs fuel cs ys _ hok=>by simp[Tz.ok]at hok⟩
  have hd:=isInt_eq (by simpa[Tz.ok]using hok)
  cases fuel with
  | zero=>cases ht
  | succ fuel =>
   obtain⟨n,rfl,rfl⟩:=trod_intZ hd ht
   exact⟨[.int k n],⟨n,rfl,rfl⟩,rfl,rfl,good_one (.int _ _) rfl⟩
 | str =>
  intro F _
  refine⟨fun T fuel cs d ps hF hok ht hw=>?_,fun o fs fuel cs ys _ hok=>by simp[Tz.ok]at hok⟩
  have hd:=isStr_eq (by simpa[Tz.ok]using hok)
  cases fuel with
  | zero=>cases ht
  | succ fuel =>
   obtain⟨s,rfl,rfl⟩:=trod_strZ hd ht
   refine⟨[.str s],⟨s,rfl,rfl⟩,rfl,rfl,good_one (.str _ ?_) rfl⟩
   simp only[DataW.weights,List.all_cons,List.all_nil,Bool.and_true,decide_eq_true_eq]at hw
   have:s.size=s.data.toList.length:=by simp
   unfold reachBytes at hw
   omega
 | bool =>
  intro F _
  refine⟨fun T fuel cs d ps hF hok ht hw=>?_,fun o fs fuel cs ys _ hok=>by simp[Tz.ok]at hok⟩
  have hd:=isBool_eq (by simpa[Tz.ok]using hok)
  cases fuel with
  | zero=>cases ht
  | succ fuel =>
   obtain⟨b,rfl,rfl⟩:=trod_boolZ hd ht
   exact⟨[.bool b],⟨b,rfl,rfl⟩,rfl,rfl,good_one (.bool _) rfl⟩
 | sl e t ih =>
  intro F hlv
  refine⟨fun T fuel cs d ps hF hok ht hw=>?_,fun o fs fuel cs ys _ hok=>by simp[Tz.ok]at hok⟩
  simp only[Tz.ok,Bool.and_eq_true,decide_eq_true_eq]at hok
  obtain⟨⟨⟨⟨h1,hsz⟩,hpos⟩,hb⟩,hok⟩:=hok
  have hd:=isSlice_eq h1
  cases fuel with
  | zero=>cases ht
  | succ fuel =>
   rcases trod_sliceZ hd ht with⟨rfl,rfl⟩ | ⟨a,len,cap,elems,rest,rfl,hlc,hm,rfl⟩
   ·exact⟨[Vg.sl e []],⟨[],rfl,rfl,by simp⟩,rfl,rfl,good_one (RV.sl (.snil .shared e trivial)) rfl⟩
   ·obtain⟨hl,hget⟩:=mapM_get hm
    simp only[List.length_range]at hl
    simp only[DataW.weights,hd,List.all_cons,List.all_append,Bool.and_eq_true,decide_eq_true_eq,List.length_map,hl]at hw
    obtain⟨hw1,hw2,_⟩:=hw
    obtain⟨es,hes1,hes2⟩:=list_of (Q:=fun i el=>t.sem ((elems.map (·.1)).getD i .nil) el∧el.length=P.cellsOf e∧∀ (j:Nat) x,el[j]? = some x→∃ v,w.cell? ((a.add (i * P.cellsOf e)).add j)=some v∧RV P G [] x v∧v.oneCell'=true) len (fun i hi=>by
     obtain⟨⟨di,pi⟩,hdi,he⟩:=hget i i (List.getElem?_range hi)
     simp only[Option.bind_eq_some_iff]at he
     obtain⟨csi,hc1,hc2⟩:=he
     have hwi:=weightsAll_get hw2 di (by
      obtain⟨hlt,hx⟩:=List.getElem?_eq_some_iff.1 hdi
      exact List.mem_map.2 ⟨(di,pi),hx ▸ List.getElem_mem hlt,rfl⟩)
     obtain⟨xs,g1,g2,g3,g4⟩:=(ih (F - 1) hlv).1 e fuel csi di pi (by omega) hok hc2 hwi
     obtain⟨c1,c2⟩:=cells_get hc1
     refine⟨xs,by rw[getD_map hdi];exact g1,by omega,fun j x hx=>?_⟩
     have hj:j<P.cellsOf e:=by have:=(List.getElem?_eq_some_iff.1 hx).1;omega
     have hcj:=c2 j hj
     have hlt:j<csi.length:=by omega
     rw[List.getElem?_eq_getElem hlt]at hcj
     exact⟨_,hcj,g4 j x _ hx (List.getElem?_eq_getElem hlt)⟩)
    refine⟨[Vg.sl e es],⟨es,rfl,by simp only[elemsOf,List.length_map];omega,fun i el hel=>(hes2 i el hel).1⟩,rfl,rfl,good_one ?_ rfl⟩
    cases es with
    | nil =>
     have:len=0:=by simpa using hes1.symm
     subst this
     exact .sodd _ _ _
    | cons el0 er =>
     have h0:=hes2 0 el0 rfl
     obtain⟨v0,hv0,_⟩:=h0.2.2 0 _ (List.getElem?_eq_getElem (by omega))
     have hsp:=cell_spot hv0
     have hspot:a.spot=none:=by
      have:=congrArg Addr.spot hsp
      simpa[Addr.add]using this
     obtain⟨b,o,sp⟩:=a
     simp only at hspot
     subst hspot
     rw[←hes1]
     refine RV.sl (RV.ofCells (o := .shared) trivial (fun i el hi=>(hes2 i el hi).2.1) ?_ hb (by omega) fun i el j c hi hj=>?_)
     ·rw[hes1]
      unfold reachBytes at hw1
      have:len * P.bytesOf e≤(len+rest.length) * P.bytesOf e:=Nat.mul_le_mul_right _ (by omega)
      omega
     ·obtain⟨v,hv,hrv,h1c⟩:=(hes2 i el hi).2.2 j c hj
      refine⟨v,hG _ _ _ ?_ h1c,hrv⟩
      rw[Addr.add_mk,Addr.add_mk,Nat.add_assoc]at hv
      exact hv
 | arr e n t ih =>
  intro F hlv
  refine⟨fun T fuel cs d ps hF hok ht hw=>?_,fun o fs fuel cs ys _ hok=>by simp[Tz.ok]at hok⟩
  simp only[Tz.ok,Bool.and_eq_true,decide_eq_true_eq]at hok
  obtain⟨⟨⟨h1,hsz⟩,hsT⟩,hok⟩:=hok
  have hd:=isArr_eq h1
  cases fuel with
  | zero=>cases ht
  | succ fuel =>
   obtain⟨hlen,elems,hm,rfl⟩:=trod_arrayZ hd ht
   obtain⟨hl,hget⟩:=mapM_get hm
   simp only[List.length_range]at hl
   simp only[DataW.weights,hd]at hw
   obtain⟨es,hes1,hes2⟩:=list_of (Q:=fun i el=>t.sem ((elems.map (·.1)).getD i .nil) el∧el.length=t.cells∧∀ (j:Nat) x v,el[j]? = some x→cs[i * t.cells+j]? = some v→RV P G [] x v∧v.oneCell'=true) n (fun i hi=>by
    obtain⟨⟨di,pi⟩,hdi,he⟩:=hget i i (List.getElem?_range hi)
    have hwi:=weightsAll_get hw di (by
     obtain⟨hlt,hx⟩:=List.getElem?_eq_some_iff.1 hdi
     exact List.mem_map.2 ⟨(di,pi),hx ▸ List.getElem_mem hlt,rfl⟩)
    obtain⟨xs,g1,g2,g3,g4⟩:=(ih (F - 1) hlv).1 e fuel _ di pi (by omega) hok he hwi
    refine⟨xs,by rw[getD_map hdi];exact g1,g2,fun j x v hx hv=>?_⟩
    have hj:j<t.cells:=by have:=(List.getElem?_eq_some_iff.1 hx).1;omega
    refine g4 j x v hx ?_
    show((cs.drop (i * P.cellsOf e)).take (P.cellsOf e))[j]? = some v
    rw[List.getElem?_take,if_pos (by omega),List.getElem?_drop,hsz]
    exact hv)
   have hc:∀ (i:Nat) el,es[i]? = some el→el.length=t.cells:=fun i el hi=>(hes2 i el hi).2.1
   refine⟨es.flatten,⟨es,rfl,hes1,by simp only[elemsOf,List.length_map];omega,fun i el hel=>(hes2 i el hel).1⟩,by rw[flatten_len hc,hes1];rfl,by rw[hlen,hsT];rfl,fun j x v hx hv=>?_⟩
   obtain⟨i,el,k,k1,k2,rfl,k4⟩:=flatten_get hc hx
   exact(hes2 i el k1).2.2 k x v k2 hv
 | unit =>
  intro F _
  constructor
  ·intro T fuel cs d ps hF hok ht hw
   simp only[Tz.ok]at hok
   split at hok
   ·rename_i hf
    obtain⟨a,hd,ha⟩:=fieldsOf_eq hf
    have hz:=of_decide_eq_true hok
    cases fuel with
    | zero=>cases ht
    | succ fuel =>
     obtain⟨hl,_⟩:=trod_structZ hd ht
     have:cs=[]:=List.eq_nil_of_length_eq_zero (by omega)
     subst this
     exact⟨[],rfl,rfl,rfl,fun j x v hx=>by simp at hx⟩
   ·cases hok
  ·intro o fs fuel cs ys _ hok hm hw
   exact⟨[],rfl,rfl,fun j x v hx=>by simp at hx⟩
 | leaf R n S =>
  intro F hlv
  refine⟨fun T fuel cs d ps hF hok ht hw=>?_,fun o fs fuel cs ys _ hok=>by simp[Tz.ok]at hok⟩
  have:T=R:=by simpa[Tz.ok]using hok
  subst this
  exact hlv fuel hF cs d ps ht hw
 | cons t f r ihf ihr =>
  intro F hlv
  have step:∀ (o:Nat) (fd:Field) (fs:List Field) (fuel:Nat) (cs:List Value) (ys:List (DataW H×List MemPlace)),fuel+1<F→decide (fd.type=t)=true→decide (fd.offset=o)=true→decide (P.cellsOf t=f.cells)=true→f.ok P (.inl t)=true→r.ok P (.inr (o+f.cells,fs))=true →
    (fd::fs).mapM (fun g=>DataW.trod enc P w 0 (fun _=>true) held fuel g.type ((cs.drop g.offset).take (P.cellsOf g.type)))=some ys →
    (DataW.weightsEach P ((fd::fs).map (·.type)) (ys.map (·.1))).all (· ≤ reachBytes)=true→∃ xs,(Tz.cons t f r).sem (.agg (ys.map (·.1))) xs∧xs.length=(Tz.cons t f r).cells∧Good P G xs fun j=>cs[o+j]?:=by
   intro o fd fs fuel cs ys hF h1 h2 h3 h4 h5 hm hw
   have h1:=of_decide_eq_true h1
   have h2:=of_decide_eq_true h2
   have h3:=of_decide_eq_true h3
   subst h1 h2
   simp only[List.mapM_cons,Option.bind_eq_bind,Option.bind_eq_some_iff,Option.pure_def,Option.some.injEq]at hm
   obtain⟨⟨d1,p1⟩,hy,ys',hys,rfl⟩:=hm
   simp only[List.map_cons,DataW.weightsEach,List.all_append,Bool.and_eq_true]at hw
   obtain⟨xf,f1,f2,f3,f4⟩:=(ihf (F - 1) hlv.1).1 _ _ _ _ _ (by omega) h4 hy hw.1
   obtain⟨xr,r1,r2,r3⟩:=(ihr F hlv.2).2 _ _ _ _ _ hF h5 hys hw.2
   refine⟨xf++xr,⟨xf,xr,rfl,f1,r1⟩,by simp[Tz.cells,f2,r2],fun j x v hx hv=>?_⟩
   rcases Nat.lt_or_ge j xf.length with hj | hj
   ·rw[List.getElem?_append_left hj]at hx
    refine f4 j x v hx ?_
    show((cs.drop fd.offset).take (P.cellsOf fd.type))[j]? = some v
    rw[List.getElem?_take,if_pos (by omega),List.getElem?_drop]
    exact hv
   ·rw[List.getElem?_append_right hj]at hx
    refine r3 _ x v hx ?_
    simp only at hv ⊢
    rw[←hv];congr 1;omega
  constructor
  ·intro T fuel cs d ps hF hok ht hw
   simp only[Tz.ok]at hok
   split at hok
   ·rename_i fd fs hf
    obtain⟨a,hd,ha⟩:=fieldsOf_eq hf
    simp only[Bool.and_eq_true]at hok
    obtain⟨⟨⟨⟨⟨h0,h1⟩,h2⟩,h3⟩,h4⟩,h5⟩:=hok
    have h0:=of_decide_eq_true h0
    cases fuel with
    | zero=>cases ht
    | succ fuel =>
     obtain⟨hl,ys,hm,rfl⟩:=trod_structZ hd ht
     rw[ha]at hm
     simp only[DataW.weights,hd,ha]at hw
     obtain⟨xs,g1,g2,g3⟩:=step 0 fd fs fuel cs ys hF h1 h2 h3 h4 (by simpa using h5) hm hw
     exact⟨xs,g1,g2,by simp only[Tz.cells];omega,fun j x v hx hv=>g3 j x v hx (by simpa using hv)⟩
   ·cases hok
  ·intro o fs fuel cs ys hF hok hm hw
   cases fs with
   | nil=>simp[Tz.ok]at hok
   | cons fd fs =>
    simp only[Tz.ok,Bool.and_eq_true]at hok
    obtain⟨⟨⟨⟨h1,h2⟩,h3⟩,h4⟩,h5⟩:=hok
    exact step o fd fs fuel cs ys hF h1 h2 h3 h4 h5 hm hw
end
end Go.Vg
set_option maxRecDepth 20000
namespace Go.Vg
end Go.Vg
namespace Go.Proofs.YtighfcpaplmaiaaGreatDoor
open Go Go.Vg Go.Proofs
def pst(s:ByteArray)(p:List ByteArray×Bool)(x:ByteArray):List ByteArray×Bool:=if p.2=false∧¬ x=s∧ltB x s=false then(p.1++[s,x],true)else(p.1++[x],p.2 || decide (x=s))
def pstL(s:ByteArray)(l:List ByteArray):List ByteArray×Bool:=l.foldl (pst s) ([],false)
def putS(l:List ByteArray)(s:ByteArray):List ByteArray:=if(pstL s l).2=true then(pstL s l).1 else(pstL s l).1++[s]
theorem pstL_snoc(s:ByteArray)(l:List ByteArray)(x:ByteArray):pstL s (l++[x])=pst s (pstL s l) x:=by simp[pstL]
theorem pst_len(s:ByteArray)(p:List ByteArray×Bool)(x:ByteArray):(pst s p x).1.length≤p.1.length+2:=by
 unfold pst;split <;> simp
theorem pstL_len(s:ByteArray)(l:List ByteArray):(pstL s l).1.length≤2 * l.length:=by
 have key:∀ (l:List ByteArray) (p:List ByteArray×Bool),(l.foldl (pst s) p).1.length≤p.1.length+2 * l.length:=by
  intro l
  induction l with
  | nil=>intro p;simp
  | cons x r ih =>
   intro p
   have h1:=ih (pst s p x)
   have h2:=pst_len s p x
   rw[List.foldl_cons,List.length_cons];omega
 have:=key l ([],false)
 simpa[pstL]using this
theorem R03put(l:List ByteArray)(s:ByteArray)(hl:l.length≤1000000):VPure env 50 [sl 9 (l.map encTx),.str s] (sl 9 ((putS l s).map encTx)):=by
 refine vpure_vc (fn:=Tryz.f50) Tryz.func50 rfl (by rw[Tryz.ntmps50];simp) (by simp -implicitDefEqProofs only[go_sem]) (by simp -implicitDefEqProofs only[go_sem]) ?_
 simp -implicitDefEqProofs only[go_sem,Tryz.f50]
 refine snd_list (β:=Unit) l (fun pre _=>⟨[(7,.int .i64 pre.length),(6,.bool (pstL s pre).2),(5,.slice (.arr 0) 9 ((pstL s pre).1.map encTx)),(4,.slice .nil 0 []),(0,sl 9 (l.map encTx)),(1,.str s)],[],[(pstL s pre).1.length]⟩) (fun _ _ _=>True) () ?_ trivial ?_ ?_
 ·simp -implicitDefEqProofs only[go_sem]
  exact⟨rfl,rfl,rfl⟩
 ·intro _ _
  have hpl:=pstL_len s l
  unfold putS
  generalize pstL s l=p at hpl ⊢
  simp -implicitDefEqProofs only[go_sem]
  refine fun _ _=>⟨fun h=>⟨by omega,?_⟩,fun h=>?_⟩
  ·have:¬ p.2=true:=by simpa using h
   rw[if_neg this,List.map_append];rfl
  ·have:p.2=true:=by simpa using h
   rw[if_pos this]
 ·rintro pre x post _ hx _
  have hpl:l.length=pre.length+1+post.length:=by rw[hx];simp;omega
  have hgx:(l.map encTx).getD (pre.length:Int).toNat []=encTx x:=by rw[hx];simp[List.getD_eq_getElem?_getD]
  have hw:IntKind.i64.wrap (↑pre.length+1)=↑(pre.length+1):=wrap_next (by omega)
  have hlt:((pre.length:Int)<l.length)=True:=by simp;omega
  have hsn:=pstL_snoc s pre x
  have hml:=pstL_len s pre
  generalize pstL s pre=p at hsn hml ⊢
  simp -implicitDefEqProofs only[go_sem,hgx,hlt,encTx]
  rw[hsn]
  refine fun _ _=>⟨fun he=>?_,fun he=>⟨fun hd=>⟨fun hg=>?_,fun hg=>?_⟩,fun hd=>?_⟩⟩
  ·have hp:pst s p x=(p.1++[x],true):=by rw[pst,if_neg (fun h=>h.2.1 he)];simp[he]
   rw[hp]
   exact⟨by omega,(),⟨hw,rfl,by simp[encTx]⟩,by simp⟩
  ·have hd':p.2=false:=by simpa using hd
   have hg':ltB x s=false:=by
    simp only[Bool.not_eq_true',Bool.or_eq_false_iff]at hg
    exact hg.1
   have hp:pst s p x=(p.1++[s,x],true):=by rw[pst,if_pos ⟨hd',he,hg'⟩]
   rw[hp]
   exact⟨by omega,by omega,(),⟨hw,rfl,by simp[encTx]⟩,by simp⟩
  ·have hd':p.2=false:=by simpa using hd
   have hg':ltB x s=true:=by
    have:decide (x=s)=false:=by simpa using he
    rw[this,Bool.or_false,Bool.not_eq_false']at hg
    exact hg
   have hp:pst s p x=(p.1++[x],p.2):=by rw[pst,if_neg (fun h=>by rw[hg']at h;exact absurd h.2.2 (by simp))];simp[he]
   rw[hp]
   exact⟨by omega,(),⟨hw,rfl,by simp[encTx]⟩,by simp⟩
  ·have hd':p.2=true:=by simpa using hd
   have hp:pst s p x=(p.1++[x],p.2):=by rw[pst,if_neg (fun h=>by rw[hd']at h;exact absurd h.1 (by simp))];simp[hd']
   rw[hp]
   exact⟨by omega,(),⟨hw,rfl,by simp[encTx]⟩,by simp⟩
def cB(b:Bool):Nat:=if b=true then 0 else 1
theorem pst_len2(s:ByteArray)(p:List ByteArray×Bool)(x:ByteArray):(pst s p x).1.length+cB (pst s p x).2≤p.1.length+cB p.2+1:=by
 unfold pst
 split
 ·rename_i h
  rw[h.1]
  simp[cB]
 ·simp only[List.length_append,List.length_cons,List.length_nil,cB]
  cases p.2 <;> cases decide (x=s) <;> simp
theorem putS_len(l:List ByteArray)(s:ByteArray):(putS l s).length≤l.length+1:=by
 have key:∀ (l:List ByteArray) (p:List ByteArray×Bool),(l.foldl (pst s) p).1.length+cB (l.foldl (pst s) p).2≤p.1.length+cB p.2+l.length:=by
  intro l
  induction l with
  | nil=>intro p;simp
  | cons x r ih =>
   intro p
   have h1:=ih (pst s p x)
   have h2:=pst_len2 s p x
   rw[List.foldl_cons,List.length_cons];omega
 have:=key l ([],false)
 unfold putS pstL
 generalize l.foldl (pst s) ([],false)=p at this
 simp only[cB,List.length_nil]at this
 split
 ·rename_i h
  simp[h]at this
  omega
 ·rename_i h
  simp[h]at this
  simp
  omega
def insS(l:List ByteArray)(s:ByteArray):List ByteArray:=putS (l.foldl putS []) s
theorem foldP_len(l:List ByteArray):(l.foldl putS []).length≤l.length:=by
 have key:∀ (l p:List ByteArray),(l.foldl putS p).length≤p.length+l.length:=by
  intro l
  induction l with
  | nil=>intro p;simp
  | cons x r ih =>
   intro p
   have h1:=ih (putS p x)
   have h2:=putS_len p x
   rw[List.foldl_cons,List.length_cons];omega
 simpa using key l []
theorem R03Insert(l:List ByteArray)(s:ByteArray)(hl:l.length≤1000000):VPure env 21 [sl 9 (l.map encTx),.str s] (sl 9 ((insS l s).map encTx)):=by
 refine vpure_vc (fn:=Tryz.f21) Tryz.func21 rfl (by rw[Tryz.ntmps21];simp) (by simp -implicitDefEqProofs only[go_sem]) (by simp -implicitDefEqProofs only[go_sem]) ?_
 simp -implicitDefEqProofs only[go_sem,Tryz.f21]
 refine snd_list (β:=Unit) l (fun pre _=>⟨[(6,.int .i64 pre.length),(5,sl 9 ((pre.foldl putS []).map encTx)),(4,.slice .nil 0 []),(0,sl 9 (l.map encTx)),(1,.str s)],[],[]⟩) (fun _ _ _=>True) () ?_ trivial ?_ ?_
 ·simp -implicitDefEqProofs only[go_sem]
  exact⟨rfl,rfl⟩
 ·intro _ _
  have h1:=foldP_len l
  simp -implicitDefEqProofs only[go_sem]
  intro _ _
  refine(R03put (l.foldl putS []) s (by omega)).calls (by simp -implicitDefEqProofs only[go_sem]) ?_
  simp -implicitDefEqProofs only[go_sem]
  try rfl
 ·rintro pre x post _ hx _
  have hpl:l.length=pre.length+1+post.length:=by rw[hx];simp;omega
  have hgx:(l.map encTx).getD (pre.length:Int).toNat []=encTx x:=by rw[hx];simp[List.getD_eq_getElem?_getD]
  have hw:IntKind.i64.wrap (↑pre.length+1)=↑(pre.length+1):=wrap_next (by omega)
  have hlt:((pre.length:Int)<l.length)=True:=by simp;omega
  have h1:=foldP_len pre
  have hsn:(pre++[x]).foldl putS []=putS (pre.foldl putS []) x:=by simp
  simp -implicitDefEqProofs only[go_sem,hgx,hlt,encTx]
  intro _ _
  refine(R03put (pre.foldl putS []) x (by omega)).calls (by simp -implicitDefEqProofs only[go_sem]) ?_
  simp -implicitDefEqProofs only[go_sem]
  rw[hsn]
  exact⟨(),hw,rfl⟩
theorem pst_mem(s:ByteArray)(p:List ByteArray×Bool)(x y:ByteArray):y∈(pst s p x).1↔y∈p.1∨y=x∨(y=s∧(pst s p x).2=true∧p.2=false)∨(y=s∧p.2=true∧False):=by
 unfold pst
 split
 ·rename_i h
  simp[h.1]
  constructor
  ·rintro(h | h | h)
   ·exact .inl h
   ·exact .inr (.inr h)
   ·exact .inr (.inl h)
  ·rintro(h | h | h)
   ·exact .inl h
   ·exact .inr (.inr h)
   ·exact .inr (.inl h)
 ·simp
  constructor
  ·rintro(h | h)
   ·exact .inl h
   ·exact .inr (.inl h)
  ·rintro(h | h | ⟨h1,h2,h3⟩)
   ·exact .inl h
   ·exact .inr h
   ·rcases h2 with h2 | h2
    ·rw[h2]at h3;cases h3
    ·exact .inr (by rw[h1,h2])
theorem pstL_mem(s y:ByteArray):∀ (l:List ByteArray) (p:List ByteArray×Bool),(y∈(l.foldl (pst s) p).1↔y∈p.1∨y∈l∨(y=s∧(l.foldl (pst s) p).2=true∧p.2=false))∧(p.2=true→(l.foldl (pst s) p).2=true)
 | [],p=>by
  refine⟨?_,fun h=>h⟩
  simp
 | x::r,p=>by
  obtain⟨h1,h2⟩:=pstL_mem s y r (pst s p x)
  have h3:=pst_mem s p x y
  have h4:p.2=true→(pst s p x).2=true:=fun h=>by
   unfold pst
   split
   ·rfl
   ·simp[h]
  rw[List.foldl_cons]
  refine⟨?_,fun h=>h2 (h4 h)⟩
  rw[h1,h3]
  simp only[List.mem_cons,and_false,or_false]
  constructor
  ·rintro((h | h | ⟨h,h',h''⟩) | h | ⟨h,h',h''⟩)
   ·exact .inl h
   ·exact .inr (.inl (.inl h))
   ·exact .inr (.inr ⟨h,h2 h',h''⟩)
   ·exact .inr (.inl (.inr h))
   ·refine .inr (.inr ⟨h,h',?_⟩)
    cases hp:p.2 with
    | false=>rfl
    | true=>rw[h4 hp]at h'';cases h''
  ·rintro(h | (h | h) | ⟨h,h',h''⟩)
   ·exact .inl (.inl h)
   ·exact .inl (.inr (.inl h))
   ·exact .inr (.inl h)
   ·cases hp:(pst s p x).2 with
    | false=>exact .inr (.inr ⟨h,h',rfl⟩)
    | true=>exact .inl (.inr (.inr ⟨h,rfl,h''⟩))
theorem putS_mem(l:List ByteArray)(s y:ByteArray):y∈putS l s↔y∈l∨y=s:=by
 obtain⟨h1,h2⟩:=pstL_mem s y l ([],false)
 unfold putS pstL
 simp only[List.not_mem_nil,false_or,and_true]at h1
 split
 ·rename_i h
  rw[h1]
  constructor
  ·rintro(h | h)
   ·exact .inl h
   ·exact .inr h.1
  ·rintro(h' | h')
   ·exact .inl h'
   ·exact .inr ⟨h',h⟩
 ·rename_i h
  rw[List.mem_append,h1]
  simp only[List.mem_singleton]
  constructor
  ·rintro((h' | h') | h')
   ·exact .inl h'
   ·exact .inr h'.1
   ·exact .inr h'
  ·rintro(h' | h')
   ·exact .inl (.inl h')
   ·exact .inr h'
theorem foldP_mem(y:ByteArray):∀ (l p:List ByteArray),y∈l.foldl putS p↔y∈p∨y∈l
 | [],p=>by simp
 | x::r,p=>by
  rw[List.foldl_cons,foldP_mem y r,putS_mem,List.mem_cons]
  constructor
  ·rintro((h | h) | h)
   ·exact .inl h
   ·exact .inr (.inl h)
   ·exact .inr (.inr h)
  ·rintro(h | h | h)
   ·exact .inl (.inl h)
   ·exact .inl (.inr h)
   ·exact .inr h
theorem insS_mem(l:List ByteArray)(s y:ByteArray):y∈insS l s↔y∈l∨y=s:=by
 rw[insS,putS_mem,foldP_mem];simp
theorem insS_len(l:List ByteArray)(s:ByteArray):(insS l s).length≤l.length+1:=by
 have h1:=putS_len (l.foldl putS []) s
 have h2:=foldP_len l
 unfold insS;omega
end Go.Proofs.YtighfcpaplmaiaaGreatDoor
set_option maxRecDepth 20000
namespace Go.Proofs.YtighfcpaplmaiaaGreatDoor
open Go Go.Vg Go.Proofs
def shortD(u:List Un):Prop:=∀ d∈declsU u 0,d.owner.size≤3000000∧d.name.size≤1000000
end Go.Proofs.YtighfcpaplmaiaaGreatDoor
set_option maxRecDepth 20000
namespace Go.Proofs.YtighfcpaplmaiaaGreatDoor
open Go Go.Vg Go.Proofs
end Go.Proofs.YtighfcpaplmaiaaGreatDoor
namespace Go.Vg
open Go.Proofs.YtighfcpaplmaiaaGreatDoor
def putR(s:ByteArray):List ByteArray→List ByteArray
 | []=>[s]
 | x::r=>if x=s then x::r else if ltB x s=true then x::putR s r else s::x::r
theorem pst_done(s:ByteArray):∀ (l o:List ByteArray),l.foldl (pst s) (o,true)=(o++l,true)
 | [],o=>by simp
 | x::r,o=>by
  have:pst s (o,true) x=(o++[x],true):=by unfold pst;simp
  rw[List.foldl_cons,this,pst_done s r];simp
theorem pst_R(s:ByteArray):∀ (l o:List ByteArray),(if(l.foldl (pst s) (o,false)).2=true then(l.foldl (pst s) (o,false)).1 else(l.foldl (pst s) (o,false)).1++[s])=o++putR s l
 | [],o=>by simp[putR]
 | x::r,o=>by
  rw[List.foldl_cons,putR]
  by_cases h1:x=s
  ·have:pst s (o,false) x=(o++[x],true):=by unfold pst;simp[h1]
   rw[this,pst_done,if_pos rfl,if_pos h1];simp
  ·rw[if_neg h1]
   cases h2:ltB x s with
   | true =>
    have:pst s (o,false) x=(o++[x],false):=by unfold pst;simp[h1,h2]
    rw[this,if_pos rfl,pst_R s r];simp
   | false =>
    have:pst s (o,false) x=(o++[s,x],true):=by unfold pst;simp[h1,h2]
    rw[this,pst_done,if_pos rfl,if_neg (by simp)];simp
theorem putS_R(l:List ByteArray)(s:ByteArray):putS l s=putR s l:=by
 have:=pst_R s l []
 rw[List.nil_append]at this
 unfold putS pstL
 exact this
def Asc(l:List ByteArray):Prop:=l.Pairwise fun a b=>ltB a b=true
theorem putR_mem(s y:ByteArray):∀ l,y∈putR s l→y=s∨y∈l
 | [],h => .inl (by simpa[putR]using h)
 | x::r,h=>by
  rw[putR]at h
  split at h
  ·exact .inr h
  ·split at h
   ·rcases List.mem_cons.1 h with h | h
    ·exact .inr (by simp[h])
    ·rcases putR_mem s y r h with h | h
     ·exact .inl h
     ·exact .inr (by simp[h])
   ·rcases List.mem_cons.1 h with h | h
    ·exact .inl h
    ·exact .inr h
theorem putR_asc(s:ByteArray):∀ l,Asc l→Asc (putR s l)
 | [],_=>by simp[putR,Asc]
 | x::r,h=>by
  have hc:=List.pairwise_cons.1 h
  rw[putR]
  split
  ·exact h
  ·rename_i hne
   split
   ·rename_i hlt
    refine List.pairwise_cons.2 ⟨fun y hy=>?_,putR_asc s r hc.2⟩
    rcases putR_mem s y r hy with rfl | hy
    ·exact hlt
    ·exact hc.1 y hy
   ·rename_i hnl
    have hsx:ltB s x=true:=by
     cases hs:ltB s x with
     | true=>rfl
     | false=>exact absurd (ltB_tri (by simpa using hnl) hs) hne
    refine List.pairwise_cons.2 ⟨fun y hy=>?_,h⟩
    rcases List.mem_cons.1 hy with rfl | hy
    ·exact hsx
    ·exact ltB_trans hsx (hc.1 y hy)
theorem insS_asc(l:List ByteArray)(s:ByteArray):Asc (insS l s):=by
 have key:∀ (l p:List ByteArray),Asc p→Asc (l.foldl putS p):=by
  intro l
  induction l with
  | nil=>intro p h;exact h
  | cons x r ih =>
   intro p h
   rw[List.foldl_cons]
   exact ih _ (by rw[putS_R];exact putR_asc _ _ h)
 unfold insS
 rw[putS_R]
 exact putR_asc _ _ (key l [] List.Pairwise.nil)
theorem asc_eq:∀ {l1 l2:List ByteArray},Asc l1→Asc l2→(∀ n,n∈l1↔n∈l2)→l1=l2
 | [],[],_,_,_=>rfl
 | [],b::s,_,_,h=>by have:=(h b).2 (by simp);cases this
 | a::r,[],_,_,h=>by have:=(h a).1 (by simp);cases this
 | a::r,b::s,h1,h2,h=>by
  have c1:=List.pairwise_cons.1 h1
  have c2:=List.pairwise_cons.1 h2
  have hab:a=b:=by
   rcases List.mem_cons.1 ((h a).1 (by simp))with e | e
   ·exact e
   ·rcases List.mem_cons.1 ((h b).2 (by simp))with e' | e'
    ·exact e'.symm
    ·have:=ltB_trans (c1.1 b e') (c2.1 a e)
     rw[ltB_irrefl]at this;cases this
  subst hab
  rw[asc_eq c1.2 c2.2 fun n=>?_]
  constructor
  ·intro hn
   rcases List.mem_cons.1 ((h n).1 (by simp[hn]))with e | e
   ·subst e;have:=c1.1 n hn;rw[ltB_irrefl]at this;cases this
   ·exact e
  ·intro hn
   rcases List.mem_cons.1 ((h n).2 (by simp[hn]))with e | e
   ·subst e;have:=c2.1 n hn;rw[ltB_irrefl]at this;cases this
   ·exact e
end Go.Vg
set_option maxRecDepth 20000
namespace Go.Vg
theorem walk_short:∀ (n:Nd) (u:Int) (m:Nat) (x:Ar),short n→x.cls.size≤1000000→x.fn.size≤2000001→∀ d∈walkD n u m x,d.owner.size≤3000000∧d.name.size≤1000000:=by
 refine Nd.all fun k t g ks ih u m x hg hx hf d hd=>?_
 have hs:∀ l:List Nd,(∀ y∈l,∀ (u:Int) (m:Nat) (x:Ar),short y→x.cls.size≤1000000→x.fn.size≤2000001→∀ d∈walkD y u m x,d.owner.size≤3000000∧d.name.size≤1000000) →
   ∀ (m:Nat) (x:Ar),(∀ y∈nodesL l,y.text.size≤1000000)→x.cls.size≤1000000→x.fn.size≤2000001→∀ d∈walkDs l u m x,d.owner.size≤3000000∧d.name.size≤1000000:=by
  intro l
  induction l with
  | nil=>intro _ m x _ _ _ d hd;simp[walkDs]at hd
  | cons y r ihr =>
   intro h m x hn hx hf d hd
   rw[walkDs,List.mem_append]at hd
   rcases hd with hd | hd
   ·exact h y (by simp) u m x (fun z hz=>hn z (by rw[nodesL];simp[hz])) hx hf d hd
   ·exact ihr (fun z hz=>h z (by simp[hz])) _ x (fun z hz=>hn z (by rw[nodesL];simp[hz])) hx hf d hd
 have ht:t.size≤1000000:=hg _ (self_mem _)
 have h0:(⟨#[]⟩:ByteArray).size=0:=rfl
 rw[walkD,List.mem_append]at hd
 rcases hd with hd | hd
 ·unfold declT at hd
  repeat' split at hd
  all_goals first
   | (simp only[Option.toList_some,List.mem_singleton]at hd;subst hd;exact⟨by first | omega | (simp only;omega) | exact Nat.zero_le _,ht⟩)
   | (simp at hd)
 ·refine hs ks ih _ _ (fun y hy=>hg y (by rw[nodes];simp[hy])) ?_ ?_ d hd
  ·exact ht
  ·unfold belowT
   simp only
   split
   ·split
    ·rw[ByteArray.size_append,ByteArray.size_append]
     have:(⟨#[46]⟩:ByteArray).size=1:=rfl
     omega
    ·omega
   ·exact hf
end Go.Vg
namespace Go.Proofs.YtighfcpaplmaiaaGreatDoor
open Go Go.Vg Go.Proofs
theorem declsU_walk:∀ (u:List Un) (i:Nat) (d:Dl),d∈declsU u i→∃ x∈u,x.broken=false∧∃ j:Nat,d∈walkD x.tree j 0 Ar.none
 | [],i,d,h=>by simp[declsU]at h
 | x::r,i,d,h=>by
  rw[declsU,List.mem_append]at h
  rcases h with h | h
  ·split at h
   ·cases h
   ·rename_i hb
    exact⟨x,by simp,by simpa using hb,i,h⟩
  ·obtain⟨y,hy,hb,j,hj⟩:=declsU_walk r (i+1) d h
   exact⟨y,by simp[hy],hb,j,hj⟩
theorem shortD_of{u:List Un}(hu:fitU u):shortD u:=by
 intro d hd
 obtain⟨x,hx,hb,j,hj⟩:=declsU_walk u 0 d hd
 exact walk_short x.tree j 0 Ar.none (hu.2 x hx).2 (Nat.zero_le _) (Nat.zero_le _) d hj
end Go.Proofs.YtighfcpaplmaiaaGreatDoor
