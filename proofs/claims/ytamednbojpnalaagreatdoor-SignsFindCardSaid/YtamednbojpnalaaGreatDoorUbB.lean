/- From the reading of a row's arguments to trees, exactly: recursive types, arrays, and what a listed variable holds. -/
import Derived.Test.YtamednbojpnalaaGreatDoorVgY
import Derived.Test.YtamednbojpnalaaGreatDoorVgEw
set_option linter.unusedVariables false
set_option linter.unusedSimpArgs false
namespace Go.Vg
open Go.RowKit
inductive Tz where
 | int (k:IntKind) | str | bool
 | sl (e:TypeId) (t:Tz)
 | arr (e:TypeId) (n:Nat) (t:Tz)
 | unit
 | cons (t:TypeId) (f r:Tz)
 | leaf (T:TypeId) (n:Nat) (S:List V→Prop)
def Tz.cells:Tz→Nat
 | .int _ | .str | .bool | .sl _ _=>1
 | .arr _ n t=>n * t.cells
 | .unit=>0
 | .cons _ f r=>f.cells+r.cells
 | .leaf _ n _=>n
def isArr(e:TypeId)(n:Nat):Option TypeDesc→Bool | some (.array n' e')=>decide (e'=e) && decide (n'=n) | _=>false
def Tz.ok(P:Program):Tz→TypeId ⊕ (Nat×List Field)→Bool
 | .int k,.inl T=>isInt k (P.underlying T)
 | .str,.inl T=>isStr (P.underlying T)
 | .bool,.inl T=>isBool (P.underlying T)
 | .sl e t,.inl T=>isSlice e (P.underlying T) && decide (P.cellsOf e=t.cells) && decide (1≤t.cells) && decide (1≤P.bytesOf e) && t.ok P (.inl e)
 | .arr e n t,.inl T=>isArr e n (P.underlying T) && decide (P.cellsOf e=t.cells) && decide (P.cellsOf T=n * t.cells) && t.ok P (.inl e)
 | .unit,.inl T=>match fieldsOf (P.underlying T)with
  | some []=>decide (P.cellsOf T=0)
  | _=>false
 | .unit,.inr (_,[])=>true
 | .cons t f r,.inl T=>match fieldsOf (P.underlying T)with
  | some (fd::fs)=>decide (P.cellsOf T=f.cells+r.cells) && decide (fd.type=t) && decide (fd.offset=0) && decide (P.cellsOf t=f.cells) && f.ok P (.inl t) && r.ok P (.inr (f.cells,fs))
  | _=>false
 | .cons t f r,.inr (o,fd::fs)=>decide (fd.type=t) && decide (fd.offset=o) && decide (P.cellsOf t=f.cells) && f.ok P (.inl t) && r.ok P (.inr (o+f.cells,fs))
 | .leaf R _ _,.inl T=>decide (T=R)
 | _,_=>false
def elemsOf{H:Type}:DataW H→List (DataW H)
 | .slice es _=>es
 | .agg es=>es
 | _=>[]
def Tz.sem{H:Type}:Tz→DataW H→List V→Prop
 | .int k,d,xs=>∃ n,xs=[.int k n]∧d = .lit (.int k n)
 | .str,d,xs=>∃ s:ByteArray,xs=[.str s]∧d = .lit (.string s.data.toList)
 | .bool,d,xs=>∃ b,xs=[.bool b]∧d = .lit (.bool b)
 | .sl e t,d,xs=>∃ es:List (List V),xs=[Vg.sl e es]∧es.length=(elemsOf d).length∧∀ (i:Nat) el,es[i]? = some el→t.sem ((elemsOf d).getD i .nil) el
 | .arr _ n t,d,xs=>∃ es:List (List V),xs=es.flatten∧es.length=n∧(elemsOf d).length=n∧∀ (i:Nat) el,es[i]? = some el→t.sem ((elemsOf d).getD i .nil) el
 | .unit,_,xs=>xs=[]
 | .cons _ f r,d,xs=>∃ a b,xs=a++b∧f.sem ((elemsOf d).headD .nil) a∧r.sem (.agg (elemsOf d).tail) b
 | .leaf _ _ S,_,xs=>S xs
def Tz.val{H:Type}:Tz→DataW H→List V
 | .int k,.lit (.int _ n)=>[.int k n]
 | .str,.lit (.string s)=>[.str ⟨⟨s⟩⟩]
 | .bool,.lit (.bool b)=>[.bool b]
 | .sl e t,d=>[Vg.sl e ((elemsOf d).map t.val)]
 | .arr _ _ t,d=>((elemsOf d).map t.val).flatten
 | .cons _ f r,d=>f.val ((elemsOf d).headD .nil)++r.val (.agg (elemsOf d).tail)
 | _,_=>[]
def Tz.closed:Tz→Bool
 | .sl _ t=>t.closed
 | .arr _ _ t=>t.closed
 | .cons _ f r=>f.closed && r.closed
 | .leaf .. => false
 | _=>true
theorem map_of{α β:Type}{f:α→β}{dflt:α}{ls:List α}{bs:List β}(h1:bs.length=ls.length)(h2:∀ (i:Nat) b,bs[i]? = some b→b=f (ls.getD i dflt)):bs=ls.map f:=by
 apply List.ext_getElem (by simpa using h1)
 intro i hi hj
 rw[h2 i _ (List.getElem?_eq_getElem hi)]
 have:i<ls.length:=by omega
 simp[List.getD_eq_getElem?_getD,List.getElem?_eq_getElem this]
theorem Tz.val_of{H:Type}:∀ (t:Tz) (d:DataW H) (xs:List V),t.closed=true→t.sem d xs→xs=t.val d
 | .int k,d,xs,_,h=>by obtain⟨n,rfl,rfl⟩:=h;rfl
 | .str,d,xs,_,h=>by obtain⟨n,rfl,rfl⟩:=h;rfl
 | .bool,d,xs,_,h=>by obtain⟨n,rfl,rfl⟩:=h;rfl
 | .sl e t,d,xs,hc,h=>by
  obtain⟨es,rfl,h1,h2⟩:=h
  rw[map_of (dflt := .nil) h1 fun i b hb=>t.val_of _ _ hc (h2 i b hb)]
  rfl
 | .arr e n t,d,xs,hc,h=>by
  obtain⟨es,rfl,h1,h1',h2⟩:=h
  rw[map_of (dflt := .nil) (h1.trans h1'.symm) fun i b hb=>t.val_of _ _ hc (h2 i b hb)]
  rfl
 | .unit,d,xs,_,h=>h
 | .cons t f r,d,xs,hc,h=>by
  obtain⟨a,b,rfl,h1,h2⟩:=h
  simp only[Tz.closed,Bool.and_eq_true]at hc
  rw[f.val_of _ _ hc.1 h1,r.val_of _ _ hc.2 h2]
  rfl
theorem flatten_get{α:Type}{c:Nat}:∀ {es:List (List α)} {j:Nat} {x:α},(∀ (i:Nat) el,es[i]? = some el→el.length=c)→es.flatten[j]? = some x→∃ i el k,es[i]? = some el∧el[k]? = some x∧j=i * c+k∧k<c
 | [],j,x,h,hx=>by simp at hx
 | e::es,j,x,h,hx=>by
  have he:=h 0 e rfl
  rw[List.flatten_cons]at hx
  rcases Nat.lt_or_ge j e.length with hj | hj
  ·rw[List.getElem?_append_left hj]at hx
   exact⟨0,e,j,rfl,hx,by omega,by omega⟩
  ·rw[List.getElem?_append_right hj]at hx
   obtain⟨i,el,k,h1,h2,h3,h4⟩:=flatten_get (fun i el hi=>h (i+1) el (by simpa using hi)) hx
   exact⟨i+1,el,k,by simpa using h1,h2,by rw[Nat.add_one_mul];omega,h4⟩
theorem flatten_len{α:Type}{c:Nat}:∀ {es:List (List α)},(∀ (i:Nat) el,es[i]? = some el→el.length=c)→es.flatten.length=es.length * c
 | [],h=>by simp
 | e::es,h=>by
  rw[List.flatten_cons,List.length_append,h 0 e rfl,flatten_len fun i el hi=>h (i+1) el (by simpa using hi),List.length_cons,Nat.add_one_mul]
  omega
section
variable {H : Type} {enc : TypeId × Value → H} {P : Program} {w : World} {G : Gh} {held : Bool}
def LeafR(enc:TypeId×Value→H)(P:Program)(w:World)(G:Gh)(held:Bool)(F:Nat)(T:TypeId)(n:Nat)(S:List V→Prop):Prop:=∀ fuel,fuel<F→∀ (cs:List Value) (d:DataW H) (ps:List MemPlace),
 DataW.trod enc P w 0 (fun _=>true) held fuel T cs=some (d,ps)→(d.weights P T).all (· ≤ reachBytes)=true→∃ xs,S xs∧xs.length=n∧cs.length=n∧Good P G xs (cs[·]?)
def Tz.lv(enc:TypeId×Value→H)(P:Program)(w:World)(G:Gh)(held:Bool):Nat→Tz→Prop
 | F,.sl _ t=>t.lv enc P w G held (F - 1)
 | F,.arr _ _ t=>t.lv enc P w G held (F - 1)
 | F,.cons _ f r=>f.lv enc P w G held (F - 1)∧r.lv enc P w G held F
 | F,.leaf T n S=>LeafR enc P w G held F T n S
 | _,_=>True
def ReadZ(enc:TypeId×Value→H)(P:Program)(w:World)(G:Gh)(held:Bool)(F:Nat)(ty:Tz):Prop:=∀ (T:TypeId) (fuel:Nat) (cs:List Value) (d:DataW H) (ps:List MemPlace),fuel<F→ty.ok P (.inl T)=true→DataW.trod enc P w 0 (fun _=>true) held fuel T cs=some (d,ps) →
 (d.weights P T).all (· ≤ reachBytes)=true→∃ xs,ty.sem d xs∧xs.length=ty.cells∧cs.length=ty.cells∧Good P G xs (cs[·]?)
def ReadFZ(enc:TypeId×Value→H)(P:Program)(w:World)(G:Gh)(held:Bool)(F:Nat)(ty:Tz):Prop:=∀ (o:Nat) (fs:List Field) (fuel:Nat) (cs:List Value) (ys:List (DataW H×List MemPlace)),fuel+1<F→ty.ok P (.inr (o,fs))=true →
 fs.mapM (fun f=>DataW.trod enc P w 0 (fun _=>true) held fuel f.type ((cs.drop f.offset).take (P.cellsOf f.type)))=some ys →
 (DataW.weightsEach P (fs.map (·.type)) (ys.map (·.1))).all (· ≤ reachBytes)=true→∃ xs,ty.sem (.agg (ys.map (·.1))) xs∧xs.length=ty.cells∧Good P G xs fun j=>cs[o+j]?
theorem isArr_eq{e:TypeId}{n:Nat}{d:Option TypeDesc}(h:isArr e n d=true):d=some (.array n e):=by
 unfold isArr at h
 split at h
 ·simp only[Bool.and_eq_true,decide_eq_true_eq]at h
  obtain⟨rfl,rfl⟩:=h
  rfl
 ·cases h
theorem trod_intZ{T:TypeId}{k:IntKind}{f:Nat}{cs:List Value}{d:DataW H}{ps:List MemPlace}(hd:P.underlying T=some (.int k))
  (h:DataW.trod enc P w 0 (fun _=>true) held (f+1) T cs=some (d,ps)):∃ n,cs=[.int k n]∧d = .lit (.int k n):=by
 unfold DataW.trod at h
 rw[hd]at h
 rcases cs with _ | ⟨c,_ | ⟨c',r⟩⟩ <;> (try cases c) <;> simp only[reduceCtorEq]at h
 rename_i k' n
 split at h
 ·rename_i hk
  obtain⟨rfl,hw⟩:=hk
  simp only[Option.some.injEq,Prod.mk.injEq]at h
  exact⟨n,rfl,h.1.symm⟩
 ·cases h
theorem trod_strZ{T:TypeId}{f:Nat}{cs:List Value}{d:DataW H}{ps:List MemPlace}(hd:P.underlying T=some .string)
  (h:DataW.trod enc P w 0 (fun _=>true) held (f+1) T cs=some (d,ps)):∃ s:ByteArray,cs=[.string s]∧d = .lit (.string s.data.toList):=by
 unfold DataW.trod at h
 rw[hd]at h
 rcases cs with _ | ⟨c,_ | ⟨c',r⟩⟩ <;> (try cases c) <;> simp only[reduceCtorEq]at h
 rename_i s
 split at h
 ·simp only[Option.some.injEq,Prod.mk.injEq]at h
  exact⟨s,rfl,h.1.symm⟩
 ·cases h
theorem trod_boolZ{T:TypeId}{f:Nat}{cs:List Value}{d:DataW H}{ps:List MemPlace}(hd:P.underlying T=some .bool)
  (h:DataW.trod enc P w 0 (fun _=>true) held (f+1) T cs=some (d,ps)):∃ b:Bool,cs=[.bool b]∧d = .lit (.bool b):=by
 unfold DataW.trod at h
 rw[hd]at h
 rcases cs with _ | ⟨c,_ | ⟨c',r⟩⟩ <;> (try cases c) <;> simp only[reduceCtorEq]at h
 simp only[Option.some.injEq,Prod.mk.injEq]at h
 exact⟨_,rfl,h.1.symm⟩
theorem trod_sliceZ{T e:TypeId}{f:Nat}{cs:List Value}{d:DataW H}{ps:List MemPlace}(hd:P.underlying T=some (.slice e))
  (h:DataW.trod enc P w 0 (fun _=>true) held (f+1) T cs=some (d,ps)):(cs=[.slice none 0 0]∧d = .nil)∨∃ a len cap elems rest,cs=[.slice (some a) len cap]∧len≤cap ∧
   (List.range len).mapM (fun i=>(w.cells? 0 (a.add (i * P.cellsOf e)) (P.cellsOf e)).bind (DataW.trod enc P w 0 (fun _=>true) held f e))=some elems∧d = .slice (elems.map (·.1)) rest:=by
 unfold DataW.trod at h
 rw[hd]at h
 rcases cs with _ | ⟨c,_ | ⟨c',r⟩⟩ <;> (try cases c) <;> simp only[reduceCtorEq]at h
 rename_i a len cap
 cases a with
 | none =>
  rcases len with _ | len <;> rcases cap with _ | cap <;> simp only[reduceCtorEq]at h
  simp only[Option.some.injEq,Prod.mk.injEq]at h
  exact .inl ⟨rfl,h.1.symm⟩
 | some a =>
  right
  simp only at h
  split at h
  ·rename_i hc
   simp only[Option.bind_eq_some_iff,Option.map_eq_some_iff,Prod.mk.injEq]at h
   obtain⟨elems,he,rest,hr,hd',_⟩:=h
   exact⟨a,len,cap,elems,_,rfl,hc.2.1,he,hd'.symm⟩
  ·cases h
theorem trod_structZ{T:TypeId}{fs:Array Field}{f:Nat}{cs:List Value}{d:DataW H}{ps:List MemPlace}(hd:P.underlying T=some (.struct fs))
  (h:DataW.trod enc P w 0 (fun _=>true) held (f+1) T cs=some (d,ps)):cs.length=P.cellsOf T∧∃ xs,
   fs.toList.mapM (fun fd=>DataW.trod enc P w 0 (fun _=>true) held f fd.type ((cs.drop fd.offset).take (P.cellsOf fd.type)))=some xs∧d = .agg (xs.map (·.1)):=by
 unfold DataW.trod at h
 rw[hd]at h
 simp only at h
 split at h
 ·rename_i hc
  simp only[Option.map_eq_some_iff,Prod.mk.injEq]at h
  obtain⟨xs,hx,hd',_⟩:=h
  exact⟨hc,xs,hx,hd'.symm⟩
 ·cases h
theorem trod_arrayZ{T e:TypeId}{n:Nat}{f:Nat}{cs:List Value}{d:DataW H}{ps:List MemPlace}(hd:P.underlying T=some (.array n e))
  (h:DataW.trod enc P w 0 (fun _=>true) held (f+1) T cs=some (d,ps)):cs.length=P.cellsOf T∧∃ xs,
   (List.range n).mapM (fun i=>DataW.trod enc P w 0 (fun _=>true) held f e ((cs.drop (i * P.cellsOf e)).take (P.cellsOf e)))=some xs∧d = .agg (xs.map (·.1)):=by
 unfold DataW.trod at h
 rw[hd]at h
 simp only at h
 split at h
 ·rename_i hc
  simp only[Option.map_eq_some_iff,Prod.mk.injEq]at h
  obtain⟨xs,hx,hd',_⟩:=h
  exact⟨hc,xs,hx,hd'.symm⟩
 ·cases h
theorem getD_map{α β:Type}{f:α→β}{l:List α}{i:Nat}{a:α}{b:β}(h:l[i]? = some a):(l.map f).getD i b=f a:=by
 simp[List.getD_eq_getElem?_getD,h]
theorem Tz.read(hG:∀ b o v,w.cell? ⟨b,o,none⟩=some v→v.oneCell'=true→G.F b o=some v):∀ (ty:Tz) (F:Nat),ty.lv enc P w G held F→ReadZ enc P w G held F ty∧ReadFZ enc P w G held F ty:=by
 intro ty
 induction ty with
 | int k =>
  intro F _
  refine⟨fun T fuel cs d ps hF hok ht hw=>?_,fun o fs fuel cs ys _ hok=>by simp[Tz.ok]at hok⟩
  have hd:=isInt_eq (by simpa[Tz.ok]using hok)
  cases fuel with
  | zero=>cases ht
  | succ fuel =>
   obtain⟨n,rfl,rfl⟩:=trod_intZ hd ht
   exact⟨[.int k n],⟨n,rfl,rfl⟩,rfl,rfl,good_one (.int _ _) rfl⟩
 | str =>
  intro F _
  refine⟨fun T fuel cs d ps hF hok ht hw=>?_,fun o fs fuel cs ys _ hok=>by simp[Tz.ok]at hok⟩
  have hd:=isStr_eq (by simpa[Tz.ok]using hok)
  cases fuel with
  | zero=>cases ht
  | succ fuel =>
   obtain⟨s,rfl,rfl⟩:=trod_strZ hd ht
   refine⟨[.str s],⟨s,rfl,rfl⟩,rfl,rfl,good_one (.str _ ?_) rfl⟩
   simp only[DataW.weights,List.all_cons,List.all_nil,Bool.and_true,decide_eq_true_eq]at hw
   have:s.size=s.data.toList.length:=by simp
   unfold reachBytes at hw
   omega
 | bool =>
  intro F _
  refine⟨fun T fuel cs d ps hF hok ht hw=>?_,fun o fs fuel cs ys _ hok=>by simp[Tz.ok]at hok⟩
  have hd:=isBool_eq (by simpa[Tz.ok]using hok)
  cases fuel with
  | zero=>cases ht
  | succ fuel =>
   obtain⟨b,rfl,rfl⟩:=trod_boolZ hd ht
   exact⟨[.bool b],⟨b,rfl,rfl⟩,rfl,rfl,good_one (.bool _) rfl⟩
 | sl e t ih =>
  intro F hlv
  refine⟨fun T fuel cs d ps hF hok ht hw=>?_,fun o fs fuel cs ys _ hok=>by simp[Tz.ok]at hok⟩
  simp only[Tz.ok,Bool.and_eq_true,decide_eq_true_eq]at hok
  obtain⟨⟨⟨⟨h1,hsz⟩,hpos⟩,hb⟩,hok⟩:=hok
  have hd:=isSlice_eq h1
  cases fuel with
  | zero=>cases ht
  | succ fuel =>
   rcases trod_sliceZ hd ht with⟨rfl,rfl⟩ | ⟨a,len,cap,elems,rest,rfl,hlc,hm,rfl⟩
   ·exact⟨[Vg.sl e []],⟨[],rfl,rfl,by simp⟩,rfl,rfl,good_one (RV.sl (.snil .shared e trivial)) rfl⟩
   ·obtain⟨hl,hget⟩:=mapM_get hm
    simp only[List.length_range]at hl
    simp only[DataW.weights,hd,List.all_cons,List.all_append,Bool.and_eq_true,decide_eq_true_eq,List.length_map,hl]at hw
    obtain⟨hw1,hw2,_⟩:=hw
    obtain⟨es,hes1,hes2⟩:=list_of (Q:=fun i el=>t.sem ((elems.map (·.1)).getD i .nil) el∧el.length=P.cellsOf e∧∀ (j:Nat) x,el[j]? = some x→∃ v,w.cell? ((a.add (i * P.cellsOf e)).add j)=some v∧RV P G [] x v∧v.oneCell'=true) len (fun i hi=>by
     obtain⟨⟨di,pi⟩,hdi,he⟩:=hget i i (List.getElem?_range hi)
     simp only[Option.bind_eq_some_iff]at he
     obtain⟨csi,hc1,hc2⟩:=he
     have hwi:=weightsAll_get hw2 di (by
      obtain⟨hlt,hx⟩:=List.getElem?_eq_some_iff.1 hdi
      exact List.mem_map.2 ⟨(di,pi),hx ▸ List.getElem_mem hlt,rfl⟩)
     obtain⟨xs,g1,g2,g3,g4⟩:=(ih (F - 1) hlv).1 e fuel csi di pi (by omega) hok hc2 hwi
     obtain⟨c1,c2⟩:=cells_get hc1
     refine⟨xs,by rw[getD_map hdi];exact g1,by omega,fun j x hx=>?_⟩
     have hj:j<P.cellsOf e:=by have:=(List.getElem?_eq_some_iff.1 hx).1;omega
     have hcj:=c2 j hj
     have hlt:j<csi.length:=by omega
     rw[List.getElem?_eq_getElem hlt]at hcj
     exact⟨_,hcj,g4 j x _ hx (List.getElem?_eq_getElem hlt)⟩)
    refine⟨[Vg.sl e es],⟨es,rfl,by simp only[elemsOf,List.length_map];omega,fun i el hel=>(hes2 i el hel).1⟩,rfl,rfl,good_one ?_ rfl⟩
    cases es with
    | nil =>
     have:len=0:=by simpa using hes1.symm
     subst this
     exact .sodd _ _ _
    | cons el0 er =>
     have h0:=hes2 0 el0 rfl
     obtain⟨v0,hv0,_⟩:=h0.2.2 0 _ (List.getElem?_eq_getElem (by omega))
     have hsp:=cell_spot hv0
     have hspot:a.spot=none:=by
      have:=congrArg Addr.spot hsp
      simpa[Addr.add]using this
     obtain⟨b,o,sp⟩:=a
     simp only at hspot
     subst hspot
     rw[←hes1]
     refine RV.sl (RV.ofCells (o := .shared) trivial (fun i el hi=>(hes2 i el hi).2.1) ?_ hb (by omega) fun i el j c hi hj=>?_)
     ·rw[hes1]
      unfold reachBytes at hw1
      have:len * P.bytesOf e≤(len+rest.length) * P.bytesOf e:=Nat.mul_le_mul_right _ (by omega)
      omega
     ·obtain⟨v,hv,hrv,h1c⟩:=(hes2 i el hi).2.2 j c hj
      refine⟨v,hG _ _ _ ?_ h1c,hrv⟩
      rw[Addr.add_mk,Addr.add_mk,Nat.add_assoc]at hv
      exact hv
 | arr e n t ih =>
  intro F hlv
  refine⟨fun T fuel cs d ps hF hok ht hw=>?_,fun o fs fuel cs ys _ hok=>by simp[Tz.ok]at hok⟩
  simp only[Tz.ok,Bool.and_eq_true,decide_eq_true_eq]at hok
  obtain⟨⟨⟨h1,hsz⟩,hsT⟩,hok⟩:=hok
  have hd:=isArr_eq h1
  cases fuel with
  | zero=>cases ht
  | succ fuel =>
   obtain⟨hlen,elems,hm,rfl⟩:=trod_arrayZ hd ht
   obtain⟨hl,hget⟩:=mapM_get hm
   simp only[List.length_range]at hl
   simp only[DataW.weights,hd]at hw
   obtain⟨es,hes1,hes2⟩:=list_of (Q:=fun i el=>t.sem ((elems.map (·.1)).getD i .nil) el∧el.length=t.cells∧∀ (j:Nat) x v,el[j]? = some x→cs[i * t.cells+j]? = some v→RV P G [] x v∧v.oneCell'=true) n (fun i hi=>by
    obtain⟨⟨di,pi⟩,hdi,he⟩:=hget i i (List.getElem?_range hi)
    have hwi:=weightsAll_get hw di (by
     obtain⟨hlt,hx⟩:=List.getElem?_eq_some_iff.1 hdi
     exact List.mem_map.2 ⟨(di,pi),hx ▸ List.getElem_mem hlt,rfl⟩)
    obtain⟨xs,g1,g2,g3,g4⟩:=(ih (F - 1) hlv).1 e fuel _ di pi (by omega) hok he hwi
    refine⟨xs,by rw[getD_map hdi];exact g1,g2,fun j x v hx hv=>?_⟩
    have hj:j<t.cells:=by have:=(List.getElem?_eq_some_iff.1 hx).1;omega
    refine g4 j x v hx ?_
    show((cs.drop (i * P.cellsOf e)).take (P.cellsOf e))[j]? = some v
    rw[List.getElem?_take,if_pos (by omega),List.getElem?_drop,hsz]
    exact hv)
   have hc:∀ (i:Nat) el,es[i]? = some el→el.length=t.cells:=fun i el hi=>(hes2 i el hi).2.1
   refine⟨es.flatten,⟨es,rfl,hes1,by simp only[elemsOf,List.length_map];omega,fun i el hel=>(hes2 i el hel).1⟩,by rw[flatten_len hc,hes1];rfl,by rw[hlen,hsT];rfl,fun j x v hx hv=>?_⟩
   obtain⟨i,el,k,k1,k2,rfl,k4⟩:=flatten_get hc hx
   exact(hes2 i el k1).2.2 k x v k2 hv
 | unit =>
  intro F _
  constructor
  ·intro T fuel cs d ps hF hok ht hw
   simp only[Tz.ok]at hok
   split at hok
   ·rename_i hf
    obtain⟨a,hd,ha⟩:=fieldsOf_eq hf
    have hz:=of_decide_eq_true hok
    cases fuel with
    | zero=>cases ht
    | succ fuel =>
     obtain⟨hl,_⟩:=trod_structZ hd ht
     have:cs=[]:=List.eq_nil_of_length_eq_zero (by omega)
     subst this
     exact⟨[],rfl,rfl,rfl,fun j x v hx=>by simp at hx⟩
   ·cases hok
  ·intro o fs fuel cs ys _ hok hm hw
   exact⟨[],rfl,rfl,fun j x v hx=>by simp at hx⟩
 | leaf R n S =>
  intro F hlv
  refine⟨fun T fuel cs d ps hF hok ht hw=>?_,fun o fs fuel cs ys _ hok=>by simp[Tz.ok]at hok⟩
  have:T=R:=by simpa[Tz.ok]using hok
  subst this
  exact hlv fuel hF cs d ps ht hw
 | cons t f r ihf ihr =>
  intro F hlv
  have step:∀ (o:Nat) (fd:Field) (fs:List Field) (fuel:Nat) (cs:List Value) (ys:List (DataW H×List MemPlace)),fuel+1<F→decide (fd.type=t)=true→decide (fd.offset=o)=true→decide (P.cellsOf t=f.cells)=true→f.ok P (.inl t)=true→r.ok P (.inr (o+f.cells,fs))=true →
    (fd::fs).mapM (fun g=>DataW.trod enc P w 0 (fun _=>true) held fuel g.type ((cs.drop g.offset).take (P.cellsOf g.type)))=some ys →
    (DataW.weightsEach P ((fd::fs).map (·.type)) (ys.map (·.1))).all (· ≤ reachBytes)=true→∃ xs,(Tz.cons t f r).sem (.agg (ys.map (·.1))) xs∧xs.length=(Tz.cons t f r).cells∧Good P G xs fun j=>cs[o+j]?:=by
   intro o fd fs fuel cs ys hF h1 h2 h3 h4 h5 hm hw
   have h1:=of_decide_eq_true h1
   have h2:=of_decide_eq_true h2
   have h3:=of_decide_eq_true h3
   subst h1 h2
   simp only[List.mapM_cons,Option.bind_eq_bind,Option.bind_eq_some_iff,Option.pure_def,Option.some.injEq]at hm
   obtain⟨⟨d1,p1⟩,hy,ys',hys,rfl⟩:=hm
   simp only[List.map_cons,DataW.weightsEach,List.all_append,Bool.and_eq_true]at hw
   obtain⟨xf,f1,f2,f3,f4⟩:=(ihf (F - 1) hlv.1).1 _ _ _ _ _ (by omega) h4 hy hw.1
   obtain⟨xr,r1,r2,r3⟩:=(ihr F hlv.2).2 _ _ _ _ _ hF h5 hys hw.2
   refine⟨xf++xr,⟨xf,xr,rfl,f1,r1⟩,by simp[Tz.cells,f2,r2],fun j x v hx hv=>?_⟩
   rcases Nat.lt_or_ge j xf.length with hj | hj
   ·rw[List.getElem?_append_left hj]at hx
    refine f4 j x v hx ?_
    show((cs.drop fd.offset).take (P.cellsOf fd.type))[j]? = some v
    rw[List.getElem?_take,if_pos (by omega),List.getElem?_drop]
    exact hv
   ·rw[List.getElem?_append_right hj]at hx
    refine r3 _ x v hx ?_
    simp only at hv ⊢
    rw[←hv];congr 1;omega
  constructor
  ·intro T fuel cs d ps hF hok ht hw
   simp only[Tz.ok]at hok
   split at hok
   ·rename_i fd fs hf
    obtain⟨a,hd,ha⟩:=fieldsOf_eq hf
    simp only[Bool.and_eq_true]at hok
    obtain⟨⟨⟨⟨⟨h0,h1⟩,h2⟩,h3⟩,h4⟩,h5⟩:=hok
    have h0:=of_decide_eq_true h0
    cases fuel with
    | zero=>cases ht
    | succ fuel =>
     obtain⟨hl,ys,hm,rfl⟩:=trod_structZ hd ht
     rw[ha]at hm
     simp only[DataW.weights,hd,ha]at hw
     obtain⟨xs,g1,g2,g3⟩:=step 0 fd fs fuel cs ys hF h1 h2 h3 h4 (by simpa using h5) hm hw
     exact⟨xs,g1,g2,by simp only[Tz.cells];omega,fun j x v hx hv=>g3 j x v hx (by simpa using hv)⟩
   ·cases hok
  ·intro o fs fuel cs ys hF hok hm hw
   cases fs with
   | nil=>simp[Tz.ok]at hok
   | cons fd fs =>
    simp only[Tz.ok,Bool.and_eq_true]at hok
    obtain⟨⟨⟨⟨h1,h2⟩,h3⟩,h4⟩,h5⟩:=hok
    exact step o fd fs fuel cs ys hF h1 h2 h3 h4 h5 hm hw
end
end Go.Vg
set_option maxRecDepth 20000
namespace Go.Vg
end Go.Vg
namespace Go.Proofs.YtamednbojpnalaaGreatDoor
open Go Go.Vg Go.Proofs
end Go.Proofs.YtamednbojpnalaaGreatDoor
set_option maxRecDepth 20000
namespace Go.Proofs.YtamednbojpnalaaGreatDoor
open Go Go.Vg Go.Proofs
end Go.Proofs.YtamednbojpnalaaGreatDoor
set_option maxRecDepth 20000
namespace Go.Proofs.YtamednbojpnalaaGreatDoor
open Go Go.Vg Go.Proofs
end Go.Proofs.YtamednbojpnalaaGreatDoor
namespace Go.Vg
open Go.Proofs.YtamednbojpnalaaGreatDoor
end Go.Vg
set_option maxRecDepth 20000
namespace Go.Vg
def goodN(n:Nd):Prop:=∀ y∈nodes n,y.node=0
theorem node_name{y:Nd}(h:y.node=0)(hk:y.kind=2∨y.kind=5∨y.kind=7):validName y.text=true:=by
 unfold Nd.node at h
 have h17:y.kind≠17:=by omega
 have hn:namedK y.kind y.text=true:=by
  unfold namedK
  rw[if_neg (by omega)]
  simp only[decide_eq_true_eq]
  omega
 split at h
 ·cases h
 ·split at h
  ·cases h
  ·rename_i hv
   simp only[h17,decide_false,Bool.false_and,Bool.not_false,Bool.true_and,Bool.false_or,hn,Bool.not_eq_true,Bool.not_eq_false']at hv
   exact hv
theorem valid_ne{s:ByteArray}(h:validName s=true):s≠⟨#[]⟩:=by
 rintro rfl
 have:validName ⟨#[]⟩=false:=by decide +kernel
 rw[this]at h;cases h
def factD(d:Dl):Prop:=(d.kind=1→d.owner=⟨#[]⟩∧validName d.name=true)∧(d.kind=4→validName d.owner=true∧validName d.name=true)
theorem factD_no{d:Dl}(h1:d.kind≠1)(h4:d.kind≠4):factD d:=⟨fun h=>absurd h h1,fun h=>absurd h h4⟩
theorem walk_facts:∀ (n:Nd) (u:Int) (m:Nat) (x:Ar),goodN n→(x.method=true→validName x.cls=true)→∀ d∈walkD n u m x,factD d:=by
 refine Nd.all fun k t g ks ih u m x hg hx d hd=>?_
 have hs:∀ l:List Nd,(∀ y∈l,∀ (u:Int) (m:Nat) (x:Ar),goodN y→(x.method=true→validName x.cls=true)→∀ d∈walkD y u m x,factD d) →
   ∀ (m:Nat) (x:Ar),(∀ y∈nodesL l,y.node=0)→(x.method=true→validName x.cls=true)→∀ d∈walkDs l u m x,factD d:=by
  intro l
  induction l with
  | nil=>intro _ m x _ _ d hd;simp[walkDs]at hd
  | cons y r ihr =>
   intro h m x hn hx d hd
   rw[walkDs,List.mem_append]at hd
   rcases hd with hd | hd
   ·have hgy:goodN y:=fun z hz=>hn z (by rw[nodesL];exact List.mem_append_left _ hz)
    exact h y (by simp) u m x hgy hx d hd
   ·have hgr:∀ z∈nodesL r,z.node=0:=fun z hz=>hn z (by rw[nodesL];exact List.mem_append_right _ hz)
    exact ihr (fun z hz=>h z (by simp[hz])) _ x hgr hx d hd
 have h0:(Nd.mk k t g ks).node=0:=hg _ (self_mem _)
 rw[walkD,List.mem_append]at hd
 rcases hd with hd | hd
 ·unfold declT at hd
  have hv2:k=2→validName t=true:=fun e=>node_name (y := .mk k t g ks) h0 (.inl e)
  split at hd
  ·rename_i h2
   split at hd
   ·rename_i hm
    simp only[Option.toList_some,List.mem_singleton]at hd
    subst hd
    exact⟨fun h=>absurd (show(4:Int)=1 from h) (by decide),fun _=>⟨hx hm,hv2 h2⟩⟩
   ·simp only[Option.toList_some,List.mem_singleton]at hd
    subst hd
    exact⟨fun _=>⟨rfl,hv2 h2⟩,fun h=>absurd (show(1:Int)=4 from h) (by decide)⟩
  ·repeat' split at hd
   all_goals first
    | (simp only[Option.toList_some,List.mem_singleton]at hd;rw[hd];exact factD_no (by simp) (by simp))
    | (simp at hd)
 ·have hgk:∀ y∈nodesL ks,y.node=0:=fun y hy=>hg y (by rw[nodes];exact List.mem_cons_of_mem _ hy)
  refine hs ks ih _ _ hgk (fun hm=>?_) d hd
  unfold belowT at hm ⊢
  simp only[decide_eq_true_eq]at hm
  exact node_name (y := .mk k t g ks) h0 (.inr (.inr hm))
end Go.Vg
namespace Go.Proofs.YtamednbojpnalaaGreatDoor
open Go Go.Vg Go.Proofs
theorem declsU_walk:∀ (u:List Un) (i:Nat) (d:Dl),d∈declsU u i→∃ x∈u,x.broken=false∧∃ j:Nat,d∈walkD x.tree j 0 Ar.none
 | [],i,d,h=>by simp[declsU]at h
 | x::r,i,d,h=>by
  rw[declsU,List.mem_append]at h
  rcases h with h | h
  ·split at h
   ·cases h
   ·rename_i hb
    exact⟨x,by simp,by simpa using hb,i,h⟩
  ·obtain⟨y,hy,hb,j,hj⟩:=declsU_walk r (i+1) d h
   exact⟨y,by simp[hy],hb,j,hj⟩
end Go.Proofs.YtamednbojpnalaaGreatDoor
set_option maxRecDepth 20000
namespace Go.Vg
def refE(d:Dl):List V:=[.int .i64 d.unit,.int .i64 d.node]
def keyG(k:Int)(n:ByteArray)(d:Dl):Bool:=decide (k=d.kind) && decide (n=d.name)
def addGl(M:List Dl)(d:Dl):List Dl:=if(M.any (keyG d.kind d.name))=false then M++[d]else M
def globL(l:List Dl):List Dl:=l.foldl addGl []
def mapG(M:List Dl):List (V×V):=M.map fun d=>(.agg [.int .i64 d.kind,.str d.name],.agg (refE d))
theorem globL_snoc{l:List Dl}{d:Dl}:globL (l++[d])=addGl (globL l) d:=by simp[globL]
theorem findG(k:Int)(n:ByteArray):∀ (M:List Dl) (i:Nat),(∃ j e,findA [1,0] [.int .i64 k,.str n] (mapG M) i=some (some (j,.agg (refE e)))∧M.find? (keyG k n)=some e)∨(findA [1,0] [.int .i64 k,.str n] (mapG M) i=some none∧M.find? (keyG k n)=none)
 | [],i => .inr ⟨rfl,rfl⟩
 | e::r,i=>by
  have heq:eqL [V.int .i64 k,V.str n] [V.int .i64 e.kind,V.str e.name]=some (keyG k n e):=by
   simp only[eqL,eq1,Bool.and_true];rfl
  have h1:findA [1,0] [.int .i64 k,.str n] (mapG (e::r)) i=if keyG k n e=true then some (some (i,.agg (refE e)))else findA [1,0] [.int .i64 k,.str n] (mapG r) (i+1):=by
   simp only[mapG,List.map_cons,findA,heq]
   have hf:fits [1,0] [V.int .i64 k,V.str n] [V.int .i64 e.kind,V.str e.name]=true:=rfl
   rw[if_pos hf]
   cases keyG k n e <;> rfl
  rw[h1,List.find?_cons]
  by_cases h:keyG k n e=true
  ·exact .inl ⟨i,e,by rw[if_pos h],by rw[h]⟩
  ·rw[if_neg h]
   have:keyG k n e=false:=by simpa using h
   rw[this]
   exact findG k n r (i+1)
theorem any_find{M:List Dl}{p:Dl→Bool}(h:M.find? p=none):M.any p=false:=by
 rw[List.any_eq_false]
 intro x hx
 have:=List.find?_eq_none.1 h x hx
 simpa using this
theorem find_any{M:List Dl}{p:Dl→Bool}{e:Dl}(h:M.find? p=some e):M.any p=true:=by
 rw[List.any_eq_true]
 exact⟨e,List.mem_of_find?_eq_some h,List.find?_some h⟩
end Go.Vg
namespace Go.Proofs.YtamednbojpnalaaGreatDoor
open Go Go.Vg Go.Proofs
theorem set_G{M:List Dl}{d:Dl}{h:List VObj}{id:Nat}{L:List VObj→Prop}(hn:(M.any (keyG d.kind d.name))=false):vSetF h id (mapG M) (.agg [.int .i64 d.kind,.str d.name]) (.agg [.int .i64 d.unit,.int .i64 d.node]) (findA [1,0] [.int .i64 d.kind,.str d.name] (mapG M) 0) L=L (h.set id (.map (mapG (M++[d])))):=by
 rcases findG d.kind d.name M 0 with⟨j,v,h1,h2⟩ | ⟨h1,h2⟩
 ·rw[find_any h2]at hn;cases hn
 ·rw[h1];simp -implicitDefEqProofs only[go_sem];simp[mapG,refE]
theorem ltP_G(k ka:Nat):∀ M:List Dl,ltP k ka (mapG M)=true
 | []=>rfl
 | x::r=>by
  have:=ltP_G k ka r
  have hx:(V.agg (refE x)).lt k ka=true:=by simp[V.lt,refE,ltL]
  simp only[mapG,List.map_cons,ltP]at this ⊢
  rw[hx,this]
  simp[V.lt,ltL]
theorem flat_global:flatK Tryz.prog 200=some [1,0]:=by kernel_rfl
def tabsU(u:List Un):List (List Rw):=u.map fun x=>if x.broken=true then []else rowsN x.tree (-1) 0
def encTab(l:List Rw):List V:=[sl 100 (l.map Rw.enc)]
theorem zero_Ref:zeroVP Tryz.prog 50 = .agg [.int .i64 0,.int .i64 0]:=by kernel_rfl
theorem tabs_pure:∀ l:List (List Rw),pureLL (l.map encTab)=true
 | []=>rfl
 | x::r=>by
  show(pureL (encTab x) && pureLL (r.map encTab))=true
  rw[tabs_pure r]
  unfold encTab
  simp -implicitDefEqProofs only[go_sem]
  exact rows_pure x
theorem SFnew(u:List Un)(hu:fitU u):VCalls env 104 [sl 34 (u.map Un.enc)] [] [] fun v h a =>
  v = .ptr 1 0∧h=[.map (mapG (globL (declsU u 0))),.cells [.slice (.arr 0) 80 ((tabsU u).map encTab),.map 0,sl 61 ((declsU u 0).map Dl.enc)]]∧a=[u.length]:=by
 have hD:=PDecls u hu
 rw[declsPU_eq]at hD
 have hdl:=declsU_len u 0 fun y hy=>(hu.2 y hy).1
 have hul:=hu.1
 have hfit:=hu.2
 refine vcalls_vc (fn:=Tryz.f104) Tryz.func104 rfl (by rw[Tryz.ntmps104];simp) ?_
 simp -implicitDefEqProofs only[go_sem,Tryz.f104]
 refine hD.calls (by simp -implicitDefEqProofs only[go_sem]) ?_
 simp -implicitDefEqProofs only[go_sem]
 intro _ _
 generalize declsU u 0=dl at hdl ⊢
 refine snd_list (β:=Unit) u (fun pre _=>⟨[(19,.int .i64 pre.length),(18,.int .i64 u.length),(17,sl 34 (u.map Un.enc)),(3,.ptr 1 0)],
   [.map [],.cells [.slice (.arr 0) 80 ((tabsU pre).map encTab),.map 0,sl 61 (dl.map Dl.enc)]],[pre.length]⟩) (fun _ _ _=>True) () ?_ trivial ?_ ?_
 ·simp -implicitDefEqProofs only[go_sem]
  exact⟨rfl,rfl⟩
 ·intro _ _
  simp -implicitDefEqProofs only[go_sem]
  intro _ _
  have htp:=tabs_pure (tabsU u)
  generalize(tabsU u).map encTab=tt at htp ⊢
  refine snd_list (β:=Unit) dl (fun pre _=>⟨[(45,.int .i64 pre.length),(44,.int .i64 dl.length),(43,sl 61 (dl.map Dl.enc)),(3,.ptr 1 0)],
   [.map (mapG (globL pre)),.cells [.slice (.arr 0) 80 tt,.map 0,sl 61 (dl.map Dl.enc)]],[u.length]⟩) (fun _ _ _=>True) () ?_ trivial ?_ ?_
  ·simp -implicitDefEqProofs only[go_sem]
   exact⟨rfl,rfl⟩
  ·intro _ _
   simp -implicitDefEqProofs only[go_sem]
  ·rintro pre d post _ hx _
   have hpl:dl.length=pre.length+1+post.length:=by rw[hx];simp;omega
   have hgx:(dl.map Dl.enc).getD (pre.length:Int).toNat []=d.enc:=by rw[hx];simp[List.getD_eq_getElem?_getD]
   have hw:IntKind.i64.wrap (↑pre.length+1)=↑(pre.length+1):=wrap_next (by omega)
   have hlt:((pre.length:Int)<dl.length)=True:=by simp;omega
   have hsn:=@globL_snoc pre d
   simp -implicitDefEqProofs only[go_sem,hgx,hlt]
   refine snd_draw (cs:=[]) mixed (by kernel_rfl) ?_
   simp -implicitDefEqProofs only[go_sem,hgx,hlt,flat_global]
   rcases findG d.kind d.name (globL pre) 0 with⟨j,e,q1,q2⟩ | ⟨q1,q2⟩
   ·have hpg:globL (pre++[d])=globL pre:=by rw[hsn,addGl,if_neg (by rw[find_any q2];simp)]
    rw[q1]
    simp -implicitDefEqProofs only[go_sem]
    rw[hpg,ltP_G,ltLL_pure _ _ _ (dls_pure _),ltLL_pure _ _ _ htp]
    exact⟨⟨rfl,rfl,Nat.le_refl 2⟩,(),hw,rfl,.inr ⟨rfl,rfl⟩⟩
   ·have hpg:globL (pre++[d])=globL pre++[d]:=by rw[hsn,addGl,if_pos (any_find q2)]
    have hno:=any_find q2
    rw[q1]
    simp -implicitDefEqProofs only[go_sem,zero_Ref]
    refine snd_draw (cs:=[]) mixed (by kernel_rfl) ?_
    simp -implicitDefEqProofs only[go_sem,flat_global,set_G hno]
    rw[hpg,ltP_G,ltLL_pure _ _ _ (dls_pure _),ltLL_pure _ _ _ htp]
    exact⟨(),hw,rfl,.inr ⟨rfl,rfl⟩⟩
 ·rintro pre x post _ hx _
  have hpl:u.length=pre.length+1+post.length:=by rw[hx];simp;omega
  have hgx:(u.map Un.enc).getD (pre.length:Int).toNat []=x.enc:=by rw[hx];simp[List.getD_eq_getElem?_getD]
  have hw:IntKind.i64.wrap (↑pre.length+1)=↑(pre.length+1):=wrap_next (by omega)
  have hlt:((pre.length:Int)<u.length)=True:=by simp;omega
  have hxn:=(hfit x (by rw[hx];simp)).1
  have hR:=TRows x.tree (by omega)
  simp -implicitDefEqProofs only[go_sem,hgx,hlt]
  have htl:(tabsU pre).length=pre.length:=by simp[tabsU]
  have hts:tabsU (pre++[x])=tabsU pre++[if x.broken=true then []else rowsN x.tree (-1) 0]:=by simp[tabsU]
  refine⟨fun hb=>?_,fun hb=>?_⟩
  ·refine hR.calls (by simp -implicitDefEqProofs only[go_sem]) ?_
   simp -implicitDefEqProofs only[go_sem]
   have hb':x.broken=false:=by simpa using hb
   rw[hts,if_neg (by rw[hb'];simp),List.map_append]
   have hp:=tabs_pure (tabsU pre++[rowsN x.tree (-1) 0])
   rw[List.map_append]at hp
   refine⟨by omega,by rw[htl],(),hw,rfl,htl,.inr ⟨?_,ltLL_pure _ _ _ (uns_pure _)⟩⟩
   have h1:=ltLL_pure 2 1 _ hp
   have h2:=ltLL_pure 2 1 _ (dls_pure dl)
   rw[h2,Bool.and_true]
   exact h1
  ·have hb':x.broken=true:=by simpa using hb
   rw[hts,if_pos hb',List.map_append]
   have hp:=tabs_pure (tabsU pre++[[]])
   rw[List.map_append]at hp
   refine⟨by omega,by rw[htl],(),hw,rfl,htl,.inr ⟨?_,ltLL_pure _ _ _ (uns_pure _)⟩⟩
   have h1:=ltLL_pure 2 1 _ hp
   have h2:=ltLL_pure 2 1 _ (dls_pure dl)
   rw[h2,Bool.and_true]
   exact h1
end Go.Proofs.YtamednbojpnalaaGreatDoor
set_option maxRecDepth 20000
namespace Go.Vg
def useK(k:Int)(t:ByteArray):Int×Bool:=if k=19∨k=11 then(3,true)else if k=20 then(1,true)else if k=22 then(2,true)else if k=5 then(2,!decide (t=⟨#[105,110,116]⟩) && !decide (t=⟨#[98,111,111,108]⟩))else if k=8 then(2,!decide (t=⟨#[]⟩))else(0,false)
end Go.Vg
namespace Go.Proofs.YtamednbojpnalaaGreatDoor
open Go Go.Vg Go.Proofs
theorem SFuse(tb:List (List Rw))(ds:V)(h:List VObj)(a:List Nat)(un i:Nat)(l:List Rw)(hh:h[1]? = some (.cells [.slice (.arr 0) 80 (tb.map encTab),.map 0,ds]))(hl:tb[un]? = some l)(hi:i<l.length)(hds:ds.some? = true) :
  VCalls env 145 [.ptr 1 0,.agg [.int .i64 un,.int .i64 i]] h a fun v h' a'=>v = .tuple [.int .i64 (useK (rwAt l i).kind (rwAt l i).text).1,.bool (useK (rwAt l i).kind (rwAt l i).text).2]∧(∃ z,h'=h++z)∧a'=a:=by
 have hlt1:1<h.length:=(List.getElem?_eq_some_iff.1 hh).1
 have htu:(tb.map encTab).getD (un:Int).toNat []=encTab l:=by simp[List.getD_eq_getElem?_getD,hl]
 have hul:((un:Int)<tb.length)=True:=by
  have:=(List.getElem?_eq_some_iff.1 hl).1
  simp;omega
 have hrg:=row_getDi hi
 have hil:((i:Int)<l.length)=True:=by simp;omega
 generalize rwAt l i=r at hrg
 obtain⟨pp,k,t,g,kids⟩:=r
 simp only
 refine vcalls_vc (fn:=Tryz.f145) Tryz.func145 rfl (by rw[Tryz.ntmps145];simp) ?_
 by_cases h19:k=19
 ·subst h19
  simp -implicitDefEqProofs only[go_sem,Tryz.f145]
  refine snd_draw (cs:=[]) mixed (by kernel_rfl) ?_
  simp -implicitDefEqProofs only[go_sem,hp_get hh,hp_set hlt1,hp_at,hp_at',hp_st,hp_st',hp_len,htu,hul,encTab,hrg,hil,Rw.enc]
  exact⟨rfl,_,rfl⟩
 by_cases h11:k=11
 ·subst h11
  simp -implicitDefEqProofs only[go_sem,Tryz.f145]
  refine snd_draw (cs:=[]) mixed (by kernel_rfl) ?_
  simp -implicitDefEqProofs only[go_sem,hp_get hh,hp_set hlt1,hp_at,hp_at',hp_st,hp_st',hp_len,htu,hul,encTab,hrg,hil,Rw.enc]
  exact⟨rfl,_,rfl⟩
 by_cases h20:k=20
 ·subst h20
  simp -implicitDefEqProofs only[go_sem,Tryz.f145]
  refine snd_draw (cs:=[]) mixed (by kernel_rfl) ?_
  simp -implicitDefEqProofs only[go_sem,hp_get hh,hp_set hlt1,hp_at,hp_at',hp_st,hp_st',hp_len,htu,hul,encTab,hrg,hil,Rw.enc]
  exact⟨rfl,_,rfl⟩
 by_cases h22:k=22
 ·subst h22
  simp -implicitDefEqProofs only[go_sem,Tryz.f145]
  refine snd_draw (cs:=[]) mixed (by kernel_rfl) ?_
  simp -implicitDefEqProofs only[go_sem,hp_get hh,hp_set hlt1,hp_at,hp_at',hp_st,hp_st',hp_len,htu,hul,encTab,hrg,hil,Rw.enc]
  exact⟨rfl,_,rfl⟩
 by_cases h5:k=5
 ·subst h5
  simp -implicitDefEqProofs only[go_sem,Tryz.f145]
  refine snd_draw (cs:=[]) mixed (by kernel_rfl) ?_
  simp -implicitDefEqProofs only[go_sem,hp_get hh,hp_set hlt1,hp_at,hp_at',hp_st,hp_st',hp_len,htu,hul,encTab,hrg,hil,Rw.enc]
  refine snd_draw (cs:=[]) mixed (by kernel_rfl) ?_
  simp -implicitDefEqProofs only[go_sem,hp_at,hp_at',hp_st,hp_st',hp_len]
  have e5:useK 5 t=(2,!decide (t=⟨#[105,110,116]⟩) && !decide (t=⟨#[98,111,111,108]⟩)):=by simp[useK]
  rw[e5]
  exact⟨fun h=>⟨by rw[h,Bool.true_and],_,rfl⟩,fun h=>⟨by rw[h,Bool.false_and],_,rfl⟩⟩
 by_cases h8:k=8
 ·subst h8
  simp -implicitDefEqProofs only[go_sem,Tryz.f145]
  refine snd_draw (cs:=[]) mixed (by kernel_rfl) ?_
  simp -implicitDefEqProofs only[go_sem,hp_get hh,hp_set hlt1,hp_at,hp_at',hp_st,hp_st',hp_len,htu,hul,encTab,hrg,hil,Rw.enc]
  refine snd_draw (cs:=[]) mixed (by kernel_rfl) ?_
  simp -implicitDefEqProofs only[go_sem,hp_at,hp_at',hp_st,hp_st',hp_len]
  have e8:useK 8 t=(2,!decide (t=⟨#[]⟩)):=by simp[useK]
  rw[e8]
  exact⟨rfl,_,rfl⟩
 simp -implicitDefEqProofs only[go_sem,Tryz.f145]
 refine snd_draw (cs:=[]) mixed (by kernel_rfl) ?_
 simp -implicitDefEqProofs only[go_sem,hp_get hh,hp_set hlt1,hp_at,hp_at',hp_st,hp_st',hp_len,htu,hul,encTab,hrg,hil,Rw.enc,h19,h11,h20,h22,h5,h8]
 refine⟨?_,_,rfl⟩
 simp[useK,h19,h11,h20,h22,h5,h8]
end Go.Proofs.YtamednbojpnalaaGreatDoor
