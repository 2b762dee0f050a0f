import Derived.Test.YtighfcpaplmaiaaGreatDoorVgY
set_option linter.unusedVariables false
set_option linter.unusedSimpArgs false
namespace Go.Vg
open Go.RowKit
inductive Tz where
 | int (k:IntKind) | str | bool
 | sl (e:TypeId) (t:Tz)
 | arr (e:TypeId) (n:Nat) (t:Tz)
 | unit
 | cons (t:TypeId) (f r:Tz)
 | leaf (T:TypeId) (n:Nat) (S:List V→Prop)
def Tz.cells:Tz→Nat
 | .int _ | .str | .bool | .sl _ _=>1
 | .arr _ n t=>n * t.cells
 | .unit=>0
 | .cons _ f r=>f.cells+r.cells
 | .leaf _ n _=>n
def d9S(e:TypeId)(n:Nat):Option TypeDesc→Bool | some (.array n' e')=>decide (e'=e) && decide (n'=n) | _=>false
def Tz.ok(P:Program):Tz→TypeId ⊕ (Nat×List Field)→Bool
 | .int k,.inl T=>d4y k (P.underlying T)
 | .str,.inl T=>d5R (P.underlying T)
 | .bool,.inl T=>c6Y (P.underlying T)
 | .sl e t,.inl T=>c1J e (P.underlying T) && decide (P.cellsOf e=t.cells) && decide (1≤t.cells) && decide (1≤P.bytesOf e) && t.ok P (.inl e)
 | .arr e n t,.inl T=>d9S e n (P.underlying T) && decide (P.cellsOf e=t.cells) && decide (P.cellsOf T=n * t.cells) && t.ok P (.inl e)
 | .unit,.inl T=>match b5Q (P.underlying T)with
  | some []=>decide (P.cellsOf T=0)
  | _=>false
 | .unit,.inr (_,[])=>true
 | .cons t f r,.inl T=>match b5Q (P.underlying T)with
  | some (fd::fs)=>decide (P.cellsOf T=f.cells+r.cells) && decide (fd.type=t) && decide (fd.offset=0) && decide (P.cellsOf t=f.cells) && f.ok P (.inl t) && r.ok P (.inr (f.cells,fs))
  | _=>false
 | .cons t f r,.inr (o,fd::fs)=>decide (fd.type=t) && decide (fd.offset=o) && decide (P.cellsOf t=f.cells) && f.ok P (.inl t) && r.ok P (.inr (o+f.cells,fs))
 | .leaf R _ _,.inl T=>decide (T=R)
 | _,_=>false
def b3v{H:Type}:DataW H→List (DataW H)
 | .slice es _=>es
 | .agg es=>es
 | _=>[]
def Tz.sem{H:Type}:Tz→DataW H→List V→Prop
 | .int k,d,xs=>∃ n,xs=[.int k n]∧d = .lit (.int k n)
 | .str,d,xs=>∃ s:ByteArray,xs=[.str s]∧d = .lit (.string s.data.toList)
 | .bool,d,xs=>∃ b,xs=[.bool b]∧d = .lit (.bool b)
 | .sl e t,d,xs=>∃ es:List (List V),xs=[Vg.sl e es]∧es.length=(b3v d).length∧∀ (i:Nat) el,es[i]? = some el→t.sem ((b3v d).getD i .nil) el
 | .arr _ n t,d,xs=>∃ es:List (List V),xs=es.flatten∧es.length=n∧(b3v d).length=n∧∀ (i:Nat) el,es[i]? = some el→t.sem ((b3v d).getD i .nil) el
 | .unit,_,xs=>xs=[]
 | .cons _ f r,d,xs=>∃ a b,xs=a++b∧f.sem ((b3v d).headD .nil) a∧r.sem (.agg (b3v d).tail) b
 | .leaf _ _ S,_,xs=>S xs
def Tz.val{H:Type}:Tz→DataW H→List V
 | .int k,.lit (.int _ n)=>[.int k n]
 | .str,.lit (.string s)=>[.str ⟨⟨s⟩⟩]
 | .bool,.lit (.bool b)=>[.bool b]
 | .sl e t,d=>[Vg.sl e ((b3v d).map t.val)]
 | .arr _ _ t,d=>((b3v d).map t.val).flatten
 | .cons _ f r,d=>f.val ((b3v d).headD .nil)++r.val (.agg (b3v d).tail)
 | _,_=>[]
def Tz.closed:Tz→Bool
 | .sl _ t=>t.closed
 | .arr _ _ t=>t.closed
 | .cons _ f r=>f.closed && r.closed
 | .leaf .. => false
 | _=>true
theorem d6z{α β:Type}{f:α→β}{dflt:α}{ls:List α}{bs:List β}(h1:bs.length=ls.length)(h2:∀ (i:Nat) b,bs[i]? = some b→b=f (ls.getD i dflt)):bs=ls.map f:=by
 apply List.ext_getElem (by simpa using h1)
 intro i hi hj
 rw[h2 i _ (g9b hi)]
 have:i<ls.length:=by omega
 simp[g8Z,g9b this]
theorem Tz.val_of{H:Type}:∀ (t:Tz) (d:DataW H) (xs:List V),t.closed=true→t.sem d xs→xs=t.val d
 | .int k,d,xs,_,h=>by obtain⟨n,rfl,rfl⟩:=h;rfl
 | .str,d,xs,_,h=>by obtain⟨n,rfl,rfl⟩:=h;rfl
 | .bool,d,xs,_,h=>by obtain⟨n,rfl,rfl⟩:=h;rfl
 | .sl e t,d,xs,hc,h=>by
  obtain⟨es,rfl,h1,h2⟩:=h
  rw[d6z (dflt := .nil) h1 fun i b hb=>t.val_of _ _ hc (h2 i b hb)]
  rfl
 | .arr e n t,d,xs,hc,h=>by
  obtain⟨es,rfl,h1,h1',h2⟩:=h
  rw[d6z (dflt := .nil) (h1.trans h1'.symm) fun i b hb=>t.val_of _ _ hc (h2 i b hb)]
  rfl
 | .unit,d,xs,_,h=>h
 | .cons t f r,d,xs,hc,h=>by
  obtain⟨a,b,rfl,h1,h2⟩:=h
  simp only[Tz.closed,g9g]at hc
  rw[f.val_of _ _ hc.1 h1,r.val_of _ _ hc.2 h2]
  rfl
theorem b9C{α:Type}{c:Nat}:∀ {es:List (List α)} {j:Nat} {x:α},(∀ (i:Nat) el,es[i]? = some el→el.length=c)→es.flatten[j]? = some x→∃ i el k,es[i]? = some el∧el[k]? = some x∧j=i * c+k∧k<c
 | [],j,x,h,hx=>by simp at hx
 | e::es,j,x,h,hx=>by
  have he:=h 0 e rfl
  rw[g9X]at hx
  rcases h0v j e.length with hj | hj
  ·rw[g9a hj]at hx
   exact⟨0,e,j,rfl,hx,by omega,by omega⟩
  ·rw[g9c hj]at hx
   obtain⟨i,el,k,h1,h2,h3,h4⟩:=b9C (fun i el hi=>h (i+1) el (by simpa using hi)) hx
   exact⟨i+1,el,k,by simpa using h1,h2,by rw[Nat.add_one_mul];omega,h4⟩
theorem b4Z{α:Type}{c:Nat}:∀ {es:List (List α)},(∀ (i:Nat) el,es[i]? = some el→el.length=c)→es.flatten.length=es.length * c
 | [],h=>by simp
 | e::es,h=>by
  rw[g9X,g9d,h 0 e rfl,b4Z fun i el hi=>h (i+1) el (by simpa using hi),g9k,Nat.add_one_mul]
  omega
section
variable {H : Type} {enc : TypeId × Value → H} {P : Program} {w : World} {G : Gh} {held : Bool}
def f3Q(enc:TypeId×Value→H)(P:Program)(w:World)(G:Gh)(held:Bool)(F:Nat)(T:TypeId)(n:Nat)(S:List V→Prop):Prop:=∀ fuel,fuel<F→∀ (cs:List Value) (d:DataW H) (ps:List MemPlace),
 DataW.trod enc P w 0 (fun _=>true) held fuel T cs=some (d,ps)→(d.weights P T).all (· ≤ reachBytes)=true→∃ xs,S xs∧xs.length=n∧cs.length=n∧d6U P G xs (cs[·]?)
def Tz.lv(enc:TypeId×Value→H)(P:Program)(w:World)(G:Gh)(held:Bool):Nat→Tz→Prop
 | F,.sl _ t=>t.lv enc P w G held (F - 1)
 | F,.arr _ _ t=>t.lv enc P w G held (F - 1)
 | F,.cons _ f r=>f.lv enc P w G held (F - 1)∧r.lv enc P w G held F
 | F,.leaf T n S=>f3Q enc P w G held F T n S
 | _,_=>True
def f8M(enc:TypeId×Value→H)(P:Program)(w:World)(G:Gh)(held:Bool)(F:Nat)(ty:Tz):Prop:=∀ (T:TypeId) (fuel:Nat) (cs:List Value) (d:DataW H) (ps:List MemPlace),fuel<F→ty.ok P (.inl T)=true→DataW.trod enc P w 0 (fun _=>true) held fuel T cs=some (d,ps) →
 (d.weights P T).all (· ≤ reachBytes)=true→∃ xs,ty.sem d xs∧xs.length=ty.cells∧cs.length=ty.cells∧d6U P G xs (cs[·]?)
def f5p(enc:TypeId×Value→H)(P:Program)(w:World)(G:Gh)(held:Bool)(F:Nat)(ty:Tz):Prop:=∀ (o:Nat) (fs:List Field) (fuel:Nat) (cs:List Value) (ys:List (DataW H×List MemPlace)),fuel+1<F→ty.ok P (.inr (o,fs))=true →
 fs.mapM (fun f=>DataW.trod enc P w 0 (fun _=>true) held fuel f.type ((cs.drop f.offset).take (P.cellsOf f.type)))=some ys →
 (DataW.weightsEach P (fs.map (·.type)) (ys.map (·.1))).all (· ≤ reachBytes)=true→∃ xs,ty.sem (.agg (ys.map (·.1))) xs∧xs.length=ty.cells∧d6U P G xs fun j=>cs[o+j]?
theorem d5I{e:TypeId}{n:Nat}{d:Option TypeDesc}(h:d9S e n d=true):d=some (.array n e):=by
 unfold d9S at h
 split at h
 ·simp only[g9g,g9h]at h
  obtain⟨rfl,rfl⟩:=h
  rfl
 ·cases h
theorem d1M{T:TypeId}{k:IntKind}{f:Nat}{cs:List Value}{d:DataW H}{ps:List MemPlace}(hd:P.underlying T=some (.int k))
  (h:DataW.trod enc P w 0 (fun _=>true) held (f+1) T cs=some (d,ps)):∃ n,cs=[.int k n]∧d = .lit (.int k n):=by
 unfold DataW.trod at h
 rw[hd]at h
 rcases cs with _ | ⟨c,_ | ⟨c',r⟩⟩ <;> (try cases c) <;> simp only[reduceCtorEq]at h
 rename_i k' n
 split at h
 ·rename_i hk
  obtain⟨rfl,hw⟩:=hk
  simp only[Option.some.injEq,Prod.mk.injEq]at h
  exact⟨n,rfl,h.1.symm⟩
 ·cases h
theorem d2f{T:TypeId}{f:Nat}{cs:List Value}{d:DataW H}{ps:List MemPlace}(hd:P.underlying T=some .string)
  (h:DataW.trod enc P w 0 (fun _=>true) held (f+1) T cs=some (d,ps)):∃ s:ByteArray,cs=[.string s]∧d = .lit (.string s.data.toList):=by
 unfold DataW.trod at h
 rw[hd]at h
 rcases cs with _ | ⟨c,_ | ⟨c',r⟩⟩ <;> (try cases c) <;> simp only[reduceCtorEq]at h
 rename_i s
 split at h
 ·simp only[Option.some.injEq,Prod.mk.injEq]at h
  exact⟨s,rfl,h.1.symm⟩
 ·cases h
theorem c8V{T:TypeId}{f:Nat}{cs:List Value}{d:DataW H}{ps:List MemPlace}(hd:P.underlying T=some .bool)
  (h:DataW.trod enc P w 0 (fun _=>true) held (f+1) T cs=some (d,ps)):∃ b:Bool,cs=[.bool b]∧d = .lit (.bool b):=by
 unfold DataW.trod at h
 rw[hd]at h
 rcases cs with _ | ⟨c,_ | ⟨c',r⟩⟩ <;> (try cases c) <;> simp only[reduceCtorEq]at h
 simp only[Option.some.injEq,Prod.mk.injEq]at h
 exact⟨_,rfl,h.1.symm⟩
theorem c4U{T e:TypeId}{f:Nat}{cs:List Value}{d:DataW H}{ps:List MemPlace}(hd:P.underlying T=some (.slice e))
  (h:DataW.trod enc P w 0 (fun _=>true) held (f+1) T cs=some (d,ps)):(cs=[.slice none 0 0]∧d = .nil)∨∃ a len cap b6t rest,cs=[.slice (some a) len cap]∧len≤cap ∧
   (List.range len).mapM (fun i=>(w.cells? 0 (a.add (i * P.cellsOf e)) (P.cellsOf e)).bind (DataW.trod enc P w 0 (fun _=>true) held f e))=some b6t∧d = .slice (b6t.map (·.1)) rest:=by
 unfold DataW.trod at h
 rw[hd]at h
 rcases cs with _ | ⟨c,_ | ⟨c',r⟩⟩ <;> (try cases c) <;> simp only[reduceCtorEq]at h
 rename_i a len cap
 cases a with
 | none =>
  rcases len with _ | len <;> rcases cap with _ | cap <;> simp only[reduceCtorEq]at h
  simp only[Option.some.injEq,Prod.mk.injEq]at h
  exact .inl ⟨rfl,h.1.symm⟩
 | some a =>
  right
  simp only at h
  split at h
  ·rename_i hc
   simp only[Option.bind_eq_some_iff,g9l,Prod.mk.injEq]at h
   obtain⟨b6t,he,rest,hr,hd',_⟩:=h
   exact⟨a,len,cap,b6t,_,rfl,hc.2.1,he,hd'.symm⟩
  ·cases h
theorem b7V{T:TypeId}{fs:Array Field}{f:Nat}{cs:List Value}{d:DataW H}{ps:List MemPlace}(hd:P.underlying T=some (.struct fs))
  (h:DataW.trod enc P w 0 (fun _=>true) held (f+1) T cs=some (d,ps)):cs.length=P.cellsOf T∧∃ xs,
   fs.toList.mapM (fun fd=>DataW.trod enc P w 0 (fun _=>true) held f fd.type ((cs.drop fd.offset).take (P.cellsOf fd.type)))=some xs∧d = .agg (xs.map (·.1)):=by
 unfold DataW.trod at h
 rw[hd]at h
 simp only at h
 split at h
 ·rename_i hc
  simp only[g9l,Prod.mk.injEq]at h
  obtain⟨xs,hx,hd',_⟩:=h
  exact⟨hc,xs,hx,hd'.symm⟩
 ·cases h
theorem c5o{T e:TypeId}{n:Nat}{f:Nat}{cs:List Value}{d:DataW H}{ps:List MemPlace}(hd:P.underlying T=some (.array n e))
  (h:DataW.trod enc P w 0 (fun _=>true) held (f+1) T cs=some (d,ps)):cs.length=P.cellsOf T∧∃ xs,
   (List.range n).mapM (fun i=>DataW.trod enc P w 0 (fun _=>true) held f e ((cs.drop (i * P.cellsOf e)).take (P.cellsOf e)))=some xs∧d = .agg (xs.map (·.1)):=by
 unfold DataW.trod at h
 rw[hd]at h
 simp only at h
 split at h
 ·rename_i hc
  simp only[g9l,Prod.mk.injEq]at h
  obtain⟨xs,hx,hd',_⟩:=h
  exact⟨hc,xs,hx,hd'.symm⟩
 ·cases h
theorem c7y{α β:Type}{f:α→β}{l:List α}{i:Nat}{a:α}{b:β}(h:l[i]? = some a):(l.map f).getD i b=f a:=by
 simp[g8Z,h]
theorem Tz.read(hG:∀ b o v,w.cell? ⟨b,o,none⟩=some v→v.oneCell'=true→G.F b o=some v):∀ (ty:Tz) (F:Nat),ty.lv enc P w G held F→f8M enc P w G held F ty∧f5p enc P w G held F ty:=by
 intro ty
 induction ty with
 | int k =>
  intro F _
  refine⟨fun T fuel cs d ps hF hok ht hw=>?_,fun o fs fuel cs ys _ hok=>by simp[Tz.ok]at hok⟩
  have hd:=c7t (by simpa[Tz.ok]using hok)
  cases fuel with
  | zero=>cases ht
  | succ fuel =>
   obtain⟨n,rfl,rfl⟩:=d1M hd ht
   exact⟨[.int k n],⟨n,rfl,rfl⟩,rfl,rfl,b3i (.int _ _) rfl⟩
 | str =>
  intro F _
  refine⟨fun T fuel cs d ps hF hok ht hw=>?_,fun o fs fuel cs ys _ hok=>by simp[Tz.ok]at hok⟩
  have hd:=c7w (by simpa[Tz.ok]using hok)
  cases fuel with
  | zero=>cases ht
  | succ fuel =>
   obtain⟨s,rfl,rfl⟩:=d2f hd ht
   refine⟨[.str s],⟨s,rfl,rfl⟩,rfl,rfl,b3i (.str _ ?_) rfl⟩
   simp only[DataW.weights,List.all_cons,List.all_nil,h0b,g9h]at hw
   have:s.size=s.data.toList.length:=by simp
   unfold reachBytes at hw
   omega
 | bool =>
  intro F _
  refine⟨fun T fuel cs d ps hF hok ht hw=>?_,fun o fs fuel cs ys _ hok=>by simp[Tz.ok]at hok⟩
  have hd:=c3z (by simpa[Tz.ok]using hok)
  cases fuel with
  | zero=>cases ht
  | succ fuel =>
   obtain⟨b,rfl,rfl⟩:=c8V hd ht
   exact⟨[.bool b],⟨b,rfl,rfl⟩,rfl,rfl,b3i (.bool _) rfl⟩
 | sl e t ih =>
  intro F hlv
  refine⟨fun T fuel cs d ps hF hok ht hw=>?_,fun o fs fuel cs ys _ hok=>by simp[Tz.ok]at hok⟩
  simp only[Tz.ok,g9g,g9h]at hok
  obtain⟨⟨⟨⟨h1,hsz⟩,hpos⟩,hb⟩,hok⟩:=hok
  have hd:=c1d h1
  cases fuel with
  | zero=>cases ht
  | succ fuel =>
   rcases c4U hd ht with⟨rfl,rfl⟩ | ⟨a,len,cap,b6t,rest,rfl,hlc,hm,rfl⟩
   ·exact⟨[Vg.sl e []],⟨[],rfl,rfl,by simp⟩,rfl,rfl,b3i (RV.sl (.snil .shared e trivial)) rfl⟩
   ·obtain⟨hl,hget⟩:=b7g hm
    simp only[List.length_range]at hl
    simp only[DataW.weights,hd,List.all_cons,List.all_append,g9g,g9h,g9r,hl]at hw
    obtain⟨hw1,hw2,_⟩:=hw
    obtain⟨es,hes1,hes2⟩:=c2n (Q:=fun i el=>t.sem ((b6t.map (·.1)).getD i .nil) el∧el.length=P.cellsOf e∧∀ (j:Nat) x,el[j]? = some x→∃ v,w.cell? ((a.add (i * P.cellsOf e)).add j)=some v∧RV P G [] x v∧v.oneCell'=true) len (fun i hi=>by
     obtain⟨⟨di,pi⟩,hdi,he⟩:=hget i i (List.getElem?_range hi)
     simp only[Option.bind_eq_some_iff]at he
     obtain⟨csi,hc1,hc2⟩:=he
     have hwi:=b3h hw2 di (by
      obtain⟨hlt,hx⟩:=g8Y.1 hdi
      exact h0k.2 ⟨(di,pi),hx ▸ List.getElem_mem hlt,rfl⟩)
     obtain⟨xs,g1,g2,g3,g4⟩:=(ih (F - 1) hlv).1 e fuel csi di pi (by omega) hok hc2 hwi
     obtain⟨c1,c2⟩:=c3C hc1
     refine⟨xs,by rw[c7y hdi];exact g1,by omega,fun j x hx=>?_⟩
     have hj:j<P.cellsOf e:=by have:=(g8Y.1 hx).1;omega
     have hcj:=c2 j hj
     have hlt:j<csi.length:=by omega
     rw[g9b hlt]at hcj
     exact⟨_,hcj,g4 j x _ hx (g9b hlt)⟩)
    refine⟨[Vg.sl e es],⟨es,rfl,by simp only[b3v,g9r];omega,fun i el hel=>(hes2 i el hel).1⟩,rfl,rfl,b3i ?_ rfl⟩
    cases es with
    | nil =>
     have:len=0:=by simpa using hes1.symm
     subst this
     exact .sodd _ _ _
    | cons el0 er =>
     have h0:=hes2 0 el0 rfl
     obtain⟨v0,hv0,_⟩:=h0.2.2 0 _ (g9b (by omega))
     have hsp:=c3K hv0
     have hspot:a.spot=none:=by
      have:=congrArg Addr.spot hsp
      simpa[Addr.add]using this
     obtain⟨b,o,sp⟩:=a
     simp only at hspot
     subst hspot
     rw[←hes1]
     refine RV.sl (RV.ofCells (o := .shared) trivial (fun i el hi=>(hes2 i el hi).2.1) ?_ hb (by omega) fun i el j c hi hj=>?_)
     ·rw[hes1]
      unfold reachBytes at hw1
      have:len * P.bytesOf e≤(len+rest.length) * P.bytesOf e:=g9L _ (by omega)
      omega
     ·obtain⟨v,hv,hrv,h1c⟩:=(hes2 i el hi).2.2 j c hj
      refine⟨v,hG _ _ _ ?_ h1c,hrv⟩
      rw[Addr.add_mk,Addr.add_mk,h0n]at hv
      exact hv
 | arr e n t ih =>
  intro F hlv
  refine⟨fun T fuel cs d ps hF hok ht hw=>?_,fun o fs fuel cs ys _ hok=>by simp[Tz.ok]at hok⟩
  simp only[Tz.ok,g9g,g9h]at hok
  obtain⟨⟨⟨h1,hsz⟩,hsT⟩,hok⟩:=hok
  have hd:=d5I h1
  cases fuel with
  | zero=>cases ht
  | succ fuel =>
   obtain⟨hlen,b6t,hm,rfl⟩:=c5o hd ht
   obtain⟨hl,hget⟩:=b7g hm
   simp only[List.length_range]at hl
   simp only[DataW.weights,hd]at hw
   obtain⟨es,hes1,hes2⟩:=c2n (Q:=fun i el=>t.sem ((b6t.map (·.1)).getD i .nil) el∧el.length=t.cells∧∀ (j:Nat) x v,el[j]? = some x→cs[i * t.cells+j]? = some v→RV P G [] x v∧v.oneCell'=true) n (fun i hi=>by
    obtain⟨⟨di,pi⟩,hdi,he⟩:=hget i i (List.getElem?_range hi)
    have hwi:=b3h hw di (by
     obtain⟨hlt,hx⟩:=g8Y.1 hdi
     exact h0k.2 ⟨(di,pi),hx ▸ List.getElem_mem hlt,rfl⟩)
    obtain⟨xs,g1,g2,g3,g4⟩:=(ih (F - 1) hlv).1 e fuel _ di pi (by omega) hok he hwi
    refine⟨xs,by rw[c7y hdi];exact g1,g2,fun j x v hx hv=>?_⟩
    have hj:j<t.cells:=by have:=(g8Y.1 hx).1;omega
    refine g4 j x v hx ?_
    show((cs.drop (i * P.cellsOf e)).take (P.cellsOf e))[j]? = some v
    rw[List.getElem?_take,if_pos (by omega),g9Y,hsz]
    exact hv)
   have hc:∀ (i:Nat) el,es[i]? = some el→el.length=t.cells:=fun i el hi=>(hes2 i el hi).2.1
   refine⟨es.flatten,⟨es,rfl,hes1,by simp only[b3v,g9r];omega,fun i el hel=>(hes2 i el hel).1⟩,by rw[b4Z hc,hes1];rfl,by rw[hlen,hsT];rfl,fun j x v hx hv=>?_⟩
   obtain⟨i,el,k,k1,k2,rfl,k4⟩:=b9C hc hx
   exact(hes2 i el k1).2.2 k x v k2 hv
 | unit =>
  intro F _
  constructor
  ·intro T fuel cs d ps hF hok ht hw
   simp only[Tz.ok]at hok
   split at hok
   ·rename_i hf
    obtain⟨a,hd,ha⟩:=b4N hf
    have hz:=of_decide_eq_true hok
    cases fuel with
    | zero=>cases ht
    | succ fuel =>
     obtain⟨hl,_⟩:=b7V hd ht
     have:cs=[]:=g9C (by omega)
     subst this
     exact⟨[],rfl,rfl,rfl,fun j x v hx=>by simp at hx⟩
   ·cases hok
  ·intro o fs fuel cs ys _ hok hm hw
   exact⟨[],rfl,rfl,fun j x v hx=>by simp at hx⟩
 | leaf R n S =>
  intro F hlv
  refine⟨fun T fuel cs d ps hF hok ht hw=>?_,fun o fs fuel cs ys _ hok=>by simp[Tz.ok]at hok⟩
  have:T=R:=by simpa[Tz.ok]using hok
  subst this
  exact hlv fuel hF cs d ps ht hw
 | cons t f r ihf ihr =>
  intro F hlv
  have step:∀ (o:Nat) (fd:Field) (fs:List Field) (fuel:Nat) (cs:List Value) (ys:List (DataW H×List MemPlace)),fuel+1<F→decide (fd.type=t)=true→decide (fd.offset=o)=true→decide (P.cellsOf t=f.cells)=true→f.ok P (.inl t)=true→r.ok P (.inr (o+f.cells,fs))=true →
    (fd::fs).mapM (fun g=>DataW.trod enc P w 0 (fun _=>true) held fuel g.type ((cs.drop g.offset).take (P.cellsOf g.type)))=some ys →
    (DataW.weightsEach P ((fd::fs).map (·.type)) (ys.map (·.1))).all (· ≤ reachBytes)=true→∃ xs,(Tz.cons t f r).sem (.agg (ys.map (·.1))) xs∧xs.length=(Tz.cons t f r).cells∧d6U P G xs fun j=>cs[o+j]?:=by
   intro o fd fs fuel cs ys hF h1 h2 h3 h4 h5 hm hw
   have h1:=of_decide_eq_true h1
   have h2:=of_decide_eq_true h2
   have h3:=of_decide_eq_true h3
   subst h1 h2
   simp only[List.mapM_cons,Option.bind_eq_bind,Option.bind_eq_some_iff,Option.pure_def,Option.some.injEq]at hm
   obtain⟨⟨d1,p1⟩,hy,ys',hys,rfl⟩:=hm
   simp only[g9o,DataW.weightsEach,List.all_append,g9g]at hw
   obtain⟨xf,f1,f2,f3,f4⟩:=(ihf (F - 1) hlv.1).1 _ _ _ _ _ (by omega) h4 hy hw.1
   obtain⟨xr,r1,r2,r3⟩:=(ihr F hlv.2).2 _ _ _ _ _ hF h5 hys hw.2
   refine⟨xf++xr,⟨xf,xr,rfl,f1,r1⟩,by simp[Tz.cells,f2,r2],fun j x v hx hv=>?_⟩
   rcases h0v j xf.length with hj | hj
   ·rw[g9a hj]at hx
    refine f4 j x v hx ?_
    show((cs.drop fd.offset).take (P.cellsOf fd.type))[j]? = some v
    rw[List.getElem?_take,if_pos (by omega),g9Y]
    exact hv
   ·rw[g9c hj]at hx
    refine r3 _ x v hx ?_
    simp only at hv ⊢
    rw[←hv];congr 1;omega
  constructor
  ·intro T fuel cs d ps hF hok ht hw
   simp only[Tz.ok]at hok
   split at hok
   ·rename_i fd fs hf
    obtain⟨a,hd,ha⟩:=b4N hf
    simp only[g9g]at hok
    obtain⟨⟨⟨⟨⟨h0,h1⟩,h2⟩,h3⟩,h4⟩,h5⟩:=hok
    have h0:=of_decide_eq_true h0
    cases fuel with
    | zero=>cases ht
    | succ fuel =>
     obtain⟨hl,ys,hm,rfl⟩:=b7V hd ht
     rw[ha]at hm
     simp only[DataW.weights,hd,ha]at hw
     obtain⟨xs,g1,g2,g3⟩:=step 0 fd fs fuel cs ys hF h1 h2 h3 h4 (by simpa using h5) hm hw
     exact⟨xs,g1,g2,by simp only[Tz.cells];omega,fun j x v hx hv=>g3 j x v hx (by simpa using hv)⟩
   ·cases hok
  ·intro o fs fuel cs ys hF hok hm hw
   cases fs with
   | nil=>simp[Tz.ok]at hok
   | cons fd fs =>
    simp only[Tz.ok,g9g]at hok
    obtain⟨⟨⟨⟨h1,h2⟩,h3⟩,h4⟩,h5⟩:=hok
    exact step o fd fs fuel cs ys hF h1 h2 h3 h4 h5 hm hw
end
end Go.Vg
set_option maxRecDepth 20000
namespace Go.Vg
end Go.Vg
namespace Go.Proofs.YtighfcpaplmaiaaGreatDoor
open Go Go.Vg Go.Proofs
theorem c5e(s t:Sg):b0u env 200 [.agg s.enc,.agg t.enc] (.bool (decide (s.params=t.params) && decide (s.result=t.result))):=by
 refine b0i (fn:=Tryz.f200) Tryz.func200 rfl (by rw[Tryz.ntmps200];simp) (by simp -implicitDefEqProofs only[go_sem,Sg.enc]) (by simp -implicitDefEqProofs only[go_sem]) ?_
 simp -implicitDefEqProofs only[go_sem,Tryz.f200,Sg.enc]
 intro _ _ _ _
 refine⟨fun hl=>⟨fun hr=>?_,fun hr=>?_⟩,fun hl=>?_⟩
 ·have:¬ s.result=t.result:=by simpa using hr
  simp[this]
 ·have hl':s.params.length=t.params.length:=by simp at hl;omega
  have hr':s.result=t.result:=by simpa using hr
  refine b0n (β:=Unit) s.params (fun pre _=>⟨[(5,.int .i64 pre.length),(4,.bool false),(3,.ptr 1 0),(2,.ptr 0 0)],[.cells [sl 9 (s.params.map b0p),.str s.result],.cells [sl 9 (t.params.map b0p),.str t.result]],[]⟩) (fun pre _ _=>t.params.take pre.length=pre) () ?_ rfl ?_ ?_
  ·simp -implicitDefEqProofs only[go_sem]
   try rfl
  ·intro _ hi
   rw[hl',List.take_length]at hi
   simp -implicitDefEqProofs only[go_sem]
   intro _ _
   rw[hi,hr']
   simp
  ·rintro pre x post _ hx hi
   have hpl:s.params.length=pre.length+1+post.length:=by rw[hx];simp;omega
   have hgx:(s.params.map b0p).getD (pre.length:Int).toNat []=b0p x:=by rw[hx];simp[g8Z]
   have hyl:pre.length<t.params.length:=by omega
   have hgy:(t.params.map b0p).getD (pre.length:Int).toNat []=b0p t.params[pre.length]:=by simp[g8Z,g9b hyl]
   have hsn:t.params.take (pre.length+1)=pre++[t.params[pre.length]]:=by rw[List.take_succ_eq_append_getElem hyl,hi]
   generalize t.params[pre.length]=y at hgy hsn
   have hw:IntKind.i64.wrap (↑pre.length+1)=↑(pre.length+1):=b0g (by omega)
   have hlt:((pre.length:Int)<s.params.length)=True:=by simp;omega
   have hlt2:((pre.length:Int)<t.params.length)=True:=by simp;omega
   simp -implicitDefEqProofs only[go_sem,hgx,hgy,hlt,hlt2,b0p]
   intro _ _
   refine b0h (cs:=[]) b0v (by kernel_rfl) ?_
   simp -implicitDefEqProofs only[go_sem,hgx,hgy,hlt,hlt2,b0p]
   refine⟨fun h=>?_,fun h=>?_⟩
   ·have hne:¬ x=y:=by simpa using h
    have:¬ s.params=t.params:=by
     intro e
     have h1:s.params.take (pre.length+1)=pre++[x]:=by
      rw[hx,List.take_append,List.take_of_length_le (by omega)]
      simp
     rw[e,hsn]at h1
     exact hne (by simpa using h1.symm)
    simp[this]
   ·have he:x=y:=by simpa using h
    subst he
    exact⟨(),hsn,hw⟩
 ·have:¬ s.params.length=t.params.length:=by simp at hl;omega
  have:¬ s.params=t.params:=fun e=>this (by rw[e])
  simp[this]
def f9W(d:Dl):ByteArray:=if d.kind=1 then d.name else if d.kind=4 then d.owner++⟨#[46]⟩++d.name else⟨#[]⟩
def pst(s:ByteArray)(p:List ByteArray×Bool)(x:ByteArray):List ByteArray×Bool:=if p.2=false∧¬ x=s∧ltB x s=false then(p.1++[s,x],true)else(p.1++[x],p.2 || decide (x=s))
def c4D(s:ByteArray)(l:List ByteArray):List ByteArray×Bool:=l.foldl (pst s) ([],false)
def c0r(l:List ByteArray)(s:ByteArray):List ByteArray:=if(c4D s l).2=true then(c4D s l).1 else(c4D s l).1++[s]
theorem d2V(s:ByteArray)(l:List ByteArray)(x:ByteArray):c4D s (l++[x])=pst s (c4D s l) x:=by simp[c4D]
theorem f0m(s:ByteArray)(p:List ByteArray×Bool)(x:ByteArray):(pst s p x).1.length≤p.1.length+2:=by
 unfold pst;split <;> simp
theorem c6U(s:ByteArray)(l:List ByteArray):(c4D s l).1.length≤2 * l.length:=by
 have key:∀ (l:List ByteArray) (p:List ByteArray×Bool),(l.foldl (pst s) p).1.length≤p.1.length+2 * l.length:=by
  intro l
  induction l with
  | nil=>intro p;simp
  | cons x r ih =>
   intro p
   have h1:=ih (pst s p x)
   have h2:=f0m s p x
   rw[g9G,g9k];omega
 have:=key l ([],false)
 simpa[c4D]using this
theorem d7I(l:List ByteArray)(s:ByteArray)(hl:l.length≤1000000):b0u env 50 [sl 9 (l.map b0p),.str s] (sl 9 ((c0r l s).map b0p)):=by
 refine b0i (fn:=Tryz.f50) Tryz.func50 rfl (by rw[Tryz.ntmps50];simp) (by simp -implicitDefEqProofs only[go_sem]) (by simp -implicitDefEqProofs only[go_sem]) ?_
 simp -implicitDefEqProofs only[go_sem,Tryz.f50]
 refine b0n (β:=Unit) l (fun pre _=>⟨[(7,.int .i64 pre.length),(6,.bool (c4D s pre).2),(5,.slice (.arr 0) 9 ((c4D s pre).1.map b0p)),(4,.slice .nil 0 []),(0,sl 9 (l.map b0p)),(1,.str s)],[],[(c4D s pre).1.length]⟩) (fun _ _ _=>True) () ?_ trivial ?_ ?_
 ·simp -implicitDefEqProofs only[go_sem]
  exact⟨rfl,rfl,rfl⟩
 ·intro _ _
  have hpl:=c6U s l
  unfold c0r
  generalize c4D s l=p at hpl ⊢
  simp -implicitDefEqProofs only[go_sem]
  refine fun _ _=>⟨fun h=>⟨by omega,?_⟩,fun h=>?_⟩
  ·have:¬ p.2=true:=by simpa using h
   rw[if_neg this,g9I];rfl
  ·have:p.2=true:=by simpa using h
   rw[if_pos this]
 ·rintro pre x post _ hx _
  have hpl:l.length=pre.length+1+post.length:=by rw[hx];simp;omega
  have hgx:(l.map b0p).getD (pre.length:Int).toNat []=b0p x:=by rw[hx];simp[g8Z]
  have hw:IntKind.i64.wrap (↑pre.length+1)=↑(pre.length+1):=b0g (by omega)
  have hlt:((pre.length:Int)<l.length)=True:=by simp;omega
  have hsn:=d2V s pre x
  have hml:=c6U s pre
  generalize c4D s pre=p at hsn hml ⊢
  simp -implicitDefEqProofs only[go_sem,hgx,hlt,b0p]
  rw[hsn]
  refine fun _ _=>⟨fun he=>?_,fun he=>⟨fun hd=>⟨fun hg=>?_,fun hg=>?_⟩,fun hd=>?_⟩⟩
  ·have hp:pst s p x=(p.1++[x],true):=by rw[pst,if_neg (fun h=>h.2.1 he)];simp[he]
   rw[hp]
   exact⟨by omega,(),⟨hw,rfl,by simp[b0p]⟩,by simp⟩
  ·have hd':p.2=false:=by simpa using hd
   have hg':ltB x s=false:=by
    simp only[Bool.not_eq_true',h0w]at hg
    exact hg.1
   have hp:pst s p x=(p.1++[s,x],true):=by rw[pst,if_pos ⟨hd',he,hg'⟩]
   rw[hp]
   exact⟨by omega,by omega,(),⟨hw,rfl,by simp[b0p]⟩,by simp⟩
  ·have hd':p.2=false:=by simpa using hd
   have hg':ltB x s=true:=by
    have:decide (x=s)=false:=by simpa using he
    rw[this,Bool.or_false,Bool.not_eq_false']at hg
    exact hg
   have hp:pst s p x=(p.1++[x],p.2):=by rw[pst,if_neg (fun h=>by rw[hg']at h;exact absurd h.2.2 (by simp))];simp[he]
   rw[hp]
   exact⟨by omega,(),⟨hw,rfl,by simp[b0p]⟩,by simp⟩
  ·have hd':p.2=true:=by simpa using hd
   have hp:pst s p x=(p.1++[x],p.2):=by rw[pst,if_neg (fun h=>by rw[hd']at h;exact absurd h.1 (by simp))];simp[hd']
   rw[hp]
   exact⟨by omega,(),⟨hw,rfl,by simp[b0p]⟩,by simp⟩
def cB(b:Bool):Nat:=if b=true then 0 else 1
theorem d4l(s:ByteArray)(p:List ByteArray×Bool)(x:ByteArray):(pst s p x).1.length+cB (pst s p x).2≤p.1.length+cB p.2+1:=by
 unfold pst
 split
 ·rename_i h
  rw[h.1]
  simp[cB]
 ·simp only[g9d,g9k,g9F,cB]
  cases p.2 <;> cases decide (x=s) <;> simp
theorem c6q(l:List ByteArray)(s:ByteArray):(c0r l s).length≤l.length+1:=by
 have key:∀ (l:List ByteArray) (p:List ByteArray×Bool),(l.foldl (pst s) p).1.length+cB (l.foldl (pst s) p).2≤p.1.length+cB p.2+l.length:=by
  intro l
  induction l with
  | nil=>intro p;simp
  | cons x r ih =>
   intro p
   have h1:=ih (pst s p x)
   have h2:=d4l s p x
   rw[g9G,g9k];omega
 have:=key l ([],false)
 unfold c0r c4D
 generalize l.foldl (pst s) ([],false)=p at this
 simp only[cB,g9F]at this
 split
 ·rename_i h
  simp[h]at this
  omega
 ·rename_i h
  simp[h]at this
  simp
  omega
def c7a(l:List ByteArray)(s:ByteArray):List ByteArray:=c0r (l.foldl c0r []) s
theorem b9Z(l:List ByteArray):(l.foldl c0r []).length≤l.length:=by
 have key:∀ (l p:List ByteArray),(l.foldl c0r p).length≤p.length+l.length:=by
  intro l
  induction l with
  | nil=>intro p;simp
  | cons x r ih =>
   intro p
   have h1:=ih (c0r p x)
   have h2:=c6q p x
   rw[g9G,g9k];omega
 simpa using key l []
theorem b9h(l:List ByteArray)(s:ByteArray)(hl:l.length≤1000000):b0u env 21 [sl 9 (l.map b0p),.str s] (sl 9 ((c7a l s).map b0p)):=by
 refine b0i (fn:=Tryz.f21) Tryz.func21 rfl (by rw[Tryz.ntmps21];simp) (by simp -implicitDefEqProofs only[go_sem]) (by simp -implicitDefEqProofs only[go_sem]) ?_
 simp -implicitDefEqProofs only[go_sem,Tryz.f21]
 refine b0n (β:=Unit) l (fun pre _=>⟨[(6,.int .i64 pre.length),(5,sl 9 ((pre.foldl c0r []).map b0p)),(4,.slice .nil 0 []),(0,sl 9 (l.map b0p)),(1,.str s)],[],[]⟩) (fun _ _ _=>True) () ?_ trivial ?_ ?_
 ·simp -implicitDefEqProofs only[go_sem]
  exact⟨rfl,rfl⟩
 ·intro _ _
  have h1:=b9Z l
  simp -implicitDefEqProofs only[go_sem]
  intro _ _
  refine(d7I (l.foldl c0r []) s (by omega)).calls (by simp -implicitDefEqProofs only[go_sem]) ?_
  simp -implicitDefEqProofs only[go_sem]
  try rfl
 ·rintro pre x post _ hx _
  have hpl:l.length=pre.length+1+post.length:=by rw[hx];simp;omega
  have hgx:(l.map b0p).getD (pre.length:Int).toNat []=b0p x:=by rw[hx];simp[g8Z]
  have hw:IntKind.i64.wrap (↑pre.length+1)=↑(pre.length+1):=b0g (by omega)
  have hlt:((pre.length:Int)<l.length)=True:=by simp;omega
  have h1:=b9Z pre
  have hsn:(pre++[x]).foldl c0r []=c0r (pre.foldl c0r []) x:=by simp
  simp -implicitDefEqProofs only[go_sem,hgx,hlt,b0p]
  intro _ _
  refine(d7I (pre.foldl c0r []) x (by omega)).calls (by simp -implicitDefEqProofs only[go_sem]) ?_
  simp -implicitDefEqProofs only[go_sem]
  rw[hsn]
  exact⟨(),hw,rfl⟩
def firstD(u:List Un)(name:ByteArray):Option Dl:=(b0f u 0).find? fun d => !decide (name=⟨#[]⟩) && decide (f9W d=name)
theorem d8B(s:ByteArray)(p:List ByteArray×Bool)(x y:ByteArray):y∈(pst s p x).1↔y∈p.1∨y=x∨(y=s∧(pst s p x).2=true∧p.2=false)∨(y=s∧p.2=true∧False):=by
 unfold pst
 split
 ·rename_i h
  simp[h.1]
  constructor
  ·rintro(h | h | h)
   ·exact .inl h
   ·exact .inr (.inr h)
   ·exact .inr (.inl h)
  ·rintro(h | h | h)
   ·exact .inl h
   ·exact .inr (.inr h)
   ·exact .inr (.inl h)
 ·simp
  constructor
  ·rintro(h | h)
   ·exact .inl h
   ·exact .inr (.inl h)
  ·rintro(h | h | ⟨h1,h2,h3⟩)
   ·exact .inl h
   ·exact .inr h
   ·rcases h2 with h2 | h2
    ·rw[h2]at h3;cases h3
    ·exact .inr (by rw[h1,h2])
theorem c7v(s y:ByteArray):∀ (l:List ByteArray) (p:List ByteArray×Bool),(y∈(l.foldl (pst s) p).1↔y∈p.1∨y∈l∨(y=s∧(l.foldl (pst s) p).2=true∧p.2=false))∧(p.2=true→(l.foldl (pst s) p).2=true)
 | [],p=>by
  refine⟨?_,fun h=>h⟩
  simp
 | x::r,p=>by
  obtain⟨h1,h2⟩:=c7v s y r (pst s p x)
  have h3:=d8B s p x y
  have h4:p.2=true→(pst s p x).2=true:=fun h=>by
   unfold pst
   split
   ·rfl
   ·simp[h]
  rw[g9G]
  refine⟨?_,fun h=>h2 (h4 h)⟩
  rw[h1,h3]
  simp only[g9y,and_false,or_false]
  constructor
  ·rintro((h | h | ⟨h,h',h''⟩) | h | ⟨h,h',h''⟩)
   ·exact .inl h
   ·exact .inr (.inl (.inl h))
   ·exact .inr (.inr ⟨h,h2 h',h''⟩)
   ·exact .inr (.inl (.inr h))
   ·refine .inr (.inr ⟨h,h',?_⟩)
    cases hp:p.2 with
    | false=>rfl
    | true=>rw[h4 hp]at h'';cases h''
  ·rintro(h | (h | h) | ⟨h,h',h''⟩)
   ·exact .inl (.inl h)
   ·exact .inl (.inr (.inl h))
   ·exact .inr (.inl h)
   ·cases hp:(pst s p x).2 with
    | false=>exact .inr (.inr ⟨h,h',rfl⟩)
    | true=>exact .inl (.inr (.inr ⟨h,rfl,h''⟩))
theorem c6P(l:List ByteArray)(s y:ByteArray):y∈c0r l s↔y∈l∨y=s:=by
 obtain⟨h1,h2⟩:=c7v s y l ([],false)
 unfold c0r c4D
 simp only[List.not_mem_nil,false_or,and_true]at h1
 split
 ·rename_i h
  rw[h1]
  constructor
  ·rintro(h | h)
   ·exact .inl h
   ·exact .inr h.1
  ·rintro(h' | h')
   ·exact .inl h'
   ·exact .inr ⟨h',h⟩
 ·rename_i h
  rw[g9A,h1]
  simp only[g9N]
  constructor
  ·rintro((h' | h') | h')
   ·exact .inl h'
   ·exact .inr h'.1
   ·exact .inr h'
  ·rintro(h' | h')
   ·exact .inl (.inl h')
   ·exact .inr h'
theorem c3Y(y:ByteArray):∀ (l p:List ByteArray),y∈l.foldl c0r p↔y∈p∨y∈l
 | [],p=>by simp
 | x::r,p=>by
  rw[g9G,c3Y y r,c6P,g9y]
  constructor
  ·rintro((h | h) | h)
   ·exact .inl h
   ·exact .inr (.inl h)
   ·exact .inr (.inr h)
  ·rintro(h | h | h)
   ·exact .inl (.inl h)
   ·exact .inl (.inr h)
   ·exact .inr h
theorem c2l(l:List ByteArray)(s y:ByteArray):y∈c7a l s↔y∈l∨y=s:=by
 rw[c7a,c6P,c3Y];simp
theorem c1Q(l:List ByteArray)(s:ByteArray):(c7a l s).length≤l.length+1:=by
 have h1:=c6q (l.foldl c0r []) s
 have h2:=b9Z l
 unfold c7a;omega
def f3i(u:List Un):Prop:=∀ d∈b0f u 0,d.owner.size≤3000000∧d.name.size≤1000000
end Go.Proofs.YtighfcpaplmaiaaGreatDoor
namespace Go.Vg
open Go.Proofs.YtighfcpaplmaiaaGreatDoor
def d1a(s:ByteArray):List ByteArray→List ByteArray
 | []=>[s]
 | x::r=>if x=s then x::r else if ltB x s=true then x::d1a s r else s::x::r
theorem c2C(s:ByteArray):∀ (l o:List ByteArray),l.foldl (pst s) (o,true)=(o++l,true)
 | [],o=>by simp
 | x::r,o=>by
  have:pst s (o,true) x=(o++[x],true):=by unfold pst;simp
  rw[g9G,this,c2C s r];simp
theorem f5q(s:ByteArray):∀ (l o:List ByteArray),(if(l.foldl (pst s) (o,false)).2=true then(l.foldl (pst s) (o,false)).1 else(l.foldl (pst s) (o,false)).1++[s])=o++d1a s l
 | [],o=>by simp[d1a]
 | x::r,o=>by
  rw[g9G,d1a]
  by_cases h1:x=s
  ·have:pst s (o,false) x=(o++[x],true):=by unfold pst;simp[h1]
   rw[this,c2C,if_pos rfl,if_pos h1];simp
  ·rw[if_neg h1]
   cases h2:ltB x s with
   | true =>
    have:pst s (o,false) x=(o++[x],false):=by unfold pst;simp[h1,h2]
    rw[this,if_pos rfl,f5q s r];simp
   | false =>
    have:pst s (o,false) x=(o++[s,x],true):=by unfold pst;simp[h1,h2]
    rw[this,c2C,if_pos rfl,if_neg (by simp)];simp
theorem d7G(l:List ByteArray)(s:ByteArray):c0r l s=d1a s l:=by
 have:=f5q s l []
 rw[g9M]at this
 unfold c0r c4D
 exact this
def Asc(l:List ByteArray):Prop:=l.Pairwise fun a b=>ltB a b=true
theorem c7r(s y:ByteArray):∀ l,y∈d1a s l→y=s∨y∈l
 | [],h => .inl (by simpa[d1a]using h)
 | x::r,h=>by
  rw[d1a]at h
  split at h
  ·exact .inr h
  ·split at h
   ·rcases g9y.1 h with h | h
    ·exact .inr (by simp[h])
    ·rcases c7r s y r h with h | h
     ·exact .inl h
     ·exact .inr (by simp[h])
   ·rcases g9y.1 h with h | h
    ·exact .inl h
    ·exact .inr h
theorem c2e(s:ByteArray):∀ l,Asc l→Asc (d1a s l)
 | [],_=>by simp[d1a,Asc]
 | x::r,h=>by
  have hc:=h0s.1 h
  rw[d1a]
  split
  ·exact h
  ·rename_i hne
   split
   ·rename_i hlt
    refine h0s.2 ⟨fun y hy=>?_,c2e s r hc.2⟩
    rcases c7r s y r hy with rfl | hy
    ·exact hlt
    ·exact hc.1 y hy
   ·rename_i hnl
    have hsx:ltB s x=true:=by
     cases hs:ltB s x with
     | true=>rfl
     | false=>exact absurd (b9b (by simpa using hnl) hs) hne
    refine h0s.2 ⟨fun y hy=>?_,h⟩
    rcases g9y.1 hy with rfl | hy
    ·exact hsx
    ·exact b7c hsx (hc.1 y hy)
theorem c6X(l:List ByteArray)(s:ByteArray):Asc (c7a l s):=by
 have key:∀ (l p:List ByteArray),Asc p→Asc (l.foldl c0r p):=by
  intro l
  induction l with
  | nil=>intro p h;exact h
  | cons x r ih =>
   intro p h
   rw[g9G]
   exact ih _ (by rw[d7G];exact c2e _ _ h)
 unfold c7a
 rw[d7G]
 exact c2e _ _ (key l [] List.Pairwise.nil)
theorem c3n:∀ {l1 l2:List ByteArray},Asc l1→Asc l2→(∀ n,n∈l1↔n∈l2)→l1=l2
 | [],[],_,_,_=>rfl
 | [],b::s,_,_,h=>by have:=(h b).2 (by simp);cases this
 | a::r,[],_,_,h=>by have:=(h a).1 (by simp);cases this
 | a::r,b::s,h1,h2,h=>by
  have c1:=h0s.1 h1
  have c2:=h0s.1 h2
  have hab:a=b:=by
   rcases g9y.1 ((h a).1 (by simp))with e | e
   ·exact e
   ·rcases g9y.1 ((h b).2 (by simp))with e' | e'
    ·exact e'.symm
    ·have:=b7c (c1.1 b e') (c2.1 a e)
     rw[b6b]at this;cases this
  subst hab
  rw[c3n c1.2 c2.2 fun n=>?_]
  constructor
  ·intro hn
   rcases g9y.1 ((h n).1 (by simp[hn]))with e | e
   ·subst e;have:=c1.1 n hn;rw[b6b]at this;cases this
   ·exact e
  ·intro hn
   rcases g9y.1 ((h n).2 (by simp[hn]))with e | e
   ·subst e;have:=c2.1 n hn;rw[b6b]at this;cases this
   ·exact e
def d7U(n:Nd):Prop:=∀ y∈b0o n,y.node=0
theorem c3G{y:Nd}(h:y.node=0)(hk:y.kind=2∨y.kind=5∨y.kind=7):b0I y.text=true:=by
 unfold Nd.node at h
 have h17:y.kind≠17:=by omega
 have hn:b2n y.kind y.text=true:=by
  unfold b2n
  rw[if_neg (by omega)]
  simp only[g9h]
  omega
 split at h
 ·cases h
 ·split at h
  ·cases h
  ·rename_i hv
   simp only[h17,decide_false,g9Q,Bool.not_false,g9O,g9U,hn,Bool.not_eq_true,Bool.not_eq_false']at hv
   exact hv
theorem c6p{s:ByteArray}(h:b0I s=true):s≠⟨#[]⟩:=by
 rintro rfl
 have:b0I ⟨#[]⟩=false:=by decide +kernel
 rw[this]at h;cases h
def d5A(d:Dl):Prop:=(d.kind=1→d.owner=⟨#[]⟩∧b0I d.name=true)∧(d.kind=4→b0I d.owner=true∧b0I d.name=true)
theorem d5k{d:Dl}(h1:d.kind≠1)(h4:d.kind≠4):d5A d:=⟨fun h=>absurd h h1,fun h=>absurd h h4⟩
theorem c9j:∀ (n:Nd) (u:Int) (m:Nat) (x:Ar),d7U n→(x.method=true→b0I x.cls=true)→∀ d∈b1J n u m x,d5A d:=by
 refine Nd.all fun k t g ks ih u m x hg hx d hd=>?_
 have hs:∀ l:List Nd,(∀ y∈l,∀ (u:Int) (m:Nat) (x:Ar),d7U y→(x.method=true→b0I x.cls=true)→∀ d∈b1J y u m x,d5A d) →
   ∀ (m:Nat) (x:Ar),(∀ y∈b0l l,y.node=0)→(x.method=true→b0I x.cls=true)→∀ d∈b0Z l u m x,d5A d:=by
  intro l
  induction l with
  | nil=>intro _ m x _ _ d hd;simp[b0Z]at hd
  | cons y r ihr =>
   intro h m x hn hx d hd
   rw[b0Z,g9A]at hd
   rcases hd with hd | hd
   ·have hgy:d7U y:=fun z hz=>hn z (by rw[b0l];exact g9Z _ hz)
    exact h y (by simp) u m x hgy hx d hd
   ·have hgr:∀ z∈b0l r,z.node=0:=fun z hz=>hn z (by rw[b0l];exact h0f _ hz)
    exact ihr (fun z hz=>h z (by simp[hz])) _ x hgr hx d hd
 have h0:(Nd.mk k t g ks).node=0:=hg _ (c7h _)
 rw[b1J,g9A]at hd
 rcases hd with hd | hd
 ·unfold b2S at hd
  have hv2:k=2→b0I t=true:=fun e=>c3G (y := .mk k t g ks) h0 (.inl e)
  split at hd
  ·rename_i h2
   split at hd
   ·rename_i hm
    simp only[Option.toList_some,g9N]at hd
    subst hd
    exact⟨fun h=>absurd (show(4:Int)=1 from h) (by decide),fun _=>⟨hx hm,hv2 h2⟩⟩
   ·simp only[Option.toList_some,g9N]at hd
    subst hd
    exact⟨fun _=>⟨rfl,hv2 h2⟩,fun h=>absurd (show(1:Int)=4 from h) (by decide)⟩
  ·repeat' split at hd
   all_goals first
    | (simp only[Option.toList_some,g9N]at hd;rw[hd];exact d5k (by simp) (by simp))
    | (simp at hd)
 ·have hgk:∀ y∈b0l ks,y.node=0:=fun y hy=>hg y (by rw[b0o];exact List.mem_cons_of_mem _ hy)
  refine hs ks ih _ _ hgk (fun hm=>?_) d hd
  unfold b4e at hm ⊢
  simp only[g9h]at hm
  exact c3G (y := .mk k t g ks) h0 (.inr (.inr hm))
theorem c8X:∀ (n:Nd) (u:Int) (m:Nat) (x:Ar),b8Y n→x.cls.size≤1000000→x.fn.size≤2000001→∀ d∈b1J n u m x,d.owner.size≤3000000∧d.name.size≤1000000:=by
 refine Nd.all fun k t g ks ih u m x hg hx hf d hd=>?_
 have hs:∀ l:List Nd,(∀ y∈l,∀ (u:Int) (m:Nat) (x:Ar),b8Y y→x.cls.size≤1000000→x.fn.size≤2000001→∀ d∈b1J y u m x,d.owner.size≤3000000∧d.name.size≤1000000) →
   ∀ (m:Nat) (x:Ar),(∀ y∈b0l l,y.text.size≤1000000)→x.cls.size≤1000000→x.fn.size≤2000001→∀ d∈b0Z l u m x,d.owner.size≤3000000∧d.name.size≤1000000:=by
  intro l
  induction l with
  | nil=>intro _ m x _ _ _ d hd;simp[b0Z]at hd
  | cons y r ihr =>
   intro h m x hn hx hf d hd
   rw[b0Z,g9A]at hd
   rcases hd with hd | hd
   ·exact h y (by simp) u m x (fun z hz=>hn z (by rw[b0l];simp[hz])) hx hf d hd
   ·exact ihr (fun z hz=>h z (by simp[hz])) _ x (fun z hz=>hn z (by rw[b0l];simp[hz])) hx hf d hd
 have ht:t.size≤1000000:=hg _ (c7h _)
 have h0:(⟨#[]⟩:ByteArray).size=0:=rfl
 rw[b1J,g9A]at hd
 rcases hd with hd | hd
 ·unfold b2S at hd
  repeat' split at hd
  all_goals first
   | (simp only[Option.toList_some,g9N]at hd;subst hd;exact⟨by first | omega | (simp only;omega) | exact Nat.zero_le _,ht⟩)
   | (simp at hd)
 ·refine hs ks ih _ _ (fun y hy=>hg y (by rw[b0o];simp[hy])) ?_ ?_ d hd
  ·exact ht
  ·unfold b4e
   simp only
   split
   ·split
    ·rw[ByteArray.size_append,ByteArray.size_append]
     have:(⟨#[46]⟩:ByteArray).size=1:=rfl
     omega
    ·omega
   ·exact hf
end Go.Vg
namespace Go.Proofs.YtighfcpaplmaiaaGreatDoor
open Go Go.Vg Go.Proofs
theorem b6y:∀ (u:List Un) (i:Nat) (d:Dl),d∈b0f u i→∃ x∈u,x.broken=false∧∃ j:Nat,d∈b1J x.tree j 0 Ar.none
 | [],i,d,h=>by simp[b0f]at h
 | x::r,i,d,h=>by
  rw[b0f,g9A]at h
  rcases h with h | h
  ·split at h
   ·cases h
   ·rename_i hb
    exact⟨x,by simp,by simpa using hb,i,h⟩
  ·obtain⟨y,hy,hb,j,hj⟩:=b6y r (i+1) d h
   exact⟨y,by simp[hy],hb,j,hj⟩
theorem b8W{u:List Un}(hu:b2T u):f3i u:=by
 intro d hd
 obtain⟨x,hx,hb,j,hj⟩:=b6y u 0 d hd
 exact c8X x.tree j 0 Ar.none (hu.2 x hx).2 (Nat.zero_le _) (Nat.zero_le _) d hj
end Go.Proofs.YtighfcpaplmaiaaGreatDoor
