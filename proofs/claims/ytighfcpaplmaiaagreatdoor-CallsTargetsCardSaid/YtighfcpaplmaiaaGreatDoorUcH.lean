import Derived.Test.YtighfcpaplmaiaaGreatDoorUcE
import Derived.Test.YtighfcpaplmaiaaGreatDoorTnF
set_option linter.unusedVariables false
set_option linter.unusedSimpArgs false
set_option maxRecDepth 20000
namespace Go.Vg
def d7R(k:ByteArray×ByteArray):List V:=[.str k.1,.str k.2]
theorem c6I:KeyA [0,0] d7R:=by
 refine⟨fun a b=>rfl,fun a b=>?_⟩
 obtain⟨a1,a2⟩:=a
 obtain⟨b1,b2⟩:=b
 simp only[d7R,eqL,eq1,h0b,Option.some.injEq]
 rw[h0g]
 simp
section
variable {α : Type} {l r : List α} {i : Nat} {y : α}
theorem b0d:(l++r)[l.length+i]? = r[i]?:=b3g
theorem b0b:(l++r)[l.length]? = r[0]?:=by have:=b3g (l:=l) (r:=r) (j:=0);simpa using this
theorem b0c:(l++r).set (l.length+i) y=l++r.set i y:=by rw[g9J _ _ (by omega)];congr 2;omega
theorem b0a:(l++r).set l.length y=l++r.set 0 y:=by rw[g9J _ _ (by omega)];congr 2;omega
end
def b8p:Option Sg→V
 | none => .agg [.slice .nil 0 [],.str ⟨#[]⟩,.bool false]
 | some s => .agg (s.enc++[.bool true])
theorem d5r(s:Sg):b1a s.enc=true:=by simp -implicitDefEqProofs only[Sg.enc,go_sem]
theorem f0G(o:Option Sg):(b8p o).pure=true:=by
 cases o with
 | none=>rfl
 | some s =>
  have h:=d5r s
  simp only[Sg.enc,b1a,h0b,g9g]at h
  simp only[b8p,Sg.enc,V.pure,b1a,g8X,g9M,h.1,h.2]
  rfl
end Go.Vg
namespace Go.Proofs.YtighfcpaplmaiaaGreatDoor
open Go Go.Vg Go.Proofs
abbrev KnM:=List ((Int×Int)×ByteArray)
abbrev SgM:=List ((ByteArray×ByteArray)×Option Sg)
abbrev AbM:=List (ByteArray×List ByteArray)
def c8G(M:KnM):List (V×V):=b3V (fun a => .agg (f0P a)) V.str M
def b5i(M:SgM):List (V×V):=b3V (fun a => .agg (d7R a)) b8p M
def c8R(M:AbM):List (V×V):=b3V V.str (fun l=>sl 9 (l.map b0p)) M
def ck4(D:List ((Int×Int)×(Int×Int)))(kn:KnM)(sg:SgM)(ab:AbM)(z:List VObj):List VObj := .map (c7T D) :: .map (c8G kn) :: .map (b5i sg) :: .map (c8R ab)::z
def ckF(u:List Un)(tb:List (List Rw))(ub:List Us)(n:Nat):List V:=[sl 70 (u.map Un.enc),sl 45 (tb.map b0q),.map n,sl 24 (ub.map atE),.map (n+1),.map (n+2),.map (n+3)]
section
variable {u : List Un} {tb : List (List Rw)} {ub : List Us} {n : Nat}
@[go_sem] theorem g4y:List.drop 1 (ckF u tb ub n)=sl 45 (tb.map b0q)::(ckF u tb ub n).tail.tail:=rfl
@[go_sem] theorem g7m:List.drop 2 (ckF u tb ub n)=[.map n,sl 24 (ub.map atE),.map (n+1),.map (n+2),.map (n+3)]:=rfl
@[go_sem] theorem c9w:List.drop 3 (ckF u tb ub n)=[sl 24 (ub.map atE),.map (n+1),.map (n+2),.map (n+3)]:=rfl
@[go_sem] theorem g6b:List.drop 4 (ckF u tb ub n)=[.map (n+1),.map (n+2),.map (n+3)]:=rfl
@[go_sem] theorem g5R:List.drop 5 (ckF u tb ub n)=[.map (n+2),.map (n+3)]:=rfl
@[go_sem] theorem g5c:List.drop 6 (ckF u tb ub n)=[.map (n+3)]:=rfl
@[go_sem] theorem f4B{K:V→Prop}:vHead (ckF u tb ub n) K=K (sl 70 (u.map Un.enc)):=rfl
end
theorem d8K:b2Q Tryz.prog 232=b8p none:=by kernel_rfl
theorem b8L:b3f Tryz.prog 230=some [0,0]:=by kernel_rfl
def mtS(u:List Un)(k:ByteArray×ByteArray):Option Sg:=(b1D u k.1 k.2).map fun d=>b2O ((b0e u).getD d.unit.toNat []) d.node.toNat
theorem c5O{sg:SgM}{c n:ByteArray}{K:V→Prop}:b1G env 232 (b1f [0,0] [.str c,.str n] (b5i sg) 0) true K=K (.tuple [((b1s sg (c,n)).map b8p).getD (b8p none),.bool (b1s sg (c,n)).isSome]) :=
 c6a (E:=env) (ve:=b8p) c6I (k:=(c,n)) d8K (by kernel_rfl)
theorem d6D{sg:SgM}{c n:ByteArray}{o:Option Sg}{h:List VObj}{id:Nat}{L:List VObj→Prop}:b3I h id (b5i sg) (.agg [.str c,.str n]) (b8p o) (b1f [0,0] [.str c,.str n] (b5i sg) 0) L=L (h.set id (.map (b5i (b3W sg (c,n) o)))) :=
 c7E (ve:=b8p) c6I (k:=(c,n)) (v:=o)
theorem d1P(k ka:Nat):∀ l r:List VObj,ltH k ka (l++r)=(ltH k ka l && ltH k ka r)
 | [],r=>by simp[ltH]
 | x::l,r=>by rw[g8X,ltH,ltH,d1P k ka l r,Bool.and_assoc]
theorem f9L(k ka:Nat)(D:List ((Int×Int)×(Int×Int)))(kn:KnM)(sg:SgM)(ab:AbM)(z:List VObj):ltH k ka (ck4 D kn sg ab z)=ltH k ka z:=by
 have h1:ltP k ka (c7T D)=true:=d7P k ka D
 have h2:ltP k ka (c8G kn)=true:=b7y (fun _=>rfl) (fun _=>rfl) k ka kn
 have h3:ltP k ka (b5i sg)=true:=b7y (fun _=>rfl) (fun _=>f0G _) k ka sg
 have h4:ltP k ka (c8R ab)=true:=b7y (fun _=>rfl) (fun l=>by simp -implicitDefEqProofs only[go_sem]) k ka ab
 simp only[ck4,ltH,VObj.lt,h1,h2,h3,h4,g9O]
theorem b0r.tidyCk{f:FuncId}{args:List V}{pre z:List VObj}{a:List Nat}{D:List ((Int×Int)×(Int×Int))}{kn:KnM}{sg:SgM}{ab:AbM}{K:b1z}
  (hc:b0r env f args (pre++ck4 D kn sg ab z) a fun v h' a'=>∃ kn' sg' ab' z' y,h'=pre++ck4 D kn' sg' ab' (z++z')∧a'=a++y∧(share v).pure=true∧K (share v) (pre++ck4 D kn' sg' ab' z) a) :
  b0r env f args (pre++ck4 D kn sg ab z) a K:=by
 refine b0r.tidy (hc.mono ?_)
 rintro v h' a' ⟨kn',sg',ab',z',y,rfl,rfl,hp,hk⟩
 refine⟨pre++ck4 D kn' sg' ab' z,z',y,by simp[ck4],rfl,by simp[ck4],hp,fun hl=>?_,hk⟩
 rw[d1P,f9L]at hl ⊢
 exact hl
def b6j:Option Sg→V
 | none => .tuple [.agg [sl 9 [],.str ⟨#[]⟩],.bool false]
 | some s => .tuple [.agg s.enc,.bool true]
theorem d7S{sg:SgM}{c n:ByteArray}{h:List VObj}{id:Nat}{L:List VObj→Prop}:b3I h id (b5i sg) (.agg [.str c,.str n]) (.agg [.slice .nil 0 [],.str ⟨#[]⟩,.bool false]) (b1f [0,0] [.str c,.str n] (b5i sg) 0) L=L (h.set id (.map (b5i (b3W sg (c,n) none)))):=d6D (o:=none)
theorem d8H{sg:SgM}{c n:ByteArray}{s:Sg}{h:List VObj}{id:Nat}{L:List VObj→Prop}:b3I h id (b5i sg) (.agg [.str c,.str n]) (.agg [sl 9 (s.params.map b0p),.str s.result,.bool true]) (b1f [0,0] [.str c,.str n] (b5i sg) 0) L=L (h.set id (.map (b5i (b3W sg (c,n) (some s))))):=d6D (o:=some s)
structure CkW(u:List Un):Prop where
 fit:b2T u
 br:∀ x∈u,x.broken=false
 gram:∀ l∈b0e u,gramL l
 fn:∀ d∈b0f u 0,(d.kind=1∨d.kind=4)→∃ un nd l,d.unit=((un:Nat):Int)∧d.node=((nd:Nat):Int)∧(b0e u)[un]? = some l∧nd<l.length∧(b0j l nd).kind=2
theorem d1N{l:List Dl}:∀ d∈b3w l,d∈l∧d.kind=4:=by
 have key:∀ (l M:List Dl),∀ d∈l.foldl d0b M,d∈M∨(d∈l∧d.kind=4):=by
  intro l
  induction l with
  | nil=>intro M d h;exact .inl h
  | cons x r ih =>
   intro M d h
   rcases ih _ d h with h | ⟨h1,h2⟩
   ·unfold d0b at h
    split at h
    ·rename_i hc
     rcases g9A.1 h with h | h
     ·exact .inl h
     ·have:=g9N.1 h
      subst this
      exact .inr ⟨by simp,hc.1⟩
    ·exact .inl h
   ·exact .inr ⟨by simp[h1],h2⟩
 intro d h
 rcases key l [] d h with h | h
 ·simp at h
 ·exact h
theorem b4A{u:List Un}{c n:ByteArray}{d:Dl}(h:b1D u c n=some d):d∈b0f u 0∧d.kind=4:=by
 unfold b1D c2z at h
 obtain⟨s,_,hs⟩:=List.exists_of_findSome?_eq_some h
 exact d1N d (g9V hs)
theorem c4X(u:List Un)(tb:List (List Rw))(ub:List Us)(n:Nat):(ckF u tb ub n).map jk1=ckG (sl 70 (u.map Un.enc)) (tb.map b0q) [.junk,sl 24 (ub.map atE),.junk,.junk,.junk]:=by
 simp -implicitDefEqProofs only[ckF,ckG,g9o,g9P,go_sem]
theorem b9W(u:List Un)(tb:List (List Rw))(ub:List Us):b1a (ckG (sl 70 (u.map Un.enc)) (tb.map b0q) [.junk,sl 24 (ub.map atE),.junk,.junk,.junk])=true:=by
 simp -implicitDefEqProofs only[ckG,go_sem,b0x,b1e,b5U]
 rfl
theorem b4S{tb:List (List Rw)}{un:Nat}{l:List Rw}(h:tb[un]? = some l):(tb.map b0q)[un]? = some [sl 48 (l.map Rw.enc)]:=by rw[g9q,h];rfl
theorem d0l(u:List Un)(tb:List (List Rw))(ub:List Us)(n:Nat){un i:Nat}{l:List Rw}(hu:tb[un]? = some l)(h:c0H l i):b0E env 148 [.fptr (ckF u tb ub n),.agg [.int .i64 un,.int .i64 i]] (.agg (b2O l i).enc) :=
 ⟨_,.inr (by simp only[g9o,g9P,jkA,c4X]),f3K _ _ _ un i l (b4S hu) h (b9W u tb ub)⟩
theorem b0E.callsS{E:Env}{f:FuncId}{args cargs:List V}{h:List VObj}{a:List Nat}{r:V}{K:b1z}(hp:b0E E f cargs r)(ha:args.map share=cargs)(hk:K r h a):b0r E f args h a K:=b0E.calls (ha ▸ hp) hk
theorem b4P{E:Env}{f:FuncId}{args cargs:List V}{h:List VObj}{a:List Nat}{r:V}{K:b1z}(hp:b0E E f cargs r)(ha:args.map share=cargs)(hk:K r h a):vPC E f args h a K:=⟨r,ha ▸ hp,hk⟩
def d7j:Wk := .one 0 (.one 1 (.one 2 (.br 3 (.one 4 (.one 5 (.stop))) (.br 4 (.one 3 (.one 5 (.stop))) (.stop)))))
theorem b7H(u:List Un)(hW:CkW u)(ub:List Us)(pre:List VObj)(D:List ((Int×Int)×(Int×Int)))(kn:KnM)(sg:SgM)(ab:AbM)(z:List VObj)(a:List Nat)(cls name:ByteArray)(hm:c5h (mtS u) sg){K:b1z}
  (hK:∀ sg',c5h (mtS u) sg'→K (b6j (mtS u (cls,name))) (pre++ck4 D kn sg' ab z) a) :
  b0r env 150 [.fptr (ckF u (b0e u) ub pre.length),.str cls,.str name] (pre++ck4 D kn sg ab z) a K:=by
 refine b0r.tidyCk ?_
 refine b0A (fn:=Tryz.f150) Tryz.func150 rfl (by rw[Tryz.ntmps150];simp) ?_
 simp -implicitDefEqProofs only[go_sem,Tryz.f150,ck4,b0d,b0b,b0c,b0a,g8V,g8W,g8X]
 refine b0h (cs:=[]) b0v (by kernel_rfl) ?_
 cases hg:b1s sg (cls,name)with
 | some o =>
  have ho:=hm _ _ hg
  subst ho
  cases hms:mtS u (cls,name)with
  | none =>
   simp -implicitDefEqProofs only[go_sem,b0d,b0b,b0c,b0a,g8V,g8W,g8X,b8L,c5O,hg,g9z,g9w,hms,b8p,g9H]
   refine b1g (cs:=[]) d7j b0v (by kernel_rfl) ?_
   simp -implicitDefEqProofs only[go_sem,b0d,b0b,b0c,b0a,g8V,g8W,g8X,d7j]
   rw[hms]at hK
   exact⟨kn,sg,ab,_,[],rfl,by simp,hK sg hm⟩
  | some s =>
   simp -implicitDefEqProofs only[go_sem,b0d,b0b,b0c,b0a,g8V,g8W,g8X,b8L,c5O,hg,g9z,g9w,hms,b8p,g9H,Sg.enc]
   refine b1g (cs:=[]) d7j b0v (by kernel_rfl) ?_
   simp -implicitDefEqProofs only[go_sem,b0d,b0b,b0c,b0a,g8V,g8W,g8X,d7j]
   rw[hms]at hK
   exact⟨kn,sg,ab,_,[],rfl,by simp,hK sg hm⟩
 | none =>
  simp -implicitDefEqProofs only[go_sem,b0d,b0b,b0c,b0a,g8V,g8W,g8X,b8L,c5O,hg,h0m,h0a,b8p,g9u]
  refine(c5p u hW.fit cls name).calls (by simp -implicitDefEqProofs only[go_sem]) ?_
  cases hlu:b1D u cls name with
  | none =>
   have hms:mtS u (cls,name)=none:=by simp only[mtS,hlu];rfl
   simp -implicitDefEqProofs only[go_sem,b0d,b0b,b0c,b0a,g8V,g8W,g8X,b2s,g9u]
   refine b0h (cs:=[]) b0v (by kernel_rfl) ?_
   simp -implicitDefEqProofs only[go_sem,b0d,b0b,b0c,b0a,g8V,g8W,g8X,b8L,d7S]
   refine b1g (cs:=[]) d7j b0v (by kernel_rfl) ?_
   simp -implicitDefEqProofs only[go_sem,b0d,b0b,b0c,b0a,g8V,g8W,g8X,d7j]
   rw[hms]at hK
   have hm':=hm.set (cls,name)
   rw[hms]at hm'
   exact⟨kn,_,ab,_,[],rfl,by simp,hK _ hm'⟩
  | some d =>
   obtain⟨hdm,hd4⟩:=b4A hlu
   obtain⟨un,nd,l,q1,q2,q3,q4,q5⟩:=hW.fn d hdm (.inr hd4)
   have hso:=(hW.gram l (g9f q3)).sign nd q4 q5
   have hms:mtS u (cls,name)=some (b2O l nd):=by
    simp only[mtS,hlu,g9z,q1,q2,g9j]
    rw[g8Z,q3];rfl
   simp -implicitDefEqProofs only[go_sem,b0d,b0b,b0c,b0a,g8V,g8W,g8X,b2s,g9H,g9w]
   rw[q1,q2]
   refine b0E.callsS (d0l u (b0e u) ub pre.length q3 hso) (by simp -implicitDefEqProofs only[go_sem]) ?_
   generalize b2O l nd=s at hms ⊢
   simp -implicitDefEqProofs only[go_sem,b0d,b0b,b0c,b0a,g8V,g8W,g8X,Sg.enc]
   refine b0h (cs:=[]) b0v (by kernel_rfl) ?_
   simp -implicitDefEqProofs only[go_sem,b0d,b0b,b0c,b0a,g8V,g8W,g8X,b8L,d8H]
   refine b1g (cs:=[]) d7j b0v (by kernel_rfl) ?_
   simp -implicitDefEqProofs only[go_sem,b0d,b0b,b0c,b0a,g8V,g8W,g8X,d7j]
   rw[hms]at hK
   have hm':=hm.set (cls,name)
   rw[hms]at hm'
   exact⟨kn,_,ab,_,[],rfl,by simp,hK _ hm'⟩
theorem d9E{ab:AbM}{c:ByteArray}{K:V→Prop}:b1G env 28 (b1t .string (.str c) (c8R ab) 0) true K=K (.tuple [((b1s ab c).map fun l=>sl 9 (l.map b0p)).getD (.slice .nil 0 []),.bool (b1s ab c).isSome]) :=
 f0p (E:=env) (ve:=fun l:List ByteArray=>sl 9 (l.map b0p)) (k:=c) (by kernel_rfl) (by kernel_rfl)
theorem f5k{ab:AbM}{c:ByteArray}{l:List ByteArray}{h:List VObj}{id:Nat}{L:List VObj→Prop}:b3I h id (c8R ab) (.str c) (sl 9 (l.map b0p)) (b1t .string (.str c) (c8R ab) 0) L=L (h.set id (.map (c8R (b3W ab c l)))) :=
 d7b (ve:=fun l:List ByteArray=>sl 9 (l.map b0p)) (k:=c) (v:=l)
theorem d2S(u:List Un)(hW:CkW u)(ub:List Us)(pre:List VObj)(D:List ((Int×Int)×(Int×Int)))(kn:KnM)(sg:SgM)(ab:AbM)(z:List VObj)(a:List Nat)(cls:ByteArray)(hm:c5h (b8z u) ab){K:b1z}
  (hK:∀ ab',c5h (b8z u) ab'→K (sl 9 ((b8z u cls).map b0p)) (pre++ck4 D kn sg ab' z) a) :
  b0r env 184 [.fptr (ckF u (b0e u) ub pre.length),.str cls] (pre++ck4 D kn sg ab z) a K:=by
 refine b0r.tidyCk ?_
 refine b0A (fn:=Tryz.f184) Tryz.func184 rfl (by rw[Tryz.ntmps184];simp) ?_
 simp -implicitDefEqProofs only[go_sem,Tryz.f184,ck4,b0d,b0b,b0c,b0a,g8V,g8W,g8X,d9E]
 cases hg:b1s ab cls with
 | some l =>
  have hl:=hm _ _ hg
  subst hl
  refine⟨fun h=>(by cases h),fun _=>⟨kn,sg,ab,[],[],by simp,by simp,?_,?_⟩⟩
  ·simp only[g9z,g9w]
   simp -implicitDefEqProofs only[go_sem]
  ·simp only[g9z,g9w]
   simp -implicitDefEqProofs only[go_sem]
   exact hK ab hm
 | none =>
  refine⟨fun _=>?_,fun h=>(by cases h)⟩
  refine(d9q u hW.fit cls).calls (by simp -implicitDefEqProofs only[go_sem]) ?_
  simp -implicitDefEqProofs only[go_sem,b0d,b0b,b0c,b0a,g8V,g8W,g8X,f5k]
  exact⟨kn,sg,_,[],[],by simp[ck4],by simp,hK _ (hm.set cls)⟩
open Go Go.Vg Go.Proofs
def tI:ByteArray:=⟨#[105,110,116]⟩
def tB:ByteArray:=⟨#[98,111,111,108]⟩
def rwK(tb:List (List Rw))(k:Int×Int):Rw:=b0j (tb.getD k.1.toNat []) k.2.toNat
def kdK(tb:List (List Rw))(k:Int×Int)(j:Nat):Int×Int:=(k.1,(b1d (tb.getD k.1.toNat []) k.2.toNat j:Nat))
def rcT(s:ByteArray):ByteArray:=if s=tI∨s=tB then⟨#[]⟩else s
def c9r(tb:List (List Rw))(r:Int×Int→ByteArray)(d:Int×Int):ByteArray:=if(rwK tb d).kind=4 then(rwK tb (kdK tb d 0)).text else if(rwK tb d).kind=10 then r (kdK tb d 0)else if(rwK tb d).kind=9 then b4d (tb.getD d.1.toNat []) (tb.getD d.1.toNat []).length (b1d (tb.getD d.1.toNat []) d.2.toNat 0)else⟨#[]⟩
def tyB(tb:List (List Rw))(D:List ((Int×Int)×(Int×Int)))(mt:ByteArray×ByteArray→Option Sg)(r:Int×Int→ByteArray)(k:Int×Int):ByteArray :=
 if(rwK tb k).kind=17 then tI else if(rwK tb k).kind=18 then tB
 else if(rwK tb k).kind=19 then(match b1s D k with | some d=>c9r tb r d | none=>⟨#[]⟩)
 else if(rwK tb k).kind=20 then(match b1s D k with | some d=>(b2O (tb.getD d.1.toNat []) d.2.toNat).result | none=>⟨#[]⟩)
 else if(rwK tb k).kind=21 then(match mt (rcT (r (kdK tb k 0)),(rwK tb k).text)with | some s=>s.result | none=>⟨#[]⟩)
 else if(rwK tb k).kind=22 then(rwK tb k).text
 else if(rwK tb k).kind=23 then(match b8I (tb.getD k.1.toNat []) k.2.toNat with | some p=>c6Q (tb.getD k.1.toNat []) p | none=>⟨#[]⟩)
 else if(rwK tb k).kind=24∨(rwK tb k).kind=25 then opT (rwK tb k).text
 else if(rwK tb k).kind=26 then r (kdK tb k 0)else⟨#[]⟩
def tyN(tb:List (List Rw))(D:List ((Int×Int)×(Int×Int)))(mt:ByteArray×ByteArray→Option Sg):Nat→Int×Int→ByteArray
 | 0,_=>⟨#[]⟩
 | f+1,k=>tyB tb D mt (tyN tb D mt f) k
def tgt(tb:List (List Rw))(D:List ((Int×Int)×(Int×Int)))(k q:Int×Int):Prop :=
 (((rwK tb k).kind=21∨(rwK tb k).kind=26)∧q=kdK tb k 0)∨((rwK tb k).kind=19∧∃ d,b1s D k=some d∧(rwK tb d).kind=10∧q=kdK tb d 0)
theorem c4w{tb:List (List Rw)}{D:List ((Int×Int)×(Int×Int))}{mt:ByteArray×ByteArray→Option Sg}{r r':Int×Int→ByteArray}{k:Int×Int}(h:∀ q,tgt tb D k q→r q=r' q):tyB tb D mt r k=tyB tb D mt r' k:=by
 unfold tyB
 by_cases h19:(rwK tb k).kind=19
 ·rw[if_neg (by omega),if_neg (by omega),if_pos h19,if_neg (by omega),if_neg (by omega),if_pos h19]
  cases hd:b1s D k with
  | none=>rfl
  | some d =>
   simp only
   unfold c9r
   by_cases h10:(rwK tb d).kind=10
   ·rw[if_neg (by omega),if_pos h10,if_neg (by omega),if_pos h10]
    exact h _ (.inr ⟨h19,d,hd,h10,rfl⟩)
   ·rw[if_neg h10,if_neg h10]
 ·by_cases h21:(rwK tb k).kind=21
  ·have:=h _ (.inl ⟨.inl h21,rfl⟩)
   simp[h21,this]
  ·by_cases h26:(rwK tb k).kind=26
   ·have:=h _ (.inl ⟨.inr h26,rfl⟩)
    simp[h26,this]
   ·simp only[h19,h21,h26,if_false]
def Val(tb:List (List Rw))(k:Int×Int):Prop:=∃ (un i:Nat) (l:List Rw),k=((un:Int),(i:Int))∧tb[un]? = some l∧i<l.length
def b2q(u:List Un):List ((Int×Int)×(Int×Int)):=c4W (b2J (b1Y (b0f u 0)) (b0e u) 0)
structure CkT(u:List Un):Prop extends CkW u where
 mu:∃ μ:Int×Int→Nat,∀ k,Val (b0e u) k→μ k<((b0e u).getD k.1.toNat []).length∧∀ q,tgt (b0e u) (b2q u) k q→Val (b0e u) q∧q.1=k.1∧μ q<μ k
 d19:∀ k d,Val (b0e u) k→(rwK (b0e u) k).kind=19∨(rwK (b0e u) k).kind=11→b1s (b2q u) k=some d→Val (b0e u) d∧((rwK (b0e u) d).kind=4∨(rwK (b0e u) d).kind=9∨(rwK (b0e u) d).kind=10)
 d20:∀ k d,Val (b0e u) k→(rwK (b0e u) k).kind=20→b1s (b2q u) k=some d→Val (b0e u) d∧(rwK (b0e u) d).kind=2
def tyS(u:List Un)(k:Int×Int):ByteArray:=tyN (b0e u) (b2q u) (mtS u) (((b0e u).getD k.1.toNat []).length+1) k
theorem c9o{u:List Un}{μ:Int×Int→Nat}(hμ:∀ k,Val (b0e u) k→μ k<((b0e u).getD k.1.toNat []).length∧∀ q,tgt (b0e u) (b2q u) k q→Val (b0e u) q∧q.1=k.1∧μ q<μ k) :
  ∀ (f:Nat) (k:Int×Int),Val (b0e u) k→μ k<f→tyN (b0e u) (b2q u) (mtS u) f k=tyN (b0e u) (b2q u) (mtS u) (f+1) k:=by
 intro f
 induction f with
 | zero=>intro k _ h;omega
 | succ f ih =>
  intro k hk h
  rw[tyN,tyN]
  refine c4w fun q hq=>?_
  obtain⟨h1,h2,h3⟩:=(hμ k hk).2 q hq
  exact ih q h1 (by omega)
theorem d9P{u:List Un}{μ:Int×Int→Nat}(hμ:∀ k,Val (b0e u) k→μ k<((b0e u).getD k.1.toNat []).length∧∀ q,tgt (b0e u) (b2q u) k q→Val (b0e u) q∧q.1=k.1∧μ q<μ k)
  {k:Int×Int} (hk:Val (b0e u) k) {f:Nat} (h:((b0e u).getD k.1.toNat []).length≤f):tyN (b0e u) (b2q u) (mtS u) f k=tyS u k:=by
 have key:∀ n f,μ k<f→tyN (b0e u) (b2q u) (mtS u) (f+n) k=tyN (b0e u) (b2q u) (mtS u) f k:=by
  intro n
  induction n with
  | zero=>intro f _;rfl
  | succ n ih=>intro f hf;rw[←h0n,←c9o hμ _ k hk (by omega),ih f hf]
 have hm:=(hμ k hk).1
 have h1:=key (f - ((b0e u).getD k.1.toNat []).length) ((b0e u).getD k.1.toNat []).length hm
 have h2:=key 1 ((b0e u).getD k.1.toNat []).length hm
 rw[show((b0e u).getD k.1.toNat []).length+(f - ((b0e u).getD k.1.toNat []).length)=f by omega]at h1
 rw[h1,←h2];rfl
theorem d2u{u:List Un}(hT:CkT u){k:Int×Int}(hk:Val (b0e u) k):tyS u k=tyB (b0e u) (b2q u) (mtS u) (tyS u) k:=by
 obtain⟨μ,hμ⟩:=hT.mu
 show tyB _ _ _ (tyN _ _ _ _) k=_
 refine c4w fun q hq=>?_
 obtain⟨h1,h2,h3⟩:=(hμ k hk).2 q hq
 exact d9P hμ h1 (by rw[h2];exact g9m _)
section
variable (u : List Un) (tb : List (List Rw)) (ub : List Us) (n : Nat) {un i : Nat} {l : List Rw}
theorem b5o(hu:tb[un]? = some l)(hi:i<l.length):b0E env 91 [.fptr (ckF u tb ub n),.agg [.int .i64 un,.int .i64 i]] (.agg (b0j l i).enc) :=
 ⟨_,.inr (by simp only[g9o,g9P,jkA,c4X]),b9g _ _ _ un i l (b4S hu) hi (b9W u tb ub)⟩
theorem d3g{k:Nat}(hu:tb[un]? = some l)(hi:i<l.length)(hk:k<(b0j l i).kids.length):b0E env 146 [.fptr (ckF u tb ub n),.agg [.int .i64 un,.int .i64 i],.int .i64 k] (.agg [.int .i64 un,.int .i64 (b1d l i k)]) :=
 ⟨_,.inr (by simp only[g9o,g9P,jkA,c4X]),c4P _ _ _ un i k l (b4S hu) hi hk (b9W u tb ub)⟩
theorem c0l(hu:tb[un]? = some l)(hi:i<l.length)(hr:rowsOK l):b0E env 147 [.fptr (ckF u tb ub n),.agg [.int .i64 un,.int .i64 i]] (.tuple [.agg [.int .i64 (if(b8I l i).isSome then(un:Int)else 0),.int .i64 ((b8I l i).getD 0:Nat)],.bool (b8I l i).isSome]) :=
 ⟨_,.inr (by simp only[g9o,g9P,jkA,c4X]),c9f _ _ _ un i l (b4S hu) hi hr (b9W u tb ub)⟩
theorem d2Z(hu:tb[un]? = some l)(hi:i<l.length)(hr:rowsOK l)(h0:0≤(b0j l i).parent):b0E env 153 [.fptr (ckF u tb ub n),.agg [.int .i64 un,.int .i64 i]] (.str (c6Q l i)) :=
 ⟨_,.inr (by simp only[g9o,g9P,jkA,c4X]),f0D _ _ _ un i l (b4S hu) hi hr h0 (b9W u tb ub)⟩
theorem f5W(hu:tb[un]? = some l)(hi:i<l.length)(hg:gramL l):b0E env 186 [.fptr (ckF u tb ub n),.agg [.int .i64 un,.int .i64 i]] (.str (b4d l l.length i)) :=
 ⟨_,.inr (by simp only[g9o,g9P,jkA,c4X]),d9F _ _ _ un i l (b4S hu) hi hg (b9W u tb ub)⟩
theorem d1O(hu:tb[un]? = some l)(hi:i<l.length)(hg:gramL l):b0E env 154 [.fptr (ckF u tb ub n),.agg [.int .i64 un,.int .i64 i]] (.bool (b1T l l.length i)) :=
 ⟨_,.inr (by simp only[g9o,g9P,jkA,c4X]),c8a _ _ _ un l (b4S hu) hg (b9W u tb ub) l.length i hi (by omega)⟩
end
structure Mems(u:List Un)(kn:KnM)(sg:SgM)(ab:AbM):Prop where
 kn:c5h (tyS u) kn
 sg:c5h (mtS u) sg
 ab:c5h (b8z u) ab
def b5C(u:List Un)(ub:List Us)(pre:List VObj)(f:FuncId)(args:List V)(v:V):Prop:=∀ (kn:KnM) (sg:SgM) (ab:AbM) (z:List VObj) (a:List Nat) (K:b1z),Mems u kn sg ab →
 (∀ kn' sg' ab',Mems u kn' sg' ab'→K v (pre++ck4 (b2q u) kn' sg' ab' z) a)→b0r env f (.fptr (ckF u (b0e u) ub pre.length)::args) (pre++ck4 (b2q u) kn sg ab z) a K
def b6C(k:Int×Int):V := .agg [.int .i64 k.1,.int .i64 k.2]
def d7X(u:List Un)(ub:List Us)(pre:List VObj)(k:Int×Int):Prop:=b5C u ub pre 60 [b6C k] (.str (tyS u k))
theorem b0T{tb:List (List Rw)}{un i:Nat}{l:List Rw}(h:tb[un]? = some l):rwK tb ((un:Int),(i:Int))=b0j l i:=by
 simp[rwK,g8Z,h]
theorem b3y{tb:List (List Rw)}{un i j:Nat}{l:List Rw}(h:tb[un]? = some l):kdK tb ((un:Int),(i:Int)) j=((un:Int),((b1d l i j:Nat):Int)):=by
 simp[kdK,g8Z,h]
theorem b5v{tb:List (List Rw)}{un:Nat}{l:List Rw}(h:tb[un]? = some l):tb.getD ((un:Int)).toNat []=l:=by
 simp[g8Z,h]
theorem b5s{l:List Rw}(hg:gramL l){i p:Nat}(hi:i<l.length)(h:b8I l i=some p):p<l.length∧(b0j l p).kind=2∧0≤(b0j l p).parent:=by
 have key:∀ (f:Nat) (k:Int),k<l.length→upF l f k=some p→p<l.length∧(b0j l p).kind=2:=by
  intro f
  induction f with
  | zero=>intro k _ h;cases h
  | succ f ih =>
   intro k hk h
   rw[upF]at h
   split at h
   ·cases h
   rename_i h0
   have hkl:k.toNat<l.length:=by omega
   split at h
   ·rename_i h2
    cases h
    exact⟨hkl,h2⟩
   ·exact ih _ (by have:=(hg.ok.par _ hkl).1;omega) h
 have hp:=(hg.ok.par i hi).1
 obtain⟨h1,h2⟩:=key _ _ (by omega) h
 refine⟨h1,h2,?_⟩
 rcases Nat.eq_zero_or_pos p with h0 | h0
 ·subst h0
  rw[hg.root h1]at h2
  omega
 ·obtain⟨q,hq,_⟩:=hg.par p h1 h0
  omega
theorem c3d{u:List Un}(hT:CkT u)(ub:List Us)(pre:List VObj){d:Int×Int}(hd:Val (b0e u) d)(hk:(rwK (b0e u) d).kind=4∨(rwK (b0e u) d).kind=9∨(rwK (b0e u) d).kind=10)(ho:(rwK (b0e u) d).kind=10→d7X u ub pre (kdK (b0e u) d 0)) :
  b5C u ub pre 144 [b6C d] (.str (c9r (b0e u) (tyS u) d)):=by
 obtain⟨un,i,l,rfl,hl,hi⟩:=hd
 have hg:=hT.gram l (g9f hl)
 have hle:=hg.least i hi
 rw[b0T hl]at hk ho
 intro kn sg ab z a K hm hK
 refine b0r.tidyCk ?_
 refine b0A (fn:=Tryz.f144) Tryz.func144 rfl (by rw[Tryz.ntmps144];simp) ?_
 rw[c9r,b0T hl,b3y hl,b5v hl,g9j]at hK
 rw[b3y hl]at ho
 rcases hk with hk | hk | hk
 ·rw[if_pos hk,b0T hl]at hK
  have hk1:0<(b0j l i).kids.length:=by rw[hk]at hle;simp[b0U]at hle;omega
  have hkd:=hg.kid i hi 0 hk1
  simp -implicitDefEqProofs only[go_sem,Tryz.f144,b6C,ck4,b0d,b0b,b0c,b0a,g8V,g8W,g8X]
  refine b0E.callsS (b5o u (b0e u) ub pre.length hl hi) (by simp -implicitDefEqProofs only[go_sem]) ?_
  simp -implicitDefEqProofs only[go_sem,b0d,b0b,b0c,b0a,g8V,g8W,g8X,hk]
  refine b0E.callsS (d3g u (b0e u) ub pre.length (k:=0) hl hi hk1) (by simp -implicitDefEqProofs only[go_sem];rfl) ?_
  simp -implicitDefEqProofs only[go_sem,b0d,b0b,b0c,b0a,g8V,g8W,g8X]
  refine b0E.callsS (b5o u (b0e u) ub pre.length hl hkd.2.1) (by simp -implicitDefEqProofs only[go_sem]) ?_
  simp -implicitDefEqProofs only[go_sem,b0d,b0b,b0c,b0a,g8V,g8W,g8X]
  exact⟨kn,sg,ab,_,[],rfl,by simp,hK _ _ _ hm⟩
 ·rw[if_neg (by omega),if_neg (by omega),if_pos hk]at hK
  have hk1:0<(b0j l i).kids.length:=by rw[hk]at hle;simp[b0U]at hle;omega
  have hkd:=hg.kid i hi 0 hk1
  simp -implicitDefEqProofs only[go_sem,Tryz.f144,b6C,ck4,b0d,b0b,b0c,b0a,g8V,g8W,g8X]
  refine b0E.callsS (b5o u (b0e u) ub pre.length hl hi) (by simp -implicitDefEqProofs only[go_sem]) ?_
  simp -implicitDefEqProofs only[go_sem,b0d,b0b,b0c,b0a,g8V,g8W,g8X,hk]
  refine b0E.callsS (d3g u (b0e u) ub pre.length (k:=0) hl hi hk1) (by simp -implicitDefEqProofs only[go_sem];rfl) ?_
  simp -implicitDefEqProofs only[go_sem,b0d,b0b,b0c,b0a,g8V,g8W,g8X]
  refine b0E.callsS (f5W u (b0e u) ub pre.length hl hkd.2.1 hg) (by simp -implicitDefEqProofs only[go_sem]) ?_
  simp -implicitDefEqProofs only[go_sem,b0d,b0b,b0c,b0a,g8V,g8W,g8X]
  exact⟨kn,sg,ab,_,[],rfl,by simp,hK _ _ _ hm⟩
 ·rw[if_neg (by omega),if_pos hk]at hK
  have hk1:0<(b0j l i).kids.length:=by rw[hk]at hle;simp[b0U]at hle;omega
  have hkd:=hg.kid i hi 0 hk1
  simp -implicitDefEqProofs only[go_sem,Tryz.f144,b6C,ck4,b0d,b0b,b0c,b0a,g8V,g8W,g8X]
  refine b0E.callsS (b5o u (b0e u) ub pre.length hl hi) (by simp -implicitDefEqProofs only[go_sem]) ?_
  simp -implicitDefEqProofs only[go_sem,b0d,b0b,b0c,b0a,g8V,g8W,g8X,hk]
  refine b0E.callsS (d3g u (b0e u) ub pre.length (k:=0) hl hi hk1) (by simp -implicitDefEqProofs only[go_sem];rfl) ?_
  simp -implicitDefEqProofs only[go_sem,b0d,b0b,b0c,b0a,g8V,g8W,g8X]
  refine ho hk kn sg ab _ _ _ hm ?_
  intro kn' sg' ab' hm'
  simp -implicitDefEqProofs only[go_sem,ck4,b0d,b0b,b0c,b0a,g8V,g8W,g8X]
  exact⟨kn',sg',ab',_,[],rfl,by simp,hK _ _ _ hm'⟩
theorem c3H{u:List Un}(ub:List Us)(pre:List VObj){un i:Nat}{l:List Rw}(hl:(b0e u)[un]? = some l)(hi:i<l.length)(hk1:0<(b0j l i).kids.length)(ho:d7X u ub pre ((un:Int),((b1d l i 0:Nat):Int))) :
  b5C u ub pre 151 [.agg [.int .i64 un,.int .i64 i]] (.str (rcT (tyS u ((un:Int),((b1d l i 0:Nat):Int))))):=by
 intro kn sg ab z a K hm hK
 refine b0r.tidyCk ?_
 refine b0A (fn:=Tryz.f151) Tryz.func151 rfl (by rw[Tryz.ntmps151];simp) ?_
 simp -implicitDefEqProofs only[go_sem,Tryz.f151,ck4,b0d,b0b,b0c,b0a,g8V,g8W,g8X]
 refine b0E.callsS (d3g u (b0e u) ub pre.length (k:=0) hl hi hk1) (by simp -implicitDefEqProofs only[go_sem];rfl) ?_
 simp -implicitDefEqProofs only[go_sem,b0d,b0b,b0c,b0a,g8V,g8W,g8X]
 refine ho kn sg ab _ _ _ hm ?_
 intro kn' sg' ab' hm'
 simp -implicitDefEqProofs only[go_sem,ck4,b0d,b0b,b0c,b0a,g8V,g8W,g8X]
 have hfin:∀ s,rcT (tyS u ((un:Int),((b1d l i 0:Nat):Int)))=s→K (.str s) (pre++ck4 (b2q u) kn' sg' ab' z) a:=fun s h=>h ▸ hK _ _ _ hm'
 generalize tyS u ((un:Int),((b1d l i 0:Nat):Int))=s at hfin ⊢
 refine⟨fun h1=>⟨fun h2=>?_,fun h2=>?_⟩,fun h1=>?_⟩
 ·exact⟨kn',sg',ab',_,[],rfl,by simp,hfin _ (by rw[rcT,if_pos (.inr h2)])⟩
 ·exact⟨kn',sg',ab',_,[],rfl,by simp,hfin _ (by rw[rcT,if_neg (fun h=>h.elim h1 h2)])⟩
 ·exact⟨kn',sg',ab',_,[],rfl,by simp,hfin _ (by rw[rcT,if_pos (.inl h1)])⟩
theorem b6p{D:List ((Int×Int)×(Int×Int))}{a b:Int}{K:V→Prop}:b1G env 24 (b1f [1,1] [.int .i64 a,.int .i64 b] (c7T D) 0) true K=K (.tuple [((b1s D (a,b)).map b6C).getD (.agg [.int .i64 0,.int .i64 0]),.bool (b1s D (a,b)).isSome]) :=
 c6a (E:=env) (ve:=fun a => .agg (f0P a)) c1I (k:=(a,b)) (by kernel_rfl) (by kernel_rfl)
theorem c9Z{M:KnM}{a b:Int}{K:V→Prop}:b1G env 9 (b1f [1,1] [.int .i64 a,.int .i64 b] (c8G M) 0) true K=K (.tuple [((b1s M (a,b)).map V.str).getD (.str ⟨#[]⟩),.bool (b1s M (a,b)).isSome]) :=
 c6a (E:=env) (ve:=V.str) c1I (k:=(a,b)) (by kernel_rfl) (by kernel_rfl)
theorem d7v{M:KnM}{a b:Int}{s:ByteArray}{h:List VObj}{id:Nat}{L:List VObj→Prop}:b3I h id (c8G M) (.agg [.int .i64 a,.int .i64 b]) (.str s) (b1f [1,1] [.int .i64 a,.int .i64 b] (c8G M) 0) L=L (h.set id (.map (c8G (b3W M (a,b) s)))) :=
 c7E (ve:=V.str) c1I (k:=(a,b)) (v:=s)
theorem d6j{u:List Un}(ub:List Us)(pre:List VObj){k:Int×Int}(hf:b5C u ub pre 96 [b6C k] (.str (tyS u k))):d7X u ub pre k:=by
 intro kn sg ab z a K hm hK
 obtain⟨un,i⟩:=k
 refine b0r.tidyCk ?_
 refine b0A (fn:=Tryz.f60) Tryz.func60 rfl (by rw[Tryz.ntmps60];simp) ?_
 simp -implicitDefEqProofs only[go_sem,Tryz.f60,b6C,ck4,b0d,b0b,b0c,b0a,g8V,g8W,g8X]
 refine b0h (cs:=[]) b0v (by kernel_rfl) ?_
 cases hg:b1s kn (un,i)with
 | some s =>
  have hs:=hm.kn _ _ hg
  subst hs
  simp -implicitDefEqProofs only[go_sem,b0d,b0b,b0c,b0a,g8V,g8W,g8X,b1M,c9Z,hg,g9z,g9w,g9H]
  exact⟨kn,sg,ab,_,[],rfl,by simp,hK _ _ _ hm⟩
 | none =>
  simp -implicitDefEqProofs only[go_sem,b0d,b0b,b0c,b0a,g8V,g8W,g8X,b1M,c9Z,hg,h0m,h0a,g9u]
  refine hf kn sg ab _ _ _ hm ?_
  intro kn' sg' ab' hm'
  simp -implicitDefEqProofs only[go_sem,ck4,b0d,b0b,b0c,b0a,g8V,g8W,g8X,b1M,d7v]
  refine b0h (cs:=[]) b0v (by kernel_rfl) ?_
  simp -implicitDefEqProofs only[go_sem,b0d,b0b,b0c,b0a,g8V,g8W,g8X,b1M,d7v]
  exact⟨_,sg',ab',_,[],rfl,by simp,hK _ _ _ ⟨hm'.kn.set (un,i),hm'.sg,hm'.ab⟩⟩
def b8e:Wk := .one 0 (.one 1 (.one 2 (.one 4 (.br 3 (.one 5 (.br 6 (.one 7 (.one 8 (.one 9 (.one 10 (.one 11 (.one 12 (.stop))))))) (.br 10 (.one 6 (.one 7 (.one 8 (.one 9 (.one 11 (.one 12 (.stop))))))) (.stop)))) (.br 5 (.br 3 (.br 6 (.one 7 (.one 8 (.one 9 (.one 10 (.one 11 (.one 12 (.stop))))))) (.br 10 (.one 6 (.one 7 (.one 8 (.one 9 (.one 11 (.one 12 (.stop))))))) (.stop))) (.br 10 (.one 3 (.one 6 (.one 7 (.one 8 (.one 9 (.one 11 (.one 12 (.stop)))))))) (.stop))) (.br 10 (.br 3 (.one 5 (.one 6 (.one 7 (.one 8 (.one 9 (.one 11 (.one 12 (.stop)))))))) (.br 5 (.one 3 (.one 6 (.one 7 (.one 8 (.one 9 (.one 11 (.one 12 (.stop)))))))) (.stop))) (.stop)))))))
theorem g3g{u:List Un}(hT:CkT u)(ub:List Us)(pre:List VObj){k:Int×Int}(hk:Val (b0e u) k)(ho:∀ q,tgt (b0e u) (b2q u) k q→d7X u ub pre q):b5C u ub pre 96 [b6C k] (.str (tyS u k)):=by
 intro kn sg ab z a K hm hK
 rw[d2u hT hk]at hK
 have hd19:=hT.d19 k
 have hd20:=hT.d20 k
 obtain⟨un,i,l,rfl,hl,hi⟩:=hk
 have hvk:Val (b0e u) ((un:Int),(i:Int)):=⟨un,i,l,rfl,hl,hi⟩
 have hg:=hT.gram l (g9f hl)
 have hle:=hg.least i hi
 have hro:=hg.ok
 unfold tgt at ho
 rw[tyB,b0T hl,b5v hl,g9j]at hK
 rw[b0T hl]at hd19 hd20 ho
 rw[b3y hl]at ho hK
 have hrr:=b0F hi
 refine b0r.tidyCk ?_
 refine b0A (fn:=Tryz.f96) Tryz.func96 rfl (by rw[Tryz.ntmps96];simp) ?_
 have hdone:∀ s:ByteArray,(∀ kn' sg' ab',Mems u kn' sg' ab'→K (.str s) (pre++ck4 (b2q u) kn' sg' ab' z) a)→∀ kn' sg' ab' z' y,Mems u kn' sg' ab'→∃ kn'' sg'' ab'' z'' y',(pre++ck4 (b2q u) kn' sg' ab' (z++z'))=pre++ck4 (b2q u) kn'' sg'' ab'' (z++z'')∧a++y=a++y'∧K (.str s) (pre++ck4 (b2q u) kn'' sg'' ab'' z) a :=
  fun s h kn' sg' ab' z' y hm'=>⟨kn',sg',ab',z',y,rfl,rfl,h _ _ _ hm'⟩
 by_cases h17:(b0j l i).kind=17
 ·simp only[h17,if_true]at hK
  simp -implicitDefEqProofs only[go_sem,Tryz.f96,b6C,ck4,b0d,b0b,b0c,b0a,g8V,g8W,g8X]
  refine b0E.callsS (b5o u (b0e u) ub pre.length hl hi) (by simp -implicitDefEqProofs only[go_sem]) ?_
  simp -implicitDefEqProofs only[go_sem,b0d,b0b,b0c,b0a,g8V,g8W,g8X,h17]
  exact⟨kn,sg,ab,_,[],rfl,by simp,hK _ _ _ hm⟩
 by_cases h18:(b0j l i).kind=18
 ·rw[if_neg h17,if_pos h18]at hK
  simp -implicitDefEqProofs only[go_sem,Tryz.f96,b6C,ck4,b0d,b0b,b0c,b0a,g8V,g8W,g8X]
  refine b0E.callsS (b5o u (b0e u) ub pre.length hl hi) (by simp -implicitDefEqProofs only[go_sem]) ?_
  simp -implicitDefEqProofs only[go_sem,b0d,b0b,b0c,b0a,g8V,g8W,g8X,h18]
  exact⟨kn,sg,ab,_,[],rfl,by simp,hK _ _ _ hm⟩
 by_cases h19:(b0j l i).kind=19
 ·rw[if_neg h17,if_neg h18,if_pos h19]at hK
  simp -implicitDefEqProofs only[go_sem,Tryz.f96,b6C,ck4,b0d,b0b,b0c,b0a,g8V,g8W,g8X]
  refine b0E.callsS (b5o u (b0e u) ub pre.length hl hi) (by simp -implicitDefEqProofs only[go_sem]) ?_
  simp -implicitDefEqProofs only[go_sem,b0d,b0b,b0c,b0a,g8V,g8W,g8X,h19]
  refine b0h (cs:=[]) b0v (by kernel_rfl) ?_
  cases hd:b1s (b2q u) ((un:Int),(i:Int))with
  | none =>
   simp -implicitDefEqProofs only[go_sem,b0d,b0b,b0c,b0a,g8V,g8W,g8X,b1M,b6p,hd,h0m,h0a,g9u]
   rw[hd]at hK
   exact⟨kn,sg,ab,_,[],rfl,by simp,hK _ _ _ hm⟩
  | some d =>
   obtain⟨hdv,hdk⟩:=hd19 d hvk (.inl h19) hd
   have hV:=c3d hT ub pre hdv hdk fun h10=>ho _ (.inr ⟨h19,d,hd,h10,rfl⟩)
   rw[hd]at hK
   simp -implicitDefEqProofs only[go_sem,b0d,b0b,b0c,b0a,g8V,g8W,g8X,b1M,b6p,hd,g9z,g9w,g9H,b6C]
   refine hV kn sg ab _ _ _ hm ?_
   intro kn' sg' ab' hm'
   simp -implicitDefEqProofs only[go_sem,ck4,b0d,b0b,b0c,b0a,g8V,g8W,g8X]
   exact⟨kn',sg',ab',_,[],rfl,by simp,hK _ _ _ hm'⟩
 by_cases h20:(b0j l i).kind=20
 ·rw[if_neg h17,if_neg h18,if_neg h19,if_pos h20]at hK
  simp -implicitDefEqProofs only[go_sem,Tryz.f96,b6C,ck4,b0d,b0b,b0c,b0a,g8V,g8W,g8X]
  refine b0E.callsS (b5o u (b0e u) ub pre.length hl hi) (by simp -implicitDefEqProofs only[go_sem]) ?_
  simp -implicitDefEqProofs only[go_sem,b0d,b0b,b0c,b0a,g8V,g8W,g8X,h20]
  refine b0h (cs:=[]) b0v (by kernel_rfl) ?_
  cases hd:b1s (b2q u) ((un:Int),(i:Int))with
  | none =>
   simp -implicitDefEqProofs only[go_sem,b0d,b0b,b0c,b0a,g8V,g8W,g8X,b1M,b6p,hd,h0m,h0a,g9u]
   rw[hd]at hK
   exact⟨kn,sg,ab,_,[],rfl,by simp,hK _ _ _ hm⟩
  | some d =>
   obtain⟨⟨un',i',l',rfl,hl',hi'⟩,hdk⟩:=hd20 d hvk h20 hd
   rw[b0T hl']at hdk
   have hso:=(hT.gram l' (g9f hl')).sign i' hi' hdk
   rw[hd]at hK
   have hlx:=b5v hl'
   simp only[hlx,g9j]at hK
   rw[g8Z,hl',g9w]at hK
   simp -implicitDefEqProofs only[go_sem,b0d,b0b,b0c,b0a,g8V,g8W,g8X,b1M,b6p,hd,g9z,g9w,g9H,b6C]
   refine b0E.callsS (d0l u (b0e u) ub pre.length hl' hso) (by simp -implicitDefEqProofs only[go_sem]) ?_
   simp -implicitDefEqProofs only[go_sem,b0d,b0b,b0c,b0a,g8V,g8W,g8X,Sg.enc]
   exact⟨kn,sg,ab,_,[],rfl,by simp,hK _ _ _ hm⟩
 by_cases h21:(b0j l i).kind=21
 ·rw[if_neg h17,if_neg h18,if_neg h19,if_neg h20,if_pos h21]at hK
  have hk1:0<(b0j l i).kids.length:=by rw[h21]at hle;simp[b0U]at hle;omega
  have hO:=ho _ (.inl ⟨.inl h21,rfl⟩)
  simp -implicitDefEqProofs only[go_sem,Tryz.f96,b6C,ck4,b0d,b0b,b0c,b0a,g8V,g8W,g8X]
  refine b0E.callsS (b5o u (b0e u) ub pre.length hl hi) (by simp -implicitDefEqProofs only[go_sem]) ?_
  simp -implicitDefEqProofs only[go_sem,b0d,b0b,b0c,b0a,g8V,g8W,g8X,h21]
  have hRc:=c3H ub pre hl hi hk1 hO
  cases hms:mtS u (rcT (tyS u ((un:Int),((b1d l i 0:Nat):Int))),(b0j l i).text)with
  | none =>
   rw[hms]at hK
   refine b1g (cs:=[3,6]) b8e b0v (by kernel_rfl) ?_
   simp -implicitDefEqProofs only[go_sem,b0d,b0b,b0c,b0a,g8V,g8W,g8X,b8e]
   repeat' apply And.intro
   all_goals(
    refine hRc kn sg ab _ _ _ hm ?_
    intro kn1 sg1 ab1 hm1
    simp -implicitDefEqProofs only[go_sem,ck4,b0d,b0b,b0c,b0a,g8V,g8W,g8X])
   all_goals(repeat' apply And.intro)
   all_goals(
    refine b7H u hT.toCkW ub pre (b2q u) kn1 sg1 ab1 _ _ _ _ hm1.sg ?_
    intro sg2 hsg2
    rw[hms]
    simp -implicitDefEqProofs only[go_sem,ck4,b0d,b0b,b0c,b0a,g8V,g8W,g8X,b6j,Sg.enc]
    exact⟨kn1,sg2,ab1,_,[],rfl,by simp,hK _ _ _ ⟨hm1.kn,hsg2,hm1.ab⟩⟩)
  | some s =>
   rw[hms]at hK
   refine b1g (cs:=[3,6]) b8e b0v (by kernel_rfl) ?_
   simp -implicitDefEqProofs only[go_sem,b0d,b0b,b0c,b0a,g8V,g8W,g8X,b8e]
   repeat' apply And.intro
   all_goals(
    refine hRc kn sg ab _ _ _ hm ?_
    intro kn1 sg1 ab1 hm1
    simp -implicitDefEqProofs only[go_sem,ck4,b0d,b0b,b0c,b0a,g8V,g8W,g8X])
   all_goals(repeat' apply And.intro)
   all_goals(
    refine b7H u hT.toCkW ub pre (b2q u) kn1 sg1 ab1 _ _ _ _ hm1.sg ?_
    intro sg2 hsg2
    rw[hms]
    simp -implicitDefEqProofs only[go_sem,ck4,b0d,b0b,b0c,b0a,g8V,g8W,g8X,b6j,Sg.enc]
    exact⟨kn1,sg2,ab1,_,[],rfl,by simp,hK _ _ _ ⟨hm1.kn,hsg2,hm1.ab⟩⟩)
 by_cases h22:(b0j l i).kind=22
 ·rw[if_neg h17,if_neg h18,if_neg h19,if_neg h20,if_neg h21,if_pos h22]at hK
  simp -implicitDefEqProofs only[go_sem,Tryz.f96,b6C,ck4,b0d,b0b,b0c,b0a,g8V,g8W,g8X]
  refine b0E.callsS (b5o u (b0e u) ub pre.length hl hi) (by simp -implicitDefEqProofs only[go_sem]) ?_
  simp -implicitDefEqProofs only[go_sem,b0d,b0b,b0c,b0a,g8V,g8W,g8X,h22]
  exact⟨kn,sg,ab,_,[],rfl,by simp,hK _ _ _ hm⟩
 by_cases h23:(b0j l i).kind=23
 ·rw[if_neg h17,if_neg h18,if_neg h19,if_neg h20,if_neg h21,if_neg h22,if_pos h23]at hK
  simp -implicitDefEqProofs only[go_sem,Tryz.f96,b6C,ck4,b0d,b0b,b0c,b0a,g8V,g8W,g8X]
  refine b0E.callsS (b5o u (b0e u) ub pre.length hl hi) (by simp -implicitDefEqProofs only[go_sem]) ?_
  simp -implicitDefEqProofs only[go_sem,b0d,b0b,b0c,b0a,g8V,g8W,g8X,h23]
  have hJ:=c0l u (b0e u) ub pre.length hl hi hro
  cases hfr:b8I l i with
  | none =>
   rw[hfr]at hJ hK
   refine b0E.callsS hJ (by simp -implicitDefEqProofs only[go_sem]) ?_
   simp -implicitDefEqProofs only[go_sem,b0d,b0b,b0c,b0a,g8V,g8W,g8X,g9u]
   exact⟨kn,sg,ab,_,[],rfl,by simp,hK _ _ _ hm⟩
  | some p =>
   rw[hfr]at hJ hK
   refine b0E.callsS hJ (by simp -implicitDefEqProofs only[go_sem]) ?_
   simp -implicitDefEqProofs only[go_sem,b0d,b0b,b0c,b0a,g8V,g8W,g8X,g9H,g9w]
   obtain⟨hp1,hp2,hp3⟩:=b5s hg hi hfr
   refine b0E.callsS (d2Z u (b0e u) ub pre.length hl hp1 hro hp3) (by simp -implicitDefEqProofs only[go_sem]) ?_
   simp -implicitDefEqProofs only[go_sem,b0d,b0b,b0c,b0a,g8V,g8W,g8X]
   exact⟨kn,sg,ab,_,[],rfl,by simp,hK _ _ _ hm⟩
 by_cases h24:(b0j l i).kind=24∨(b0j l i).kind=25
 ·rw[if_neg h17,if_neg h18,if_neg h19,if_neg h20,if_neg h21,if_neg h22,if_neg h23,if_pos h24]at hK
  rcases h24 with h24 | h24
  ·simp -implicitDefEqProofs only[go_sem,Tryz.f96,b6C,ck4,b0d,b0b,b0c,b0a,g8V,g8W,g8X]
   refine b0E.callsS (b5o u (b0e u) ub pre.length hl hi) (by simp -implicitDefEqProofs only[go_sem]) ?_
   simp -implicitDefEqProofs only[go_sem,b0d,b0b,b0c,b0a,g8V,g8W,g8X,h24]
   refine(b6Z (b0j l i)).calls (show [V.agg ((b0j l i).enc.map share1)]=_ by rw[b4D]) ?_
   simp -implicitDefEqProofs only[go_sem,b0d,b0b,b0c,b0a,g8V,g8W,g8X]
   exact⟨kn,sg,ab,_,[],rfl,by simp,hK _ _ _ hm⟩
  ·simp -implicitDefEqProofs only[go_sem,Tryz.f96,b6C,ck4,b0d,b0b,b0c,b0a,g8V,g8W,g8X]
   refine b0E.callsS (b5o u (b0e u) ub pre.length hl hi) (by simp -implicitDefEqProofs only[go_sem]) ?_
   simp -implicitDefEqProofs only[go_sem,b0d,b0b,b0c,b0a,g8V,g8W,g8X,h24]
   refine(b6Z (b0j l i)).calls (show [V.agg ((b0j l i).enc.map share1)]=_ by rw[b4D]) ?_
   simp -implicitDefEqProofs only[go_sem,b0d,b0b,b0c,b0a,g8V,g8W,g8X]
   exact⟨kn,sg,ab,_,[],rfl,by simp,hK _ _ _ hm⟩
 by_cases h26:(b0j l i).kind=26
 ·rw[if_neg h17,if_neg h18,if_neg h19,if_neg h20,if_neg h21,if_neg h22,if_neg h23,if_neg h24,if_pos h26]at hK
  have hk1:0<(b0j l i).kids.length:=by rw[h26]at hle;simp[b0U]at hle;omega
  have hO:=ho _ (.inl ⟨.inr h26,rfl⟩)
  simp -implicitDefEqProofs only[go_sem,Tryz.f96,b6C,ck4,b0d,b0b,b0c,b0a,g8V,g8W,g8X]
  refine b0E.callsS (b5o u (b0e u) ub pre.length hl hi) (by simp -implicitDefEqProofs only[go_sem]) ?_
  simp -implicitDefEqProofs only[go_sem,b0d,b0b,b0c,b0a,g8V,g8W,g8X,h26]
  refine b0E.callsS (d3g u (b0e u) ub pre.length (k:=0) hl hi hk1) (by simp -implicitDefEqProofs only[go_sem];rfl) ?_
  simp -implicitDefEqProofs only[go_sem,b0d,b0b,b0c,b0a,g8V,g8W,g8X]
  refine hO kn sg ab _ _ _ hm ?_
  intro kn' sg' ab' hm'
  simp -implicitDefEqProofs only[go_sem,ck4,b0d,b0b,b0c,b0a,g8V,g8W,g8X]
  exact⟨kn',sg',ab',_,[],rfl,by simp,hK _ _ _ hm'⟩
 rw[if_neg h17,if_neg h18,if_neg h19,if_neg h20,if_neg h21,if_neg h22,if_neg h23,if_neg h24,if_neg h26]at hK
 rw[not_or]at h24
 simp -implicitDefEqProofs only[go_sem,Tryz.f96,b6C,ck4,b0d,b0b,b0c,b0a,g8V,g8W,g8X]
 refine b0E.callsS (b5o u (b0e u) ub pre.length hl hi) (by simp -implicitDefEqProofs only[go_sem]) ?_
 simp -implicitDefEqProofs only[go_sem,b0d,b0b,b0c,b0a,g8V,g8W,g8X,h17,h18,h19,h20,h21,h22,h23,h24.1,h24.2,h26]
 exact⟨kn,sg,ab,_,[],rfl,by simp,hK _ _ _ hm⟩
theorem Tof{u:List Un}(hT:CkT u)(ub:List Us)(pre:List VObj){k:Int×Int}(hk:Val (b0e u) k):d7X u ub pre k:=by
 obtain⟨μ,hμ⟩:=hT.mu
 have key:∀ (n:Nat) (k:Int×Int),Val (b0e u) k→μ k<n→d7X u ub pre k:=by
  intro n
  induction n with
  | zero=>intro k _ h;omega
  | succ n ih =>
   intro k hk h
   refine d6j ub pre (g3g hT ub pre hk fun q hq=>?_)
   obtain⟨h1,h2,h3⟩:=(hμ k hk).2 q hq
   exact ih q h1 (by omega)
 exact key _ k hk (Nat.lt_succ_self _)
end Go.Proofs.YtighfcpaplmaiaaGreatDoor
