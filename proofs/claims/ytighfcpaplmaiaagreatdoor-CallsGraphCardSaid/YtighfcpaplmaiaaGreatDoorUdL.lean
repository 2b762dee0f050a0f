import Derived.Test.YtighfcpaplmaiaaGreatDoorUdC
import Derived.Test.YtighfcpaplmaiaaGreatDoorVgFr
import Derived.Test.YtighfcpaplmaiaaGreatDoorVgZ
set_option linter.unusedVariables false
set_option linter.unusedSimpArgs false
set_option maxRecDepth 20000
namespace Go.Vg
def b2e(q:Nat→Bool):Nat→Nat→Option Nat
 | 0,_=>none
 | n+1,i=>if q i=true then some i else b2e q n (i+1)
def b0O(p:Nat→Nat→Bool):List (List Rw)→Nat→Option (Nat×Nat)
 | [],_=>none
 | l::r,un=>match b2e (p un) l.length 0 with
  | some i=>some (un,i)
  | none=>b0O p r (un+1)
def d0B(o:Option (Nat×Nat)):V := .tuple [.agg [.int .i64 ((o.map (·.1)).getD 0:Nat),.int .i64 ((o.map (·.2)).getD 0:Nat)],.bool o.isSome]
end Go.Vg
namespace Go.Proofs.YtighfcpaplmaiaaGreatDoor
open Go Go.Vg Go.Proofs
def c4t(u:List Un)(pre z:List VObj)(T:V)(p:Nat→Nat→Bool):Prop:=∀ (un i:Nat) (l:List Rw),(b0f u)[un]? = some l→i<l.length→∀ (kn:KnM) (sg:SgM) (ab:AbM) (z':List VObj) (a:List Nat) (K:b1y),Mems u kn sg ab →
 (∀ kn' sg' ab',Mems u kn' sg' ab'→K (.bool (p un i)) (pre++ck4 (b2v u) kn' sg' ab' (z++z')) a)→vFn env T [.agg [.int .i64 un,.int .i64 i]] (pre++ck4 (b2v u) kn sg ab (z++z')) a K
theorem d2O{u:List Un}(hu:b2D u)(ub:List Us)(pre z:List VObj)(T:V)(p:Nat→Nat→Bool)(hT:c4t u pre z T p)(kn:KnM)(sg:SgM)(ab:AbM)(a:List Nat)(K:b1y)(hm:Mems u kn sg ab)
  (hK:∀ kn' sg' ab',Mems u kn' sg' ab'→K (d0B (b0O p (b0f u) 0)) (pre++ck4 (b2v u) kn' sg' ab' z) a) :
  b0q env 92 [.fptr (ckF u (b0f u) ub pre.length),T] (pre++ck4 (b2v u) kn sg ab z) a K:=by
 have htl0:(b0f u).length≤1000:=by unfold b0f;rw[h0v];exact hu.1
 have htk:=b8e hu;unfold c4t at hT;refine b0q.tidyCk ?_;refine b0y (fn:=Tryz.f92) Tryz.func92 rfl (by rw[Tryz.ntmps92];simp) ?_;simp -implicitDefEqProofs only[go_sem,Tryz.f92,ck4,b0d,b0a,b0c,b0b,g9Y,g9Z,h0a];intro _ _;generalize hgoal:b0O p (b0f u) 0=goal at hK;refine b0l (β:=KnM×SgM×AbM×List VObj) (b0f u) (fun q b=>⟨[(15,.int .i64 q.length),(14,.int .i64 (b0f u).length),(13,sl 45 (List.map b0p (b0f u))),(4,.ptr (pre.length+(z.length+1+1+1+1)) 0),(5,.bool false),(0,.fptr (ckF u (b0f u) ub pre.length)),(1,T)],
   pre++ck4 (b2v u) b.1 b.2.1 b.2.2.1 (z ++ .cells [.int .i64 0,.int .i64 0]::b.2.2.2),a⟩)
  (fun q r b=>Mems u b.1 b.2.1 b.2.2.1∧b0O p r q.length=goal) (kn,sg,ab,[]) ?_ ⟨hm,hgoal⟩ ?_ ?_
 ·simp -implicitDefEqProofs only[go_sem,ck4];exact⟨rfl,by omega⟩
 ·rintro⟨kn1,sg1,ab1,zz⟩ ⟨hm1,he⟩;simp -implicitDefEqProofs only[go_sem,ck4,b0d,b0a,b0c,b0b,g9Y,g9Z,h0a];rw[←he]at hK;exact⟨kn1,sg1,ab1,_,[],rfl,by simp,hK _ _ _ hm1⟩
 ·rintro q l r ⟨kn1,sg1,ab1,zz⟩ hx ⟨hm1,he⟩;have hpl:(b0f u).length=q.length+1+r.length:=by rw[hx];simp;omega
  have hgx:((b0f u).map b0p).getD (q.length:Int).toNat []=b0p l:=by rw[hx];simp[h0c]
  have hlt:((q.length:Int)<(b0f u).length)=True:=by simp;omega
  have hw:IntKind.i64.wrap (↑q.length+1)=↑(q.length+1):=b0g (by omega);have hll:=(htk l (by rw[hx];simp)).len;have hul:(b0f u)[q.length]? = some l:=by rw[hx];simp
  simp only at hm1 he ⊢;simp -implicitDefEqProofs only[go_sem,hgx,hlt,b0p,ck4,b0d,b0a,b0c,b0b,g9Y,g9Z,h0a];intro _ _;have he0:b0O p (l::r) q.length=match b2e (p q.length) l.length 0 with | some i=>some (q.length,i) | none=>b0O p r (q.length+1):=rfl
  rw[he0]at he;refine b0l (β:=KnM×SgM×AbM×List VObj) l (fun m b=>⟨[(22,.int .i64 m.length),(21,.int .i64 l.length),(20,sl 48 (l.map Rw.enc)),(6,.int .i64 q.length),(15,.int .i64 q.length),(14,.int .i64 (b0f u).length),(13,sl 45 (List.map b0p (b0f u))),(4,.ptr (pre.length+(z.length+1+1+1+1)) 0),(5,.bool false),(0,.fptr (ckF u (b0f u) ub pre.length)),(1,T)],
   pre++ck4 (b2v u) b.1 b.2.1 b.2.2.1 (z ++ .cells [.int .i64 0,.int .i64 0]::b.2.2.2),a⟩)
   (fun m post b=>Mems u b.1 b.2.1 b.2.2.1∧(match b2e (p q.length) post.length m.length with | some i=>some (q.length,i) | none=>b0O p r (q.length+1))=goal) (kn1,sg1,ab1,zz) ?_ ⟨hm1,he⟩ ?_ ?_
  ·simp -implicitDefEqProofs only[go_sem,ck4];exact⟨rfl,by omega⟩
  ·rintro⟨kn2,sg2,ab2,zz2⟩ ⟨hm2,he2⟩;simp -implicitDefEqProofs only[go_sem,ck4,b0d,b0a,b0c,b0b,g9Y,g9Z,h0a];exact⟨(kn2,sg2,ab2,zz2),⟨hm2,he2⟩,hw,⟨rfl,rfl,rfl,b0r⟩,by simp only[];omega,.inl (by simp)⟩
  ·rintro m x post ⟨kn2,sg2,ab2,zz2⟩ hx2 ⟨hm2,he2⟩;have hpl2:l.length=m.length+1+post.length:=by rw[hx2];simp;omega
   have hlt2:((m.length:Int)<l.length)=True:=by simp;omega
   have hw2:IntKind.i64.wrap (↑m.length+1)=↑(m.length+1):=b0g (by omega);simp only at hm2 he2 ⊢;simp -implicitDefEqProofs only[go_sem,hlt2,ck4,b0d,b0a,b0c,b0b,g9Y,g9Z,h0a];refine hT q.length m.length l hul (by omega) kn2 sg2 ab2 _ _ _ hm2 ?_;intro kn3 sg3 ab3 hm3;have hfi:b2e (p q.length) (x::post).length m.length=if p q.length m.length=true then some m.length else b2e (p q.length) post.length (m.length+1):=rfl
   rw[hfi]at he2;simp -implicitDefEqProofs only[go_sem,ck4,b0d,b0a,b0c,b0b,g9Y,g9Z,h0a];refine⟨fun hp=>?_,fun hp=>?_⟩
   ·rw[if_pos hp]at he2;rw[←he2]at hK;exact⟨kn3,sg3,ab3,_,[],rfl,by simp,hK _ _ _ hm3⟩
   ·rw[hp]at he2;exact⟨(kn3,sg3,ab3,zz2++[.cells [.int .i64 q.length,.int .i64 m.length]]),⟨hm3,he2⟩,hw2,⟨rfl,rfl,rfl,b0r⟩,by simp only[];omega,.inl (by simp)⟩
def b4r(u:List Un):List Us:=b2O (b2c (b0e u 0)) (b0f u) 0
theorem g1l(u:List Un)(hu:b2D u)(hb:∀ x∈u,x.broken=false){h:List VObj}{a:List Nat}{K:b1y}
  (hK:∀ y,K (.fptr (ckF u (b0f u) (b6I (b4r u)) h.length)) (h++ck4 (b2v u) [] [] [] [.dead]) (a++y)):b0q env 89 [sl 70 (u.map Un.enc)] h a K:=by
 refine b0q.freezeR ?_;refine b0q.shift (cargs:=[sl 70 (u.map Un.enc)]) (by simp -implicitDefEqProofs only[go_sem];exact b0v _) (b0q.toE (E:=env) (E':=env.alive) rfl rfl rfl (fun _=>Iff.rfl) (fun _ _ h=>h) (g9I u hu hb)) (by simp -implicitDefEqProofs only[go_sem]) ?_;rintro v h0 a0 ⟨rfl,rfl,rfl⟩;refine⟨by simp[VObj.whole],?_⟩;have hts:d4Q h.length a.length ((b0f u).map b0p)=(b0f u).map b0p:=b5K _ _ _ (b1g _);have has:∀ l:List Us,d4Q h.length a.length (l.map atE)=l.map atE:=fun l=>b5K _ _ _ (b6g _)
 have hus:V.sh h.length a.length (sl 70 (u.map Un.enc))=sl 70 (u.map Un.enc):=V.sh_pure _ _ _ (by simp -implicitDefEqProofs only[go_sem];exact b0v _);refine⟨h.length+4,shL h.length a.length (ckV u (b0f u) (b6I (b4r u))),by simp[V.sh],by simp[VObj.sh];rfl,?_,?_⟩
 ·simp only[ckV,shL,V.sh,hts,has,hus];simp -implicitDefEqProofs only[go_sem]
 ·have:=hK [u.length,(b6I (b4r u)).length];have e1:V.fptr (List.map share1 (shL h.length a.length (ckV u (b0f u) (b6I (b4r u))))) = .fptr (ckF u (b0f u) (b6I (b4r u)) h.length):=by
   simp only[ckV,ckF,shL,V.sh,hts,has,hus];simp -implicitDefEqProofs only[go_sem]
  have hD:∀ D:List ((Int×Int)×(Int×Int)),(c9l D).map (fun p=>(V.sh h.length a.length p.1,V.sh h.length a.length p.2))=c9l D:=by
   intro D;induction D with
   | nil=>rfl
   | cons x r ih => 
    show(_,_)::List.map _ (c9l r)=_;rw[ih];rfl
  have e2:(h++List.map (VObj.sh h.length a.length) [VObj.map (c9l (c6a (b2O (b2c (b0e u 0)) (b0f u) 0))),VObj.map [],VObj.map [],VObj.map [],VObj.cells (ckV u (b0f u) (b6I (b2O (b2c (b0e u 0)) (b0f u) 0)))]).set (h.length+4) VObj.dead=h++ck4 (b2v u) [] [] [] [.dead]:=by
   rw[h0N _ _ (by omega),Nat.add_sub_cancel_left];simp only[ck4,VObj.sh,h0s,h0T,hD];rfl
  rw[e1,e2];exact this
def c5h:List Un→Nat→Option Nat
 | [],_=>none
 | x::r,i=>if b1q x=true then c5h r (i+1)else some i
theorem b6Z:∀ (l:List Un) (i:Nat),c5h l i=none→∀ x∈l,b1q x=true
 | [],_,_=>by simp
 | x::r,i,h=>by
  unfold c5h at h;split at h
  ·rename_i hs;intro y hy;rcases h0C.1 hy with rfl | hy
   ·exact hs
   ·exact b6Z r (i+1) h y hy
  ·cases h
def nmS(l:List Rw)(i:Nat):Bool:=decide ((b0h l i).kind=7) && (decide ((b0h l i).text=tI) || decide ((b0h l i).text=tB))
def tbO(u:List Un)(un:Nat):List Rw:=(b0f u).getD un []
def nmP(u:List Un)(un i:Nat):Bool:=nmS (tbO u un) i
def wrP(u:List Un)(un i:Nat):Bool:=wrS u un (tbO u un) i
def miP(u:List Un)(un i:Nat):Bool:=d2t u un (tbO u un) i
def f8b(u:List Un):Int×Int×Int:=match b0O (wrP u) (b0f u) 0 with
 | some p=>(8,p.1,p.2)
 | none=>match b0O (miP u) (b0f u) 0 with
  | some p=>(7,p.1,p.2)
  | none=>(0,0,0)
def f2z(u:List Un):Int×Int×Int:=match(b8A (b0f u) (b0e u 0)).2 with
 | d::_=>(6,d.unit,d.node)
 | []=>match b6I (b4r u)with
  | x::_=>(9,x.un,x.nd)
  | []=>f8b u
def f1l(u:List Un):Int×Int×Int:=if ¬ (b3r u (b0e u 0)).1=0 then b3r u (b0e u 0)else match b0O (nmP u) (b0f u) 0 with
 | some p=>(4,p.1,p.2)
 | none=>f2z u
def b4H(u:List Un):Int×Int×Int:=match c5h u 0 with
 | some i=>(17,i,0)
 | none=>f1l u
theorem b3j:d0B none = .tuple [.agg [.int .i64 0,.int .i64 0],.bool false]:=rfl
theorem b3h(p:Nat×Nat):d0B (some p) = .tuple [.agg [.int .i64 p.1,.int .i64 p.2],.bool true]:=rfl
theorem b7D{u:List Un}{un:Nat}{l:List Rw}(h:(b0f u)[un]? = some l):tbO u un=l:=by simp[tbO,h0c,h]
theorem f6M(u:List Un)(ub:List Us)(pre:List VObj)(z0:List VObj):c4t u pre (.dead :: .cells [.fptr (ckF u (b0f u) ub pre.length)]::z0) (.func 90 [.ptr (pre.length+5) 0]) (nmP u):=by
 intro un i l hl hi kn sg ab z' a K hm hK;rw[nmP,b7D hl]at hK;refine⟨by kernel_rfl,?_⟩;refine b0q.tidyCk ?_;refine b0y (fn:=Tryz.f90) Tryz.func90 rfl (by rw[Tryz.ntmps90];simp) ?_;simp -implicitDefEqProofs only[go_sem,Tryz.f90,ck4,b0d,b0a,b0c,b0b,g9Y,g9Z,h0a];refine b0B.callsS (b5z u (b0f u) ub pre.length hl hi) (by simp -implicitDefEqProofs only[go_sem]) ?_;have hfin:∀ b,nmS l i=b→K (.bool b) (pre++ck4 (b2v u) kn sg ab (VObj.dead :: .cells [.fptr (ckF u (b0f u) ub pre.length)]::(z0++z'))) a:=fun b h=>h ▸ hK _ _ _ hm
 simp -implicitDefEqProofs only[go_sem,b0d,b0a,b0c,b0b,g9Y,g9Z,h0a];refine⟨fun h7=>⟨fun h1=>?_,fun h1=>?_⟩,fun h7=>?_⟩
 ·exact⟨kn,sg,ab,_,[],rfl,by simp,hfin _ (by simp only[nmS,h7,tI,tB,h1,decide_true,decide_false,h0S,h0Y];congr)⟩
 ·exact⟨kn,sg,ab,_,[],rfl,by simp,hfin _ (by simp[nmS,h7,tI,tB,h1])⟩
 ·exact⟨kn,sg,ab,_,[],rfl,by simp,hfin _ (by simp[nmS,h7])⟩
theorem g9a{u:List Un}(hT:CkT u)(ub:List Us)(pre z:List VObj):c4t u pre z (.meth 94 [.fptr (ckF u (b0f u) ub pre.length)]) (wrP u):=by
 intro un i l hl hi kn sg ab z' a K hm hK;rw[wrP,b7D hl]at hK;exact⟨by kernel_rfl,f4F hT ub pre hl hi kn sg ab _ a K hm hK⟩
theorem g9M{u:List Un}(hT:CkT u)(ub:List Us)(pre z:List VObj):c4t u pre z (.meth 95 [.fptr (ckF u (b0f u) ub pre.length)]) (miP u):=by
 intro un i l hl hi kn sg ab z' a K hm hK;rw[miP,b7D hl]at hK;exact⟨by kernel_rfl,c9i hT ub pre hl hi kn sg ab _ a K hm hK⟩
theorem d8m(u:List Un)(hu:b2D u)(hgp:b7O u)(h:List VObj)(a:List Nat)(K:b1y)
  (hbad:¬ (b4H u).1=0→∀ z y,K (.tuple [.nilp,.int .i64 (b4H u).1,.agg [.int .i64 (b4H u).2.1,.int .i64 (b4H u).2.2]]) (h++z) (a++y))
  (hok:(b4H u)=(0,0,0)→SndU u→∀ z0 kn sg ab z y,Mems u kn sg ab→K (.tuple [.fptr (ckF u (b0f u) [] (h++z0).length),.int .i64 0,.agg [.int .i64 0,.int .i64 0]]) ((h++z0)++ck4 (b2v u) kn sg ab z) (a++y)) :
  b0q env 58 [sl 70 (u.map Un.enc)] h a K:=by
 have hul:=hu.1;refine b0y (fn:=Tryz.f58) Tryz.func58 rfl (by rw[Tryz.ntmps58];simp) ?_;simp -implicitDefEqProofs only[go_sem,Tryz.f58];intro _ _;refine b0l (β:=List VObj) u (fun q zz=>⟨[(20,.int .i64 q.length),(19,.int .i64 u.length),(18,sl 70 (u.map Un.enc)),(4,.ptr h.length 0),(3,.int .i64 0),(2,.nilp),(0,sl 70 (u.map Un.enc))],h ++ .cells [.int .i64 0,.int .i64 0]::zz,a⟩)
  (fun q r _=>c5h r q.length=c5h u 0) [] ?_ rfl ?_ ?_
 ·simp -implicitDefEqProofs only[go_sem];rfl
 ·intro zz he;have he':c5h u 0=none:=by rw[←he];rfl
  have hsnd:=b6Z u 0 he';have hS:SndU u:=⟨hu,hsnd⟩
  have hT:=hS.ckT;have hc1:b4H u=f1l u:=by unfold b4H;rw[he']
  rw[hc1]at hbad hok;simp -implicitDefEqProofs only[go_sem,b0d,b0a,b0c,b0b,g9Y,g9Z,h0a];refine(f6X u hu).calls (by simp -implicitDefEqProofs only[go_sem]) ?_;unfold f1l at hbad hok;generalize b3r u (b0e u 0)=cc at hbad hok ⊢;obtain⟨c1,c2,c3⟩:=cc;simp -implicitDefEqProofs only[go_sem,c3E,b0d,b0a,b0c,b0b,g9Y,g9Z,h0a];refine⟨fun hc0=>?_,fun hc0=>?_⟩
  ·have hc0':¬ c1=0:=by simpa using hc0
   simp only[hc0',not_false_eq_true,if_true]at hbad;refine sdq ?_;simp -implicitDefEqProofs only[go_sem,b0d,b0a,b0c,b0b,g9Y,g9Z,h0a];have:=hbad trivial (.cells [.int .i64 c2,.int .i64 c3]::(zz++[.cells [.int .i64 c2,.int .i64 c3]])) [];rw[h0F]at this;exact this
  ·have hc0':c1=0:=by simpa using hc0
   simp only[hc0',not_true,if_false]at hbad hok;obtain⟨PRE,hPRE⟩:∃ P,P=h ++ .cells [.int .i64 0,.int .i64 0]::(zz++[.cells [.int .i64 c2,.int .i64 c3]]):=⟨_,rfl⟩
   have hPl:PRE.length=h.length+(zz.length+1+1):=by rw[hPRE];simp
   have hP1:PRE[h.length]? = some (.cells [.int .i64 0,.int .i64 0]):=by rw[hPRE];simp
   have hPlt:h.length<PRE.length:=by omega
   have hP2:∀ x,PRE.set h.length x=h++x::(zz++[.cells [.int .i64 c2,.int .i64 c3]]):=by intro x;rw[hPRE];simp
   rw[←hPRE];refine g1l u hu hT.br ?_;intro y;simp -implicitDefEqProofs only[go_sem,ck4,b0d,b0a,b0c,b0b,g9Y,g9Z,h0a];refine d2O hu _ PRE _ _ (nmP u) (f6M u _ PRE []) [] [] [] _ _ ⟨c5H.nil,c5H.nil,c5H.nil⟩ ?_;intro kn1 sg1 ab1 hm1;cases hn:b0O (nmP u) (b0f u) 0 with
   | some p =>
    rw[hn]at hbad;simp -implicitDefEqProofs only[go_sem,ck4,b0d,b0a,b0c,b0b,g9Y,g9Z,h0a,b3j,b3h];refine sdq ?_;simp -implicitDefEqProofs only[go_sem,b0d,b0a,b0c,b0b,g9Y,g9Z,h0a,b0I hP1,b1h hPlt,hP2];exact hbad (by simp) _ _
   | none =>
    rw[hn]at hbad hok;simp only at hbad hok;simp -implicitDefEqProofs only[go_sem,ck4,b0d,b0a,b0c,b0b,g9Y,g9Z,h0a,b3j,b3h];refine(d5n u hu).calls (by simp -implicitDefEqProofs only[go_sem]) ?_;unfold f2z at hbad hok;cases hdb:(b8A (b0f u) (b0e u 0)).2 with
    | cons d r =>
     rw[hdb]at hbad;simp only at hbad;simp -implicitDefEqProofs only[go_sem,b0d,b0a,b0c,b0b,g9Y,g9Z,h0a];intro _ _;refine⟨fun _=>?_,fun h=>absurd (by omega) h⟩;refine sdq ?_;simp -implicitDefEqProofs only[go_sem,b0d,b0a,b0c,b0b,g9Y,g9Z,h0a,b0I hP1,b1h hPlt,hP2,c2O];refine⟨by omega,?_⟩;exact hbad (by simp) _ _
    | nil =>
     rw[hdb]at hbad hok;simp only at hbad hok;simp -implicitDefEqProofs only[go_sem,b0d,b0a,b0c,b0b,g9Y,g9Z,h0a];refine⟨fun h=>absurd h (by simp),fun _=>?_⟩;cases hub:b6I (b4r u)with
     | cons x r =>
      rw[hub]at hbad;simp only at hbad;simp -implicitDefEqProofs only[go_sem,b0d,b0a,b0c,b0b,g9Y,g9Z,h0a,d0U];intro _ _;refine⟨fun _=>?_,fun h=>absurd (by omega) h⟩;refine sdq ?_;simp -implicitDefEqProofs only[go_sem,b0d,b0a,b0c,b0b,g9Y,g9Z,h0a,b0I hP1,b1h hPlt,hP2,atE,d0U];exact⟨by omega,hbad (by simp) _ _⟩
     | nil =>
      rw[hub]at hbad hok;simp only at hbad hok;simp -implicitDefEqProofs only[go_sem,b0d,b0a,b0c,b0b,g9Y,g9Z,h0a,d0U];refine⟨fun h=>absurd h (by simp),fun _=>?_⟩;unfold f8b at hbad hok;refine d2O hu [] PRE [.dead,.cells [.fptr (ckF u (b0f u) [] PRE.length)],.cells [.int .i64 0,.int .i64 0]] _ (wrP u) (g9a hT [] PRE _) kn1 sg1 ab1 _ _ hm1 ?_;intro kn2 sg2 ab2 hm2;cases hw:b0O (wrP u) (b0f u) 0 with
      | some p =>
       rw[hw]at hbad;simp -implicitDefEqProofs only[go_sem,ck4,b0d,b0a,b0c,b0b,g9Y,g9Z,h0a,b3j,b3h];refine sdq ?_;simp -implicitDefEqProofs only[go_sem,b0d,b0a,b0c,b0b,g9Y,g9Z,h0a,b0I hP1,b1h hPlt,hP2];exact hbad (by simp) _ _
      | none =>
       rw[hw]at hbad hok;simp only at hbad hok;simp -implicitDefEqProofs only[go_sem,ck4,b0d,b0a,b0c,b0b,g9Y,g9Z,h0a,b3j,b3h];refine d2O hu [] PRE [.dead,.cells [.fptr (ckF u (b0f u) [] PRE.length)],.cells [.int .i64 0,.int .i64 0],.cells [.int .i64 0,.int .i64 0]] _ (miP u) (g9M hT [] PRE _) kn2 sg2 ab2 _ _ hm2 ?_;intro kn3 sg3 ab3 hm3;cases hmi:b0O (miP u) (b0f u) 0 with
       | some p =>
        rw[hmi]at hbad;simp -implicitDefEqProofs only[go_sem,ck4,b0d,b0a,b0c,b0b,g9Y,g9Z,h0a,b3j,b3h];refine sdq ?_;simp -implicitDefEqProofs only[go_sem,b0d,b0a,b0c,b0b,g9Y,g9Z,h0a,b0I hP1,b1h hPlt,hP2];exact hbad (by simp) _ _
       | none =>
        rw[hmi]at hbad hok;simp only at hbad hok;simp -implicitDefEqProofs only[go_sem,ck4,b0d,b0a,b0c,b0b,g9Y,g9Z,h0a,b3j,b3h,b0I hP1,b1h hPlt,hP2];have hz:=hok trivial hS (.cells [.int .i64 0,.int .i64 0]::(zz++[.cells [.int .i64 c2,.int .i64 c3]])) kn3 sg3 ab3 [.dead,.cells [.fptr (ckF u (b0f u) [] PRE.length)],.cells [.int .i64 0,.int .i64 0],.cells [.int .i64 0,.int .i64 0],.cells [.int .i64 0,.int .i64 0]] y hm3;rw[←hPRE]at hz;rw[hPRE]at hz ⊢;simp only[ck4,h0x,h0a,h0Q]at hz;exact hz
 ·rintro q x r zz hx he;have hpl:u.length=q.length+1+r.length:=by rw[hx];simp;omega
  have hgx:(u.map Un.enc).getD (q.length:Int).toNat []=x.enc:=by rw[hx];simp[h0c]
  have hlt:((q.length:Int)<u.length)=True:=by simp;omega
  have hw:IntKind.i64.wrap (↑q.length+1)=↑(q.length+1):=b0g (by omega);rw[c5h]at he;simp -implicitDefEqProofs only[go_sem,hgx,hlt,b0d,b0a,b0c,b0b,g9Y,g9Z,h0a];refine(f3W x (hgp x (by rw[hx];simp))).calls (by simp -implicitDefEqProofs only[go_sem]) ?_;simp -implicitDefEqProofs only[go_sem,b0d,b0a,b0c,b0b,g9Y,g9Z,h0a];cases hs:b1q x with
  | false =>
   rw[hs,if_neg (by simp)]at he;refine⟨fun _=>?_,fun h=>(by cases h)⟩;have hcu:b4H u=(17,((q.length:Nat):Int),0):=by unfold b4H;rw[←he]
   rw[hcu]at hbad;have:=hbad (by simp) (.cells [.int .i64 q.length,.int .i64 0]::(zz++[.cells x.enc])) [];rw[h0F]at this;exact this
  | true =>
   rw[hs,if_pos rfl]at he;exact⟨fun h=>(by cases h),fun _=>⟨zz++[.cells x.enc],he,hw,b0r,.inl (by simp)⟩⟩
theorem d5s:(n:Nd)→(b0o n).length≤1000000→∀ (i:Nat),i≤9223372036854775807→b0s env 67 [.agg n.enc,.int .i64 i]
  (match(b0o n)[i]? with | some x => .tuple [.agg x.enc,.int .i64 0,.bool true] | none => .tuple [.agg Nd.zero.enc,.int .i64 (b0o n).length,.bool false]):=by
 refine Nd.all fun k t g ks ih hn i hi=>?_
 refine b0i (fn:=Tryz.f67) Tryz.func67 rfl (by rw[Tryz.ntmps67];simp) (by simp -implicitDefEqProofs only[go_sem]) (by split <;> simp -implicitDefEqProofs only[go_sem]) ?_;simp -implicitDefEqProofs only[go_sem,Tryz.f67];have hz:Nd.zero.enc=[.int .i64 0,.str ⟨#[]⟩,.slice .shared 0 [],.slice .shared 0 []]:=rfl;rw[b0Z]at hn;refine⟨fun h0=>?_,fun h0 hb hl=>?_⟩
 ·have:i=0:=by omega
  subst this;simp[b0o,b8y]
 refine b0l (β:=Unit) ks (fun pre _=>⟨[(19,.int .i64 pre.length),(18,.int .i64 ks.length),(17,sl 66 (ks.map Nd.enc)),(7,.int .i64 ((b0k pre).length+1:Nat)),(6,.bool false),(5,.int .i64 0),(4,.ptr 1 0),(1,.int .i64 i)],
   [.dead,.cells [.int .i64 0,.str ⟨#[]⟩,.slice .nil 0 [],.slice .nil 0 []]],[]⟩) (fun pre _ _=>(b0k pre).length<i) () ?_ ?_ ?_ ?_
 ·simp -implicitDefEqProofs only[go_sem];exact⟨rfl,rfl⟩
 ·show 0<i;omega
 ·intro _ hlt;simp -implicitDefEqProofs only[go_sem];have:(b0o (.mk k t g ks))[i]? = none:=by
   rw[h0O];rw[b0Z];omega
  rw[this,b0Z,hz]
 ·rintro pre x post _ rfl hlt;have hp:=b2t hl;have hsz:(b0k (pre++x::post)).length=(b0k pre).length+(b0o x).length+(b0k post).length:=by
   rw[b1n,b0k];simp;omega
  simp -implicitDefEqProofs only[go_sem];have ew:IntKind.i64.wrap (↑i - ↑((b0k pre).length+1))=((i - ((b0k pre).length+1):Nat):Int):=by
   rw[b1M (by omega) (by omega)];omega
  rw[ew];have hih:=ih x b1x (by omega) (i - ((b0k pre).length+1)) (by omega);cases hq:(b0o x)[i - ((b0k pre).length+1)]? with
  | none =>
   rw[hq]at hih;have hql:(b0o x).length≤i - ((b0k pre).length+1):=by simpa using hq
   refine hih.cq ?_;simp -implicitDefEqProofs only[go_sem];have e:(b0k (pre++[x])).length=(b0k pre).length+(b0o x).length:=by rw[b1s,h0h]
   refine⟨(),by omega,b0g (by omega),?_⟩;rw[e,b1M (by omega) (by omega)];omega
  | some y =>
   rw[hq]at hih;have hql:=(h0b.1 hq).1;refine hih.cq ?_;simp -implicitDefEqProofs only[go_sem];have:(b0o (.mk k t g (pre++x::post)))[i]? = some y:=by
    rw[b0o,b1n,b0k];obtain⟨m,rfl⟩:∃ m,i=m+1:=⟨i - 1,by omega⟩
    rw[g9Y,h0g (by omega),h0e (by omega),←hq];congr 1;omega
   rw[this]
theorem g9A(n:Nd)(hn:(b0o n).length≤1000000)(i:Int)(hi:i≤9223372036854775807):b0s env 36 [.agg n.enc,.int .i64 i]
  (.tuple [.agg (((if 0≤i then(b0o n)[i.toNat]? else none)).getD Nd.zero).enc,.bool ((if 0≤i then(b0o n)[i.toNat]? else none)).isSome]):=by
 refine b0i (fn:=Tryz.f36) Tryz.func36 rfl (by rw[Tryz.ntmps36];simp) (by simp -implicitDefEqProofs only[go_sem]) (by simp -implicitDefEqProofs only[go_sem]) ?_;simp -implicitDefEqProofs only[go_sem,Tryz.f36];have hz:Nd.zero.enc=[.int .i64 0,.str ⟨#[]⟩,.slice .shared 0 [],.slice .shared 0 []]:=rfl;refine⟨fun h0=>?_,fun h0=>?_⟩
 ·rw[if_neg (by omega)];rfl
 ·rw[if_pos (by omega)];have hih:=d5s n hn i.toNat (by omega);rw[show((i.toNat:Nat):Int)=i by omega]at hih;cases hq:(b0o n)[i.toNat]? with
  | none =>
   rw[hq]at hih;refine hih.cq ?_;simp -implicitDefEqProofs only[go_sem];rfl
  | some y =>
   rw[hq]at hih;refine hih.cq ?_;simp -implicitDefEqProofs only[go_sem];refine(d8Q y).calls (by simp -implicitDefEqProofs only[go_sem]) ?_;simp -implicitDefEqProofs only[go_sem];rfl
theorem b3H{u:List Un}(hu:b2D u)(h:(b4H u).1=0):SndU u:=by
 refine⟨hu,?_⟩;cases hb:c5h u 0 with
 | none=>exact b6Z u 0 hb
 | some i=>unfold b4H at h;rw[hb]at h;cases h
theorem d7y(u:List Un)(hu:b2D u)(hgp:b7O u):b0s env 29 [sl 70 (u.map Un.enc)] (c3E (b4H u)):=by
 refine b0i (fn:=Tryz.f29) Tryz.func29 rfl (by rw[Tryz.ntmps29];simp) (by simp -implicitDefEqProofs only[go_sem];exact b0v _) rfl ?_;simp -implicitDefEqProofs only[go_sem,Tryz.f29];refine d8m u hu hgp _ _ _ (fun hb z y=>?_) (fun hk hS z0 kn sg ab z y hm=>?_)
 ·simp -implicitDefEqProofs only[go_sem,b0d,b0a,b0c,b0b,g9Y,g9Z,h0a];refine sdq ?_;simp -implicitDefEqProofs only[go_sem,b0d,b0a,b0c,b0b,g9Y,g9Z,h0a,c3E];try rfl
 ·obtain⟨PRE,hPRE⟩:∃ P,P=[VObj.cells [V.int IntKind.i64 0,V.int IntKind.i64 0]]++z0:=⟨_,rfl⟩
  have hP1:PRE[0]? = some (.cells [.int .i64 0,.int .i64 0]):=by rw[hPRE];rfl
  have hPlt:0<PRE.length:=by rw[hPRE];simp
  rw[←hPRE,hk];simp -implicitDefEqProofs only[go_sem,ck4,b0d,b0a,b0c,b0b,g9Y,g9Z,h0a,b0I hP1,b1h hPlt];refine sdq ?_;have hP3:∀ x,PRE.set 0 x=[x]++z0:=by intro x;rw[hPRE];rfl
  simp -implicitDefEqProofs only[go_sem,b0d,b0a,b0c,b0b,g9Y,g9Z,h0a,b0I hP1,b1h hPlt,hP3,c3E];try rfl
def c3D(u:List Un)(un nd:Int):ByteArray×Int:=if ¬ (b4H u).1=0 then(⟨#[]⟩,(b4H u).1)else if un<0∨(u.length:Int)≤un then(⟨#[]⟩,7)else
 match(if 0≤nd then(b0o ((u[un.toNat]?.map Un.tree).getD Nd.zero))[nd.toNat]? else none)with
 | some n=>if b1D n.kind=3 then(tyS u (un,nd),0)else(⟨#[]⟩,7)
 | none=>(⟨#[]⟩,7)
theorem f1j(u:List Un)(hu:b2D u)(hgp:b7O u)(un nd:Int)(hnd:nd≤9223372036854775807):b0s env 31 [sl 70 (u.map Un.enc),.agg [.int .i64 un,.int .i64 nd]] (.tuple [.str (c3D u un nd).1,.int .i64 (c3D u un nd).2]):=by
 refine b0i (fn:=Tryz.f31) Tryz.func31 rfl (by rw[Tryz.ntmps31];simp) (by simp -implicitDefEqProofs only[go_sem];exact b0v _) rfl ?_;simp -implicitDefEqProofs only[go_sem,Tryz.f31];refine d8m u hu hgp _ _ _ (fun hb z y=>?_) (fun hk hS z0 kn sg ab z y hm=>?_)
 ·simp -implicitDefEqProofs only[go_sem,b0d,b0a,b0c,b0b,g9Y,g9Z,h0a];refine⟨fun _=>?_,fun h=>absurd (by simpa using h) hb⟩;rw[c3D,if_pos hb]
 ·obtain⟨PRE,hPRE⟩:∃ P,P=[VObj.cells [V.int IntKind.i64 un,V.int IntKind.i64 nd]]++z0:=⟨_,rfl⟩
  have hP1:PRE[0]? = some (.cells [.int .i64 un,.int .i64 nd]):=by rw[hPRE];rfl
  have hPlt:0<PRE.length:=by rw[hPRE];simp
  rw[←hPRE];have hk1:(b4H u).1=0:=by rw[hk]
  have htf:c3D u un nd=if un<0∨(u.length:Int)≤un then((⟨#[]⟩,7):ByteArray×Int)else match(if 0≤nd then(b0o ((u[un.toNat]?.map Un.tree).getD Nd.zero))[nd.toNat]? else none)with | some n=>if b1D n.kind=3 then(tyS u (un,nd),0)else(⟨#[]⟩,7) | none=>(⟨#[]⟩,7):=by
   rw[c3D,if_neg (by simp[hk1])]
  simp -implicitDefEqProofs only[go_sem,ck4,b0d,b0a,b0c,b0b,g9Y,g9Z,h0a,b0I hP1,b1h hPlt];refine⟨fun h0 _ _=>⟨fun h1=>?_,fun h1=>?_⟩,fun h0=>?_⟩
  ·rw[htf,if_pos (.inr h1)]
  ·obtain⟨n,rfl⟩:∃ n:Nat,un=n:=⟨un.toNat,by omega⟩
   have hn:n<u.length:=by omega
   have hun:u[n]? = some u[n]:=h0f hn;generalize u[n]=x at hun;have hx:=hu.2 x (h0j hun);have hgx:(u.map Un.enc).getD ((n:Nat):Int).toNat []=x.enc:=by simp[h0c,hun]
   rw[if_neg (by omega),h0n,hun]at htf;simp only[h0D,h0A]at htf;have hlt:((n:Int)<u.length)=True:=by simp;omega
   refine sdq ?_;simp -implicitDefEqProofs only[go_sem,b0d,b0a,b0c,b0b,g9Y,g9Z,h0a,b0I hP1,b1h hPlt,hgx,hlt];refine b0L (g9A x.tree (by omega) nd hnd) (by simp -implicitDefEqProofs only[go_sem]) ?_;cases ho:(if 0≤nd then(b0o x.tree)[nd.toNat]? else none)with
   | none =>
    rw[ho]at htf;simp -implicitDefEqProofs only[go_sem,b0d,b0a,b0c,b0b,g9Y,g9Z,h0a,b0I hP1,b1h hPlt,h0y];rw[htf]
   | some m =>
    rw[ho]at htf;simp only at htf;obtain⟨mk,mt,mg,mks⟩:=m;simp -implicitDefEqProofs only[go_sem,b0d,b0a,b0c,b0b,g9Y,g9Z,h0a,b0I hP1,b1h hPlt,h0L,h0A];refine(d0J mk).calls (by simp -implicitDefEqProofs only[go_sem]) ?_;simp -implicitDefEqProofs only[go_sem,b0d,b0a,b0c,b0b,g9Y,g9Z,h0a,b0I hP1,b1h hPlt];have hkd:(Nd.mk mk mt mg mks).kind=mk:=rfl;rw[hkd]at htf;refine⟨fun h3=>?_,fun h3=>?_⟩
    ·rw[htf,if_neg (by simpa using h3)]
    ·have h3':b1D mk=3:=by simpa using h3
     rw[if_pos h3']at htf;have h0d:0≤nd:=by
      rcases Int.lt_or_le nd 0 with h | h
      ·rw[if_neg (by omega)]at ho;cases ho
      ·exact h
     rw[if_pos h0d]at ho;obtain⟨m,rfl⟩:∃ m:Nat,nd=m:=⟨nd.toNat,by omega⟩
     have hml:=(h0b.1 ho).1;have htb:=c7d hS.br hun;have hlen:(b0u x.tree (-1) 0).length=(b0o x.tree).length:=b0K ..;refine Tof hS.ckT [] PRE (k:=((n:Int),(m:Int))) ⟨n,m,_,rfl,htb,by simp at hml;omega⟩ kn sg ab _ _ _ hm ?_;intro kn1 sg1 ab1 hm1;simp -implicitDefEqProofs only[go_sem,ck4,b0d,b0a,b0c,b0b,g9Y,g9Z,h0a];rw[htf]
  ·rw[htf,if_pos (.inl h0)]
end Go.Proofs.YtighfcpaplmaiaaGreatDoor
namespace Go.Vg
theorem b4f.heap{e n0 m0:Nat}{z:List VObj}{y:List Nat}{v:V}{l:List (List V)}(h:b4f e n0 m0 z y v l)(z2:List VObj):b4f e n0 m0 (z++z2) y v l:=by
 have:=h.app z2 []
 rwa [h0F]at this
theorem b0G:∀ {a:List Nat},b8I a a
 | []=>trivial
 | _::_=>⟨rfl,b0G⟩
end Go.Vg
namespace Go.Proofs.YtighfcpaplmaiaaGreatDoor
open Go Go.Vg Go.Proofs
def b4X(d:Dl):Option ByteArray:=if d.kind=1 then some d.name else if d.kind=4 then some (d.owner++⟨#[46]⟩++d.name)else none
def d7H(u:List Un):List ByteArray:=(b0e u 0).filterMap b4X
def d4i(u:List Un):List ByteArray:=b1E (d7H u)
theorem b7o:(envV 28).P.bytesOf 9=16:=by
 rw[show(envV 28).P=Tryz.prog from rfl];kernel_rfl
theorem c8M(u:List Un)(hu:b2D u):b0s env 49 [sl 70 (u.map Un.enc)] (sl 9 ((d4i u).map b0n)):=by
 have hsd:=c0b hu;have hdl:=b0H u 0 fun y hy=>(hu.2 y hy).1
 have hul:=hu.1;refine c4P (E:=env) (by simp -implicitDefEqProofs only[go_sem];exact b0v _) (b5L _) b3m (fun el h=>b3z el h) ?_;refine b0q.ofV (tv:=28) ?_;refine b0y (fn:=Tryz.f49) Tryz.func49 rfl (by rw[Tryz.ntmps49];simp) ?_;simp -implicitDefEqProofs only[go_sem,Tryz.f49];have hPD:=d3g u hu;rw[b6r]at hPD;refine b0q.toV (hPD.calls (by simp -implicitDefEqProofs only[go_sem]) ?_);generalize hdd:b0e u 0=dl at hdl;have hcs:d4i u=b1E (dl.filterMap b4X):=by unfold d4i d7H;rw[hdd]
 have hsd':∀ d∈dl,d.owner.size≤3000000∧d.name.size≤1000000:=fun d hd=>hsd d (hdd ▸ hd)
 rw[hcs];simp -implicitDefEqProofs only[go_sem];intro _ _;refine b0l (β:=V×List VObj×List Nat) dl (fun pre b=>⟨[(9,.int .i64 pre.length),(8,.int .i64 dl.length),(7,sl 54 (dl.map Dl.enc)),(3,b.1),(2,.slice .nil 0 [])],b.2.1,b.2.2⟩)
  (fun pre post b=>b4f 9 0 0 b.2.1 b.2.2 b.1 ((pre.filterMap b4X).map b0n)) (.slice .nil 0 [],[],[]) ?_ b4f.nil ?_ ?_
 ·simp -implicitDefEqProofs only[go_sem];rfl
 ·rintro⟨v,z,y⟩ hacc;simp only at hacc ⊢;simp -implicitDefEqProofs only[go_sem];refine b6H (h0:=[]) (a0:=[]) hacc fun z' hacc' _ _=>?_
  simp -implicitDefEqProofs only[go_sem];exact hacc'
 ·rintro pre d post ⟨v,z,y⟩ hx hacc;have hpl:dl.length=pre.length+1+post.length:=by rw[hx];simp;omega
  have hgx:(dl.map Dl.enc).getD (pre.length:Int).toNat []=d.enc:=by rw[hx];simp[h0c]
  have hlt:((pre.length:Int)<dl.length)=True:=by simp;omega
  have hw:IntKind.i64.wrap (↑pre.length+1)=↑(pre.length+1):=b0g (by omega);obtain⟨hso,hsn⟩:=hsd' d (by rw[hx];simp);simp only at hacc ⊢;have hfm:((pre++[d]).filterMap b4X).map b0n=(pre.filterMap b4X).map b0n++((b4X d).toList.map b0n):=by
   rw[List.filterMap_append,h0M];cases hc:b4X d <;> simp[hc]
  have hfl:(pre.filterMap b4X).length≤pre.length:=List.length_filterMap_le _ _;simp -implicitDefEqProofs only[go_sem,hgx,hlt,hacc.asl];have hb1:(((pre.filterMap b4X).map b0n).length+1) * (envV 28).P.bytesOf 9≤140737488355328:=by rw[b7o,h0v];omega
  refine⟨fun h1=>?_,fun h1=>⟨fun h4=>⟨(show d.owner.size+1≤1152921504606846976 by omega),(show d.owner.size+1+d.name.size≤1152921504606846976 by omega),?_⟩,fun h4=>?_⟩⟩
  ·have hc:b4X d=some d.name:=by rw[b4X,if_pos h1]
   rw[hc]at hfm;refine b4x (h0:=[]) (a0:=[]) (hacc.heap _) b3z b3m hb1 fun v' z' y' hacc' hz1 hz2 hy1=>?_
   simp -implicitDefEqProofs only[go_sem];rw[hfm];exact⟨(v',z',y'),hacc',⟨hw,b1k⟩,b0r,b0G,.inl ⟨h0q _,h0q _⟩⟩
  ·have hc:b4X d=some (d.owner++⟨#[46]⟩++d.name):=by rw[b4X,if_neg h1,if_pos h4]
   rw[hc]at hfm;refine b4x (h0:=[]) (a0:=[]) (hacc.heap _) b3z b3m hb1 fun v' z' y' hacc' hz1 hz2 hy1=>?_
   simp -implicitDefEqProofs only[go_sem];rw[hfm];exact⟨(v',z',y'),hacc',⟨hw,b1k⟩,b0r,b0G,.inl ⟨h0q _,h0q _⟩⟩
  ·have hc:b4X d=none:=by rw[b4X,if_neg h1,if_neg h4]
   rw[hc]at hfm;rw[hfm];exact⟨(v,z++[.cells d.enc],y),by simpa using hacc.heap [.cells d.enc],⟨hw,b1k⟩,b0r,b0G,.inl ⟨by simp,h0q _⟩⟩
end Go.Proofs.YtighfcpaplmaiaaGreatDoor
namespace Go.Vg
theorem b4f.one{e n0 m0:Nat}{z:List VObj}{y:List Nat}{v:V}{l:List (List V)}(h:b4f e n0 m0 z y v l):v.cell=true∧v.some? = true∧cellsV v=[v]:=by
 rcases h with⟨_,e0,rfl⟩ | ⟨_,j,k,gen,rfl,_⟩ <;> exact⟨rfl,rfl,rfl⟩
theorem b2X{N:Nat}{x:V}:Vg.tell1 N x x:=by
 unfold Vg.tell1;split <;> simp_all
theorem b4f.base{e:Nat}{H z:List VObj}{A y:List Nat}{v:V}{l:List (List V)}(h:b4f e H.length A.length z y v l):b4f e 0 0 (H++z) (A++y) v l:=by
 rcases h with h | ⟨h1,j,k,gen,rfl,h3,h4⟩
 ·exact .inl h
 ·exact .inr ⟨h1,H.length+j,A.length+k,gen,by rw[h0w,h0w],by rw[b3g,h0w];exact h3,by rw[b3g];exact h4⟩
def c4G(l:List ByteArray)(t:ByteArray):List ByteArray:=if(l.any fun x=>decide (x=t))=true then l else l++[t]
end Go.Vg
namespace Go.Proofs.YtighfcpaplmaiaaGreatDoor
open Go Go.Vg Go.Proofs
theorem c5W{tv:TypeId}{l:List ByteArray}{n:ByteArray}{K:V→Prop}:b1L (envV tv) 4 (b1v .string (.str n) (b2R l) 0) false K=K (.bool (l.any fun x=>decide (x=n))):=d3l
theorem f9T(a0:List Nat)(c0:VObj)(v:V)(z:List VObj)(y:List Nat)(l:List ByteArray)(text:ByteArray)(hl:l.length≤1000000)(hacc:b4f 9 4 a0.length z y v (l.map b0n)){K:b1y}
  (hK:∀ v' z' y',b4f 9 4 a0.length z' y' v' ((c4G l text).map b0n)→z.length≤z'.length→y.length≤y'.length→K (.tuple []) (c0 :: .map (b2R (c4G l text)) :: .cells [.map 1] :: .cells [v']::z') (a0++y')) :
  b0q (envV 28) 69 [.str text,.ptr 2 0,.ptr 3 0] (c0 :: .map (b2R l) :: .cells [.map 1] :: .cells [v]::z) (a0++y) K:=by
 obtain⟨o1,o2,o3⟩:=hacc.one;refine b0y (fn:=Tryz.f69) Tryz.func69 rfl (by rw[Tryz.ntmps69];simp) ?_;simp -implicitDefEqProofs only[go_sem,Tryz.f69,b0d,b0a,b0c,b0b,g9Y,g9Z,h0a,c5W];unfold c4G at hK;refine⟨fun ha=>?_,fun ha=>?_⟩
 ·have ha':(l.any fun x=>decide (x=text))=false:=by cases h:(l.any fun x=>decide (x=text)) <;> simp_all
  rw[ha',if_neg (by simp)]at hK;rw[d2C ha'];simp -implicitDefEqProofs only[go_sem,b0d,b0a,b0c,b0b,g9Y,g9Z,h0a,hacc.asl];have happ:=@b4x (envV 28) 9 9 .full [c0,.map (b2R (l++[text])),.cells [.map 1],.cells [v]] z a0 y v (l.map b0n) [.str text];refine happ hacc b3z b3m (by rw[b7o,h0v];omega) fun v' z' y' hacc' hz1 hz2 hy1=>?_
  obtain⟨p1,p2,p3⟩:=hacc'.one;simp -implicitDefEqProofs only[go_sem,b0d,b0a,b0c,b0b,g9Y,g9Z,h0a,p1,p2,p3];exact hK v' z' y' (by rw[h0M];exact hacc') hz1 hy1
 ·have ha':(l.any fun x=>decide (x=text))=true:=by cases h:(l.any fun x=>decide (x=text)) <;> simp_all
  rw[if_pos ha']at hK;exact hK _ _ _ hacc (h0q _) (h0q _)
def b2z(d:Dl):ByteArray:=d.owner++⟨#[46]⟩++d.name
def tgL(u:List Un)(c text:ByteArray):List ByteArray:=(c::b9y u c).filterMap fun x=>(b1H u x text).map b2z
def c2D(l:List ByteArray):List ByteArray:=l.foldl c4G []
def c0T(u:List Un)(un nd kind:Int)(text:ByteArray):List ByteArray:=if kind=20 then [text]else if kind=21 then(if(c3D u un (nd+1)).2=0 then b1E (c2D (tgL u (c3D u un (nd+1)).1 text))else [])else []
theorem c9Z{l:List ByteArray}(h:l.Nodup)(t:ByteArray):(c4G l t).Nodup:=by
 unfold c4G;split
 ·exact h
 ·rename_i hn;rw[h1v];refine⟨h,by simp,fun a ha b hb=>?_⟩;have:=h0R.1 hb;subst this;rintro rfl;exact hn (h1a.2 ⟨a,ha,by simp⟩)
theorem d6f{l:List ByteArray}{t x:ByteArray}:x∈c4G l t↔x∈l∨x=t:=by
 unfold c4G;split
 ·rename_i h;obtain⟨y,hy,he⟩:=h1a.1 h;have:y=t:=by simpa using he
  subst this;exact⟨.inl,fun h=>h.elim id fun h=>h ▸ hy⟩
 ·simp
theorem d5P{l:List ByteArray}{t:ByteArray}:(c4G l t).length≤l.length+1:=by unfold c4G;split <;> simp
theorem b7M(l:List ByteArray):∀ p:List ByteArray,p.Nodup→(l.foldl c4G p).Nodup∧∀ x,x∈l.foldl c4G p↔x∈p∨x∈l:=by
 induction l with
 | nil=>intro p h;exact⟨h,by simp⟩
 | cons t r ih =>
  intro p h;obtain⟨h1,h2⟩:=ih _ (c9Z h t);refine⟨h1,fun x=>?_⟩;rw[h0K,h2 x,d6f,h0C,or_assoc]
theorem c4n(t:ByteArray):b1E [t]=[t]:=by simp[b1E]
theorem b9b:∀ (l p:List ByteArray),(l.foldl c4G p).length≤p.length+l.length
 | [],p=>by simp
 | x::r,p=>by
  have h1:=b9b r (c4G p x);have h2:=@d5P p x;rw[h0K,h0o];omega
theorem c7A{u:List Un}(hu:b2D u)(c:ByteArray):(b9y u c).length≤1000000:=by
 have h1:=b1i (btU u) (b0e u 0);have h2:=b0H u 0 fun y hy=>(hu.2 y hy).1
 have h3:=hu.1;unfold b9y d8E;rw[b4B,h0v];have h4:=h1o (c7h (b0C (btU u) (b0e u 0)) c) (b0C (btU u) (b0e u 0));omega
theorem c8t(u:List Un)(hu:b2D u)(hgp:b7O u)(un nd kind:Int)(hnd:0≤nd∧nd≤1000000)(text:ByteArray) :
  b0s env 37 [sl 70 (u.map Un.enc),.agg [.int .i64 un,.int .i64 nd],.int .i64 kind,.str text] (sl 9 ((c0T u un nd kind text).map b0n)):=by
 refine c4P (E:=env) (by simp -implicitDefEqProofs only[go_sem];exact b0v _) (b5L _) b3m (fun el h=>b3z el h) ?_;refine b0q.ofV (tv:=28) ?_;refine b0y (fn:=Tryz.f37) Tryz.func37 rfl (by rw[Tryz.ntmps37];simp) ?_;have hsd:=c0b hu;have hw1:IntKind.i64.wrap (nd+1)=nd+1:=b1M (by omega) (by omega);simp -implicitDefEqProofs only[go_sem,Tryz.f37,hw1];refine⟨fun h20=>?_,fun h20=>⟨fun h21=>?_,fun h21=>?_⟩⟩
 ·refine f9T [] _ _ [] [] [] text (by simp) b4f.nil fun v' z' y' hacc hz1 hy1=>?_
  simp -implicitDefEqProofs only[go_sem,b0d,b0a,b0c,b0b,g9Y,g9Z,h0a];refine @b6H [.cells [.int .i64 un,.int .i64 nd],.map (b2R (c4G [] text)),.cells [.map 1],.cells [v']] z' [] y' v' [text] _ hacc fun z2 hacc2 hl2 hk2=>?_
  simp -implicitDefEqProofs only[go_sem,b0d,b0a,b0c,b0b,g9Y,g9Z,h0a];have hone:c0T u un nd kind text=[text]:=by rw[c0T,if_pos h20]
  rw[hone];rw[c4n]at hacc2;exact hacc2.base (A:=[])
 ·have hT:=f1j u hu hgp un (nd+1) (by omega);refine b0q.toV (hT.calls (by simp -implicitDefEqProofs only[go_sem]) ?_);have htg:c0T u un nd kind text=if(c3D u un (nd+1)).2=0 then b1E (c2D (tgL u (c3D u un (nd+1)).1 text))else []:=by rw[c0T,if_neg h20,if_pos h21]
  rw[htg];generalize c3D u un (nd+1)=te;obtain⟨c,e⟩:=te;simp -implicitDefEqProofs only[go_sem];refine⟨fun he=>?_,fun he=>?_⟩
  ·have he':¬ e=0:=by simpa using he
   rw[if_neg he'];exact b4f.nil
  ·have he':e=0:=by simpa using he
   rw[if_pos he'];refine b0q.toV ((g0D u hu c).calls (by simp -implicitDefEqProofs only[go_sem]) ?_);have hsl:=c7A hu c;obtain⟨L,hL⟩:∃ L,L=c::b9y u c:=⟨_,rfl⟩
   have htl:tgL u c text=L.filterMap fun x=>(b1H u x text).map b2z:=by rw[tgL,hL]
   have hLl:L.length≤1000001:=by rw[hL,h0o];omega
   rw[htl];simp -implicitDefEqProofs only[go_sem];refine⟨by omega,fun hnil=>?_,fun hnil _ _=>?_⟩
   ·have hs:b9y u c=[]:=by simpa using hnil
    rw[hs]at hL;refine b0l (β:=V×List VObj×List Nat) L (fun q b=>⟨[(48,.int .i64 q.length),(47,.int .i64 L.length),(46,sl 9 (L.map b0n)),(11,.func 69 [.ptr 2 0,.ptr 3 0]),(10,.ptr 3 0),(0,sl 70 (u.map Un.enc)),(3,.str text)],
     .cells [.int .i64 un,.int .i64 nd] :: .map (b2R (c2D (q.filterMap fun x=>(b1H u x text).map b2z))) :: .cells [.map 1] :: .cells [b.1]::b.2.1,[]++b.2.2⟩)
     (fun q r b=>b4f 9 4 ([]:List Nat).length b.2.1 b.2.2 b.1 ((c2D (q.filterMap fun x=>(b1H u x text).map b2z)).map b0n)) (.slice .nil 0 [],[],[]) ?_ b4f.nil ?_ ?_
    ·subst hL;simp -implicitDefEqProofs only[go_sem];exact⟨⟨rfl,rfl⟩,rfl⟩
    ·rintro⟨v,z,y⟩ hacc;simp only at hacc ⊢;simp -implicitDefEqProofs only[go_sem,b0d,b0a,b0c,b0b,g9Y,g9Z,h0a];refine @b6H [.cells [.int .i64 un,.int .i64 nd],.map (b2R (c2D (L.filterMap fun x=>(b1H u x text).map b2z))),.cells [.map 1],.cells [v]] z [] y v _ _ hacc fun z2 hacc2 hl2 hk2=>?_
     simp -implicitDefEqProofs only[go_sem,b0d,b0a,b0c,b0b,g9Y,g9Z,h0a];exact hacc2.base
    ·rintro q x r ⟨v,z,y⟩ hx hacc;have hpl:L.length=q.length+1+r.length:=by rw[hx];simp;omega
     have hgx:(L.map b0n).getD (q.length:Int).toNat []=b0n x:=by rw[hx];simp[h0c]
     have hlt:((q.length:Int)<L.length)=True:=by simp;omega
     have hw:IntKind.i64.wrap (↑q.length+1)=↑(q.length+1):=b0g (by omega);simp only at hacc ⊢;simp -implicitDefEqProofs only[go_sem,hgx,hlt,b0n,b0d,b0a,b0c,b0b,g9Y,g9Z,h0a];refine b0q.toV ((c5K u hu x text).calls (by simp -implicitDefEqProofs only[go_sem]) ?_);cases hlk:b1H u x text with
     | none =>
      simp -implicitDefEqProofs only[go_sem,b0d,b0a,b0c,b0b,g9Y,g9Z,h0a,b2F,h0y];have hsn:(q++[x]).filterMap (fun x=>(b1H u x text).map b2z)=q.filterMap fun x=>(b1H u x text).map b2z:=by
       rw[List.filterMap_append];simp[hlk]
      rw[hsn];exact⟨(v,z++[.cells Dl.zero.enc],y),hacc.heap _,hw,⟨rfl,b2X,b0r⟩,b0G,.inl ⟨by simp,h0q _⟩⟩
     | some d =>
      simp -implicitDefEqProofs only[go_sem,b0d,b0a,b0c,b0b,g9Y,g9Z,h0a,b2F,h0L,h0A];obtain⟨hso,hsn⟩:=hsd d (b4M hlk).1;have hsn2:c2D ((q++[x]).filterMap fun x=>(b1H u x text).map b2z)=c4G (c2D (q.filterMap fun x=>(b1H u x text).map b2z)) (d.owner++⟨#[46]⟩++d.name):=by
       rw[List.filterMap_append];simp[hlk,c2D,b2z,List.foldl_append]
      refine⟨(show d.owner.size+1≤1152921504606846976 by omega),(show d.owner.size+1+d.name.size≤1152921504606846976 by omega),?_⟩;have hdl:=b9b (q.filterMap fun x=>(b1H u x text).map b2z) [];have hfl:=List.length_filterMap_le (fun x=>(b1H u x text).map b2z) q;refine f9T [] _ v (z++[.cells d.enc]) y _ _ (by unfold c2D;simp only[h0J]at hdl;omega) (hacc.heap _) fun v' z' y' hacc' hz1 hy1=>?_
      rw[←hsn2]at hacc' ⊢;simp -implicitDefEqProofs only[go_sem,b0d,b0a,b0c,b0b,g9Y,g9Z,h0a];exact⟨(v',z',y'),hacc',hw,⟨b2X,b0r⟩,b0G,.inl ⟨h0q _,h0q _⟩⟩
   ·have hLn:1+(b9y u c).length=L.length:=by rw[hL,h0o];omega
    refine b0l (β:=V×List VObj×List Nat) L (fun q b=>⟨[(48,.int .i64 q.length),(47,.int .i64 L.length),(46,sl 9 (L.map b0n)),(11,.func 69 [.ptr 2 0,.ptr 3 0]),(10,.ptr 3 0),(0,sl 70 (u.map Un.enc)),(3,.str text)],
     .cells [.int .i64 un,.int .i64 nd] :: .map (b2R (c2D (q.filterMap fun x=>(b1H u x text).map b2z))) :: .cells [.map 1] :: .cells [b.1]::b.2.1,[1+(b9y u c).length]++b.2.2⟩)
     (fun q r b=>b4f 9 4 ([1+(b9y u c).length]:List Nat).length b.2.1 b.2.2 b.1 ((c2D (q.filterMap fun x=>(b1H u x text).map b2z)).map b0n)) (.slice .nil 0 [],[],[]) ?_ b4f.nil ?_ ?_
    ·subst hL;simp -implicitDefEqProofs only[go_sem];exact⟨⟨rfl,rfl⟩,rfl⟩
    ·rintro⟨v,z,y⟩ hacc;simp only at hacc ⊢;simp -implicitDefEqProofs only[go_sem,b0d,b0a,b0c,b0b,g9Y,g9Z,h0a];refine @b6H [.cells [.int .i64 un,.int .i64 nd],.map (b2R (c2D (L.filterMap fun x=>(b1H u x text).map b2z))),.cells [.map 1],.cells [v]] z [1+(b9y u c).length] y v _ _ hacc fun z2 hacc2 hl2 hk2=>?_
     simp -implicitDefEqProofs only[go_sem,b0d,b0a,b0c,b0b,g9Y,g9Z,h0a];exact hacc2.base
    ·rintro q x r ⟨v,z,y⟩ hx hacc;have hpl:L.length=q.length+1+r.length:=by rw[hx];simp;omega
     have hgx:(L.map b0n).getD (q.length:Int).toNat []=b0n x:=by rw[hx];simp[h0c]
     have hlt:((q.length:Int)<L.length)=True:=by simp;omega
     have hw:IntKind.i64.wrap (↑q.length+1)=↑(q.length+1):=b0g (by omega);simp only at hacc ⊢;simp -implicitDefEqProofs only[go_sem,hgx,hlt,b0n,b0d,b0a,b0c,b0b,g9Y,g9Z,h0a];refine b0q.toV ((c5K u hu x text).calls (by simp -implicitDefEqProofs only[go_sem]) ?_);cases hlk:b1H u x text with
     | none =>
      simp -implicitDefEqProofs only[go_sem,b0d,b0a,b0c,b0b,g9Y,g9Z,h0a,b2F,h0y];have hsn:(q++[x]).filterMap (fun x=>(b1H u x text).map b2z)=q.filterMap fun x=>(b1H u x text).map b2z:=by
       rw[List.filterMap_append];simp[hlk]
      rw[hsn];exact⟨(v,z++[.cells Dl.zero.enc],y),hacc.heap _,hw,⟨rfl,b2X,b0r⟩,b0G,.inl ⟨by simp,h0q _⟩⟩
     | some d =>
      simp -implicitDefEqProofs only[go_sem,b0d,b0a,b0c,b0b,g9Y,g9Z,h0a,b2F,h0L,h0A];obtain⟨hso,hsn⟩:=hsd d (b4M hlk).1;have hsn2:c2D ((q++[x]).filterMap fun x=>(b1H u x text).map b2z)=c4G (c2D (q.filterMap fun x=>(b1H u x text).map b2z)) (d.owner++⟨#[46]⟩++d.name):=by
       rw[List.filterMap_append];simp[hlk,c2D,b2z,List.foldl_append]
      refine⟨(show d.owner.size+1≤1152921504606846976 by omega),(show d.owner.size+1+d.name.size≤1152921504606846976 by omega),?_⟩;have hdl:=b9b (q.filterMap fun x=>(b1H u x text).map b2z) [];have hfl:=List.length_filterMap_le (fun x=>(b1H u x text).map b2z) q;refine f9T [1+(b9y u c).length] _ v (z++[.cells d.enc]) y _ _ (by unfold c2D;simp only[h0J]at hdl;omega) (hacc.heap _) fun v' z' y' hacc' hz1 hy1=>?_
      rw[←hsn2]at hacc' ⊢;simp -implicitDefEqProofs only[go_sem,b0d,b0a,b0c,b0b,g9Y,g9Z,h0a];exact⟨(v',z',y'),hacc',hw,⟨b2X,b0r⟩,b0G,.inl ⟨h0q _,h0q _⟩⟩
 ·refine @b6H [.cells [.int .i64 un,.int .i64 nd],.map [],.cells [.map 1],.cells [.slice .nil 0 []]] [] [] [] _ [] _ b4f.nil fun z2 hacc2 hl2 hk2=>?_
  have hno:c0T u un nd kind text=[]:=by rw[c0T,if_neg h20,if_neg h21]
  rw[hno];simp -implicitDefEqProofs only[go_sem,b0d,b0a,b0c,b0b,g9Y,g9Z,h0a];exact b4f.nil
end Go.Proofs.YtighfcpaplmaiaaGreatDoor
namespace Go.Vg
def c7V(l:List Rw)(i:Nat):Option Nat:=upF l (l.length+1) (i:Int)
def qnR(l:List Rw)(i:Nat):ByteArray:=if 0≤(b0h l i).parent∧(b0h l (b0h l i).parent.toNat).kind=7 then(b0h l (b0h l i).parent.toNat).text++⟨#[46]⟩++(b0h l i).text else(b0h l i).text
def c0V(l:List Rw)(i:Nat):Option ByteArray:=(c7V l i).map (qnR l)
end Go.Vg
namespace Go.Proofs.YtighfcpaplmaiaaGreatDoor
open Go Go.Vg Go.Proofs
def c8H(u:List Un)(un nd:Int):List ByteArray:=if ¬ (b4H u).1=0∨un<0∨(u.length:Int)≤un then []else
 match(if 0≤nd then(b0o ((u[un.toNat]?.map Un.tree).getD Nd.zero))[nd.toNat]? else none)with
 | some n=>c0T u un nd n.kind n.text
 | none=>[]
theorem c6V(u:List Un)(hu:b2D u)(hgp:b7O u)(un nd:Int)(hnd:nd≤9223372036854775807):b0s env 12 [sl 70 (u.map Un.enc),.agg [.int .i64 un,.int .i64 nd]] (sl 9 ((c8H u un nd).map b0n)):=by
 refine b0i (fn:=Tryz.f12) Tryz.func12 rfl (by rw[Tryz.ntmps12];simp) (by simp -implicitDefEqProofs only[go_sem];exact b0v _) (by simp -implicitDefEqProofs only[go_sem]) ?_;simp -implicitDefEqProofs only[go_sem,Tryz.f12];refine(d7y u hu hgp).calls (by simp -implicitDefEqProofs only[go_sem]) ?_;simp -implicitDefEqProofs only[go_sem,c3E];refine⟨fun h0=>⟨fun h1 _ _=>⟨fun h2=>?_,fun h2=>?_⟩,fun h1=>?_⟩,fun h0=>?_⟩
 ·rw[c8H,if_pos (.inr (.inr h2))];rfl
 ·have h0':(b4H u).1=0:=by simpa using h0
  obtain⟨n,rfl⟩:∃ n:Nat,un=n:=⟨un.toNat,by omega⟩
  have hn:n<u.length:=by omega
  have hun:u[n]? = some u[n]:=h0f hn;generalize u[n]=x at hun;have hx:=hu.2 x (h0j hun);have hgx:(u.map Un.enc).getD ((n:Nat):Int).toNat []=x.enc:=by simp[h0c,hun]
  have hlt:((n:Int)<u.length)=True:=by simp;omega
  have htg:c8H u n nd=match(if 0≤nd then(b0o x.tree)[nd.toNat]? else none)with | some m=>c0T u n nd m.kind m.text | none=>[]:=by
   rw[c8H,if_neg (by rintro(h | h | h) <;> first | exact h h0' | omega),h0n,hun];rfl
  refine sdq ?_;simp -implicitDefEqProofs only[go_sem,hgx,hlt];refine b0L (TAt x.tree (by omega) nd hnd) (by simp -implicitDefEqProofs only[go_sem]) ?_;cases ho:(if 0≤nd then(b0o x.tree)[nd.toNat]? else none)with
  | none =>
   rw[ho]at htg;simp -implicitDefEqProofs only[go_sem,h0y];rw[htg];rfl
  | some m =>
   rw[ho]at htg;simp only at htg;have h0d:0≤nd:=by
    rcases Int.lt_or_le nd 0 with h | h
    ·rw[if_neg (by omega)]at ho;cases ho
    ·exact h
   rw[if_pos h0d]at ho;have hml:=(h0b.1 ho).1;obtain⟨mk,mt,mg,mks⟩:=m;simp -implicitDefEqProofs only[go_sem,h0L,h0A];refine(c8t u hu hgp n nd mk ⟨h0d,by omega⟩ mt).calls (by simp -implicitDefEqProofs only[go_sem]) ?_;simp -implicitDefEqProofs only[go_sem];rw[htg];rfl
 ·rw[c8H,if_pos (.inr (.inl h1))];rfl
 ·rw[c8H,if_pos (.inl (by simpa using h0))];rfl
theorem f0D(l:List Rw)(hr:rowsOK l)(i:Nat)(hi:i<l.length)(hs:∀ r∈l,r.text.size≤1000000):b0s env 42 [sl 48 (l.map Rw.enc),.int .i64 i] (.tuple [.str ((c0V l i).getD ⟨#[]⟩),.bool (c0V l i).isSome]):=by
 refine b0i (fn:=Tryz.f42) Tryz.func42 rfl (by rw[Tryz.ntmps42];simp) (by simp -implicitDefEqProofs only[go_sem];exact b0T _) rfl ?_;simp -implicitDefEqProofs only[go_sem,Tryz.f42];refine b1u (α:=Int×Nat) (fun b=>⟨[(6,.int .i64 b.1),(5,.bool false),(4,.str ⟨#[]⟩),(0,sl 48 (l.map Rw.enc))],[],[]⟩)
  (fun b => -1≤b.1∧b.1+1<b.2∧b.1<l.length∧c7V l i=upF l b.2 b.1) (fun b=>(b.1+1).toNat) (i,l.length+1) ?_ ⟨by omega,by simp;omega,by simp;omega,rfl⟩ ?_
 ·simp -implicitDefEqProofs only[go_sem];try rfl
 ·rintro⟨k,f⟩ ⟨h1,h2,h3,h4⟩;simp only at h1 h2 h3 h4 ⊢;obtain⟨f,rfl⟩:∃ f',f=f'+1:=⟨f - 1,by omega⟩
  simp -implicitDefEqProofs only[go_sem];refine⟨fun hk=>?_,fun hk=>?_⟩
  ·obtain⟨k,rfl⟩:=h0X hk;have hkl:k<l.length:=by omega
   have hgk:=b0z hkl;have hklt:((k:Int)<l.length)=True:=by simp;omega
   have hk0:(0≤(k:Int))=True:=by simp
   have hpk:=hr.par k hkl;rw[upF,if_neg (by omega),h0n]at h4;simp -implicitDefEqProofs only[go_sem,hgk,hklt,hk0,Rw.enc];refine⟨fun h2=>?_,fun h2=>?_⟩
   ·have h2':¬ (b0h l k).kind=2:=by simpa using h2
    rw[if_neg h2']at h4;exact⟨((b0h l k).parent,f),by simp only;omega,⟨hpk.2,by simp only;omega,by simp only;omega,h4⟩,rfl⟩
   ·have h2':(b0h l k).kind=2:=by simpa using h2
    rw[if_pos h2']at h4;have har:c0V l i=some (qnR l k):=by rw[c0V,h4];rfl
    rw[har];have hts:∀ j:Nat,j<l.length→(b0h l j).text.size≤1000000:=fun j hj=>by
     have:=hs l[j] (List.getElem_mem hj);rw[show b0h l j=l[j]by simp[b0h,h0c,hj]];exact this
    refine⟨fun hp0=>?_,fun hp0=>?_⟩
    ·obtain⟨p,hpe⟩:=h0X hp0;have hpl:p<l.length:=by omega
     have hgp:=b0z hpl;have hplt:((p:Int)<l.length)=True:=by simp;omega
     have hpp0:(0≤(p:Int))=True:=by simp
     have hq:qnR l k=if(b0h l p).kind=7 then(b0h l p).text++⟨#[46]⟩++(b0h l k).text else(b0h l k).text:=by
      unfold qnR;rw[hpe,h0n];simp
     rw[hpe];rw[hq];simp -implicitDefEqProofs only[go_sem,hgp,hplt,hpp0,Rw.enc];refine⟨fun h7=>?_,fun h7=>⟨by omega,?_⟩⟩
     ·rw[if_pos h7];refine sdq ?_;simp -implicitDefEqProofs only[go_sem,hgp,hplt,hpp0,hgk,hklt,hk0,Rw.enc];have t1:=hts p hpl;have t2:=hts k hkl;exact⟨(show(b0h l p).text.size+1≤1152921504606846976 by omega),(show(b0h l p).text.size+1+(b0h l k).text.size≤1152921504606846976 by omega),rfl⟩
     ·rw[if_neg h7];simp -implicitDefEqProofs only[go_sem,hgp,hplt,hpp0,hgk,hklt,hk0,Rw.enc];try rfl
    ·have hq:qnR l k=(b0h l k).text:=by unfold qnR;rw[if_neg (fun h=>hp0 h.1)]
     rw[hq];rfl
  ·have hk':k<0:=by omega
   rw[upF,if_pos hk']at h4;have:c0V l i=none:=by rw[c0V,h4];rfl
   rw[this];rfl
end Go.Proofs.YtighfcpaplmaiaaGreatDoor
set_option linter.unusedSectionVars false
namespace Go.Vg
theorem d2T{α:Type}[DecidableEq α]:∀ (l m:List α),l.Nodup→(∀ x∈l,x∈m)→l.length≤m.length
 | [],m,_,_=>Nat.zero_le _
 | x::l,m,hn,hm=>by
  have hx:=hm x (by simp);have h1:=d2T l (m.erase x) (h1t.1 hn).2 fun y hy=>by
   refine(List.mem_erase_of_ne ?_).2 (hm y (by simp[hy]));rintro rfl;exact(h1t.1 hn).1 hy
  have h2:=List.length_erase_of_mem hx;have h3:=List.length_pos_of_mem hx;simp only[h0o];omega
section
variable {α : Type} [DecidableEq α] (succ : α → List α)
def b1o(p:List α×List α)(t:α):List α×List α:=if t∈p.1 then p else(p.1++[t],p.2++[t])
def d4f:Nat→List α→List α→List α
 | 0,_,out=>out
 | _+1,[],out=>out
 | f+1,s::w,out=>d4f f ((succ s).foldl b1o (out,w)).2 ((succ s).foldl b1o (out,w)).1
inductive Rch(s:α):α→Prop
 | one {t}:t∈succ s→Rch s t
 | more {b t}:Rch s b→t∈succ b→Rch s t
theorem Rch.cons{succ:α→List α}{s b t:α}(hb:b∈succ s)(h:Rch succ b t):Rch succ s t:=by
 induction h with
 | one h=>exact .more (.one hb) h
 | more _ h ih=>exact .more ih h
theorem Rch.head{succ:α→List α}{s t:α}(h:Rch succ s t):∃ b∈succ s,t=b∨Rch succ b t:=by
 induction h with
 | one h=>exact⟨_,h,.inl rfl⟩
 | more _ h ih =>
  obtain⟨b,h1,h2⟩:=ih;rcases h2 with rfl | h2
  ·exact⟨_,h1,.inr (.one h)⟩
  ·exact⟨b,h1,.inr (.more h2 h)⟩
theorem Rch.trans{succ:α→List α}{s b t:α}(h1:Rch succ s b)(h:Rch succ b t):Rch succ s t:=by
 induction h with
 | one h=>exact .more h1 h
 | more _ h ih=>exact .more ih h
theorem b2T:∀ (l out w:List α),∃ new,(l.foldl b1o (out,w))=(out++new,w++new)∧(∀ t∈new,t∈l∧t ∉ out)∧new.Nodup∧∀ t∈l,t∈out∨t∈new
 | [],out,w=>⟨[],by simp,by simp,by simp,by simp⟩
 | x::r,out,w=>by
  rw[h0K];by_cases h:x∈out
  ·have e:b1o (out,w) x=(out,w):=by unfold b1o;rw[if_pos h]
   rw[e];obtain⟨new,h1,h2,h3,h4⟩:=b2T r out w;refine⟨new,h1,fun t ht=>⟨by simp[(h2 t ht).1],(h2 t ht).2⟩,h3,fun t ht=>?_⟩;rcases h0C.1 ht with rfl | ht
   ·exact .inl h
   ·exact h4 t ht
  ·have e:b1o (out,w) x=(out++[x],w++[x]):=by unfold b1o;rw[if_neg h]
   rw[e];obtain⟨new,h1,h2,h3,h4⟩:=b2T r (out++[x]) (w++[x]);refine⟨x::new,by rw[h1];simp,fun t ht=>?_,?_,fun t ht=>?_⟩
   ·rcases h0C.1 ht with rfl | ht
    ·exact⟨by simp,h⟩
    ·exact⟨by simp[(h2 t ht).1],fun hm=>(h2 t ht).2 (by simp[hm])⟩
   ·exact h1t.2 ⟨fun hm=>(h2 x hm).2 (by simp),h3⟩
   ·rcases h0C.1 ht with rfl | ht
    ·exact .inr (by simp)
    ·rcases h4 t ht with hm | hm
     ·rcases h0E.1 hm with hm | hm
      ·exact .inl hm
      ·exact .inr (by simp at hm;simp[hm])
     ·exact .inr (by simp[hm])
structure FlwI(T:List α)(s:α)(w out:List α):Prop where
 nod:out.Nodup
 sub:∀ t∈out,t∈T
 rch:∀ t∈out,Rch succ s t
 wrk:∀ t∈w,t=s∨t∈out
 cls:∀ x,(x=s∨x∈out)→x∈w∨∀ t∈succ x,t∈out
variable {succ}
theorem FlwI.start{T:List α}{s:α}:FlwI succ T s [s] []:=⟨by simp,by simp,by simp,by simp,fun x h=>by rcases h with rfl | h <;> simp_all⟩
theorem FlwI.step{T:List α}{s x:α}{w out:List α}(hT:∀ a,∀ t∈succ a,t∈T)(h:FlwI succ T s (x::w) out):FlwI succ T s ((succ x).foldl b1o (out,w)).2 ((succ x).foldl b1o (out,w)).1:=by
 obtain⟨new,h1,h2,h3,h4⟩:=b2T (succ x) out w;rw[h1];have hxr:∀ t∈succ x,Rch succ s t:=fun t ht=>by
  rcases h.wrk x (by simp)with rfl | hx
  ·exact .one ht
  ·exact .more (h.rch x hx) ht
 refine⟨?_,fun t ht=>?_,fun t ht=>?_,fun t ht=>?_,fun y hy=>?_⟩
 ·rw[h1v];refine⟨h.nod,h3,fun a ha b hb=>?_⟩;rintro rfl;exact(h2 a hb).2 ha
 ·rcases h0E.1 ht with ht | ht
  ·exact h.sub t ht
  ·exact hT x t (h2 t ht).1
 ·rcases h0E.1 ht with ht | ht
  ·exact h.rch t ht
  ·exact hxr t (h2 t ht).1
 ·rcases h0E.1 ht with ht | ht
  ·rcases h.wrk t (by simp[ht])with h | h
   ·exact .inl h
   ·exact .inr (h1e _ h)
  ·exact .inr (h1j _ ht)
 ·have hall:∀ t∈succ x,t∈out++new:=fun t ht=>by
   rcases h4 t ht with h | h
   ·exact h1e _ h
   ·exact h1j _ h
  have old:(y=s∨y∈out)→y∈w++new∨∀ t∈succ y,t∈out++new:=fun hy=>by
   rcases h.cls y hy with hw | hw
   ·rcases h0C.1 hw with rfl | hw
    ·exact .inr hall
    ·exact .inl (h1e _ hw)
   ·exact .inr fun t ht=>h1e _ (hw t ht)
  rcases hy with hy | hy
  ·exact old (.inl hy)
  ·rcases h0E.1 hy with hy | hy
   ·exact old (.inr hy)
   ·exact .inl (h1j _ hy)
theorem b9G{T:List α}(l:List α)(hl:l.Nodup)(hs:∀ x∈l,x∈T):l.length≤T.length:=d2T l T hl hs
theorem c9N{T:List α}{s:α}(hT:∀ a,∀ t∈succ a,t∈T):∀ (f:Nat) (w out:List α),FlwI succ T s w out→T.length+w.length<f+out.length →
  (d4f succ f w out).Nodup∧(∀ t,t∈d4f succ f w out↔Rch succ s t)∧∀ t∈d4f succ f w out,t∈T:=by
 intro f;induction f with
 | zero =>
  intro w out h hf;have:=b9G out h.nod h.sub;omega
 | succ f ih =>
  intro w out h hf;cases w with
  | nil =>
   refine⟨h.nod,fun t=>⟨fun ht=>h.rch t ht,fun ht=>?_⟩,h.sub⟩;show t∈out;induction ht with
   | one ht=>exact(h.cls s (.inl rfl)).elim (fun h=>by cases h) (fun h=>h _ ht)
   | more _ ht ih=>exact(h.cls _ (.inr ih)).elim (fun h=>by cases h) (fun h=>h _ ht)
  | cons x w =>
   rw[d4f];refine ih _ _ (h.step hT) ?_;obtain⟨new,h1,_⟩:=b2T (succ x) out w;rw[h1];simp only[h0h,h0o]at hf ⊢;omega
end
theorem g0l:∀ x y:List UInt8,Op.bytesLess x y=true↔x<y:=by
 intro x;induction x with
 | nil=>intro y;cases y <;> simp[Op.bytesLess]
 | cons a x ih =>
  intro y;cases y with
  | nil=>simp[Op.bytesLess]
  | cons b y =>
   rw[c2y,List.cons_lt_cons_iff,h1u,h0k,h0l,h0l,ih];have h1:a.toNat<b.toNat↔a<b:=UInt8.lt_iff_toNat_lt.symm;have h2:a.toNat=b.toNat↔a=b:=UInt8.toNat_inj;rw[h1,h2]
theorem f5k(a b:ByteArray):ltB a b=true↔a.data.toList<b.data.toList:=by
 unfold ltB;rw[g0l,b6T,b6T]
theorem c0H(l:List ByteArray):(l.mergeSort fun a b=>decide (a.data.toList≤b.data.toList)).Pairwise fun a b=>ltB b a=false:=by
 have h:=List.pairwise_mergeSort (le:=fun a b:ByteArray=>decide (a.data.toList≤b.data.toList)) (fun a b c h1 h2=>by
  simp only[h0l]at h1 h2 ⊢;exact List.le_trans h1 h2) (fun a b=>by
  simp only[h1u,h0l];exact List.le_total _ _) l
 refine h.imp fun {a b} hab=>?_
 simp only[h0l]at hab;cases hl:ltB b a with
 | false=>rfl
 | true=>exact absurd ((f5k b a).1 hl) (List.not_lt.2 hab)
theorem c9A{l:List ByteArray}(hn:l.Nodup):(l.mergeSort fun a b=>decide (a.data.toList≤b.data.toList)).Pairwise fun a b=>ltB a b=true:=by
 have h1:=c0H l;have h2:(l.mergeSort fun a b=>decide (a.data.toList≤b.data.toList)).Nodup:=(List.mergeSort_perm l _).nodup_iff.2 hn;refine(h1.and h2).imp fun {a b} ⟨hab,hne⟩=>?_
 cases hl:ltB a b with
 | true=>rfl
 | false=>exact absurd (b7W hl hab) hne
structure Ed where
 fr:ByteArray
 to:ByteArray
deriving DecidableEq
def Ed.enc(c:Ed):List V:=[.str c.fr,.str c.to]
theorem c1O(c:Ed):c.enc.length=2:=rfl
@[go_sem] theorem g3d(c:Ed):b0Y c.enc=true:=rfl
theorem b4T:∀ l:List Ed,b0P (l.map Ed.enc)=true
 | []=>rfl
 | n::r=>by show(b0Y _ && b0P (r.map Ed.enc))=true;rw[b4T r];rfl
abbrev SuM:=List (ByteArray×List ByteArray)
def c0q:Nat→SuM→List (ByteArray×(Nat×List ByteArray))
 | _,[]=>[]
 | b,p::r=>(p.1,(b,p.2))::c0q (b+1) r
theorem c5O(k:ByteArray):∀ (N:SuM) (b:Nat),
  (∃ (j:Nat) (vs:List ByteArray),b1t (c0q b N) k=some (b+j,vs)∧b1t N k=some vs∧N[j]? = some (k,vs)∧∀ vs',b4e (c0q b N) k (b+j,vs')=c0q b (b4e N k vs')∧b4e N k vs'=N.set j (k,vs')) ∨
  (b1t (c0q b N) k=none∧b1t N k=none∧∀ vs',b4e (c0q b N) k (b+N.length,vs')=c0q b (b4e N k vs')∧b4e N k vs'=N++[(k,vs')])
 | [],b => .inr ⟨rfl,rfl,fun vs'=>⟨rfl,rfl⟩⟩
 | p::r,b=>by
  by_cases h:k=p.1
  ·refine .inl ⟨0,p.2,?_,?_,?_,fun vs'=>⟨?_,?_⟩⟩
   ·rw[c0q,b1t];simp[h]
   ·rw[b1t,if_pos h]
   ·simp[h]
   ·rw[c0q,b4e,if_pos h,b4e,if_pos h,c0q];rfl
   ·rw[b4e,if_pos h];rfl
  ·rcases c5O k r (b+1)with⟨j,vs,h1,h2,h3,h4⟩ | ⟨h1,h2,h3⟩
   ·refine .inl ⟨j+1,vs,?_,?_,by simpa using h3,fun vs'=>⟨?_,?_⟩⟩
    ·rw[c0q,b1t,if_neg h,h1];congr 2;omega
    ·rw[b1t,if_neg h,h2]
    ·rw[c0q,b4e,if_neg h,b4e,if_neg h,c0q,←(h4 vs').1,show b+(j+1)=b+1+j by omega]
    ·rw[b4e,if_neg h,(h4 vs').2];rfl
   ·refine .inr ⟨?_,?_,fun vs'=>⟨?_,?_⟩⟩
    ·rw[c0q,b1t,if_neg h,h1]
    ·rw[b1t,if_neg h,h2]
    ·rw[c0q,b4e,if_neg h,b4e,if_neg h,c0q,←(h3 vs').1,h0o,show b+(r.length+1)=b+1+r.length by omega]
    ·rw[b4e,if_neg h,(h3 vs').2];rfl
def scN(N:SuM)(s:ByteArray):List ByteArray:=(b1t N s).getD []
def f2T(N:SuM)(x:Ed):SuM:=b4e N x.fr (scN N x.fr++[x.to])
def b1Q(l:List Ed):SuM:=l.foldl f2T []
theorem c3I(l:List Ed)(x:Ed):b1Q (l++[x])=f2T (b1Q l) x:=by simp[b1Q]
theorem c7k(s:ByteArray):∀ (l:List Ed) (N:SuM),scN (l.foldl f2T N) s=scN N s++(l.filter fun x=>decide (x.fr=s)).map Ed.to
 | [],N=>by simp
 | x::r,N=>by
  rw[h0K,c7k s r,List.filter_cons];unfold f2T;by_cases h:x.fr=s
  ·rw[if_pos (by simpa using h)];unfold scN;rw[b7V,if_pos h.symm,h];simp
  ·rw[if_neg (by simpa using h)];unfold scN;rw[b7V,if_neg (fun e=>h e.symm)]
theorem b5U(l:List Ed)(s:ByteArray):scN (b1Q l) s=(l.filter fun x=>decide (x.fr=s)).map Ed.to:=by
 rw[b1Q,c7k];rfl
end Go.Vg
namespace Go.Proofs.YtighfcpaplmaiaaGreatDoor
open Go Go.Vg Go.Proofs
def veS(p:Nat×List ByteArray):V := .slice (.arr p.1) 9 (p.2.map b0n)
def b5V(b:Nat)(N:SuM):List (V×V):=b3R .str veS (c0q b N)
theorem c6m{b:Nat}{N:SuM}{s:ByteArray}{K:V→Prop}:b1L env 28 (b1v .string (.str s) (b5V b N) 0) false K=K (((b1t (c0q b N) s).map veS).getD (.slice .nil 0 [])) :=
 c6W (E:=env) (ve:=veS) (k:=s) (by kernel_rfl) (by kernel_rfl)
theorem d7O{b:Nat}{N:SuM}{s:ByteArray}{p:Nat×List ByteArray}{h:List VObj}{id:Nat}{L:List VObj→Prop}:b3Z h id (b5V b N) (.str s) (veS p) (b1v .string (.str s) (b5V b N) 0) L=L (h.set id (.map (b3R .str veS (b4e (c0q b N) s p)))) :=
 d8q (ve:=veS) (k:=s) (v:=p)
def f9R:Wk := .one 0 (.one 1 (.one 3 (.one 4 (.one 5 (.one 6 (.one 7 (.one 8 (.one 9 (.br 2 (.one 10 (.one 11 (.stop))) (.br 10 (.one 2 (.one 11 (.stop))) (.stop)))))))))))
theorem f6G(l:List Ed)(h:List VObj)(a:List Nat){K:b1y}(hK:∀ z,K (.map h.length) (h ++ .map (b5V a.length (b1Q l))::z) (a++(b1Q l).map fun p=>p.2.length)) :
  b0q env 47 [sl 38 (l.map Ed.enc)] h a K:=by
 refine b0y (fn:=Tryz.f47) Tryz.func47 rfl (by rw[Tryz.ntmps47];simp) ?_;simp -implicitDefEqProofs only[go_sem,Tryz.f47];intro _ _;refine b0l (β:=List VObj) l (fun q z=>⟨[(9,.int .i64 q.length),(8,.int .i64 l.length),(7,sl 38 (l.map Ed.enc)),(3,.map h.length),(2,.nilmap)],
   h ++ .map (b5V a.length (b1Q q))::z,a++(b1Q q).map fun p=>p.2.length⟩) (fun _ _ _=>True) [] ?_ trivial ?_ ?_
 ·simp -implicitDefEqProofs only[go_sem];exact⟨rfl,rfl,by simp[b1Q,b0G],by simp[b1Q],.inl (by simp[b1Q])⟩
 ·intro z _;simp -implicitDefEqProofs only[go_sem,b0d,b0a,b0c,b0b,g9Y,g9Z,h0a];exact hK z
 ·rintro q x r z hx _;have hpl:l.length=q.length+1+r.length:=by rw[hx];simp;omega
  have hgx:(l.map Ed.enc).getD (q.length:Int).toNat []=x.enc:=by rw[hx];simp[h0c]
  have hlt:((q.length:Int)<l.length)=True:=by simp;omega
  have hw:IntKind.i64.wrap (↑q.length+1)=↑(q.length+1):=b0g (by omega);simp -implicitDefEqProofs only[go_sem,hgx,hlt,b0d,b0a,b0c,b0b,g9Y,g9Z,h0a,Ed.enc,c6m];refine b1f (cs:=[]) f9R b4c (by kernel_rfl) ?_;rcases c5O x.fr (b1Q q) a.length with⟨j,vs,h1,h2,h3,h4⟩ | ⟨h1,h2,h3⟩
  ·have hvq:vs.length≤q.length:=by
    have e1:=b5U q x.fr;rw[scN,h2,h0A]at e1;rw[e1,h0v];exact h1o _ _
   have hadd:b1Q (q++[x])=b4e (b1Q q) x.fr (vs++[x.to]):=by rw[c3I,f2T,scN,h2];rfl
   have hset:∀ (hh:List VObj) (id:Nat) (L:List VObj→Prop),b3Z hh id (b5V a.length (b1Q q)) (.str x.fr) (.slice (.arr (a.length+j)) 9 (vs.map b0n++[[.str x.to]])) (b1v .string (.str x.fr) (b5V a.length (b1Q q)) 0) L=L (hh.set id (.map (b5V a.length (b1Q (q++[x]))))):=fun hh id L=>by
    have:=@d7O a.length (b1Q q) x.fr (a.length+j,vs++[x.to]) hh id L;rw[(h4 _).1,←hadd]at this;refine Eq.trans ?_ this;simp[veS,b0n]
   have hgj:(List.map (fun p:ByteArray×List ByteArray=>p.2.length) (b1Q q))[j]? = some vs.length:=by rw[h0u,h3];rfl
   have harr:(List.map (fun p:ByteArray×List ByteArray=>p.2.length) (b1Q q)).set j (vs.length+1)=(b1Q (q++[x])).map fun p=>p.2.length:=by
    rw[hadd,(h4 _).2,List.map_set];simp
   simp -implicitDefEqProofs only[go_sem,hgx,hlt,b0d,b0a,b0c,b0b,g9Y,g9Z,h0a,Ed.enc,c6m,h1,h0D,h0A,veS,f9R,hset,hgj,harr];exact⟨by omega,z++[.cells [.str x.fr,.str x.to]],hw,b0r,by simp,.inl (by simp)⟩
  ·have hadd:b1Q (q++[x])=b4e (b1Q q) x.fr [x.to]:=by rw[c3I,f2T,scN,h2];rfl
   have hlen:(a++List.map (fun p:ByteArray×List ByteArray=>p.2.length) (b1Q q)).length=a.length+(b1Q q).length:=by simp
   have hset:∀ (hh:List VObj) (id:Nat) (L:List VObj→Prop),b3Z hh id (b5V a.length (b1Q q)) (.str x.fr) (.slice (.arr (a++List.map (fun p:ByteArray×List ByteArray=>p.2.length) (b1Q q)).length) 9 [[.str x.to]]) (b1v .string (.str x.fr) (b5V a.length (b1Q q)) 0) L=L (hh.set id (.map (b5V a.length (b1Q (q++[x]))))):=fun hh id L=>by
    have:=@d7O a.length (b1Q q) x.fr (a.length+(b1Q q).length,[x.to]) hh id L;rw[(h3 _).1,←hadd]at this;refine Eq.trans ?_ this;rw[hlen];simp[veS,b0n]
   have harr:a++List.map (fun p:ByteArray×List ByteArray=>p.2.length) (b1Q q)++[1]=a++(b1Q (q++[x])).map fun p=>p.2.length:=by
    rw[hadd,(h3 _).2];simp
   simp -implicitDefEqProofs only[go_sem,hgx,hlt,b0d,b0a,b0c,b0b,g9Y,g9Z,h0a,Ed.enc,c6m,h1,h1r,h1f,f9R,hset,harr];exact⟨z++[.cells [.str x.fr,.str x.to]],hw,b0r,by simp,.inl (by simp)⟩
end Go.Proofs.YtighfcpaplmaiaaGreatDoor
namespace Go.Vg
theorem b4f.cons{e n0 m0:Nat}{x:VObj}{z:List VObj}{y:List Nat}{v:V}{l:List (List V)}(h:b4f e (n0+1) m0 z y v l):b4f e n0 m0 (x::z) y v l:=by
 rcases h with h | ⟨h1,j,k,gen,rfl,h3,h4⟩
 ·exact .inl h
 ·exact .inr ⟨h1,j+1,k,gen,by rw[show n0+1+j=n0+(j+1)by omega],by simpa using h3,h4⟩
def c5n(e:TypeId)(n0 m0:Nat)(z:List VObj)(y:List Nat)(v:V)(l:List (List V))(kk:Option Nat):Prop :=
 (l=[]∧kk=none∧∃ e0,v = .slice .nil e0 [])∨(l≠[]∧∃ j k gen,kk=some k∧v = .vec (n0+j) (m0+k) gen l.length e∧z[j]? = some (.vec (m0+k) gen e l.flatten)∧y[k]? = some gen)
theorem c5n.acc{e n0 m0:Nat}{z:List VObj}{y:List Nat}{v:V}{l:List (List V)}{kk:Option Nat}(h:c5n e n0 m0 z y v l kk):b4f e n0 m0 z y v l:=by
 rcases h with⟨h,_,h'⟩ | ⟨h1,j,k,gen,_,h2,h3,h4⟩
 ·exact .inl ⟨h,h'⟩
 ·exact .inr ⟨h1,j,k,gen,h2,h3,h4⟩
theorem c5n.nil{e n0 m0 e0:Nat}{z:List VObj}{y:List Nat}:c5n e n0 m0 z y (.slice .nil e0 []) [] none := .inl ⟨rfl,rfl,e0,rfl⟩
theorem c5n.keep{e n0 m0:Nat}{z:List VObj}{y:List Nat}{v:V}{l:List (List V)}{kk:Option Nat}(h:c5n e n0 m0 z y v l kk)(z2:List VObj){y2:List Nat}(hy:∀ k,kk=some k→∀ g,y[k]? = some g→y2[k]? = some g):c5n e n0 m0 (z++z2) y2 v l kk:=by
 rcases h with h | ⟨h1,j,k,gen,h0,h2,h3,h4⟩
 ·exact .inl h
 ·exact .inr ⟨h1,j,k,gen,h0,h2,by rw[h0e (b0w h3)];exact h3,hy k h0 gen h4⟩
theorem c5n.lt{e n0 m0:Nat}{z:List VObj}{y:List Nat}{v:V}{l:List (List V)}{k:Nat}(h:c5n e n0 m0 z y v l (some k)):k<y.length:=by
 rcases h with⟨_,h,_⟩ | ⟨_,j,k',gen,h0,_,_,h4⟩
 ·cases h
 ·cases h0;exact b0w h4
theorem c0t{E:Env}{e e':Nat}{o:Own}{h0 z:List VObj}{a0 y:List Nat}{v:V}{l:List (List V)}{x:List V}{kk:Option Nat}{K:b1y}(hv:c5n e h0.length a0.length z y v l kk)
  (hlen:∀ el∈l,el.length=E.P.cellsOf e) (hok:b0W E.P e=true) (hb:(l.length+1) * E.P.bytesOf e≤140737488355328)
  (hK:∀ v' z' y' k',c5n e h0.length a0.length z' y' v' (l++[x]) (some k')→((kk=none∧k'=y.length∧y'=y++[b8U])∨(kk=some k'∧∃ g,y'=y.set k' g))→K v' (h0++z') (a0++y')) :
  c4d E (h0++z) (a0++y) (some (.slice e)) (some (.slice e')) v (.slice o e [x]) K:=by
 rcases hv with⟨rfl,rfl,e0,rfl⟩ | ⟨h1,j,k,gen,rfl,rfl,h3,h4⟩
 ·rw[b8x];refine⟨⟨by simp,rfl,hok⟩,⟨rfl,.inl rfl,by simpa using hb⟩,?_⟩;rw[h0x,h0x,h0h,h0h];refine hK _ _ _ y.length (.inr ⟨by simp,z.length,y.length,b8U,rfl,by simp,?_,by simp⟩) (.inl ⟨rfl,rfl,rfl⟩);simp
 ·have hj:=b0w h3;have hk:=b0w h4;have hg:(h0++z)[h0.length+j]? = some (.vec (a0.length+k) gen e l.flatten):=by rw[b3g];exact h3
  rw[c1j,hg,c0a];refine⟨⟨by simp,rfl,hok⟩,⟨rfl,rfl,b7e hlen,by simpa using hb⟩,?_⟩;have e1:(h0++z).set (h0.length+j) (.vec (a0.length+k) (gen+1) e (l.flatten++[x].flatten))=h0++z.set j (.vec (a0.length+k) (gen+1) e (l.flatten++[x].flatten)):=by
   rw[h0N _ _ (by omega)];congr 2;omega
  have e2:(a0++y).set (a0.length+k) (gen+1)=a0++y.set k (gen+1):=by
   rw[h0N _ _ (by omega)];congr 2;omega
  rw[e1,e2];refine hK _ _ _ k (.inr ⟨by simp,j,k,gen+1,rfl,by simp,?_,h0i hk⟩) (.inr ⟨rfl,_,rfl⟩);rw[h0i hj];simp
def okW(n:Nat)(y:List Nat)(kk:Option Nat)(o:Own)(len:Nat):Prop:=o = .full∨∃ k,o = .arr (n+k)∧y[k]? = some len∧kk≠some k
end Go.Vg
namespace Go.Proofs.YtighfcpaplmaiaaGreatDoor
open Go Go.Vg Go.Proofs
theorem c6R{tv:TypeId}{b:Nat}{N:SuM}{s:ByteArray}{K:V→Prop}:b1L (envV tv) 28 (b1v .string (.str s) (b5V b N) 0) false K=K (((b1t (c0q b N) s).map veS).getD (.slice .nil 0 [])) :=
 c6W (E:=envV tv) (ve:=veS) (k:=s) (by kernel_rfl) (by kernel_rfl)
def b7q(l:List Ed)(s:ByteArray):List ByteArray:=d4f (scN (b1Q l)) ((l.map Ed.to).length+2) [s] []
theorem d3c(l:List Ed)(hl:l.length≤1000000)(id b:Nat)(h:List VObj)(a:List Nat)(s:ByteArray)(hid:h[id]? = some (.map (b5V b (b1Q l)))){K:b1y}(hK:K (sl 9 ((b1E (b7q l s)).map b0n)) h a) :
  b0q env 46 [.map id,.str s] h a K:=by
 refine b0q.ofV (tv:=28) (b0q.accR ?_);have hidl:=b0w hid;have hT:∀ (x t:ByteArray),t∈scN (b1Q l) x→t∈l.map Ed.to:=fun x t ht=>by
  rw[b5U]at ht;obtain⟨e,he,rfl⟩:=h1p.1 ht;exact h1p.2 ⟨e,(List.mem_filter.1 he).1,rfl⟩
 have hTl:(l.map Ed.to).length≤1000000:=by rw[h0v];exact hl
 unfold b7q at hK;generalize l.map Ed.to=T at hK hT hTl;generalize hg:d4f (scN (b1Q l)) (T.length+2) [s] []=goal at hK;refine b0y (fn:=Tryz.f46) Tryz.func46 rfl (by rw[Tryz.ntmps46];simp) ?_;simp -implicitDefEqProofs only[go_sem,Tryz.f46];refine b1u (α:=(V×List VObj×List Nat)×(Own×List ByteArray×List ByteArray×Option Nat)×Nat) (fun b=>⟨[(7,.slice b.2.1.1 9 (b.2.1.2.1.map b0n)),(6,b.1.1),(5,.map h.length),(4,.slice .nil 0 []),(0,.map id)],
   h ++ .map (b2R b.2.1.2.2.1)::b.1.2.1,a++b.1.2.2⟩)
  (fun b=>c5n 9 (h.length+1) a.length b.1.2.1 b.1.2.2 b.1.1 (b.2.1.2.2.1.map b0n) b.2.1.2.2.2∧okW a.length b.1.2.2 b.2.1.2.2.2 b.2.1.1 b.2.1.2.1.length∧FlwI (scN (b1Q l)) T s b.2.1.2.1 b.2.1.2.2.1∧b.2.1.2.1.length≤b.2.1.2.2.1.length+1 ∧
   T.length+b.2.1.2.1.length<b.2.2+b.2.1.2.2.1.length∧d4f (scN (b1Q l)) b.2.2 b.2.1.2.1 b.2.1.2.2.1=goal) (fun b=>b.2.2)
  ((.slice .nil 0 [],[],[]),(.full,[s],[],none),T.length+2) ?_ ⟨c5n.nil,.inl rfl,FlwI.start,by simp,by simp,hg⟩ ?_
 ·simp -implicitDefEqProofs only[go_sem];exact⟨rfl,rfl⟩
 ·rintro⟨⟨v,z,y⟩,⟨o,w,out,kk⟩,f⟩ ⟨hacc,hw,hF,hwl,hf,hgo⟩;simp only at hacc hw hF hwl hf hgo ⊢;have hol:=b9G out hF.nod hF.sub;cases w with
  | nil =>
   simp -implicitDefEqProofs only[go_sem];refine⟨fun h=>absurd h (by simp),fun _=>?_⟩;have hgoal:goal=out:=by
    cases f with
    | zero=>simp only[h0J]at hf;omega
    | succ f=>rw[←hgo];rfl
   subst hgoal;have hSS:=@b6H (h++[.map (b2R goal)]) z a y v goal;rw[h0x,h0h]at hSS;refine hSS hacc.acc fun z2 hacc2 _ _=>?_
   simp -implicitDefEqProofs only[go_sem];have hacc3:b4f 9 (h.length+1) a.length z2 y v ((b1E goal).map b0n):=hacc2;exact⟨_,_,_,_,rfl,rfl,hacc3.cons,b3m,b3z,b5L _,hK⟩
  | cons x w =>
   obtain⟨f,rfl⟩:∃ f',f=f'+1:=⟨f - 1,by simp only[h0o]at hf;omega⟩
   have hstep:=hF.step hT;simp only[h0o]at hf hwl hw;have hscl:(scN (b1Q l) x).length≤1000000:=by
    rw[b5U,h0v];exact h1n (h1o _ _) hl
   have hnf:T.length+((scN (b1Q l) x).foldl b1o (out,w)).2.length<f+((scN (b1Q l) x).foldl b1o (out,w)).1.length:=by
    obtain⟨new,e1,_⟩:=b2T (scN (b1Q l) x) out w;rw[e1];simp only[h0h];omega
   have hlook:∃ o0 e0,((b1t (c0q b (b1Q l)) x).map veS).getD (.slice .nil 0 []) = .slice o0 e0 ((scN (b1Q l) x).map b0n)∧((scN (b1Q l) x)=[]∨e0=9):=by
    rcases c5O x (b1Q l) b with⟨j,vs,h1,h2,h3,h4⟩ | ⟨h1,h2,h3⟩
    ·exact⟨_,_,by rw[h1,scN,h2];rfl,.inr rfl⟩
    ·exact⟨_,_,by rw[h1,scN,h2];rfl,.inl (by rw[scN,h2];rfl)⟩
   obtain⟨o0,e0,hlk,he0⟩:=hlook;rcases hw with rfl | ⟨k,rfl,hyk,hkk⟩
   ·have hp0:True:=trivial;simp -implicitDefEqProofs only[go_sem,b0d,b0a,b0c,b0b,g9Y,g9Z,h0a,b0I hid,c6R,hlk];intro _ _;refine⟨fun _=>⟨by omega,by omega,?_⟩,fun h=>absurd (by omega) h⟩;intro _ _;refine b0l (β:=(V×List VObj×List Nat)×(Own×List ByteArray×List ByteArray×Option Nat)) (scN (b1Q l) x) (fun q b=>⟨[(26,.int .i64 q.length),(25,.int .i64 (scN (b1Q l) x).length),(24,sl 9 ((scN (b1Q l) x).map b0n)),(7,.slice b.2.1 9 (b.2.2.1.map b0n)),(6,b.1.1),(5,.map h.length),(4,.slice .nil 0 []),(0,.map id)],
      h ++ .map (b2R b.2.2.2.1)::b.1.2.1,a++b.1.2.2⟩)
     (fun q r b=>c5n 9 (h.length+1) a.length b.1.2.1 b.1.2.2 b.1.1 (b.2.2.2.1.map b0n) b.2.2.2.2∧okW a.length b.1.2.2 b.2.2.2.2 b.2.1 b.2.2.1.length∧r.foldl b1o (b.2.2.2.1,b.2.2.1)=(scN (b1Q l) x).foldl b1o (out,w)∧b.2.2.2.1.length≤out.length+q.length∧b.2.2.1.length≤b.2.2.2.1.length)
     ((v,z,y),(.full,w,out,kk)) ?_ ⟨hacc,.inl rfl,rfl,by simp,by simp only;omega⟩ ?_ ?_
    ·simp -implicitDefEqProofs only[go_sem,hp0];have he0q:List.map b0n (scN (b1Q l) x)=[]∨e0=9:=he0.imp (fun h=>by rw[h];rfl) (fun h=>h);exact⟨⟨rfl,he0q⟩,by simp⟩
    ·rintro⟨⟨v2,z2,y2⟩,o2,w2,out2,kk2⟩ ⟨hacc2,hw2,hfo,hol2,hwl2⟩;simp only at hacc2 hw2 hfo hol2 hwl2 ⊢;simp -implicitDefEqProofs only[go_sem,b0d,b0a,b0c,b0b,g9Y,g9Z,h0a];have hfo':(out2,w2)=(scN (b1Q l) x).foldl b1o (out,w):=hfo;rw[←hfo']at hstep hnf;refine⟨((v2,z2,y2),((o2,w2,out2,kk2),f)),by simp,⟨hacc2,hw2,hstep,by simp only;omega,by simp only at hnf ⊢;omega,by simp only;rw[d4f,←hfo']at hgo;exact hgo⟩,?_⟩;exact⟨⟨b1k,b1k⟩,⟨rfl,b0r⟩,b0G,by simp,.inl ⟨h0q _,h0q _⟩⟩
    ·rintro q t r ⟨⟨v2,z2,y2⟩,o2,w2,out2,kk2⟩ hx ⟨hacc2,hw2,hfo,hol2,hwl2⟩;simp only at hacc2 hw2 hfo hol2 hwl2 ⊢;have hpl:(scN (b1Q l) x).length=q.length+1+r.length:=by rw[hx];simp;omega
     have hgx:((scN (b1Q l) x).map b0n).getD (q.length:Int).toNat []=b0n t:=by rw[hx];simp[h0c]
     have hlt:((q.length:Int)<(scN (b1Q l) x).length)=True:=by simp;omega
     have hwq:IntKind.i64.wrap (↑q.length+1)=↑(q.length+1):=b0g (by omega);rw[h0K]at hfo;simp -implicitDefEqProofs only[go_sem,hgx,hlt,b0n,b0d,b0a,b0c,b0b,g9Y,g9Z,h0a,c5W];refine⟨fun ha=>?_,fun ha=>?_⟩
     ·have ha':(out2.any fun y=>decide (y=t))=false:=by cases hq:(out2.any fun y=>decide (y=t)) <;> simp_all
      have hmem:t ∉ out2:=fun hm=>by
       have:(out2.any fun y=>decide (y=t))=true:=h1a.2 ⟨t,hm,by simp⟩;rw[ha']at this;cases this
      have hfs:b1o (out2,w2) t=(out2++[t],w2++[t]):=by unfold b1o;rw[if_neg hmem]
      rw[hfs]at hfo;rw[d2C ha'];simp -implicitDefEqProofs only[go_sem,b0d,b0a,b0c,b0b,g9Y,g9Z,h0a,hacc2.acc.asl];have happ:=@c0t (envV 28) 9 9 .full (h++[.map (b2R (out2++[t]))]) z2 a y2 v2 (out2.map b0n) [.str t] kk2;rw[h0x,h0h]at happ;refine happ hacc2 b3z b3m (by rw[b7o,h0v];omega) fun v3 z3 y3 k3 hacc3 hy3=>?_
      rw[h0x];have hwl3:(w2.length+1) * 16≤140737488355328:=by omega
      rcases hw2 with rfl | ⟨kw,rfl,hykw,hkkw⟩
      ·simp -implicitDefEqProofs only[go_sem,b0d,b0a,b0c,b0b,g9Y,g9Z,h0a];refine⟨hwl3,((v3,z3,y3++[w2.length+1]),(.arr (a.length+y3.length),w2++[t],out2++[t],some k3)),⟨?_,.inr ⟨y3.length,rfl,by simp,fun e=>?_⟩,hfo,by simp;omega,by simp;omega⟩,⟨hwq,?_,b1k⟩,⟨rfl,b0r⟩,?_,by simp,.inl ⟨by simp,by simp;omega⟩⟩
       ·have:=hacc3.keep [] (y2:=y3++[w2.length+1]) fun k' hk' g hg=>by rw[h0e (b0w hg)];exact hg
        rw[h0F]at this;simpa[b0n]using this
       ·have h1:=hacc3.lt;simp only[Option.some.injEq]at e;omega
       ·rw[show(a++y3).length=a.length+y3.length by simp];simp only[h0M,h0s,h0T,b0n];exact b1k
       ·rw[h0x];exact b0G
      ·have hy3w:y3[kw]? = some w2.length:=by
        rcases hy3 with⟨_,rfl,rfl⟩ | ⟨e1,g,rfl⟩
        ·rw[h0e (b0w hykw)];exact hykw
        ·rw[h0m (fun e=>hkkw (by rw[e1,e]))];exact hykw
       simp -implicitDefEqProofs only[go_sem,b0d,b0a,b0c,b0b,g9Y,g9Z,h0a,hy3w];have hkwl:=b0w hy3w;have hk3:k3≠kw:=by
        rcases hy3 with⟨e1,e2,e3⟩ | ⟨e1,g,_⟩
        ·have:=b0w hykw;omega
        ·exact fun e=>hkkw (by rw[e1,e])
       refine⟨hwl3,((v3,z3,y3.set kw (w2.length+1)),(.arr (a.length+kw),w2++[t],out2++[t],some k3)),⟨?_,.inr ⟨kw,rfl,by simp[hkwl],fun e=>hk3 (by simpa using e)⟩,hfo,by simp;omega,by simp;omega⟩,⟨hwq,?_,b1k⟩,⟨rfl,b0r⟩,b0G,by simp,.inl ⟨by simp,by simp⟩⟩
       ·have:=hacc3.keep [] (y2:=y3.set kw (w2.length+1)) fun k' hk' g hg=>by
         have:k3=k':=by simpa using hk'
         rw[h0m (fun e=>hk3 (by omega))];exact hg
        rw[h0F]at this;simpa[b0n]using this
       ·simp only[h0M,h0s,h0T,b0n];exact b1k
     ·have ha':(out2.any fun y=>decide (y=t))=true:=by cases hq:(out2.any fun y=>decide (y=t)) <;> simp_all
      have hmem:t∈out2:=by
       obtain⟨y,hy,he⟩:=h1a.1 ha';have:y=t:=by simpa using he
       exact this ▸ hy
      have hfs:b1o (out2,w2) t=(out2,w2):=by unfold b1o;rw[if_pos hmem]
      rw[hfs]at hfo;exact⟨((v2,z2,y2),(o2,w2,out2,kk2)),⟨hacc2,hw2,hfo,by simp only;omega,hwl2⟩,⟨hwq,b1k,b1k⟩,⟨rfl,b0r⟩,b0G,by simp,.inl ⟨h0q _,h0q _⟩⟩
   ·have hp0:True:=trivial;have hal:(a++y).length=a.length+y.length:=by simp
    simp -implicitDefEqProofs only[go_sem,b0d,b0a,b0c,b0b,g9Y,g9Z,h0a,b0I hid,c6R,hlk,hyk,hal];intro _ _;refine⟨fun _=>⟨by omega,by omega,?_⟩,fun h=>absurd (by omega) h⟩;intro _ _;have hkl:=b0w hyk;refine b0l (β:=(V×List VObj×List Nat)×(Own×List ByteArray×List ByteArray×Option Nat)) (scN (b1Q l) x) (fun q b=>⟨[(26,.int .i64 q.length),(25,.int .i64 (scN (b1Q l) x).length),(24,sl 9 ((scN (b1Q l) x).map b0n)),(7,.slice b.2.1 9 (b.2.2.1.map b0n)),(6,b.1.1),(5,.map h.length),(4,.slice .nil 0 []),(0,.map id)],
      h ++ .map (b2R b.2.2.2.1)::b.1.2.1,a++b.1.2.2⟩)
     (fun q r b=>c5n 9 (h.length+1) a.length b.1.2.1 b.1.2.2 b.1.1 (b.2.2.2.1.map b0n) b.2.2.2.2∧okW a.length b.1.2.2 b.2.2.2.2 b.2.1 b.2.2.1.length∧r.foldl b1o (b.2.2.2.1,b.2.2.1)=(scN (b1Q l) x).foldl b1o (out,w)∧b.2.2.2.1.length≤out.length+q.length∧b.2.2.1.length≤b.2.2.2.1.length)
     ((v,z,y.set k (w.length+1+1)++[w.length+1 - 1]),(.arr (a.length+y.length),w,out,kk)) ?_ ⟨by
      have:=hacc.keep [] (y2:=y.set k (w.length+1+1)++[w.length+1 - 1]) fun k' hk' g hg=>by
       rw[h0e (by rw[List.length_set];exact b0w hg),h0m (fun e=>hkk (by rw[hk',e]))];exact hg
      rw[h0F]at this;exact this,.inr ⟨y.length,rfl,by simp,fun e=>by
       subst e;have:=hacc.lt;omega⟩,rfl,by simp,by simp only;omega⟩ ?_ ?_
    ·simp -implicitDefEqProofs only[go_sem,hp0];have he0q:List.map b0n (scN (b1Q l) x)=[]∨e0=9:=he0.imp (fun h=>by rw[h];rfl) (fun h=>h);exact⟨⟨rfl,he0q⟩,by rw[h0x];exact b0G,by simp,.inl (by simp;omega)⟩
    ·rintro⟨⟨v2,z2,y2⟩,o2,w2,out2,kk2⟩ ⟨hacc2,hw2,hfo,hol2,hwl2⟩;simp only at hacc2 hw2 hfo hol2 hwl2 ⊢;simp -implicitDefEqProofs only[go_sem,b0d,b0a,b0c,b0b,g9Y,g9Z,h0a];have hfo':(out2,w2)=(scN (b1Q l) x).foldl b1o (out,w):=hfo;rw[←hfo']at hstep hnf;refine⟨((v2,z2,y2),((o2,w2,out2,kk2),f)),by simp,⟨hacc2,hw2,hstep,by simp only;omega,by simp only at hnf ⊢;omega,by simp only;rw[d4f,←hfo']at hgo;exact hgo⟩,?_⟩;exact⟨⟨b1k,b1k⟩,⟨rfl,b0r⟩,b0G,by simp,.inl ⟨h0q _,h0q _⟩⟩
    ·rintro q t r ⟨⟨v2,z2,y2⟩,o2,w2,out2,kk2⟩ hx ⟨hacc2,hw2,hfo,hol2,hwl2⟩;simp only at hacc2 hw2 hfo hol2 hwl2 ⊢;have hpl:(scN (b1Q l) x).length=q.length+1+r.length:=by rw[hx];simp;omega
     have hgx:((scN (b1Q l) x).map b0n).getD (q.length:Int).toNat []=b0n t:=by rw[hx];simp[h0c]
     have hlt:((q.length:Int)<(scN (b1Q l) x).length)=True:=by simp;omega
     have hwq:IntKind.i64.wrap (↑q.length+1)=↑(q.length+1):=b0g (by omega);rw[h0K]at hfo;simp -implicitDefEqProofs only[go_sem,hgx,hlt,b0n,b0d,b0a,b0c,b0b,g9Y,g9Z,h0a,c5W];refine⟨fun ha=>?_,fun ha=>?_⟩
     ·have ha':(out2.any fun y=>decide (y=t))=false:=by cases hq:(out2.any fun y=>decide (y=t)) <;> simp_all
      have hmem:t ∉ out2:=fun hm=>by
       have:(out2.any fun y=>decide (y=t))=true:=h1a.2 ⟨t,hm,by simp⟩;rw[ha']at this;cases this
      have hfs:b1o (out2,w2) t=(out2++[t],w2++[t]):=by unfold b1o;rw[if_neg hmem]
      rw[hfs]at hfo;rw[d2C ha'];simp -implicitDefEqProofs only[go_sem,b0d,b0a,b0c,b0b,g9Y,g9Z,h0a,hacc2.acc.asl];have happ:=@c0t (envV 28) 9 9 .full (h++[.map (b2R (out2++[t]))]) z2 a y2 v2 (out2.map b0n) [.str t] kk2;rw[h0x,h0h]at happ;refine happ hacc2 b3z b3m (by rw[b7o,h0v];omega) fun v3 z3 y3 k3 hacc3 hy3=>?_
      rw[h0x];have hwl3:(w2.length+1) * 16≤140737488355328:=by omega
      rcases hw2 with rfl | ⟨kw,rfl,hykw,hkkw⟩
      ·simp -implicitDefEqProofs only[go_sem,b0d,b0a,b0c,b0b,g9Y,g9Z,h0a];refine⟨hwl3,((v3,z3,y3++[w2.length+1]),(.arr (a.length+y3.length),w2++[t],out2++[t],some k3)),⟨?_,.inr ⟨y3.length,rfl,by simp,fun e=>?_⟩,hfo,by simp;omega,by simp;omega⟩,⟨hwq,?_,b1k⟩,⟨rfl,b0r⟩,?_,by simp,.inl ⟨by simp,by simp;omega⟩⟩
       ·have:=hacc3.keep [] (y2:=y3++[w2.length+1]) fun k' hk' g hg=>by rw[h0e (b0w hg)];exact hg
        rw[h0F]at this;simpa[b0n]using this
       ·have h1:=hacc3.lt;simp only[Option.some.injEq]at e;omega
       ·rw[show(a++y3).length=a.length+y3.length by simp];simp only[h0M,h0s,h0T,b0n];exact b1k
       ·rw[h0x];exact b0G
      ·have hy3w:y3[kw]? = some w2.length:=by
        rcases hy3 with⟨_,rfl,rfl⟩ | ⟨e1,g,rfl⟩
        ·rw[h0e (b0w hykw)];exact hykw
        ·rw[h0m (fun e=>hkkw (by rw[e1,e]))];exact hykw
       simp -implicitDefEqProofs only[go_sem,b0d,b0a,b0c,b0b,g9Y,g9Z,h0a,hy3w];have hkwl:=b0w hy3w;have hk3:k3≠kw:=by
        rcases hy3 with⟨e1,e2,e3⟩ | ⟨e1,g,_⟩
        ·have:=b0w hykw;omega
        ·exact fun e=>hkkw (by rw[e1,e])
       refine⟨hwl3,((v3,z3,y3.set kw (w2.length+1)),(.arr (a.length+kw),w2++[t],out2++[t],some k3)),⟨?_,.inr ⟨kw,rfl,by simp[hkwl],fun e=>hk3 (by simpa using e)⟩,hfo,by simp;omega,by simp;omega⟩,⟨hwq,?_,b1k⟩,⟨rfl,b0r⟩,b0G,by simp,.inl ⟨by simp,by simp⟩⟩
       ·have:=hacc3.keep [] (y2:=y3.set kw (w2.length+1)) fun k' hk' g hg=>by
         have:k3=k':=by simpa using hk'
         rw[h0m (fun e=>hk3 (by omega))];exact hg
        rw[h0F]at this;simpa[b0n]using this
       ·simp only[h0M,h0s,h0T,b0n];exact b1k
     ·have ha':(out2.any fun y=>decide (y=t))=true:=by cases hq:(out2.any fun y=>decide (y=t)) <;> simp_all
      have hmem:t∈out2:=by
       obtain⟨y,hy,he⟩:=h1a.1 ha';have:y=t:=by simpa using he
       exact this ▸ hy
      have hfs:b1o (out2,w2) t=(out2,w2):=by unfold b1o;rw[if_pos hmem]
      rw[hfs]at hfo;exact⟨((v2,z2,y2),(o2,w2,out2,kk2)),⟨hacc2,hw2,hfo,by simp only;omega,hwl2⟩,⟨hwq,b1k,b1k⟩,⟨rfl,b0r⟩,b0G,by simp,.inl ⟨h0q _,h0q _⟩⟩
theorem b2k(l:List Ed)(s:ByteArray):(b7q l s).Nodup∧(∀ t,t∈b7q l s↔Rch (scN (b1Q l)) s t)∧∀ t∈b7q l s,t∈l.map Ed.to:=by
 have hT:∀ (x t:ByteArray),t∈scN (b1Q l) x→t∈l.map Ed.to:=fun x t ht=>by
  rw[b5U]at ht;obtain⟨e,he,rfl⟩:=h1p.1 ht;exact h1p.2 ⟨e,(List.mem_filter.1 he).1,rfl⟩
 exact c9N hT _ _ _ FlwI.start (by simp)
theorem d6L(l:List Ed)(s:ByteArray):(b1E (b7q l s)).length≤l.length:=by
 rw[b4B];have:=b9G _ (b2k l s).1 (b2k l s).2.2
 rwa [h0v]at this
theorem d8w(u:List Un)(l:List Ed)(hl:l.length≤1000000)(hG:b0s env 15 [sl 70 (u.map Un.enc)] (sl 38 (l.map Ed.enc)))(s:ByteArray) :
  b0s env 17 [sl 70 (u.map Un.enc),.str s] (sl 9 ((b1E (b7q l s)).map b0n)):=by
 refine b0i (fn:=Tryz.f17) Tryz.func17 rfl (by rw[Tryz.ntmps17];simp) (by simp -implicitDefEqProofs only[go_sem];exact b0v _) (by simp -implicitDefEqProofs only[go_sem]) ?_;simp -implicitDefEqProofs only[go_sem,Tryz.f17];refine hG.cq ?_;simp -implicitDefEqProofs only[go_sem];refine f6G l _ _ fun z=>?_
 simp -implicitDefEqProofs only[go_sem];refine d3c l hl 0 0 _ _ s rfl ?_;simp -implicitDefEqProofs only[go_sem]
def c5x(s:ByteArray)(o:List ByteArray)(t:ByteArray):List ByteArray:=if t=s∧o.getLast?≠some s then o++[s]else o
def d5c(l:List Ed)(o:List ByteArray)(s:ByteArray):List ByteArray:=(b1E (b7q l s)).foldl (c5x s) o
def c7U(u:List Un)(l:List Ed):List ByteArray:=if l=[]then []else(d4i u).foldl (d5c l) []
theorem f1G{l:List Ed}(h:l≠[]):(b1Q l).length≠0:=by
 intro h0;have:b1Q l=[]:=h0G h0;cases l with
 | nil=>exact h rfl
 | cons x r =>
  have h1:=b5U (x::r) x.fr;rw[this]at h1;simp[scN,b1t]at h1
theorem d3V:∀ (N:SuM) (b:Nat),(c0q b N).length=N.length
 | [],_=>rfl
 | _::r,b=>by rw[c0q,h0o,d3V r,h0o]
theorem f6E(b:Nat)(N:SuM):(b5V b N).length=N.length:=by rw[b5V,b3R,h0v,d3V]
theorem d5L{u:List Un}(hu:b2D u):(d4i u).length≤1000000:=by
 have h2:=b0H u 0 fun y hy=>(hu.2 y hy).1
 have h3:=hu.1;have h4:=List.length_filterMap_le b4X (b0e u 0);rw[d4i,b4B,d7H];omega
theorem c1r(u:List Un)(hu:b2D u)(l:List Ed)(hl:l.length≤1000000)(hG:b0s env 15 [sl 70 (u.map Un.enc)] (sl 38 (l.map Ed.enc))) :
  b0s env 19 [sl 70 (u.map Un.enc)] (sl 9 ((c7U u l).map b0n)):=by
 refine b0i (fn:=Tryz.f19) Tryz.func19 rfl (by rw[Tryz.ntmps19];simp) (by simp -implicitDefEqProofs only[go_sem];exact b0v _) (by simp -implicitDefEqProofs only[go_sem]) ?_;simp -implicitDefEqProofs only[go_sem,Tryz.f19];refine hG.cq ?_;simp -implicitDefEqProofs only[go_sem];refine f6G l _ _ fun z=>?_
 simp -implicitDefEqProofs only[go_sem,f6E];refine⟨fun h0=>?_,fun h0=>?_⟩
 ·have:l=[]:=by
   rcases Classical.em (l=[])with h | h
   ·exact h
   ·exact absurd (by omega) (f1G h)
  rw[c7U,if_pos this];rfl
 ·have hne:l≠[]:=by rintro rfl;exact h0 rfl
  have hrs:c7U u l=(d4i u).foldl (d5c l) []:=by rw[c7U,if_neg hne]
  refine(c8M u hu).calls (by simp -implicitDefEqProofs only[go_sem]) ?_;have hcl:=d5L hu;generalize d4i u=cs at hcl hrs;simp -implicitDefEqProofs only[go_sem];intro _ _;obtain⟨A,hA⟩:∃ A,A=(b1Q l).map fun p:ByteArray×List ByteArray=>p.2.length:=⟨_,rfl⟩
  rw[←hA];refine b0l (β:=List ByteArray) cs (fun q o=>⟨[(19,.int .i64 q.length),(18,.int .i64 cs.length),(17,sl 9 (cs.map b0n)),(4,.slice (.arr A.length) 9 (o.map b0n)),(3,.map 0),(2,.slice .nil 0 [])],
    .map (b5V 0 (b1Q l))::z,A++[o.length]⟩) (fun q r o=>r.foldl (d5c l) o=c7U u l∧o.length≤q.length * 1000001) [] ?_ ⟨hrs.symm,by simp⟩ ?_ ?_
  ·simp -implicitDefEqProofs only[go_sem];exact⟨⟨rfl,by omega⟩,b7c⟩
  ·rintro o ⟨he,_⟩;have he':o=c7U u l:=he;simp -implicitDefEqProofs only[go_sem];rw[he']
  ·rintro q s r o hx ⟨he,hol⟩;have hpl:cs.length=q.length+1+r.length:=by rw[hx];simp;omega
   have hgx:(cs.map b0n).getD (q.length:Int).toNat []=b0n s:=by rw[hx];simp[h0c]
   have hlt:((q.length:Int)<cs.length)=True:=by simp;omega
   have hw:IntKind.i64.wrap (↑q.length+1)=↑(q.length+1):=b0g (by omega);rw[h0K]at he;simp -implicitDefEqProofs only[go_sem,hgx,hlt,b0n];refine d3c l hl 0 0 _ _ s rfl ?_;have hfo:d5c l o s=(b1E (b7q l s)).foldl (c5x s) o:=rfl;have hfl:(b1E (b7q l s)).length≤1000000:=h1n (d6L l s) hl;generalize b1E (b7q l s)=ts at hfo hfl;simp -implicitDefEqProofs only[go_sem];intro _ _;refine b0l (β:=List ByteArray) ts (fun p o=>⟨[(27,.int .i64 p.length),(26,.int .i64 ts.length),(25,sl 9 (ts.map b0n)),(6,.str s),(19,.int .i64 q.length),(18,.int .i64 cs.length),(17,sl 9 (cs.map b0n)),(4,.slice (.arr A.length) 9 (o.map b0n)),(3,.map 0),(2,.slice .nil 0 [])],
    .map (b5V 0 (b1Q l))::z,A++[o.length]⟩) (fun p r o'=>r.foldl (c5x s) o'=d5c l o s∧o'.length≤o.length+p.length) o ?_ ⟨hfo.symm,by simp⟩ ?_ ?_
   ·simp -implicitDefEqProofs only[go_sem];rfl
   ·rintro o2 ⟨he2,hol2⟩;have he2':o2=d5c l o s:=he2;simp -implicitDefEqProofs only[go_sem];exact⟨o2,⟨by rw[he2'];exact he,by rw[h0V];omega⟩,⟨hw,rfl⟩,b0G⟩
   ·rintro p t r2 o2 hx2 ⟨he2,hol2⟩;have hpl2:ts.length=p.length+1+r2.length:=by rw[hx2];simp;omega
    have hgx2:(ts.map b0n).getD (p.length:Int).toNat []=b0n t:=by rw[hx2];simp[h0c]
    have hlt2:((p.length:Int)<ts.length)=True:=by simp;omega
    have hw2:IntKind.i64.wrap (↑p.length+1)=↑(p.length+1):=b0g (by omega);rw[h0K]at he2;have hAl:(A++[o2.length])[A.length]? = some o2.length:=by simp
    have hAs:(A++[o2.length]).set A.length (o2.length+1)=A++[o2.length+1]:=by simp
    simp -implicitDefEqProofs only[go_sem,hgx2,hlt2,b0n];refine⟨fun hts=>fun _ _=>⟨fun hne _ _=>?_,fun h0=>⟨by rw[h0V]at *;omega,hAl,?_⟩⟩,fun hts=>?_⟩
    ·obtain⟨n,hn⟩:∃ n,o2.length=n+1:=⟨o2.length - 1,by omega⟩
     have hwm:IntKind.i64.wrap ((o2.length:Int) - 1)=(n:Int):=by rw[b1M (by omega) (by omega)];omega
     have hgn:o2[n]? = some o2[n]:=h0f (by omega);have hlast:o2.getLast? = o2[n]?:=by rw[List.getLast?_eq_getElem?,hn];rfl
     generalize o2[n]=y at hgn;have hgy:(o2.map b0n).getD (n:Int).toNat []=b0n y:=by simp[h0c,hgn]
     have hnl:((n:Int)<o2.length)=True:=by simp;omega
     have hn0:(0≤(n:Int))=True:=by simp
     rw[hwm];simp -implicitDefEqProofs only[go_sem,hgy,hnl,hn0,b0n];refine⟨fun hy=>⟨by rw[h0V]at *;omega,hAl,?_⟩,fun hy=>?_⟩
     ·have hy':¬ y=s:=by simpa using hy
      have hrI:c5x s o2 t=o2++[s]:=by unfold c5x;rw[if_pos ⟨hts,by rw[hlast,hgn];simpa using hy'⟩]
      rw[hrI]at he2;rw[hAs];exact⟨o2++[s],⟨he2,by simp;omega⟩,⟨hw2,by simp[b0n]⟩,by simp[b0G]⟩
     ·have hy':y=s:=by simpa using hy
      have hrI:c5x s o2 t=o2:=by unfold c5x;rw[if_neg (fun h=>h.2 (by rw[hlast,hgn,hy']))]
      rw[hrI]at he2;exact⟨o2,⟨he2,by omega⟩,⟨hw2,rfl⟩,b0G⟩
    ·have hnil:o2=[]:=h0G (by omega);have hrI:c5x s o2 t=o2++[s]:=by unfold c5x;rw[if_pos ⟨hts,by rw[hnil];simp⟩]
     rw[hrI]at he2;rw[hAs];exact⟨o2++[s],⟨he2,by simp;omega⟩,⟨hw2,by simp[b0n]⟩,by simp[b0G]⟩
    ·have hrI:c5x s o2 t=o2:=by unfold c5x;rw[if_neg (fun h=>hts h.1)]
     rw[hrI]at he2;exact⟨o2,⟨he2,by omega⟩,⟨hw2,rfl⟩,b0G⟩
end Go.Proofs.YtighfcpaplmaiaaGreatDoor
