import Derived.Test.YtighfcpaplmaiaaGreatDoorUdD
import Derived.Test.YtighfcpaplmaiaaGreatDoorUaA
set_option linter.unusedVariables false
set_option linter.unusedSimpArgs false
set_option maxRecDepth 20000
namespace Go.Proofs.YtighfcpaplmaiaaGreatDoor
open Go Go.Vg Go.Proofs
def b4o(u:List Un):List Us:=b2J (b1Y (b0f u 0)) (b0e u) 0
theorem f9I(u:List Un)(hu:b2T u)(hb:∀ x∈u,x.broken=false){h:List VObj}{a:List Nat}{K:b1z}
  (hK:∀ y,K (.fptr (ckF u (b0e u) (b6s (b4o u)) h.length)) (h++ck4 (b2q u) [] [] [] [.dead]) (a++y)):b0r env 89 [sl 70 (u.map Un.enc)] h a K:=by
 refine b0r.freezeR ?_
 refine b0r.shift (cargs:=[sl 70 (u.map Un.enc)]) (by simp -implicitDefEqProofs only[go_sem];exact b0x _) (b0r.toE (E:=env) (E':=env.alive) rfl rfl rfl (fun _=>Iff.rfl) (fun _ _ h=>h) (g8g u hu hb)) (by simp -implicitDefEqProofs only[go_sem]) ?_
 rintro v h0 a0 ⟨rfl,rfl,rfl⟩
 refine⟨by simp[VObj.whole],?_⟩
 have hts:d3T h.length a.length ((b0e u).map b0q)=(b0e u).map b0q:=b5x _ _ _ (b1e _)
 have has:∀ l:List Us,d3T h.length a.length (l.map atE)=l.map atE:=fun l=>b5x _ _ _ (b5U _)
 have hus:V.sh h.length a.length (sl 70 (u.map Un.enc))=sl 70 (u.map Un.enc):=V.sh_pure _ _ _ (by simp -implicitDefEqProofs only[go_sem];exact b0x _)
 refine⟨h.length+4,shL h.length a.length (ckV u (b0e u) (b6s (b4o u))),by simp[V.sh],by simp[VObj.sh];rfl,?_,?_⟩
 ·simp only[ckV,shL,V.sh,hts,has,hus]
  simp -implicitDefEqProofs only[go_sem]
 ·have:=hK [u.length,(b6s (b4o u)).length]
  have e1:V.fptr (List.map share1 (shL h.length a.length (ckV u (b0e u) (b6s (b4o u))))) = .fptr (ckF u (b0e u) (b6s (b4o u)) h.length):=by
   simp only[ckV,ckF,shL,V.sh,hts,has,hus]
   simp -implicitDefEqProofs only[go_sem]
  have hD:∀ D:List ((Int×Int)×(Int×Int)),(c7T D).map (fun p=>(V.sh h.length a.length p.1,V.sh h.length a.length p.2))=c7T D:=by
   intro D
   induction D with
   | nil=>rfl
   | cons x r ih => 
    show(_,_)::List.map _ (c7T r)=_
    rw[ih];rfl
  have e2:(h++List.map (VObj.sh h.length a.length) [VObj.map (c7T (c4W (b2J (b1Y (b0f u 0)) (b0e u) 0))),VObj.map [],VObj.map [],VObj.map [],VObj.cells (ckV u (b0e u) (b6s (b2J (b1Y (b0f u 0)) (b0e u) 0)))]).set (h.length+4) VObj.dead=h++ck4 (b2q u) [] [] [] [.dead]:=by
   rw[g9J _ _ (by omega),Nat.add_sub_cancel_left]
   simp only[ck4,VObj.sh,g9o,g9P,hD]
   rfl
  rw[e1,e2]
  exact this
def c4B:List Un→Nat→Option Nat
 | [],_=>none
 | x::r,i=>if b1q x=true then c4B r (i+1)else some i
theorem b6K:∀ (l:List Un) (i:Nat),c4B l i=none→∀ x∈l,b1q x=true
 | [],_,_=>by simp
 | x::r,i,h=>by
  unfold c4B at h
  split at h
  ·rename_i hs
   intro y hy
   rcases g9y.1 hy with rfl | hy
   ·exact hs
   ·exact b6K r (i+1) h y hy
  ·cases h
def nmS(l:List Rw)(i:Nat):Bool:=decide ((b0j l i).kind=7) && (decide ((b0j l i).text=tI) || decide ((b0j l i).text=tB))
def tbO(u:List Un)(un:Nat):List Rw:=(b0e u).getD un []
def nmP(u:List Un)(un i:Nat):Bool:=nmS (tbO u un) i
def wrP(u:List Un)(un i:Nat):Bool:=wrS u un (tbO u un) i
def miP(u:List Un)(un i:Nat):Bool:=c9Q u un (tbO u un) i
def f8i(u:List Un):Int×Int×Int:=match b0P (wrP u) (b0e u) 0 with
 | some p=>(8,p.1,p.2)
 | none=>match b0P (miP u) (b0e u) 0 with
  | some p=>(7,p.1,p.2)
  | none=>(0,0,0)
def f1g(u:List Un):Int×Int×Int:=match(b8c (b0e u) (b0f u 0)).2 with
 | d::_=>(6,d.unit,d.node)
 | []=>match b6s (b4o u)with
  | x::_=>(9,x.un,x.nd)
  | []=>f8i u
def d8A(u:List Un):Int×Int×Int:=if ¬ (b3p u (b0f u 0)).1=0 then b3p u (b0f u 0)else match b0P (nmP u) (b0e u) 0 with
 | some p=>(4,p.1,p.2)
 | none=>f1g u
def b5g(u:List Un):Int×Int×Int:=match c4B u 0 with
 | some i=>(17,i,0)
 | none=>d8A u
theorem b3b:d0e none = .tuple [.agg [.int .i64 0,.int .i64 0],.bool false]:=rfl
theorem b3a(p:Nat×Nat):d0e (some p) = .tuple [.agg [.int .i64 p.1,.int .i64 p.2],.bool true]:=rfl
theorem b7k{u:List Un}{un:Nat}{l:List Rw}(h:(b0e u)[un]? = some l):tbO u un=l:=by simp[tbO,g8Z,h]
theorem f3n(u:List Un)(ub:List Us)(pre:List VObj)(z0:List VObj):c3c u pre (.dead :: .cells [.fptr (ckF u (b0e u) ub pre.length)]::z0) (.func 90 [.ptr (pre.length+5) 0]) (nmP u):=by
 intro un i l hl hi kn sg ab z' a K hm hK
 rw[nmP,b7k hl]at hK
 refine⟨by kernel_rfl,?_⟩
 refine b0r.tidyCk ?_
 refine b0A (fn:=Tryz.f90) Tryz.func90 rfl (by rw[Tryz.ntmps90];simp) ?_
 simp -implicitDefEqProofs only[go_sem,Tryz.f90,ck4,b0d,b0b,b0c,b0a,g8V,g8W,g8X]
 refine b0E.callsS (b5o u (b0e u) ub pre.length hl hi) (by simp -implicitDefEqProofs only[go_sem]) ?_
 have hfin:∀ b,nmS l i=b→K (.bool b) (pre++ck4 (b2q u) kn sg ab (VObj.dead :: .cells [.fptr (ckF u (b0e u) ub pre.length)]::(z0++z'))) a:=fun b h=>h ▸ hK _ _ _ hm
 simp -implicitDefEqProofs only[go_sem,b0d,b0b,b0c,b0a,g8V,g8W,g8X]
 refine⟨fun h7=>⟨fun h1=>?_,fun h1=>?_⟩,fun h7=>?_⟩
 ·exact⟨kn,sg,ab,_,[],rfl,by simp,hfin _ (by simp only[nmS,h7,tI,tB,h1,decide_true,decide_false,g9O,g9U];congr)⟩
 ·exact⟨kn,sg,ab,_,[],rfl,by simp,hfin _ (by simp[nmS,h7,tI,tB,h1])⟩
 ·exact⟨kn,sg,ab,_,[],rfl,by simp,hfin _ (by simp[nmS,h7])⟩
theorem g8r{u:List Un}(hT:CkT u)(ub:List Us)(pre z:List VObj):c3c u pre z (.meth 94 [.fptr (ckF u (b0e u) ub pre.length)]) (wrP u):=by
 intro un i l hl hi kn sg ab z' a K hm hK
 rw[wrP,b7k hl]at hK
 exact⟨by kernel_rfl,f3O hT ub pre hl hi kn sg ab _ a K hm hK⟩
theorem g8J{u:List Un}(hT:CkT u)(ub:List Us)(pre z:List VObj):c3c u pre z (.meth 95 [.fptr (ckF u (b0e u) ub pre.length)]) (miP u):=by
 intro un i l hl hi kn sg ab z' a K hm hK
 rw[miP,b7k hl]at hK
 exact⟨by kernel_rfl,c8i hT ub pre hl hi kn sg ab _ a K hm hK⟩
theorem d7h(u:List Un)(hu:b2T u)(hgp:b9R u)(h:List VObj)(a:List Nat)(K:b1z)
  (hbad:¬ (b5g u).1=0→∀ z y,K (.tuple [.nilp,.int .i64 (b5g u).1,.agg [.int .i64 (b5g u).2.1,.int .i64 (b5g u).2.2]]) (h++z) (a++y))
  (hok:(b5g u)=(0,0,0)→SndU u→∀ z0 kn sg ab z y,Mems u kn sg ab→K (.tuple [.fptr (ckF u (b0e u) [] (h++z0).length),.int .i64 0,.agg [.int .i64 0,.int .i64 0]]) ((h++z0)++ck4 (b2q u) kn sg ab z) (a++y)) :
  b0r env 58 [sl 70 (u.map Un.enc)] h a K:=by
 have hul:=hu.1
 refine b0A (fn:=Tryz.f58) Tryz.func58 rfl (by rw[Tryz.ntmps58];simp) ?_
 simp -implicitDefEqProofs only[go_sem,Tryz.f58]
 intro _ _
 refine b0n (β:=List VObj) u (fun q zz=>⟨[(20,.int .i64 q.length),(19,.int .i64 u.length),(18,sl 70 (u.map Un.enc)),(4,.ptr h.length 0),(3,.int .i64 0),(2,.nilp),(0,sl 70 (u.map Un.enc))],h ++ .cells [.int .i64 0,.int .i64 0]::zz,a⟩)
  (fun q r _=>c4B r q.length=c4B u 0) [] ?_ rfl ?_ ?_
 ·simp -implicitDefEqProofs only[go_sem]
  rfl
 ·intro zz he
  have he':c4B u 0=none:=by rw[←he];rfl
  have hsnd:=b6K u 0 he'
  have hS:SndU u:=⟨hu,hsnd⟩
  have hT:=hS.ckT
  have hc1:b5g u=d8A u:=by unfold b5g;rw[he']
  rw[hc1]at hbad hok
  simp -implicitDefEqProofs only[go_sem,b0d,b0b,b0c,b0a,g8V,g8W,g8X]
  refine(f3z u hu).calls (by simp -implicitDefEqProofs only[go_sem]) ?_
  unfold d8A at hbad hok
  generalize b3p u (b0f u 0)=cc at hbad hok ⊢
  obtain⟨c1,c2,c3⟩:=cc
  simp -implicitDefEqProofs only[go_sem,c2U,b0d,b0b,b0c,b0a,g8V,g8W,g8X]
  refine⟨fun hc0=>?_,fun hc0=>?_⟩
  ·have hc0':¬ c1=0:=by simpa using hc0
   simp only[hc0',not_false_eq_true,if_true]at hbad
   refine b0h (cs:=[]) b0v (by kernel_rfl) ?_
   simp -implicitDefEqProofs only[go_sem,b0d,b0b,b0c,b0a,g8V,g8W,g8X]
   have:=hbad trivial (.cells [.int .i64 c2,.int .i64 c3]::(zz++[.cells [.int .i64 c2,.int .i64 c3]])) []
   rw[g9B]at this
   exact this
  ·have hc0':c1=0:=by simpa using hc0
   simp only[hc0',not_true,if_false]at hbad hok
   obtain⟨PRE,hPRE⟩:∃ P,P=h ++ .cells [.int .i64 0,.int .i64 0]::(zz++[.cells [.int .i64 c2,.int .i64 c3]]):=⟨_,rfl⟩
   have hPl:PRE.length=h.length+(zz.length+1+1):=by rw[hPRE];simp
   have hP1:PRE[h.length]? = some (.cells [.int .i64 0,.int .i64 0]):=by rw[hPRE];simp
   have hPlt:h.length<PRE.length:=by omega
   have hP2:∀ x,PRE.set h.length x=h++x::(zz++[.cells [.int .i64 c2,.int .i64 c3]]):=by intro x;rw[hPRE];simp
   rw[←hPRE]
   refine f9I u hu hT.br ?_
   intro y
   simp -implicitDefEqProofs only[go_sem,ck4,b0d,b0b,b0c,b0a,g8V,g8W,g8X]
   refine d0p hu _ PRE _ _ (nmP u) (f3n u _ PRE []) [] [] [] _ _ ⟨c5h.nil,c5h.nil,c5h.nil⟩ ?_
   intro kn1 sg1 ab1 hm1
   cases hn:b0P (nmP u) (b0e u) 0 with
   | some p =>
    rw[hn]at hbad
    simp -implicitDefEqProofs only[go_sem,ck4,b0d,b0b,b0c,b0a,g8V,g8W,g8X,b3b,b3a]
    refine b0h (cs:=[]) b0v (by kernel_rfl) ?_
    simp -implicitDefEqProofs only[go_sem,b0d,b0b,b0c,b0a,g8V,g8W,g8X,b0K hP1,b1h hPlt,hP2]
    exact hbad (by simp) _ _
   | none =>
    rw[hn]at hbad hok
    simp only at hbad hok
    simp -implicitDefEqProofs only[go_sem,ck4,b0d,b0b,b0c,b0a,g8V,g8W,g8X,b3b,b3a]
    refine(d4b u hu).calls (by simp -implicitDefEqProofs only[go_sem]) ?_
    unfold f1g at hbad hok
    cases hdb:(b8c (b0e u) (b0f u 0)).2 with
    | cons d r =>
     rw[hdb]at hbad
     simp only at hbad
     simp -implicitDefEqProofs only[go_sem,b0d,b0b,b0c,b0a,g8V,g8W,g8X]
     intro _ _
     refine⟨fun _=>?_,fun h=>absurd (by omega) h⟩
     refine b0h (cs:=[]) b0v (by kernel_rfl) ?_
     simp -implicitDefEqProofs only[go_sem,b0d,b0b,b0c,b0a,g8V,g8W,g8X,b0K hP1,b1h hPlt,hP2,c2w]
     refine⟨by omega,?_⟩
     exact hbad (by simp) _ _
    | nil =>
     rw[hdb]at hbad hok
     simp only at hbad hok
     simp -implicitDefEqProofs only[go_sem,b0d,b0b,b0c,b0a,g8V,g8W,g8X]
     refine⟨fun h=>absurd h (by simp),fun _=>?_⟩
     cases hub:b6s (b4o u)with
     | cons x r =>
      rw[hub]at hbad
      simp only at hbad
      simp -implicitDefEqProofs only[go_sem,b0d,b0b,b0c,b0a,g8V,g8W,g8X,c9w]
      intro _ _
      refine⟨fun _=>?_,fun h=>absurd (by omega) h⟩
      refine b0h (cs:=[]) b0v (by kernel_rfl) ?_
      simp -implicitDefEqProofs only[go_sem,b0d,b0b,b0c,b0a,g8V,g8W,g8X,b0K hP1,b1h hPlt,hP2,atE,c9w]
      exact⟨by omega,hbad (by simp) _ _⟩
     | nil =>
      rw[hub]at hbad hok
      simp only at hbad hok
      simp -implicitDefEqProofs only[go_sem,b0d,b0b,b0c,b0a,g8V,g8W,g8X,c9w]
      refine⟨fun h=>absurd h (by simp),fun _=>?_⟩
      unfold f8i at hbad hok
      refine d0p hu [] PRE [.dead,.cells [.fptr (ckF u (b0e u) [] PRE.length)],.cells [.int .i64 0,.int .i64 0]] _ (wrP u) (g8r hT [] PRE _) kn1 sg1 ab1 _ _ hm1 ?_
      intro kn2 sg2 ab2 hm2
      cases hw:b0P (wrP u) (b0e u) 0 with
      | some p =>
       rw[hw]at hbad
       simp -implicitDefEqProofs only[go_sem,ck4,b0d,b0b,b0c,b0a,g8V,g8W,g8X,b3b,b3a]
       refine b0h (cs:=[]) b0v (by kernel_rfl) ?_
       simp -implicitDefEqProofs only[go_sem,b0d,b0b,b0c,b0a,g8V,g8W,g8X,b0K hP1,b1h hPlt,hP2]
       exact hbad (by simp) _ _
      | none =>
       rw[hw]at hbad hok
       simp only at hbad hok
       simp -implicitDefEqProofs only[go_sem,ck4,b0d,b0b,b0c,b0a,g8V,g8W,g8X,b3b,b3a]
       refine d0p hu [] PRE [.dead,.cells [.fptr (ckF u (b0e u) [] PRE.length)],.cells [.int .i64 0,.int .i64 0],.cells [.int .i64 0,.int .i64 0]] _ (miP u) (g8J hT [] PRE _) kn2 sg2 ab2 _ _ hm2 ?_
       intro kn3 sg3 ab3 hm3
       cases hmi:b0P (miP u) (b0e u) 0 with
       | some p =>
        rw[hmi]at hbad
        simp -implicitDefEqProofs only[go_sem,ck4,b0d,b0b,b0c,b0a,g8V,g8W,g8X,b3b,b3a]
        refine b0h (cs:=[]) b0v (by kernel_rfl) ?_
        simp -implicitDefEqProofs only[go_sem,b0d,b0b,b0c,b0a,g8V,g8W,g8X,b0K hP1,b1h hPlt,hP2]
        exact hbad (by simp) _ _
       | none =>
        rw[hmi]at hbad hok
        simp only at hbad hok
        simp -implicitDefEqProofs only[go_sem,ck4,b0d,b0b,b0c,b0a,g8V,g8W,g8X,b3b,b3a,b0K hP1,b1h hPlt,hP2]
        have hz:=hok trivial hS (.cells [.int .i64 0,.int .i64 0]::(zz++[.cells [.int .i64 c2,.int .i64 c3]])) kn3 sg3 ab3 [.dead,.cells [.fptr (ckF u (b0e u) [] PRE.length)],.cells [.int .i64 0,.int .i64 0],.cells [.int .i64 0,.int .i64 0],.cells [.int .i64 0,.int .i64 0]] y hm3
        rw[←hPRE]at hz
        rw[hPRE]at hz ⊢
        simp only[ck4,g9t,g8X,g9M]at hz
        exact hz
 ·rintro q x r zz hx he
  have hpl:u.length=q.length+1+r.length:=by rw[hx];simp;omega
  have hgx:(u.map Un.enc).getD (q.length:Int).toNat []=x.enc:=by rw[hx];simp[g8Z]
  have hlt:((q.length:Int)<u.length)=True:=by simp;omega
  have hw:IntKind.i64.wrap (↑q.length+1)=↑(q.length+1):=b0g (by omega)
  rw[c4B]at he
  simp -implicitDefEqProofs only[go_sem,hgx,hlt,b0d,b0b,b0c,b0a,g8V,g8W,g8X]
  refine(f5m x (hgp x (by rw[hx];simp))).calls (by simp -implicitDefEqProofs only[go_sem]) ?_
  simp -implicitDefEqProofs only[go_sem,b0d,b0b,b0c,b0a,g8V,g8W,g8X]
  cases hs:b1q x with
  | false =>
   rw[hs,if_neg (by simp)]at he
   refine⟨fun _=>?_,fun h=>(by cases h)⟩
   have hcu:b5g u=(17,((q.length:Nat):Int),0):=by unfold b5g;rw[←he]
   rw[hcu]at hbad
   have:=hbad (by simp) (.cells [.int .i64 q.length,.int .i64 0]::(zz++[.cells x.enc])) []
   rw[g9B]at this
   exact this
  | true =>
   rw[hs,if_pos rfl]at he
   exact⟨fun h=>(by cases h),fun _=>⟨zz++[.cells x.enc],he,hw,b0s,.inl (by simp)⟩⟩
theorem d4p:(n:Nd)→(b0o n).length≤1000000→∀ (i:Nat),i≤9223372036854775807→b0u env 67 [.agg n.enc,.int .i64 i]
  (match(b0o n)[i]? with | some x => .tuple [.agg x.enc,.int .i64 0,.bool true] | none => .tuple [.agg Nd.zero.enc,.int .i64 (b0o n).length,.bool false]):=by
 refine Nd.all fun k t g ks ih hn i hi=>?_
 refine b0i (fn:=Tryz.f67) Tryz.func67 rfl (by rw[Tryz.ntmps67];simp) (by simp -implicitDefEqProofs only[go_sem]) (by split <;> simp -implicitDefEqProofs only[go_sem]) ?_
 simp -implicitDefEqProofs only[go_sem,Tryz.f67]
 have hz:Nd.zero.enc=[.int .i64 0,.str ⟨#[]⟩,.slice .shared 0 [],.slice .shared 0 []]:=rfl
 rw[b0Y]at hn
 refine⟨fun h0=>?_,fun h0 hb hl=>?_⟩
 ·have:i=0:=by omega
  subst this
  simp[b0o,b8i]
 refine b0n (β:=Unit) ks (fun pre _=>⟨[(19,.int .i64 pre.length),(18,.int .i64 ks.length),(17,sl 66 (ks.map Nd.enc)),(7,.int .i64 ((b0l pre).length+1:Nat)),(6,.bool false),(5,.int .i64 0),(4,.ptr 1 0),(1,.int .i64 i)],
   [.dead,.cells [.int .i64 0,.str ⟨#[]⟩,.slice .nil 0 [],.slice .nil 0 []]],[]⟩) (fun pre _ _=>(b0l pre).length<i) () ?_ ?_ ?_ ?_
 ·simp -implicitDefEqProofs only[go_sem]
  exact⟨rfl,rfl⟩
 ·show 0<i
  omega
 ·intro _ hlt
  simp -implicitDefEqProofs only[go_sem]
  have:(b0o (.mk k t g ks))[i]? = none:=by
   rw[g9K];rw[b0Y];omega
  rw[this,b0Y,hz]
 ·rintro pre x post _ rfl hlt
  have hp:=b2p hl
  have hsz:(b0l (pre++x::post)).length=(b0l pre).length+(b0o x).length+(b0l post).length:=by
   rw[b1n,b0l];simp;omega
  simp -implicitDefEqProofs only[go_sem]
  have ew:IntKind.i64.wrap (↑i - ↑((b0l pre).length+1))=((i - ((b0l pre).length+1):Nat):Int):=by
   rw[b1H (by omega) (by omega)];omega
  rw[ew]
  have hih:=ih x b1w (by omega) (i - ((b0l pre).length+1)) (by omega)
  cases hq:(b0o x)[i - ((b0l pre).length+1)]? with
  | none =>
   rw[hq]at hih
   have hql:(b0o x).length≤i - ((b0l pre).length+1):=by simpa using hq
   refine hih.calls (by simp -implicitDefEqProofs only[go_sem]) ?_
   simp -implicitDefEqProofs only[go_sem]
   have e:(b0l (pre++[x])).length=(b0l pre).length+(b0o x).length:=by rw[b1u,g9d]
   refine⟨(),by omega,b0g (by omega),?_⟩
   rw[e,b1H (by omega) (by omega)]
   omega
  | some y =>
   rw[hq]at hih
   have hql:=(g8Y.1 hq).1
   refine hih.calls (by simp -implicitDefEqProofs only[go_sem]) ?_
   simp -implicitDefEqProofs only[go_sem]
   have:(b0o (.mk k t g (pre++x::post)))[i]? = some y:=by
    rw[b0o,b1n,b0l]
    obtain⟨m,rfl⟩:∃ m,i=m+1:=⟨i - 1,by omega⟩
    rw[g8V,g9c (by omega),g9a (by omega),←hq]
    congr 1
    omega
   rw[this]
theorem g7H(n:Nd)(hn:(b0o n).length≤1000000)(i:Int)(hi:i≤9223372036854775807):b0u env 36 [.agg n.enc,.int .i64 i]
  (.tuple [.agg (((if 0≤i then(b0o n)[i.toNat]? else none)).getD Nd.zero).enc,.bool ((if 0≤i then(b0o n)[i.toNat]? else none)).isSome]):=by
 refine b0i (fn:=Tryz.f36) Tryz.func36 rfl (by rw[Tryz.ntmps36];simp) (by simp -implicitDefEqProofs only[go_sem]) (by simp -implicitDefEqProofs only[go_sem]) ?_
 simp -implicitDefEqProofs only[go_sem,Tryz.f36]
 have hz:Nd.zero.enc=[.int .i64 0,.str ⟨#[]⟩,.slice .shared 0 [],.slice .shared 0 []]:=rfl
 refine⟨fun h0=>?_,fun h0=>?_⟩
 ·rw[if_neg (by omega)]
  rfl
 ·rw[if_pos (by omega)]
  have hih:=d4p n hn i.toNat (by omega)
  rw[show((i.toNat:Nat):Int)=i by omega]at hih
  cases hq:(b0o n)[i.toNat]? with
  | none =>
   rw[hq]at hih
   refine hih.calls (by simp -implicitDefEqProofs only[go_sem]) ?_
   simp -implicitDefEqProofs only[go_sem]
   rfl
  | some y =>
   rw[hq]at hih
   refine hih.calls (by simp -implicitDefEqProofs only[go_sem]) ?_
   simp -implicitDefEqProofs only[go_sem]
   refine(d7u y).calls (by simp -implicitDefEqProofs only[go_sem]) ?_
   simp -implicitDefEqProofs only[go_sem]
   rfl
theorem b4X{u:List Un}(hu:b2T u)(h:(b5g u).1=0):SndU u:=by
 refine⟨hu,?_⟩
 cases hb:c4B u 0 with
 | none=>exact b6K u 0 hb
 | some i=>unfold b5g at h;rw[hb]at h;cases h
theorem d7M(u:List Un)(hu:b2T u)(hgp:b9R u):b0u env 29 [sl 70 (u.map Un.enc)] (c2U (b5g u)):=by
 refine b0i (fn:=Tryz.f29) Tryz.func29 rfl (by rw[Tryz.ntmps29];simp) (by simp -implicitDefEqProofs only[go_sem];exact b0x _) rfl ?_
 simp -implicitDefEqProofs only[go_sem,Tryz.f29]
 refine d7h u hu hgp _ _ _ (fun hb z y=>?_) (fun hk hS z0 kn sg ab z y hm=>?_)
 ·simp -implicitDefEqProofs only[go_sem,b0d,b0b,b0c,b0a,g8V,g8W,g8X]
  refine b0h (cs:=[]) b0v (by kernel_rfl) ?_
  simp -implicitDefEqProofs only[go_sem,b0d,b0b,b0c,b0a,g8V,g8W,g8X,c2U]
  try rfl
 ·obtain⟨PRE,hPRE⟩:∃ P,P=[VObj.cells [V.int IntKind.i64 0,V.int IntKind.i64 0]]++z0:=⟨_,rfl⟩
  have hP1:PRE[0]? = some (.cells [.int .i64 0,.int .i64 0]):=by rw[hPRE];rfl
  have hPlt:0<PRE.length:=by rw[hPRE];simp
  rw[←hPRE,hk]
  simp -implicitDefEqProofs only[go_sem,ck4,b0d,b0b,b0c,b0a,g8V,g8W,g8X,b0K hP1,b1h hPlt]
  refine b0h (cs:=[]) b0v (by kernel_rfl) ?_
  have hP3:∀ x,PRE.set 0 x=[x]++z0:=by intro x;rw[hPRE];rfl
  simp -implicitDefEqProofs only[go_sem,b0d,b0b,b0c,b0a,g8V,g8W,g8X,b0K hP1,b1h hPlt,hP3,c2U]
  try rfl
def c2W(u:List Un)(un nd:Int):ByteArray×Int:=if ¬ (b5g u).1=0 then(⟨#[]⟩,(b5g u).1)else if un<0∨(u.length:Int)≤un then(⟨#[]⟩,7)else
 match(if 0≤nd then(b0o ((u[un.toNat]?.map Un.tree).getD Nd.zero))[nd.toNat]? else none)with
 | some n=>if b1C n.kind=3 then(tyS u (un,nd),0)else(⟨#[]⟩,7)
 | none=>(⟨#[]⟩,7)
theorem d8E(u:List Un)(hu:b2T u)(hgp:b9R u)(un nd:Int)(hnd:nd≤9223372036854775807):b0u env 31 [sl 70 (u.map Un.enc),.agg [.int .i64 un,.int .i64 nd]] (.tuple [.str (c2W u un nd).1,.int .i64 (c2W u un nd).2]):=by
 refine b0i (fn:=Tryz.f31) Tryz.func31 rfl (by rw[Tryz.ntmps31];simp) (by simp -implicitDefEqProofs only[go_sem];exact b0x _) rfl ?_
 simp -implicitDefEqProofs only[go_sem,Tryz.f31]
 refine d7h u hu hgp _ _ _ (fun hb z y=>?_) (fun hk hS z0 kn sg ab z y hm=>?_)
 ·simp -implicitDefEqProofs only[go_sem,b0d,b0b,b0c,b0a,g8V,g8W,g8X]
  refine⟨fun _=>?_,fun h=>absurd (by simpa using h) hb⟩
  rw[c2W,if_pos hb]
 ·obtain⟨PRE,hPRE⟩:∃ P,P=[VObj.cells [V.int IntKind.i64 un,V.int IntKind.i64 nd]]++z0:=⟨_,rfl⟩
  have hP1:PRE[0]? = some (.cells [.int .i64 un,.int .i64 nd]):=by rw[hPRE];rfl
  have hPlt:0<PRE.length:=by rw[hPRE];simp
  rw[←hPRE]
  have hk1:(b5g u).1=0:=by rw[hk]
  have htf:c2W u un nd=if un<0∨(u.length:Int)≤un then((⟨#[]⟩,7):ByteArray×Int)else match(if 0≤nd then(b0o ((u[un.toNat]?.map Un.tree).getD Nd.zero))[nd.toNat]? else none)with | some n=>if b1C n.kind=3 then(tyS u (un,nd),0)else(⟨#[]⟩,7) | none=>(⟨#[]⟩,7):=by
   rw[c2W,if_neg (by simp[hk1])]
  simp -implicitDefEqProofs only[go_sem,ck4,b0d,b0b,b0c,b0a,g8V,g8W,g8X,b0K hP1,b1h hPlt]
  refine⟨fun h0 _ _=>⟨fun h1=>?_,fun h1=>?_⟩,fun h0=>?_⟩
  ·rw[htf,if_pos (.inr h1)]
  ·obtain⟨n,rfl⟩:∃ n:Nat,un=n:=⟨un.toNat,by omega⟩
   have hn:n<u.length:=by omega
   have hun:u[n]? = some u[n]:=g9b hn
   generalize u[n]=x at hun
   have hx:=hu.2 x (g9f hun)
   have hgx:(u.map Un.enc).getD ((n:Nat):Int).toNat []=x.enc:=by simp[g8Z,hun]
   rw[if_neg (by omega),g9j,hun]at htf
   simp only[g9z,g9w]at htf
   have hlt:((n:Int)<u.length)=True:=by simp;omega
   refine b0h (cs:=[]) b0v (by kernel_rfl) ?_
   simp -implicitDefEqProofs only[go_sem,b0d,b0b,b0c,b0a,g8V,g8W,g8X,b0K hP1,b1h hPlt,hgx,hlt]
   refine b0B (g7H x.tree (by omega) nd hnd) (by simp -implicitDefEqProofs only[go_sem]) ?_
   cases ho:(if 0≤nd then(b0o x.tree)[nd.toNat]? else none)with
   | none =>
    rw[ho]at htf
    simp -implicitDefEqProofs only[go_sem,b0d,b0b,b0c,b0a,g8V,g8W,g8X,b0K hP1,b1h hPlt,g9u]
    rw[htf]
   | some m =>
    rw[ho]at htf
    simp only at htf
    obtain⟨mk,mt,mg,mks⟩:=m
    simp -implicitDefEqProofs only[go_sem,b0d,b0b,b0c,b0a,g8V,g8W,g8X,b0K hP1,b1h hPlt,g9H,g9w]
    refine(d0Z mk).calls (by simp -implicitDefEqProofs only[go_sem]) ?_
    simp -implicitDefEqProofs only[go_sem,b0d,b0b,b0c,b0a,g8V,g8W,g8X,b0K hP1,b1h hPlt]
    have hkd:(Nd.mk mk mt mg mks).kind=mk:=rfl
    rw[hkd]at htf
    refine⟨fun h3=>?_,fun h3=>?_⟩
    ·rw[htf,if_neg (by simpa using h3)]
    ·have h3':b1C mk=3:=by simpa using h3
     rw[if_pos h3']at htf
     have h0d:0≤nd:=by
      rcases Int.lt_or_le nd 0 with h | h
      ·rw[if_neg (by omega)]at ho;cases ho
      ·exact h
     rw[if_pos h0d]at ho
     obtain⟨m,rfl⟩:∃ m:Nat,nd=m:=⟨nd.toNat,by omega⟩
     have hml:=(g8Y.1 ho).1
     have htb:=c1N hS.br hun
     have hlen:(b0z x.tree (-1) 0).length=(b0o x.tree).length:=b0N ..
     refine Tof hS.ckT [] PRE (k:=((n:Int),(m:Int))) ⟨n,m,_,rfl,htb,by simp at hml;omega⟩ kn sg ab _ _ _ hm ?_
     intro kn1 sg1 ab1 hm1
     simp -implicitDefEqProofs only[go_sem,ck4,b0d,b0b,b0c,b0a,g8V,g8W,g8X]
     rw[htf]
  ·rw[htf,if_pos (.inl h0)]
end Go.Proofs.YtighfcpaplmaiaaGreatDoor
namespace Go.Vg
theorem b3X.heap{e n0 m0:Nat}{z:List VObj}{y:List Nat}{v:V}{l:List (List V)}(h:b3X e n0 m0 z y v l)(z2:List VObj):b3X e n0 m0 (z++z2) y v l:=by
 have:=h.app z2 []
 rwa [g9B]at this
theorem b0J:∀ {a:List Nat},b8q a a
 | []=>trivial
 | _::_=>⟨rfl,b0J⟩
end Go.Vg
namespace Go.Proofs.YtighfcpaplmaiaaGreatDoor
open Go Go.Vg Go.Proofs
def b6h(d:Dl):Option ByteArray:=if d.kind=1 then some d.name else if d.kind=4 then some (d.owner++⟨#[46]⟩++d.name)else none
def f3A(u:List Un):List ByteArray:=(b0f u 0).filterMap b6h
def d3f(u:List Un):List ByteArray:=b2j (f3A u)
theorem b7i:(envV 28).P.bytesOf 9=16:=by
 rw[show(envV 28).P=Tryz.prog from rfl];kernel_rfl
theorem c8e(u:List Un)(hu:b2T u):b0u env 49 [sl 70 (u.map Un.enc)] (sl 9 ((d3f u).map b0p)):=by
 have hsd:=b8W hu
 have hdl:=b0L u 0 fun y hy=>(hu.2 y hy).1
 have hul:=hu.1
 refine c4e (E:=env) (by simp -implicitDefEqProofs only[go_sem];exact b0x _) (b5F _) b3k (fun el h=>b3s el h) ?_
 refine b0r.ofV (tv:=28) ?_
 refine b0A (fn:=Tryz.f49) Tryz.func49 rfl (by rw[Tryz.ntmps49];simp) ?_
 simp -implicitDefEqProofs only[go_sem,Tryz.f49]
 have hPD:=c9R u hu
 rw[b5R]at hPD
 refine b0r.toV (hPD.calls (by simp -implicitDefEqProofs only[go_sem]) ?_)
 generalize hdd:b0f u 0=dl at hdl
 have hcs:d3f u=b2j (dl.filterMap b6h):=by unfold d3f f3A;rw[hdd]
 have hsd':∀ d∈dl,d.owner.size≤3000000∧d.name.size≤1000000:=fun d hd=>hsd d (hdd ▸ hd)
 rw[hcs]
 simp -implicitDefEqProofs only[go_sem]
 intro _ _
 refine b0n (β:=V×List VObj×List Nat) dl (fun pre b=>⟨[(9,.int .i64 pre.length),(8,.int .i64 dl.length),(7,sl 54 (dl.map Dl.enc)),(3,b.1),(2,.slice .nil 0 [])],b.2.1,b.2.2⟩)
  (fun pre post b=>b3X 9 0 0 b.2.1 b.2.2 b.1 ((pre.filterMap b6h).map b0p)) (.slice .nil 0 [],[],[]) ?_ b3X.nil ?_ ?_
 ·simp -implicitDefEqProofs only[go_sem]
  rfl
 ·rintro⟨v,z,y⟩ hacc
  simp only at hacc ⊢
  simp -implicitDefEqProofs only[go_sem]
  refine b6u (h0:=[]) (a0:=[]) hacc fun z' hacc' _ _=>?_
  simp -implicitDefEqProofs only[go_sem]
  exact hacc'
 ·rintro pre d post ⟨v,z,y⟩ hx hacc
  have hpl:dl.length=pre.length+1+post.length:=by rw[hx];simp;omega
  have hgx:(dl.map Dl.enc).getD (pre.length:Int).toNat []=d.enc:=by rw[hx];simp[g8Z]
  have hlt:((pre.length:Int)<dl.length)=True:=by simp;omega
  have hw:IntKind.i64.wrap (↑pre.length+1)=↑(pre.length+1):=b0g (by omega)
  obtain⟨hso,hsn⟩:=hsd' d (by rw[hx];simp)
  simp only at hacc ⊢
  have hfm:((pre++[d]).filterMap b6h).map b0p=(pre.filterMap b6h).map b0p++((b6h d).toList.map b0p):=by
   rw[List.filterMap_append,g9I]
   cases hc:b6h d <;> simp[hc]
  have hfl:(pre.filterMap b6h).length≤pre.length:=List.length_filterMap_le _ _
  simp -implicitDefEqProofs only[go_sem,hgx,hlt,hacc.asl]
  have hb1:(((pre.filterMap b6h).map b0p).length+1) * (envV 28).P.bytesOf 9≤140737488355328:=by rw[b7i,g9r];omega
  refine⟨fun h1=>?_,fun h1=>⟨fun h4=>⟨(show d.owner.size+1≤1152921504606846976 by omega),(show d.owner.size+1+d.name.size≤1152921504606846976 by omega),?_⟩,fun h4=>?_⟩⟩
  ·have hc:b6h d=some d.name:=by rw[b6h,if_pos h1]
   rw[hc]at hfm
   refine b4F (h0:=[]) (a0:=[]) (hacc.heap _) b3s b3k hb1 fun v' z' y' hacc' hz1 hz2 hy1=>?_
   simp -implicitDefEqProofs only[go_sem]
   rw[hfm]
   exact⟨(v',z',y'),hacc',⟨hw,b1l⟩,b0s,b0J,.inl ⟨g9m _,g9m _⟩⟩
  ·have hc:b6h d=some (d.owner++⟨#[46]⟩++d.name):=by rw[b6h,if_neg h1,if_pos h4]
   rw[hc]at hfm
   refine b4F (h0:=[]) (a0:=[]) (hacc.heap _) b3s b3k hb1 fun v' z' y' hacc' hz1 hz2 hy1=>?_
   simp -implicitDefEqProofs only[go_sem]
   rw[hfm]
   exact⟨(v',z',y'),hacc',⟨hw,b1l⟩,b0s,b0J,.inl ⟨g9m _,g9m _⟩⟩
  ·have hc:b6h d=none:=by rw[b6h,if_neg h1,if_neg h4]
   rw[hc]at hfm
   rw[hfm]
   exact⟨(v,z++[.cells d.enc],y),by simpa using hacc.heap [.cells d.enc],⟨hw,b1l⟩,b0s,b0J,.inl ⟨by simp,g9m _⟩⟩
end Go.Proofs.YtighfcpaplmaiaaGreatDoor
namespace Go.Vg
theorem b3X.one{e n0 m0:Nat}{z:List VObj}{y:List Nat}{v:V}{l:List (List V)}(h:b3X e n0 m0 z y v l):v.cell=true∧v.some? = true∧cellsV v=[v]:=by
 rcases h with⟨_,e0,rfl⟩ | ⟨_,j,k,gen,rfl,_⟩ <;> exact⟨rfl,rfl,rfl⟩
theorem b2V{N:Nat}{x:V}:Vg.tell1 N x x:=by
 unfold Vg.tell1
 split <;> simp_all
theorem b3X.base{e:Nat}{H z:List VObj}{A y:List Nat}{v:V}{l:List (List V)}(h:b3X e H.length A.length z y v l):b3X e 0 0 (H++z) (A++y) v l:=by
 rcases h with h | ⟨h1,j,k,gen,rfl,h3,h4⟩
 ·exact .inl h
 ·exact .inr ⟨h1,H.length+j,A.length+k,gen,by rw[g9s,g9s],by rw[b3g,g9s];exact h3,by rw[b3g];exact h4⟩
def c3M(l:List ByteArray)(t:ByteArray):List ByteArray:=if(l.any fun x=>decide (x=t))=true then l else l++[t]
end Go.Vg
namespace Go.Proofs.YtighfcpaplmaiaaGreatDoor
open Go Go.Vg Go.Proofs
theorem c5X{tv:TypeId}{l:List ByteArray}{n:ByteArray}{K:V→Prop}:b1G (envV tv) 4 (b1t .string (.str n) (b2N l) 0) false K=K (.bool (l.any fun x=>decide (x=n))):=c9t
theorem g1k(a0:List Nat)(c0:VObj)(v:V)(z:List VObj)(y:List Nat)(l:List ByteArray)(text:ByteArray)(hl:l.length≤1000000)(hacc:b3X 9 4 a0.length z y v (l.map b0p)){K:b1z}
  (hK:∀ v' z' y',b3X 9 4 a0.length z' y' v' ((c3M l text).map b0p)→z.length≤z'.length→y.length≤y'.length→K (.tuple []) (c0 :: .map (b2N (c3M l text)) :: .cells [.map 1] :: .cells [v']::z') (a0++y')) :
  b0r (envV 28) 69 [.str text,.ptr 2 0,.ptr 3 0] (c0 :: .map (b2N l) :: .cells [.map 1] :: .cells [v]::z) (a0++y) K:=by
 obtain⟨o1,o2,o3⟩:=hacc.one
 refine b0A (fn:=Tryz.f69) Tryz.func69 rfl (by rw[Tryz.ntmps69];simp) ?_
 simp -implicitDefEqProofs only[go_sem,Tryz.f69,b0d,b0b,b0c,b0a,g8V,g8W,g8X,c5X]
 unfold c3M at hK
 refine⟨fun ha=>?_,fun ha=>?_⟩
 ·have ha':(l.any fun x=>decide (x=text))=false:=by cases h:(l.any fun x=>decide (x=text)) <;> simp_all
  rw[ha',if_neg (by simp)]at hK
  rw[d0o ha']
  simp -implicitDefEqProofs only[go_sem,b0d,b0b,b0c,b0a,g8V,g8W,g8X,hacc.asl]
  have happ:=@b4F (envV 28) 9 9 .full [c0,.map (b2N (l++[text])),.cells [.map 1],.cells [v]] z a0 y v (l.map b0p) [.str text]
  refine happ hacc b3s b3k (by rw[b7i,g9r];omega) fun v' z' y' hacc' hz1 hz2 hy1=>?_
  obtain⟨p1,p2,p3⟩:=hacc'.one
  simp -implicitDefEqProofs only[go_sem,b0d,b0b,b0c,b0a,g8V,g8W,g8X,p1,p2,p3]
  exact hK v' z' y' (by rw[g9I];exact hacc') hz1 hy1
 ·have ha':(l.any fun x=>decide (x=text))=true:=by cases h:(l.any fun x=>decide (x=text)) <;> simp_all
  rw[if_pos ha']at hK
  exact hK _ _ _ hacc (g9m _) (g9m _)
def b2y(d:Dl):ByteArray:=d.owner++⟨#[46]⟩++d.name
def tgL(u:List Un)(c text:ByteArray):List ByteArray:=(c::b8S u c).filterMap fun x=>(b1D u x text).map b2y
def c1U(l:List ByteArray):List ByteArray:=l.foldl c3M []
def c1n(u:List Un)(un nd kind:Int)(text:ByteArray):List ByteArray:=if kind=20 then [text]else if kind=21 then(if(c2W u un (nd+1)).2=0 then b2j (c1U (tgL u (c2W u un (nd+1)).1 text))else [])else []
theorem c8K{l:List ByteArray}(h:l.Nodup)(t:ByteArray):(c3M l t).Nodup:=by
 unfold c3M
 split
 ·exact h
 ·rename_i hn
  rw[h0q]
  refine⟨h,by simp,fun a ha b hb=>?_⟩
  have:=g9N.1 hb
  subst this
  rintro rfl
  exact hn (g9W.2 ⟨a,ha,by simp⟩)
theorem d5Z{l:List ByteArray}{t x:ByteArray}:x∈c3M l t↔x∈l∨x=t:=by
 unfold c3M
 split
 ·rename_i h
  obtain⟨y,hy,he⟩:=g9W.1 h
  have:y=t:=by simpa using he
  subst this
  exact⟨.inl,fun h=>h.elim id fun h=>h ▸ hy⟩
 ·simp
theorem d4P{l:List ByteArray}{t:ByteArray}:(c3M l t).length≤l.length+1:=by unfold c3M;split <;> simp
theorem b7G(l:List ByteArray):∀ p:List ByteArray,p.Nodup→(l.foldl c3M p).Nodup∧∀ x,x∈l.foldl c3M p↔x∈p∨x∈l:=by
 induction l with
 | nil=>intro p h;exact⟨h,by simp⟩
 | cons t r ih =>
  intro p h
  obtain⟨h1,h2⟩:=ih _ (c8K h t)
  refine⟨h1,fun x=>?_⟩
  rw[g9G,h2 x,d5Z,g9y,or_assoc]
theorem c4j(t:ByteArray):b2j [t]=[t]:=by simp[b2j]
theorem b8x:∀ (l p:List ByteArray),(l.foldl c3M p).length≤p.length+l.length
 | [],p=>by simp
 | x::r,p=>by
  have h1:=b8x r (c3M p x)
  have h2:=@d4P p x
  rw[g9G,g9k];omega
theorem c6d{u:List Un}(hu:b2T u)(c:ByteArray):(b8S u c).length≤1000000:=by
 have h1:=b1i (btU u) (b0f u 0)
 have h2:=b0L u 0 fun y hy=>(hu.2 y hy).1
 have h3:=hu.1
 unfold b8S d6K
 rw[b4C,g9r]
 have h4:=h0j (c7l (b0D (btU u) (b0f u 0)) c) (b0D (btU u) (b0f u 0))
 omega
theorem c7f(u:List Un)(hu:b2T u)(hgp:b9R u)(un nd kind:Int)(hnd:0≤nd∧nd≤1000000)(text:ByteArray) :
  b0u env 37 [sl 70 (u.map Un.enc),.agg [.int .i64 un,.int .i64 nd],.int .i64 kind,.str text] (sl 9 ((c1n u un nd kind text).map b0p)):=by
 refine c4e (E:=env) (by simp -implicitDefEqProofs only[go_sem];exact b0x _) (b5F _) b3k (fun el h=>b3s el h) ?_
 refine b0r.ofV (tv:=28) ?_
 refine b0A (fn:=Tryz.f37) Tryz.func37 rfl (by rw[Tryz.ntmps37];simp) ?_
 have hsd:=b8W hu
 have hw1:IntKind.i64.wrap (nd+1)=nd+1:=b1H (by omega) (by omega)
 simp -implicitDefEqProofs only[go_sem,Tryz.f37,hw1]
 refine⟨fun h20=>?_,fun h20=>⟨fun h21=>?_,fun h21=>?_⟩⟩
 ·refine g1k [] _ _ [] [] [] text (by simp) b3X.nil fun v' z' y' hacc hz1 hy1=>?_
  simp -implicitDefEqProofs only[go_sem,b0d,b0b,b0c,b0a,g8V,g8W,g8X]
  refine @b6u [.cells [.int .i64 un,.int .i64 nd],.map (b2N (c3M [] text)),.cells [.map 1],.cells [v']] z' [] y' v' [text] _ hacc fun z2 hacc2 hl2 hk2=>?_
  simp -implicitDefEqProofs only[go_sem,b0d,b0b,b0c,b0a,g8V,g8W,g8X]
  have hone:c1n u un nd kind text=[text]:=by rw[c1n,if_pos h20]
  rw[hone]
  rw[c4j]at hacc2
  exact hacc2.base (A:=[])
 ·have hT:=d8E u hu hgp un (nd+1) (by omega)
  refine b0r.toV (hT.calls (by simp -implicitDefEqProofs only[go_sem]) ?_)
  have htg:c1n u un nd kind text=if(c2W u un (nd+1)).2=0 then b2j (c1U (tgL u (c2W u un (nd+1)).1 text))else []:=by rw[c1n,if_neg h20,if_pos h21]
  rw[htg]
  generalize c2W u un (nd+1)=te
  obtain⟨c,e⟩:=te
  simp -implicitDefEqProofs only[go_sem]
  refine⟨fun he=>?_,fun he=>?_⟩
  ·have he':¬ e=0:=by simpa using he
   rw[if_neg he']
   exact b3X.nil
  ·have he':e=0:=by simpa using he
   rw[if_pos he']
   refine b0r.toV ((g4f u hu c).calls (by simp -implicitDefEqProofs only[go_sem]) ?_)
   have hsl:=c6d hu c
   obtain⟨L,hL⟩:∃ L,L=c::b8S u c:=⟨_,rfl⟩
   have htl:tgL u c text=L.filterMap fun x=>(b1D u x text).map b2y:=by rw[tgL,hL]
   have hLl:L.length≤1000001:=by rw[hL,g9k];omega
   rw[htl]
   simp -implicitDefEqProofs only[go_sem]
   refine⟨by omega,fun hnil=>?_,fun hnil _ _=>?_⟩
   ·have hs:b8S u c=[]:=by simpa using hnil
    rw[hs]at hL
    refine b0n (β:=V×List VObj×List Nat) L (fun q b=>⟨[(48,.int .i64 q.length),(47,.int .i64 L.length),(46,sl 9 (L.map b0p)),(11,.func 69 [.ptr 2 0,.ptr 3 0]),(10,.ptr 3 0),(0,sl 70 (u.map Un.enc)),(3,.str text)],
     .cells [.int .i64 un,.int .i64 nd] :: .map (b2N (c1U (q.filterMap fun x=>(b1D u x text).map b2y))) :: .cells [.map 1] :: .cells [b.1]::b.2.1,[]++b.2.2⟩)
     (fun q r b=>b3X 9 4 ([]:List Nat).length b.2.1 b.2.2 b.1 ((c1U (q.filterMap fun x=>(b1D u x text).map b2y)).map b0p)) (.slice .nil 0 [],[],[]) ?_ b3X.nil ?_ ?_
    ·subst hL
     simp -implicitDefEqProofs only[go_sem]
     exact⟨⟨rfl,rfl⟩,rfl⟩
    ·rintro⟨v,z,y⟩ hacc
     simp only at hacc ⊢
     simp -implicitDefEqProofs only[go_sem,b0d,b0b,b0c,b0a,g8V,g8W,g8X]
     refine @b6u [.cells [.int .i64 un,.int .i64 nd],.map (b2N (c1U (L.filterMap fun x=>(b1D u x text).map b2y))),.cells [.map 1],.cells [v]] z [] y v _ _ hacc fun z2 hacc2 hl2 hk2=>?_
     simp -implicitDefEqProofs only[go_sem,b0d,b0b,b0c,b0a,g8V,g8W,g8X]
     exact hacc2.base
    ·rintro q x r ⟨v,z,y⟩ hx hacc
     have hpl:L.length=q.length+1+r.length:=by rw[hx];simp;omega
     have hgx:(L.map b0p).getD (q.length:Int).toNat []=b0p x:=by rw[hx];simp[g8Z]
     have hlt:((q.length:Int)<L.length)=True:=by simp;omega
     have hw:IntKind.i64.wrap (↑q.length+1)=↑(q.length+1):=b0g (by omega)
     simp only at hacc ⊢
     simp -implicitDefEqProofs only[go_sem,hgx,hlt,b0p,b0d,b0b,b0c,b0a,g8V,g8W,g8X]
     refine b0r.toV ((c5p u hu x text).calls (by simp -implicitDefEqProofs only[go_sem]) ?_)
     cases hlk:b1D u x text with
     | none =>
      simp -implicitDefEqProofs only[go_sem,b0d,b0b,b0c,b0a,g8V,g8W,g8X,b2s,g9u]
      have hsn:(q++[x]).filterMap (fun x=>(b1D u x text).map b2y)=q.filterMap fun x=>(b1D u x text).map b2y:=by
       rw[List.filterMap_append];simp[hlk]
      rw[hsn]
      exact⟨(v,z++[.cells Dl.zero.enc],y),hacc.heap _,hw,⟨rfl,b2V,b0s⟩,b0J,.inl ⟨by simp,g9m _⟩⟩
     | some d =>
      simp -implicitDefEqProofs only[go_sem,b0d,b0b,b0c,b0a,g8V,g8W,g8X,b2s,g9H,g9w]
      obtain⟨hso,hsn⟩:=hsd d (b4A hlk).1
      have hsn2:c1U ((q++[x]).filterMap fun x=>(b1D u x text).map b2y)=c3M (c1U (q.filterMap fun x=>(b1D u x text).map b2y)) (d.owner++⟨#[46]⟩++d.name):=by
       rw[List.filterMap_append];simp[hlk,c1U,b2y,List.foldl_append]
      refine⟨(show d.owner.size+1≤1152921504606846976 by omega),(show d.owner.size+1+d.name.size≤1152921504606846976 by omega),?_⟩
      have hdl:=b8x (q.filterMap fun x=>(b1D u x text).map b2y) []
      have hfl:=List.length_filterMap_le (fun x=>(b1D u x text).map b2y) q
      refine g1k [] _ v (z++[.cells d.enc]) y _ _ (by unfold c1U;simp only[g9F]at hdl;omega) (hacc.heap _) fun v' z' y' hacc' hz1 hy1=>?_
      rw[←hsn2]at hacc' ⊢
      simp -implicitDefEqProofs only[go_sem,b0d,b0b,b0c,b0a,g8V,g8W,g8X]
      exact⟨(v',z',y'),hacc',hw,⟨b2V,b0s⟩,b0J,.inl ⟨g9m _,g9m _⟩⟩
   ·have hLn:1+(b8S u c).length=L.length:=by rw[hL,g9k];omega
    refine b0n (β:=V×List VObj×List Nat) L (fun q b=>⟨[(48,.int .i64 q.length),(47,.int .i64 L.length),(46,sl 9 (L.map b0p)),(11,.func 69 [.ptr 2 0,.ptr 3 0]),(10,.ptr 3 0),(0,sl 70 (u.map Un.enc)),(3,.str text)],
     .cells [.int .i64 un,.int .i64 nd] :: .map (b2N (c1U (q.filterMap fun x=>(b1D u x text).map b2y))) :: .cells [.map 1] :: .cells [b.1]::b.2.1,[1+(b8S u c).length]++b.2.2⟩)
     (fun q r b=>b3X 9 4 ([1+(b8S u c).length]:List Nat).length b.2.1 b.2.2 b.1 ((c1U (q.filterMap fun x=>(b1D u x text).map b2y)).map b0p)) (.slice .nil 0 [],[],[]) ?_ b3X.nil ?_ ?_
    ·subst hL
     simp -implicitDefEqProofs only[go_sem]
     exact⟨⟨rfl,rfl⟩,rfl⟩
    ·rintro⟨v,z,y⟩ hacc
     simp only at hacc ⊢
     simp -implicitDefEqProofs only[go_sem,b0d,b0b,b0c,b0a,g8V,g8W,g8X]
     refine @b6u [.cells [.int .i64 un,.int .i64 nd],.map (b2N (c1U (L.filterMap fun x=>(b1D u x text).map b2y))),.cells [.map 1],.cells [v]] z [1+(b8S u c).length] y v _ _ hacc fun z2 hacc2 hl2 hk2=>?_
     simp -implicitDefEqProofs only[go_sem,b0d,b0b,b0c,b0a,g8V,g8W,g8X]
     exact hacc2.base
    ·rintro q x r ⟨v,z,y⟩ hx hacc
     have hpl:L.length=q.length+1+r.length:=by rw[hx];simp;omega
     have hgx:(L.map b0p).getD (q.length:Int).toNat []=b0p x:=by rw[hx];simp[g8Z]
     have hlt:((q.length:Int)<L.length)=True:=by simp;omega
     have hw:IntKind.i64.wrap (↑q.length+1)=↑(q.length+1):=b0g (by omega)
     simp only at hacc ⊢
     simp -implicitDefEqProofs only[go_sem,hgx,hlt,b0p,b0d,b0b,b0c,b0a,g8V,g8W,g8X]
     refine b0r.toV ((c5p u hu x text).calls (by simp -implicitDefEqProofs only[go_sem]) ?_)
     cases hlk:b1D u x text with
     | none =>
      simp -implicitDefEqProofs only[go_sem,b0d,b0b,b0c,b0a,g8V,g8W,g8X,b2s,g9u]
      have hsn:(q++[x]).filterMap (fun x=>(b1D u x text).map b2y)=q.filterMap fun x=>(b1D u x text).map b2y:=by
       rw[List.filterMap_append];simp[hlk]
      rw[hsn]
      exact⟨(v,z++[.cells Dl.zero.enc],y),hacc.heap _,hw,⟨rfl,b2V,b0s⟩,b0J,.inl ⟨by simp,g9m _⟩⟩
     | some d =>
      simp -implicitDefEqProofs only[go_sem,b0d,b0b,b0c,b0a,g8V,g8W,g8X,b2s,g9H,g9w]
      obtain⟨hso,hsn⟩:=hsd d (b4A hlk).1
      have hsn2:c1U ((q++[x]).filterMap fun x=>(b1D u x text).map b2y)=c3M (c1U (q.filterMap fun x=>(b1D u x text).map b2y)) (d.owner++⟨#[46]⟩++d.name):=by
       rw[List.filterMap_append];simp[hlk,c1U,b2y,List.foldl_append]
      refine⟨(show d.owner.size+1≤1152921504606846976 by omega),(show d.owner.size+1+d.name.size≤1152921504606846976 by omega),?_⟩
      have hdl:=b8x (q.filterMap fun x=>(b1D u x text).map b2y) []
      have hfl:=List.length_filterMap_le (fun x=>(b1D u x text).map b2y) q
      refine g1k [1+(b8S u c).length] _ v (z++[.cells d.enc]) y _ _ (by unfold c1U;simp only[g9F]at hdl;omega) (hacc.heap _) fun v' z' y' hacc' hz1 hy1=>?_
      rw[←hsn2]at hacc' ⊢
      simp -implicitDefEqProofs only[go_sem,b0d,b0b,b0c,b0a,g8V,g8W,g8X]
      exact⟨(v',z',y'),hacc',hw,⟨b2V,b0s⟩,b0J,.inl ⟨g9m _,g9m _⟩⟩
 ·refine @b6u [.cells [.int .i64 un,.int .i64 nd],.map [],.cells [.map 1],.cells [.slice .nil 0 []]] [] [] [] _ [] _ b3X.nil fun z2 hacc2 hl2 hk2=>?_
  have hno:c1n u un nd kind text=[]:=by rw[c1n,if_neg h20,if_neg h21]
  rw[hno]
  simp -implicitDefEqProofs only[go_sem,b0d,b0b,b0c,b0a,g8V,g8W,g8X]
  exact b3X.nil
end Go.Proofs.YtighfcpaplmaiaaGreatDoor
