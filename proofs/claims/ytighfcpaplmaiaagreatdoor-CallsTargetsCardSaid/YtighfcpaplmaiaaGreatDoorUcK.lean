import Derived.Test.YtighfcpaplmaiaaGreatDoorUcH
set_option linter.unusedVariables false
set_option linter.unusedSimpArgs false
set_option maxRecDepth 20000
namespace Go.Proofs.YtighfcpaplmaiaaGreatDoor
open Go Go.Vg Go.Proofs
def b4W(u:List Un)(s want:ByteArray):Bool:=decide (s=⟨#[]⟩) || (decide (s=want) || (b8z u s).any fun x=>decide (x=want))
theorem b4T{u:List Un}(hW:CkW u)(ub:List Us)(pre:List VObj)(s want:ByteArray):b5C u ub pre 145 [.str s,.str want] (.bool (b4W u s want)):=by
 intro kn sg ab z a K hm hK
 refine b0r.tidyCk ?_
 refine b0A (fn:=Tryz.f145) Tryz.func145 rfl (by rw[Tryz.ntmps145];simp) ?_
 simp -implicitDefEqProofs only[go_sem,Tryz.f145,ck4,b0d,b0b,b0c,b0a,g8V,g8W,g8X]
 refine⟨fun h1=>⟨fun h2=>?_,fun h2=>?_⟩,fun h1=>?_⟩
 ·refine d2S u hW ub pre (b2q u) kn sg ab _ _ _ hm.ab ?_
  intro ab' hab'
  simp -implicitDefEqProofs only[go_sem,ck4,b0d,b0b,b0c,b0a,g8V,g8W,g8X]
  refine(c4i (b8z u s) want).calls (by simp -implicitDefEqProofs only[go_sem]) ?_
  simp -implicitDefEqProofs only[go_sem,b0d,b0b,b0c,b0a,g8V,g8W,g8X]
  have hf:b4W u s want=(b8z u s).any fun x=>decide (x=want):=by rw[b4W,g9v h1,g9v h2,g9U,g9U]
  rw[hf]at hK
  exact⟨kn,sg,ab',[],[],by simp,by simp,hK _ _ _ ⟨hm.kn,hm.sg,hab'⟩⟩
 ·have hf:b4W u s want=true:=by rw[b4W,g9D h2,Bool.true_or,Bool.or_true]
  rw[hf]at hK
  exact⟨kn,sg,ab,[],[],by simp,by simp,hK _ _ _ hm⟩
 ·have hf:b4W u s want=true:=by rw[b4W,g9D h1,Bool.true_or]
  rw[hf]at hK
  exact⟨kn,sg,ab,[],[],by simp,by simp,hK _ _ _ hm⟩
def f9w(s t:Sg):Bool:=decide (s.params=t.params) && decide (s.result=t.result)
def d6S(u:List Un)(l:List Rw)(i:Nat):Bool:=if c6Q l i=⟨#[]⟩then false else match b8z u (c6Q l i)with
 | []=>false
 | c::_=>match mtS u (c,(b0j l i).text)with
  | some s => !f9w s (b2O l i)
  | none=>false
def d3W:Wk := .one 0 (.one 1 (.one 2 (.one 3 (.one 4 (.one 5 (.one 6 (.one 7 (.br 8 (.one 9 (.one 10 (.one 11 (.one 12 (.one 13 (.one 14 (.stop))))))) (.br 12 (.one 8 (.one 9 (.one 10 (.one 11 (.one 13 (.one 14 (.stop))))))) (.stop))))))))))
theorem c8p{u:List Un}(hT:CkT u)(ub:List Us)(pre:List VObj){un i:Nat}{l:List Rw}(hl:(b0e u)[un]? = some l)(hi:i<l.length)(h2:(b0j l i).kind=2):b5C u ub pre 143 [.agg [.int .i64 un,.int .i64 i]] (.bool (d6S u l i)):=by
 intro kn sg ab z a K hm hK
 refine b0r.tidyCk ?_
 refine b0A (fn:=Tryz.f143) Tryz.func143 rfl (by rw[Tryz.ntmps143];simp) ?_
 simp -implicitDefEqProofs only[go_sem,Tryz.f143,ck4,b0d,b0b,b0c,b0a,g8V,g8W,g8X,b6C]
 have hg:=hT.gram l (g9f hl)
 have hp3:0≤(b0j l i).parent:=by
  rcases Nat.eq_zero_or_pos i with h0 | h0
  ·subst h0
   rw[hg.root hi]at h2
   omega
  ·obtain⟨q,hq,_⟩:=hg.par i hi h0
   omega
 refine b0E.callsS (d2Z u (b0e u) ub pre.length hl hi hg.ok hp3) (by simp -implicitDefEqProofs only[go_sem]) ?_
 rw[d6S]at hK
 simp -implicitDefEqProofs only[go_sem,b0d,b0b,b0c,b0a,g8V,g8W,g8X]
 refine⟨fun hc=>?_,fun hc=>?_⟩
 ·rw[if_pos hc]at hK
  exact⟨kn,sg,ab,_,[],rfl,by simp,hK _ _ _ hm⟩
 ·rw[if_neg hc]at hK
  refine d2S u hT.toCkW ub pre (b2q u) kn sg ab _ _ _ hm.ab ?_
  intro ab' hab'
  have hm':Mems u kn sg ab':=⟨hm.kn,hm.sg,hab'⟩
  cases hs:b8z u (c6Q l i)with
  | nil =>
   rw[hs]at hK
   simp -implicitDefEqProofs only[go_sem,ck4,b0d,b0b,b0c,b0a,g8V,g8W,g8X]
   exact⟨fun _=>⟨kn,sg,ab',_,[],rfl,by simp,hK _ _ _ hm'⟩,fun h=>absurd rfl h⟩
  | cons c r =>
   rw[hs]at hK
   simp only at hK
   simp -implicitDefEqProofs only[go_sem,ck4,b0d,b0b,b0c,b0a,g8V,g8W,g8X]
   intro _ _
   refine⟨fun h=>absurd h (by omega),fun _=>?_⟩
   have hJr:=b5o u (b0e u) ub pre.length hl hi
   cases hms:mtS u (c,(b0j l i).text)with
   | none =>
    rw[hms]at hK
    refine b1g (cs:=[8]) d3W b0v (by kernel_rfl) ?_
    simp -implicitDefEqProofs only[go_sem,b0d,b0b,b0c,b0a,g8V,g8W,g8X,d3W,b0p]
    refine⟨by omega,b4P hJr (by simp -implicitDefEqProofs only[go_sem]) ?_⟩
    simp -implicitDefEqProofs only[go_sem,b0d,b0b,b0c,b0a,g8V,g8W,g8X,b0p]
    repeat' apply And.intro
    all_goals(
     refine b7H u hT.toCkW ub pre (b2q u) kn sg ab' _ _ _ _ hm.sg ?_
     intro sg2 hsg2
     rw[hms]
     simp -implicitDefEqProofs only[go_sem,ck4,b0d,b0b,b0c,b0a,g8V,g8W,g8X,b6j])
    all_goals(
     refine b0h (cs:=[]) b0v (by kernel_rfl) ?_
     simp -implicitDefEqProofs only[go_sem,b0d,b0b,b0c,b0a,g8V,g8W,g8X]
     exact⟨kn,sg2,ab',_,[],rfl,by simp,hK _ _ _ ⟨hm.kn,hsg2,hab'⟩⟩)
   | some s =>
    rw[hms]at hK
    refine b1g (cs:=[8]) d3W b0v (by kernel_rfl) ?_
    simp -implicitDefEqProofs only[go_sem,b0d,b0b,b0c,b0a,g8V,g8W,g8X,d3W,b0p]
    refine⟨by omega,b4P hJr (by simp -implicitDefEqProofs only[go_sem]) ?_⟩
    simp -implicitDefEqProofs only[go_sem,b0d,b0b,b0c,b0a,g8V,g8W,g8X,b0p]
    repeat' apply And.intro
    all_goals(
     refine b7H u hT.toCkW ub pre (b2q u) kn sg ab' _ _ _ _ hm.sg ?_
     intro sg2 hsg2
     rw[hms]
     simp -implicitDefEqProofs only[go_sem,ck4,b0d,b0b,b0c,b0a,g8V,g8W,g8X,b6j,Sg.enc])
    all_goals(
     refine b0h (cs:=[]) b0v (by kernel_rfl) ?_
     simp -implicitDefEqProofs only[go_sem,b0d,b0b,b0c,b0a,g8V,g8W,g8X]
     refine b4P (d0l u (b0e u) ub pre.length hl (hg.sign i hi h2)) (by simp -implicitDefEqProofs only[go_sem]) ?_
     generalize b2O l i=t at hK ⊢
     simp -implicitDefEqProofs only[go_sem,b0d,b0b,b0c,b0a,g8V,g8W,g8X,Sg.enc]
     refine b0B (d1R s t) (by simp -implicitDefEqProofs only[go_sem,Sg.enc]) ?_
     simp -implicitDefEqProofs only[go_sem,b0d,b0b,b0c,b0a,g8V,g8W,g8X]
     exact⟨kn,sg2,ab',_,[],rfl,by simp,hK _ _ _ ⟨hm.kn,hsg2,hab'⟩⟩)
def d4o(u:List Un)(un:Nat)(l:List Rw)(i:Nat):Nat→List ByteArray→Bool
 | _,[]=>false
 | j,w::r=>if b4W u (tyS u ((un:Int),((b1d l i j:Nat):Int))) w=true then d4o u un l i (j+1) r else true
def f1F(u:List Un)(un:Nat)(l:List Rw)(i:Nat)(from_:Nat)(params:List ByteArray):Bool:=if(b0j l i).kids.length=from_+params.length then d4o u un l i from_ params else true
theorem c0Z{u:List Un}(hT:CkT u)(ub:List Us)(pre:List VObj){un i:Nat}{l:List Rw}(hl:(b0e u)[un]? = some l)(hi:i<l.length)(fr:Nat)(hfr:fr≤1)(s:Sg) :
  b5C u ub pre 149 [.agg [.int .i64 un,.int .i64 i],.int .i64 fr,.agg s.enc] (.bool (f1F u un l i fr s.params)):=by
 intro kn sg ab z a K hm hK
 have hg:=hT.gram l (g9f hl)
 have hkb:=(hg.ok.kids i hi).1
 refine b0r.tidyCk ?_
 refine b0A (fn:=Tryz.f149) Tryz.func149 rfl (by rw[Tryz.ntmps149];simp) ?_
 simp -implicitDefEqProofs only[go_sem,Tryz.f149,ck4,b0d,b0b,b0c,b0a,g8V,g8W,g8X,Sg.enc]
 refine b0E.callsS (b5o u (b0e u) ub pre.length hl hi) (by simp -implicitDefEqProofs only[go_sem]) ?_
 have hks:=hg.kid i hi
 simp -implicitDefEqProofs only[go_sem,b0d,b0b,b0c,b0a,g8V,g8W,g8X]
 intro _ _ _ _
 have hwr:IntKind.i64.wrap (((b0j l i).kids.length:Int) - fr)=((b0j l i).kids.length:Int) - fr:=b1H (by omega) (by omega)
 rw[hwr,f1F]at *
 refine⟨fun hne=>?_,fun heq _ _=>?_⟩
 ·have hne':¬ ((b0j l i).kids.length:Int) - fr=s.params.length:=by simpa using hne
  rw[if_neg (by omega)]at hK
  exact⟨kn,sg,ab,_,[],rfl,by simp,hK _ _ _ hm⟩
 ·have heq':((b0j l i).kids.length:Int) - fr=s.params.length:=by simpa using heq
  rw[if_pos (by omega)]at hK
  refine b0n (β:=KnM×SgM×AbM) s.params (fun q b=>⟨[(27,.int .i64 q.length),(26,.int .i64 s.params.length),(25,sl 9 (s.params.map b0p)),(5,.ptr (pre.length+(z.length+1+1+1+1)) 0),(0,.fptr (ckF u (b0e u) ub pre.length)),(2,.int .i64 fr)],
    pre++ck4 (b2q u) b.1 b.2.1 b.2.2 (z++[.cells [.int .i64 un,.int .i64 i],.cells [sl 9 (s.params.map b0p),.str s.result]]),a⟩)
   (fun q r b=>Mems u b.1 b.2.1 b.2.2∧d4o u un l i fr s.params=d4o u un l i (fr+q.length) r) (kn,sg,ab) ?_ ⟨hm,rfl⟩ ?_ ?_
  ·simp -implicitDefEqProofs only[go_sem,ck4]
   exact⟨rfl,by omega⟩
  ·rintro⟨kn1,sg1,ab1⟩ ⟨hm1,he⟩
   simp -implicitDefEqProofs only[go_sem,ck4,b0d,b0b,b0c,b0a,g8V,g8W,g8X]
   rw[he]at hK
   exact⟨kn1,sg1,ab1,_,[],rfl,by simp,hK _ _ _ hm1⟩
  ·rintro q w r ⟨kn1,sg1,ab1⟩ hx ⟨hm1,he⟩
   simp only at hm1 ⊢
   have hpl:s.params.length=q.length+1+r.length:=by rw[hx];simp;omega
   have hgx:(s.params.map b0p).getD (q.length:Int).toNat []=b0p w:=by rw[hx];simp[g8Z]
   have hlt:((q.length:Int)<s.params.length)=True:=by simp;omega
   have hw:IntKind.i64.wrap (↑q.length+1)=↑(q.length+1):=b0g (by omega)
   have hjl:fr+q.length<(b0j l i).kids.length:=by omega
   have hkd:=hks _ hjl
   have hwk:IntKind.i64.wrap ((fr:Int)+q.length)=((fr+q.length:Nat):Int):=by rw[b1H (by omega) (by omega)];omega
   rw[d4o]at he
   simp -implicitDefEqProofs only[go_sem,hgx,hlt,b0p,ck4,b0d,b0b,b0c,b0a,g8V,g8W,g8X,hwk]
   refine b0E.callsS (d3g u (b0e u) ub pre.length hl hi hjl) (by simp -implicitDefEqProofs only[go_sem]) ?_
   simp -implicitDefEqProofs only[go_sem,b0d,b0b,b0c,b0a,g8V,g8W,g8X]
   refine Tof hT ub pre (k:=((un:Int),((b1d l i (fr+q.length):Nat):Int))) ⟨un,_,l,rfl,hl,hkd.2.1⟩ kn1 sg1 ab1 _ _ _ hm1 ?_
   intro kn2 sg2 ab2 hm2
   simp -implicitDefEqProofs only[go_sem,ck4,b0d,b0b,b0c,b0a,g8V,g8W,g8X]
   refine b4T hT.toCkW ub pre _ w kn2 sg2 ab2 _ _ _ hm2 ?_
   intro kn3 sg3 ab3 hm3
   simp -implicitDefEqProofs only[go_sem,ck4,b0d,b0b,b0c,b0a,g8V,g8W,g8X]
   cases hf:b4W u (tyS u ((un:Int),((b1d l i (fr+q.length):Nat):Int))) w with
   | true =>
    rw[hf,if_pos rfl]at he
    exact⟨fun h=>(by cases h),fun _=>⟨(kn3,sg3,ab3),⟨hm3,by rw[he,h0n]⟩,hw,⟨rfl,rfl,rfl⟩,by omega⟩⟩
   | false =>
    rw[hf,if_neg (by simp)]at he
    rw[he]at hK
    exact⟨fun _=>⟨kn3,sg3,ab3,_,[],rfl,by simp,hK _ _ _ hm3⟩,fun h=>(by cases h)⟩
def plT(s:ByteArray):Bool:=decide (s=⟨#[]⟩) || (decide (s=tI) || decide (s=tB))
theorem c6D(s:ByteArray):b0u env 188 [.str s] (.bool (plT s)):=by
 refine b0i (fn:=Tryz.f188) Tryz.func188 rfl (by rw[Tryz.ntmps188];simp) rfl rfl ?_
 simp -implicitDefEqProofs only[go_sem,Tryz.f188,plT,tI,tB]
 by_cases h1:s=⟨#[]⟩
 ·simp[h1]
 by_cases h2:s=⟨#[105,110,116]⟩
 ·simp[h1,h2]
 simp[h1,h2]
 rfl
def c4F(u:List Un)(tx a b:ByteArray):Bool :=
 if tx=⟨#[61,61]⟩then !plT a || (!plT b || (!decide (a=⟨#[]⟩) && (!decide (b=⟨#[]⟩) && !decide (a=b))))
 else if tx=⟨#[38]⟩∨tx=⟨#[124]⟩then !b4W u a tB || !b4W u b tB
 else !b4W u a tI || !b4W u b tI
def f3j(u:List Un)(un:Nat)(l:List Rw)(i:Nat):Bool:=c4F u (b0j l i).text (tyS u ((un:Int),((b1d l i 0:Nat):Int))) (tyS u ((un:Int),((b1d l i 1:Nat):Int)))
def f3l:Wk := .one 0 (.one 1 (.one 2 (.one 3 (.one 5 (.one 6 (.br 4 (.one 7 (.one 8 (.one 9 (.one 10 (.one 11 (.stop)))))) (.br 7 (.one 4 (.one 8 (.one 9 (.one 10 (.one 11 (.stop)))))) (.stop))))))))
theorem d1d{u:List Un}(hT:CkT u)(ub:List Us)(pre:List VObj){un i:Nat}{l:List Rw}(hl:(b0e u)[un]? = some l)(hi:i<l.length)(h24:(b0j l i).kind=24) :
  b5C u ub pre 152 [.agg [.int .i64 un,.int .i64 i]] (.bool (f3j u un l i)):=by
 intro kn sg ab z a K hm hK
 rw[f3j]at hK
 have hg:=hT.gram l (g9f hl)
 have hle:=hg.least i hi
 have hk2:2≤(b0j l i).kids.length:=by rw[h24]at hle;simp[b0U]at hle;omega
 have hkd0:=hg.kid i hi 0 (by omega)
 have hkd1:=hg.kid i hi 1 (by omega)
 refine b0r.tidyCk ?_
 refine b0A (fn:=Tryz.f152) Tryz.func152 rfl (by rw[Tryz.ntmps152];simp) ?_
 simp -implicitDefEqProofs only[go_sem,Tryz.f152,ck4,b0d,b0b,b0c,b0a,g8V,g8W,g8X]
 have hJ0:=d3g u (b0e u) ub pre.length (k:=0) hl hi (by omega)
 have hJ1:=d3g u (b0e u) ub pre.length (k:=1) hl hi (by omega)
 have hO0:=Tof hT ub pre (k:=((un:Int),((b1d l i 0:Nat):Int))) ⟨un,_,l,rfl,hl,hkd0.2.1⟩
 have hO1:=Tof hT ub pre (k:=((un:Int),((b1d l i 1:Nat):Int))) ⟨un,_,l,rfl,hl,hkd1.2.1⟩
 refine b1g (cs:=[4,9]) f3l b0v (by kernel_rfl) ?_
 simp -implicitDefEqProofs only[go_sem,b0d,b0b,b0c,b0a,g8V,g8W,g8X,f3l]
 refine b4P hJ0 (by simp -implicitDefEqProofs only[go_sem];rfl) ?_
 simp -implicitDefEqProofs only[go_sem,b0d,b0b,b0c,b0a,g8V,g8W,g8X]
 refine⟨?_,?_⟩
 ·refine hO0 kn sg ab _ _ _ hm ?_
  intro kn1 sg1 ab1 hm1
  simp -implicitDefEqProofs only[go_sem,ck4,b0d,b0b,b0c,b0a,g8V,g8W,g8X]
  refine b4P hJ1 (by simp -implicitDefEqProofs only[go_sem];rfl) ?_
  simp -implicitDefEqProofs only[go_sem,b0d,b0b,b0c,b0a,g8V,g8W,g8X]
  refine hO1 kn1 sg1 ab1 _ _ _ hm1 ?_
  intro kn2 sg2 ab2 hm2
  simp -implicitDefEqProofs only[go_sem,ck4,b0d,b0b,b0c,b0a,g8V,g8W,g8X]
  generalize tyS u ((un:Int),((b1d l i 0:Nat):Int))=A at hK ⊢
  generalize tyS u ((un:Int),((b1d l i 1:Nat):Int))=B at hK ⊢
  have hfin:∀ (q:Bool) kn' sg' ab',Mems u kn' sg' ab'→c4F u (b0j l i).text A B=q→K (.bool q) (pre++ck4 (b2q u) kn' sg' ab' z) a:=fun q kn' sg' ab' hm' h=>h ▸ hK kn' sg' ab' hm'
  refine b0E.callsS (b5o u (b0e u) ub pre.length hl hi) (by simp -implicitDefEqProofs only[go_sem]) ?_
  by_cases t1:(b0j l i).text=⟨#[61,61]⟩
  ·have hop:c4F u (b0j l i).text A B=(!plT A || (!plT B || (!decide (A=⟨#[]⟩) && (!decide (B=⟨#[]⟩) && !decide (A=B))))):=by rw[c4F,if_pos t1]
   simp -implicitDefEqProofs only[go_sem,b0d,b0b,b0c,b0a,g8V,g8W,g8X,t1]
   refine(c6D A).calls (by simp -implicitDefEqProofs only[go_sem]) ?_
   simp -implicitDefEqProofs only[go_sem,b0d,b0b,b0c,b0a,g8V,g8W,g8X]
   cases hpa:plT A with
   | false =>
    rw[hpa]at hop
    simp -implicitDefEqProofs only[go_sem]
    exact⟨kn2,sg2,ab2,_,[],rfl,by simp,hfin _ _ _ _ hm2 hop⟩
   | true =>
    rw[hpa,Bool.not_true,g9U]at hop
    simp -implicitDefEqProofs only[go_sem]
    refine(c6D B).calls (by simp -implicitDefEqProofs only[go_sem]) ?_
    simp -implicitDefEqProofs only[go_sem,b0d,b0b,b0c,b0a,g8V,g8W,g8X]
    cases hpb:plT B with
    | false =>
     rw[hpb]at hop
     simp -implicitDefEqProofs only[go_sem]
     exact⟨kn2,sg2,ab2,_,[],rfl,by simp,hfin _ _ _ _ hm2 hop⟩
    | true =>
     rw[hpb,Bool.not_true,g9U]at hop
     simp -implicitDefEqProofs only[go_sem]
     refine⟨fun ha=>⟨fun hb=>?_,fun hb=>?_⟩,fun ha=>?_⟩
     ·rw[ha,hb,g9O,g9O]at hop
      exact⟨kn2,sg2,ab2,_,[],rfl,by simp,hfin _ _ _ _ hm2 hop⟩
     ·rw[hb,g9Q,Bool.and_false]at hop
      exact⟨kn2,sg2,ab2,_,[],rfl,by simp,hfin _ _ _ _ hm2 hop⟩
     ·rw[ha,g9Q]at hop
      exact⟨kn2,sg2,ab2,_,[],rfl,by simp,hfin _ _ _ _ hm2 hop⟩
  ·by_cases t2:(b0j l i).text=⟨#[38]⟩∨(b0j l i).text=⟨#[124]⟩
   ·have hop:c4F u (b0j l i).text A B=(!b4W u A tB || !b4W u B tB):=by rw[c4F,if_neg t1,if_pos t2]
    rcases t2 with t2 | t2
    rotate_left
    have hn38:¬ (b0j l i).text=⟨#[38]⟩:=by rw[t2];decide
    rotate_left
    ·simp -implicitDefEqProofs only[go_sem,b0d,b0b,b0c,b0a,g8V,g8W,g8X,t1,eq_true t2]
     refine b4T hT.toCkW ub pre A tB kn2 sg2 ab2 _ _ _ hm2 ?_
     intro kn3 sg3 ab3 hm3
     simp -implicitDefEqProofs only[go_sem,ck4,b0d,b0b,b0c,b0a,g8V,g8W,g8X]
     cases hfa:b4W u A tB with
     | false =>
      rw[hfa]at hop
      simp -implicitDefEqProofs only[go_sem]
      exact⟨kn3,sg3,ab3,_,[],rfl,by simp,hfin _ _ _ _ hm3 hop⟩
     | true =>
      rw[hfa,Bool.not_true,g9U]at hop
      simp -implicitDefEqProofs only[go_sem]
      refine b4T hT.toCkW ub pre B tB kn3 sg3 ab3 _ _ _ hm3 ?_
      intro kn4 sg4 ab4 hm4
      simp -implicitDefEqProofs only[go_sem,ck4,b0d,b0b,b0c,b0a,g8V,g8W,g8X]
      exact⟨kn4,sg4,ab4,_,[],rfl,by simp,hfin _ _ _ _ hm4 hop⟩
    ·simp -implicitDefEqProofs only[go_sem,b0d,b0b,b0c,b0a,g8V,g8W,g8X,t1,hn38,eq_true t2]
     refine b4T hT.toCkW ub pre A tB kn2 sg2 ab2 _ _ _ hm2 ?_
     intro kn3 sg3 ab3 hm3
     simp -implicitDefEqProofs only[go_sem,ck4,b0d,b0b,b0c,b0a,g8V,g8W,g8X]
     cases hfa:b4W u A tB with
     | false =>
      rw[hfa]at hop
      simp -implicitDefEqProofs only[go_sem]
      exact⟨kn3,sg3,ab3,_,[],rfl,by simp,hfin _ _ _ _ hm3 hop⟩
     | true =>
      rw[hfa,Bool.not_true,g9U]at hop
      simp -implicitDefEqProofs only[go_sem]
      refine b4T hT.toCkW ub pre B tB kn3 sg3 ab3 _ _ _ hm3 ?_
      intro kn4 sg4 ab4 hm4
      simp -implicitDefEqProofs only[go_sem,ck4,b0d,b0b,b0c,b0a,g8V,g8W,g8X]
      exact⟨kn4,sg4,ab4,_,[],rfl,by simp,hfin _ _ _ _ hm4 hop⟩
   ·have hop:c4F u (b0j l i).text A B=(!b4W u A tI || !b4W u B tI):=by rw[c4F,if_neg t1,if_neg t2]
    rw[not_or]at t2
    simp -implicitDefEqProofs only[go_sem,b0d,b0b,b0c,b0a,g8V,g8W,g8X,t1,t2.1,t2.2]
    refine b4T hT.toCkW ub pre A tI kn2 sg2 ab2 _ _ _ hm2 ?_
    intro kn3 sg3 ab3 hm3
    simp -implicitDefEqProofs only[go_sem,ck4,b0d,b0b,b0c,b0a,g8V,g8W,g8X]
    cases hfa:b4W u A tI with
    | false =>
     rw[hfa]at hop
     simp -implicitDefEqProofs only[go_sem]
     exact⟨kn3,sg3,ab3,_,[],rfl,by simp,hfin _ _ _ _ hm3 hop⟩
    | true =>
     rw[hfa,Bool.not_true,g9U]at hop
     simp -implicitDefEqProofs only[go_sem]
     refine b4T hT.toCkW ub pre B tI kn3 sg3 ab3 _ _ _ hm3 ?_
     intro kn4 sg4 ab4 hm4
     simp -implicitDefEqProofs only[go_sem,ck4,b0d,b0b,b0c,b0a,g8V,g8W,g8X]
     exact⟨kn4,sg4,ab4,_,[],rfl,by simp,hfin _ _ _ _ hm4 hop⟩
 ·refine hO0 kn sg ab _ _ _ hm ?_
  intro kn1 sg1 ab1 hm1
  simp -implicitDefEqProofs only[go_sem,ck4,b0d,b0b,b0c,b0a,g8V,g8W,g8X]
  refine b4P hJ1 (by simp -implicitDefEqProofs only[go_sem];rfl) ?_
  simp -implicitDefEqProofs only[go_sem,b0d,b0b,b0c,b0a,g8V,g8W,g8X]
  refine hO1 kn1 sg1 ab1 _ _ _ hm1 ?_
  intro kn2 sg2 ab2 hm2
  simp -implicitDefEqProofs only[go_sem,ck4,b0d,b0b,b0c,b0a,g8V,g8W,g8X]
  generalize tyS u ((un:Int),((b1d l i 0:Nat):Int))=A at hK ⊢
  generalize tyS u ((un:Int),((b1d l i 1:Nat):Int))=B at hK ⊢
  have hfin:∀ (q:Bool) kn' sg' ab',Mems u kn' sg' ab'→c4F u (b0j l i).text A B=q→K (.bool q) (pre++ck4 (b2q u) kn' sg' ab' z) a:=fun q kn' sg' ab' hm' h=>h ▸ hK kn' sg' ab' hm'
  refine b0E.callsS (b5o u (b0e u) ub pre.length hl hi) (by simp -implicitDefEqProofs only[go_sem]) ?_
  by_cases t1:(b0j l i).text=⟨#[61,61]⟩
  ·have hop:c4F u (b0j l i).text A B=(!plT A || (!plT B || (!decide (A=⟨#[]⟩) && (!decide (B=⟨#[]⟩) && !decide (A=B))))):=by rw[c4F,if_pos t1]
   simp -implicitDefEqProofs only[go_sem,b0d,b0b,b0c,b0a,g8V,g8W,g8X,t1]
   refine(c6D A).calls (by simp -implicitDefEqProofs only[go_sem]) ?_
   simp -implicitDefEqProofs only[go_sem,b0d,b0b,b0c,b0a,g8V,g8W,g8X]
   cases hpa:plT A with
   | false =>
    rw[hpa]at hop
    simp -implicitDefEqProofs only[go_sem]
    exact⟨kn2,sg2,ab2,_,[],rfl,by simp,hfin _ _ _ _ hm2 hop⟩
   | true =>
    rw[hpa,Bool.not_true,g9U]at hop
    simp -implicitDefEqProofs only[go_sem]
    refine(c6D B).calls (by simp -implicitDefEqProofs only[go_sem]) ?_
    simp -implicitDefEqProofs only[go_sem,b0d,b0b,b0c,b0a,g8V,g8W,g8X]
    cases hpb:plT B with
    | false =>
     rw[hpb]at hop
     simp -implicitDefEqProofs only[go_sem]
     exact⟨kn2,sg2,ab2,_,[],rfl,by simp,hfin _ _ _ _ hm2 hop⟩
    | true =>
     rw[hpb,Bool.not_true,g9U]at hop
     simp -implicitDefEqProofs only[go_sem]
     refine⟨fun ha=>⟨fun hb=>?_,fun hb=>?_⟩,fun ha=>?_⟩
     ·rw[ha,hb,g9O,g9O]at hop
      exact⟨kn2,sg2,ab2,_,[],rfl,by simp,hfin _ _ _ _ hm2 hop⟩
     ·rw[hb,g9Q,Bool.and_false]at hop
      exact⟨kn2,sg2,ab2,_,[],rfl,by simp,hfin _ _ _ _ hm2 hop⟩
     ·rw[ha,g9Q]at hop
      exact⟨kn2,sg2,ab2,_,[],rfl,by simp,hfin _ _ _ _ hm2 hop⟩
  ·by_cases t2:(b0j l i).text=⟨#[38]⟩∨(b0j l i).text=⟨#[124]⟩
   ·have hop:c4F u (b0j l i).text A B=(!b4W u A tB || !b4W u B tB):=by rw[c4F,if_neg t1,if_pos t2]
    rcases t2 with t2 | t2
    rotate_left
    have hn38:¬ (b0j l i).text=⟨#[38]⟩:=by rw[t2];decide
    rotate_left
    ·simp -implicitDefEqProofs only[go_sem,b0d,b0b,b0c,b0a,g8V,g8W,g8X,t1,eq_true t2]
     refine b4T hT.toCkW ub pre A tB kn2 sg2 ab2 _ _ _ hm2 ?_
     intro kn3 sg3 ab3 hm3
     simp -implicitDefEqProofs only[go_sem,ck4,b0d,b0b,b0c,b0a,g8V,g8W,g8X]
     cases hfa:b4W u A tB with
     | false =>
      rw[hfa]at hop
      simp -implicitDefEqProofs only[go_sem]
      exact⟨kn3,sg3,ab3,_,[],rfl,by simp,hfin _ _ _ _ hm3 hop⟩
     | true =>
      rw[hfa,Bool.not_true,g9U]at hop
      simp -implicitDefEqProofs only[go_sem]
      refine b4T hT.toCkW ub pre B tB kn3 sg3 ab3 _ _ _ hm3 ?_
      intro kn4 sg4 ab4 hm4
      simp -implicitDefEqProofs only[go_sem,ck4,b0d,b0b,b0c,b0a,g8V,g8W,g8X]
      exact⟨kn4,sg4,ab4,_,[],rfl,by simp,hfin _ _ _ _ hm4 hop⟩
    ·simp -implicitDefEqProofs only[go_sem,b0d,b0b,b0c,b0a,g8V,g8W,g8X,t1,hn38,eq_true t2]
     refine b4T hT.toCkW ub pre A tB kn2 sg2 ab2 _ _ _ hm2 ?_
     intro kn3 sg3 ab3 hm3
     simp -implicitDefEqProofs only[go_sem,ck4,b0d,b0b,b0c,b0a,g8V,g8W,g8X]
     cases hfa:b4W u A tB with
     | false =>
      rw[hfa]at hop
      simp -implicitDefEqProofs only[go_sem]
      exact⟨kn3,sg3,ab3,_,[],rfl,by simp,hfin _ _ _ _ hm3 hop⟩
     | true =>
      rw[hfa,Bool.not_true,g9U]at hop
      simp -implicitDefEqProofs only[go_sem]
      refine b4T hT.toCkW ub pre B tB kn3 sg3 ab3 _ _ _ hm3 ?_
      intro kn4 sg4 ab4 hm4
      simp -implicitDefEqProofs only[go_sem,ck4,b0d,b0b,b0c,b0a,g8V,g8W,g8X]
      exact⟨kn4,sg4,ab4,_,[],rfl,by simp,hfin _ _ _ _ hm4 hop⟩
   ·have hop:c4F u (b0j l i).text A B=(!b4W u A tI || !b4W u B tI):=by rw[c4F,if_neg t1,if_neg t2]
    rw[not_or]at t2
    simp -implicitDefEqProofs only[go_sem,b0d,b0b,b0c,b0a,g8V,g8W,g8X,t1,t2.1,t2.2]
    refine b4T hT.toCkW ub pre A tI kn2 sg2 ab2 _ _ _ hm2 ?_
    intro kn3 sg3 ab3 hm3
    simp -implicitDefEqProofs only[go_sem,ck4,b0d,b0b,b0c,b0a,g8V,g8W,g8X]
    cases hfa:b4W u A tI with
    | false =>
     rw[hfa]at hop
     simp -implicitDefEqProofs only[go_sem]
     exact⟨kn3,sg3,ab3,_,[],rfl,by simp,hfin _ _ _ _ hm3 hop⟩
    | true =>
     rw[hfa,Bool.not_true,g9U]at hop
     simp -implicitDefEqProofs only[go_sem]
     refine b4T hT.toCkW ub pre B tI kn3 sg3 ab3 _ _ _ hm3 ?_
     intro kn4 sg4 ab4 hm4
     simp -implicitDefEqProofs only[go_sem,ck4,b0d,b0b,b0c,b0a,g8V,g8W,g8X]
     exact⟨kn4,sg4,ab4,_,[],rfl,by simp,hfin _ _ _ _ hm4 hop⟩
def wrS(u:List Un)(un:Nat)(l:List Rw)(i:Nat):Bool :=
 let k0:=tyS u ((un:Int),((b1d l i 0:Nat):Int))
 if(b0j l i).kind=2 then d6S u l i
 else if(b0j l i).kind=11 then(match b1s (b2q u) ((un:Int),(i:Int))with
  | some d=>if(rwK (b0e u) d).kind=9 then false else !decide (c9r (b0e u) (tyS u) d=⟨#[]⟩) && !b4W u k0 (c9r (b0e u) (tyS u) d)
  | none=>false)
 else if(b0j l i).kind=12 then(match b8I l i with
  | some f => !b4W u k0 (b2O l f).result
  | none=>false)
 else if(b0j l i).kind=13∨(b0j l i).kind=15 then !b4W u k0 tB
 else if(b0j l i).kind=20 then(match b1s (b2q u) ((un:Int),(i:Int))with
  | some d=>f1F u un l i 0 (b2O ((b0e u).getD d.1.toNat []) d.2.toNat).params
  | none=>false)
 else if(b0j l i).kind=21 then(if k0=⟨#[]⟩then false else match mtS u (rcT k0,(b0j l i).text)with
  | some m=>f1F u un l i 1 m.params
  | none=>true)
 else if(b0j l i).kind=24 then f3j u un l i
 else if(b0j l i).kind=25 then !b4W u k0 (if(b0j l i).text=⟨#[33]⟩then tB else tI)
 else false
def d3U:Wk := .one 0 (.one 1 (.one 2 (.one 3 (.one 4 (.one 5 (.one 6 (.one 8 (.br 7 (.one 9 (.one 10 (.one 11 (.one 12 (.one 13 (.one 14 (.one 15 (.stop)))))))) (.br 9 (.one 7 (.one 10 (.one 11 (.one 12 (.one 13 (.one 14 (.one 15 (.stop)))))))) (.stop))))))))))
def d5D:Wk := .one 0 (.one 1 (.one 2 (.one 3 (.one 4 (.one 5 (.one 6 (.one 7 (.one 8 (.one 9 (.stop))))))))))
theorem f3O{u:List Un}(hT:CkT u)(ub:List Us)(pre:List VObj){un i:Nat}{l:List Rw}(hl:(b0e u)[un]? = some l)(hi:i<l.length) :
  b5C u ub pre 94 [.agg [.int .i64 un,.int .i64 i]] (.bool (wrS u un l i)):=by
 intro kn sg ab z a K hm hK
 simp only[wrS]at hK
 have hvk:Val (b0e u) ((un:Int),(i:Int)):=⟨un,i,l,rfl,hl,hi⟩
 have hd19:=hT.d19 ((un:Int),(i:Int))
 have hd20:=hT.d20 ((un:Int),(i:Int))
 rw[b0T hl]at hd19 hd20
 have hg:=hT.gram l (g9f hl)
 have hle:=hg.least i hi
 have hkd:=hg.kid i hi
 have hJ0:=fun h=>d3g u (b0e u) ub pre.length (k:=0) hl hi h
 have hO0:0<(b0j l i).kids.length→d7X u ub pre ((un:Int),((b1d l i 0:Nat):Int)):=fun h=>Tof hT ub pre ⟨un,_,l,rfl,hl,(hkd 0 h).2.1⟩
 refine b0r.tidyCk ?_
 refine b0A (fn:=Tryz.f94) Tryz.func94 rfl (by rw[Tryz.ntmps94];simp) ?_
 by_cases h2:(b0j l i).kind=2
 ·rw[if_pos h2]at hK
  simp -implicitDefEqProofs only[go_sem,Tryz.f94,ck4,b0d,b0b,b0c,b0a,g8V,g8W,g8X]
  refine b0E.callsS (b5o u (b0e u) ub pre.length hl hi) (by simp -implicitDefEqProofs only[go_sem]) ?_
  simp -implicitDefEqProofs only[go_sem,b0d,b0b,b0c,b0a,g8V,g8W,g8X,h2]
  refine c8p hT ub pre hl hi h2 kn sg ab _ _ _ hm ?_
  intro kn1 sg1 ab1 hm1
  simp -implicitDefEqProofs only[go_sem,ck4,b0d,b0b,b0c,b0a,g8V,g8W,g8X]
  exact⟨kn1,sg1,ab1,_,[],rfl,by simp,hK _ _ _ hm1⟩
 rw[if_neg h2]at hK
 by_cases h11:(b0j l i).kind=11
 ·rw[if_pos h11]at hK
  have hk1:0<(b0j l i).kids.length:=by rw[h11]at hle;simp[b0U]at hle;omega
  simp -implicitDefEqProofs only[go_sem,Tryz.f94,ck4,b0d,b0b,b0c,b0a,g8V,g8W,g8X]
  refine b0E.callsS (b5o u (b0e u) ub pre.length hl hi) (by simp -implicitDefEqProofs only[go_sem]) ?_
  simp -implicitDefEqProofs only[go_sem,b0d,b0b,b0c,b0a,g8V,g8W,g8X,h11]
  refine b0h (cs:=[]) b0v (by kernel_rfl) ?_
  cases hd:b1s (b2q u) ((un:Int),(i:Int))with
  | none =>
   rw[hd]at hK
   simp -implicitDefEqProofs only[go_sem,b0d,b0b,b0c,b0a,g8V,g8W,g8X,b1M,b6p,hd,h0m,h0a,g9u]
   exact⟨kn,sg,ab,_,[],rfl,by simp,hK _ _ _ hm⟩
  | some d =>
   obtain⟨hdv,hdk⟩:=hd19 d hvk (.inr h11) hd
   rw[hd]at hK
   simp -implicitDefEqProofs only[go_sem,b0d,b0b,b0c,b0a,g8V,g8W,g8X,b1M,b6p,hd,g9z,g9w,g9H,b6C]
   obtain⟨un',i',l',rfl,hl',hi'⟩:=id hdv
   simp only at hK
   rw[b0T hl']at hdk hK
   refine b0E.callsS (b5o u (b0e u) ub pre.length hl' hi') (by simp -implicitDefEqProofs only[go_sem]) ?_
   by_cases h9:(b0j l' i').kind=9
   ·simp only[h9,if_true]at hK
    simp -implicitDefEqProofs only[go_sem,b0d,b0b,b0c,b0a,g8V,g8W,g8X,h9]
    exact⟨kn,sg,ab,_,[],rfl,by simp,hK _ _ _ hm⟩
   ·simp only[if_neg h9]at hK
    simp -implicitDefEqProofs only[go_sem,b0d,b0b,b0c,b0a,g8V,g8W,g8X,h9]
    refine c3d hT ub pre hdv (by rw[b0T hl'];exact hdk) (fun h10=>?_) kn sg ab _ _ _ hm ?_
    ·rw[b3y hl']
     have hg':=hT.gram l' (g9f hl')
     have hle':=hg'.least i' hi'
     rw[b0T hl']at h10
     exact Tof hT ub pre ⟨un',_,l',rfl,hl',(hg'.kid i' hi' 0 (by rw[h10]at hle';simp[b0U]at hle';omega)).2.1⟩
    intro kn1 sg1 ab1 hm1
    generalize c9r (b0e u) (tyS u) ((un':Int),(i':Int))=wt at hK ⊢
    simp -implicitDefEqProofs only[go_sem,ck4,b0d,b0b,b0c,b0a,g8V,g8W,g8X]
    refine⟨fun hne=>?_,fun hne=>?_⟩
    ·rw[hne,g9O]at hK
     refine b0E.callsS (hJ0 hk1) (by simp -implicitDefEqProofs only[go_sem];rfl) ?_
     simp -implicitDefEqProofs only[go_sem,b0d,b0b,b0c,b0a,g8V,g8W,g8X]
     refine hO0 hk1 kn1 sg1 ab1 _ _ _ hm1 ?_
     intro kn2 sg2 ab2 hm2
     simp -implicitDefEqProofs only[go_sem,ck4,b0d,b0b,b0c,b0a,g8V,g8W,g8X]
     refine b4T hT.toCkW ub pre _ wt kn2 sg2 ab2 _ _ _ hm2 ?_
     intro kn3 sg3 ab3 hm3
     simp -implicitDefEqProofs only[go_sem,ck4,b0d,b0b,b0c,b0a,g8V,g8W,g8X]
     exact⟨kn3,sg3,ab3,_,[],rfl,by simp,hK _ _ _ hm3⟩
    ·rw[hne,g9Q]at hK
     exact⟨kn1,sg1,ab1,_,[],rfl,by simp,hK _ _ _ hm1⟩
 rw[if_neg h11]at hK
 by_cases h12:(b0j l i).kind=12
 ·rw[if_pos h12]at hK
  have hk1:0<(b0j l i).kids.length:=by rw[h12]at hle;simp[b0U]at hle;omega
  simp -implicitDefEqProofs only[go_sem,Tryz.f94,ck4,b0d,b0b,b0c,b0a,g8V,g8W,g8X]
  refine b0E.callsS (b5o u (b0e u) ub pre.length hl hi) (by simp -implicitDefEqProofs only[go_sem]) ?_
  simp -implicitDefEqProofs only[go_sem,b0d,b0b,b0c,b0a,g8V,g8W,g8X,h12]
  have hJ:=c0l u (b0e u) ub pre.length hl hi hg.ok
  cases hfr:b8I l i with
  | none =>
   rw[hfr]at hJ hK
   refine b0E.callsS hJ (by simp -implicitDefEqProofs only[go_sem]) ?_
   simp -implicitDefEqProofs only[go_sem,b0d,b0b,b0c,b0a,g8V,g8W,g8X,g9u]
   refine b1g (cs:=[7,12]) d3U b0v (by kernel_rfl) ?_
   simp -implicitDefEqProofs only[go_sem,b0d,b0b,b0c,b0a,g8V,g8W,g8X,d3U]
   exact⟨kn,sg,ab,_,[],rfl,by simp,hK _ _ _ hm⟩
  | some p =>
   obtain⟨hp1,hp2,hp3⟩:=b5s hg hi hfr
   rw[hfr]at hJ hK
   refine b0E.callsS hJ (by simp -implicitDefEqProofs only[go_sem]) ?_
   simp -implicitDefEqProofs only[go_sem,b0d,b0b,b0c,b0a,g8V,g8W,g8X,g9H,g9w]
   refine b1g (cs:=[7,12]) d3U b0v (by kernel_rfl) ?_
   simp -implicitDefEqProofs only[go_sem,b0d,b0b,b0c,b0a,g8V,g8W,g8X,d3U]
   refine b4P (hJ0 hk1) (by simp -implicitDefEqProofs only[go_sem];rfl) ?_
   simp -implicitDefEqProofs only[go_sem,b0d,b0b,b0c,b0a,g8V,g8W,g8X]
   repeat' apply And.intro
   all_goals(
    refine hO0 hk1 kn sg ab _ _ _ hm ?_
    intro kn1 sg1 ab1 hm1
    simp -implicitDefEqProofs only[go_sem,ck4,b0d,b0b,b0c,b0a,g8V,g8W,g8X])
   all_goals(repeat' apply And.intro)
   all_goals(
    refine b4P (d0l u (b0e u) ub pre.length hl (hg.sign p hp1 hp2)) (by simp -implicitDefEqProofs only[go_sem]) ?_
    simp -implicitDefEqProofs only[go_sem,ck4,b0d,b0b,b0c,b0a,g8V,g8W,g8X,Sg.enc]
    refine b4T hT.toCkW ub pre _ (b2O l p).result kn1 sg1 ab1 _ _ _ hm1 ?_
    intro kn2 sg2 ab2 hm2
    simp -implicitDefEqProofs only[go_sem,ck4,b0d,b0b,b0c,b0a,g8V,g8W,g8X]
    exact⟨kn2,sg2,ab2,_,[],rfl,by simp,hK _ _ _ hm2⟩)
 rw[if_neg h12]at hK
 by_cases h13:(b0j l i).kind=13∨(b0j l i).kind=15
 ·rw[if_pos h13]at hK
  have hk1:0<(b0j l i).kids.length:=by rcases h13 with h13 | h13 <;> (rw[h13]at hle;simp[b0U]at hle;omega)
  rcases h13 with h13 | h13
  ·simp -implicitDefEqProofs only[go_sem,Tryz.f94,ck4,b0d,b0b,b0c,b0a,g8V,g8W,g8X]
   refine b0E.callsS (b5o u (b0e u) ub pre.length hl hi) (by simp -implicitDefEqProofs only[go_sem]) ?_
   simp -implicitDefEqProofs only[go_sem,b0d,b0b,b0c,b0a,g8V,g8W,g8X,h13]
   refine b0E.callsS (hJ0 hk1) (by simp -implicitDefEqProofs only[go_sem];rfl) ?_
   simp -implicitDefEqProofs only[go_sem,b0d,b0b,b0c,b0a,g8V,g8W,g8X]
   refine hO0 hk1 kn sg ab _ _ _ hm ?_
   intro kn1 sg1 ab1 hm1
   simp -implicitDefEqProofs only[go_sem,ck4,b0d,b0b,b0c,b0a,g8V,g8W,g8X]
   refine b4T hT.toCkW ub pre _ tB kn1 sg1 ab1 _ _ _ hm1 ?_
   intro kn2 sg2 ab2 hm2
   simp -implicitDefEqProofs only[go_sem,ck4,b0d,b0b,b0c,b0a,g8V,g8W,g8X]
   exact⟨kn2,sg2,ab2,_,[],rfl,by simp,hK _ _ _ hm2⟩
  ·simp -implicitDefEqProofs only[go_sem,Tryz.f94,ck4,b0d,b0b,b0c,b0a,g8V,g8W,g8X]
   refine b0E.callsS (b5o u (b0e u) ub pre.length hl hi) (by simp -implicitDefEqProofs only[go_sem]) ?_
   simp -implicitDefEqProofs only[go_sem,b0d,b0b,b0c,b0a,g8V,g8W,g8X,h13]
   refine b0E.callsS (hJ0 hk1) (by simp -implicitDefEqProofs only[go_sem];rfl) ?_
   simp -implicitDefEqProofs only[go_sem,b0d,b0b,b0c,b0a,g8V,g8W,g8X]
   refine hO0 hk1 kn sg ab _ _ _ hm ?_
   intro kn1 sg1 ab1 hm1
   simp -implicitDefEqProofs only[go_sem,ck4,b0d,b0b,b0c,b0a,g8V,g8W,g8X]
   refine b4T hT.toCkW ub pre _ tB kn1 sg1 ab1 _ _ _ hm1 ?_
   intro kn2 sg2 ab2 hm2
   simp -implicitDefEqProofs only[go_sem,ck4,b0d,b0b,b0c,b0a,g8V,g8W,g8X]
   exact⟨kn2,sg2,ab2,_,[],rfl,by simp,hK _ _ _ hm2⟩
 rw[if_neg h13]at hK
 rw[not_or]at h13
 by_cases h20:(b0j l i).kind=20
 ·rw[if_pos h20]at hK
  simp -implicitDefEqProofs only[go_sem,Tryz.f94,ck4,b0d,b0b,b0c,b0a,g8V,g8W,g8X]
  refine b0E.callsS (b5o u (b0e u) ub pre.length hl hi) (by simp -implicitDefEqProofs only[go_sem]) ?_
  simp -implicitDefEqProofs only[go_sem,b0d,b0b,b0c,b0a,g8V,g8W,g8X,h20]
  refine b0h (cs:=[]) b0v (by kernel_rfl) ?_
  cases hd:b1s (b2q u) ((un:Int),(i:Int))with
  | none =>
   rw[hd]at hK
   simp -implicitDefEqProofs only[go_sem,b0d,b0b,b0c,b0a,g8V,g8W,g8X,b1M,b6p,hd,h0m,h0a,g9u]
   refine b1g (cs:=[7]) d5D b0v (by kernel_rfl) ?_
   simp -implicitDefEqProofs only[go_sem,b0d,b0b,b0c,b0a,g8V,g8W,g8X,d5D]
   exact⟨kn,sg,ab,_,[],rfl,by simp,hK _ _ _ hm⟩
  | some d =>
   obtain⟨⟨un',i',l',rfl,hl',hi'⟩,hdk⟩:=hd20 d hvk h20 hd
   rw[b0T hl']at hdk
   have hso:=(hT.gram l' (g9f hl')).sign i' hi' hdk
   rw[hd]at hK
   simp only[b5v hl',g9j]at hK
   simp -implicitDefEqProofs only[go_sem,b0d,b0b,b0c,b0a,g8V,g8W,g8X,b1M,b6p,hd,g9z,g9w,g9H,b6C]
   have hlx:(b0e u).getD un' []=l':=by rw[g8Z,hl'];rfl
   rw[hlx]at hK
   refine b1g (cs:=[7]) d5D b0v (by kernel_rfl) ?_
   simp -implicitDefEqProofs only[go_sem,b0d,b0b,b0c,b0a,g8V,g8W,g8X,d5D]
   refine b4P (d0l u (b0e u) ub pre.length hl' hso) (by simp -implicitDefEqProofs only[go_sem]) ?_
   simp -implicitDefEqProofs only[go_sem,b0d,b0b,b0c,b0a,g8V,g8W,g8X]
   refine c0Z hT ub pre hl hi 0 (by omega) (b2O l' i') kn sg ab _ _ _ hm ?_
   intro kn1 sg1 ab1 hm1
   simp -implicitDefEqProofs only[go_sem,ck4,b0d,b0b,b0c,b0a,g8V,g8W,g8X]
   exact⟨kn1,sg1,ab1,_,[],rfl,by simp,hK _ _ _ hm1⟩
 rw[if_neg h20]at hK
 by_cases h21:(b0j l i).kind=21
 ·rw[if_pos h21]at hK
  have hk1:0<(b0j l i).kids.length:=by rw[h21]at hle;simp[b0U]at hle;omega
  simp -implicitDefEqProofs only[go_sem,Tryz.f94,ck4,b0d,b0b,b0c,b0a,g8V,g8W,g8X]
  refine b0E.callsS (b5o u (b0e u) ub pre.length hl hi) (by simp -implicitDefEqProofs only[go_sem]) ?_
  simp -implicitDefEqProofs only[go_sem,b0d,b0b,b0c,b0a,g8V,g8W,g8X,h21]
  refine b0E.callsS (hJ0 hk1) (by simp -implicitDefEqProofs only[go_sem];rfl) ?_
  simp -implicitDefEqProofs only[go_sem,b0d,b0b,b0c,b0a,g8V,g8W,g8X]
  refine hO0 hk1 kn sg ab _ _ _ hm ?_
  intro kn1 sg1 ab1 hm1
  have hRc:=c3H ub pre hl hi hk1 (hO0 hk1)
  generalize hA:tyS u ((un:Int),((b1d l i 0:Nat):Int))=A at hK hRc ⊢
  simp -implicitDefEqProofs only[go_sem,ck4,b0d,b0b,b0c,b0a,g8V,g8W,g8X]
  refine⟨fun h0=>?_,fun h0=>?_⟩
  ·rw[if_pos h0]at hK
   exact⟨kn1,sg1,ab1,_,[],rfl,by simp,hK _ _ _ hm1⟩
  ·rw[if_neg h0]at hK
   cases hms:mtS u (rcT A,(b0j l i).text)with
   | none =>
    rw[hms]at hK
    refine b1g (cs:=[3,6]) b8e b0v (by kernel_rfl) ?_
    simp -implicitDefEqProofs only[go_sem,b0d,b0b,b0c,b0a,g8V,g8W,g8X,b8e]
    repeat' apply And.intro
    all_goals(
     refine hRc kn1 sg1 ab1 _ _ _ hm1 ?_
     intro kn2 sg2 ab2 hm2
     simp -implicitDefEqProofs only[go_sem,ck4,b0d,b0b,b0c,b0a,g8V,g8W,g8X])
    all_goals(repeat' apply And.intro)
    all_goals(
     refine b7H u hT.toCkW ub pre (b2q u) kn2 sg2 ab2 _ _ _ _ hm2.sg ?_
     intro sg3 hsg3
     rw[hms]
     simp -implicitDefEqProofs only[go_sem,ck4,b0d,b0b,b0c,b0a,g8V,g8W,g8X,b6j,Sg.enc])
    all_goals exact⟨kn2,sg3,ab2,_,[],rfl,by simp,hK _ _ _ ⟨hm2.kn,hsg3,hm2.ab⟩⟩
   | some s =>
    rw[hms]at hK
    refine b1g (cs:=[3,6]) b8e b0v (by kernel_rfl) ?_
    simp -implicitDefEqProofs only[go_sem,b0d,b0b,b0c,b0a,g8V,g8W,g8X,b8e]
    repeat' apply And.intro
    all_goals(
     refine hRc kn1 sg1 ab1 _ _ _ hm1 ?_
     intro kn2 sg2 ab2 hm2
     simp -implicitDefEqProofs only[go_sem,ck4,b0d,b0b,b0c,b0a,g8V,g8W,g8X])
    all_goals(repeat' apply And.intro)
    all_goals(
     refine b7H u hT.toCkW ub pre (b2q u) kn2 sg2 ab2 _ _ _ _ hm2.sg ?_
     intro sg3 hsg3
     rw[hms]
     simp -implicitDefEqProofs only[go_sem,ck4,b0d,b0b,b0c,b0a,g8V,g8W,g8X,b6j,Sg.enc])
    all_goals(
     refine c0Z hT ub pre hl hi 1 (by omega) s kn2 sg3 ab2 _ _ _ ⟨hm2.kn,hsg3,hm2.ab⟩ ?_
     intro kn4 sg4 ab4 hm4
     simp -implicitDefEqProofs only[go_sem,ck4,b0d,b0b,b0c,b0a,g8V,g8W,g8X]
     exact⟨kn4,sg4,ab4,_,[],rfl,by simp,hK _ _ _ hm4⟩)
 rw[if_neg h21]at hK
 by_cases h24:(b0j l i).kind=24
 ·rw[if_pos h24]at hK
  simp -implicitDefEqProofs only[go_sem,Tryz.f94,ck4,b0d,b0b,b0c,b0a,g8V,g8W,g8X]
  refine b0E.callsS (b5o u (b0e u) ub pre.length hl hi) (by simp -implicitDefEqProofs only[go_sem]) ?_
  simp -implicitDefEqProofs only[go_sem,b0d,b0b,b0c,b0a,g8V,g8W,g8X,h24]
  refine d1d hT ub pre hl hi h24 kn sg ab _ _ _ hm ?_
  intro kn1 sg1 ab1 hm1
  simp -implicitDefEqProofs only[go_sem,ck4,b0d,b0b,b0c,b0a,g8V,g8W,g8X]
  exact⟨kn1,sg1,ab1,_,[],rfl,by simp,hK _ _ _ hm1⟩
 rw[if_neg h24]at hK
 by_cases h25:(b0j l i).kind=25
 ·rw[if_pos h25]at hK
  have hk1:0<(b0j l i).kids.length:=by rw[h25]at hle;simp[b0U]at hle;omega
  simp -implicitDefEqProofs only[go_sem,Tryz.f94,ck4,b0d,b0b,b0c,b0a,g8V,g8W,g8X]
  refine b0E.callsS (b5o u (b0e u) ub pre.length hl hi) (by simp -implicitDefEqProofs only[go_sem]) ?_
  simp -implicitDefEqProofs only[go_sem,b0d,b0b,b0c,b0a,g8V,g8W,g8X,h25]
  refine⟨fun ht=>?_,fun ht=>?_⟩
  ·rw[if_pos ht]at hK
   refine b0E.callsS (hJ0 hk1) (by simp -implicitDefEqProofs only[go_sem];rfl) ?_
   simp -implicitDefEqProofs only[go_sem,b0d,b0b,b0c,b0a,g8V,g8W,g8X]
   refine hO0 hk1 kn sg ab _ _ _ hm ?_
   intro kn1 sg1 ab1 hm1
   simp -implicitDefEqProofs only[go_sem,ck4,b0d,b0b,b0c,b0a,g8V,g8W,g8X]
   refine b4T hT.toCkW ub pre _ tB kn1 sg1 ab1 _ _ _ hm1 ?_
   intro kn2 sg2 ab2 hm2
   simp -implicitDefEqProofs only[go_sem,ck4,b0d,b0b,b0c,b0a,g8V,g8W,g8X]
   exact⟨kn2,sg2,ab2,_,[],rfl,by simp,hK _ _ _ hm2⟩
  ·rw[if_neg ht]at hK
   refine b0E.callsS (hJ0 hk1) (by simp -implicitDefEqProofs only[go_sem];rfl) ?_
   simp -implicitDefEqProofs only[go_sem,b0d,b0b,b0c,b0a,g8V,g8W,g8X]
   refine hO0 hk1 kn sg ab _ _ _ hm ?_
   intro kn1 sg1 ab1 hm1
   simp -implicitDefEqProofs only[go_sem,ck4,b0d,b0b,b0c,b0a,g8V,g8W,g8X]
   refine b4T hT.toCkW ub pre _ tI kn1 sg1 ab1 _ _ _ hm1 ?_
   intro kn2 sg2 ab2 hm2
   simp -implicitDefEqProofs only[go_sem,ck4,b0d,b0b,b0c,b0a,g8V,g8W,g8X]
   exact⟨kn2,sg2,ab2,_,[],rfl,by simp,hK _ _ _ hm2⟩
 rw[if_neg h25]at hK
 simp -implicitDefEqProofs only[go_sem,Tryz.f94,ck4,b0d,b0b,b0c,b0a,g8V,g8W,g8X]
 refine b0E.callsS (b5o u (b0e u) ub pre.length hl hi) (by simp -implicitDefEqProofs only[go_sem]) ?_
 simp -implicitDefEqProofs only[go_sem,b0d,b0b,b0c,b0a,g8V,g8W,g8X,h2,h11,h12,h13.1,h13.2,h20,h21,h24,h25]
 exact⟨kn,sg,ab,_,[],rfl,by simp,hK _ _ _ hm⟩
end Go.Proofs.YtighfcpaplmaiaaGreatDoor
