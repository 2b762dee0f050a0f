import Derived.Test.YtighfcpaplmaiaaGreatDoorUgN
import Derived.Test.YtighfcpaplmaiaaGreatDoorUgB
set_option linter.unusedVariables false
set_option linter.unusedSimpArgs false
set_option maxRecDepth 20000
namespace Go.Proofs.YtighfcpaplmaiaaGreatDoor
open Go Go.Vg Go.Proofs
def tgF(u:List Un)(t:ByteArray)(o:List ByteArray)(x:ByteArray):List ByteArray:=match b1D u x t with
 | some d=>c7a o (b2y d)
 | none=>o
def tgQ(u:List Un)(t:ByteArray)(q:List ByteArray):List ByteArray:=q.foldl (tgF u t) []
def tgR(u:List Un)(un:Nat)(l:List Rw)(i:Nat):List ByteArray:=if(b0j l i).kind=20 then [(b0j l i).text]else if(b0j l i).kind=21 then tgQ u (b0j l i).text (c7a (b8S u (tyS u ((un:Int),((b1d l i 0:Nat):Int)))) (tyS u ((un:Int),((b1d l i 0:Nat):Int))))else []
theorem d7W(u:List Un)(t:ByteArray)(o:List ByteArray)(x:ByteArray):(tgF u t o x).length≤o.length+1:=by
 unfold tgF
 split
 ·exact c1Q _ _
 ·omega
theorem d0D(u:List Un)(t:ByteArray):∀ (q o:List ByteArray),(q.foldl (tgF u t) o).length≤o.length+q.length
 | [],o=>by simp
 | x::q,o=>by
  have h1:=d0D u t q (tgF u t o x)
  have h2:=d7W u t o x
  rw[g9G,g9k];omega
theorem c3t(u:List Un)(t:ByteArray):∀ (q o:List ByteArray),Asc o→Asc (q.foldl (tgF u t) o)∧∀ y,y∈q.foldl (tgF u t) o↔y∈o∨∃ x∈q,∃ d,b1D u x t=some d∧b2y d=y
 | [],o,h=>⟨h,by simp⟩
 | x::q,o,h=>by
  have hx:Asc (tgF u t o x)∧∀ y,y∈tgF u t o x↔y∈o∨∃ d,b1D u x t=some d∧b2y d=y:=by
   unfold tgF
   cases hd:b1D u x t with
   | none=>exact⟨h,by simp⟩
   | some d=>exact⟨c6X _ _,fun y=>by simp only[c2l];simp[eq_comm]⟩
  obtain⟨h1,h2⟩:=c3t u t q _ hx.1
  refine⟨h1,fun y=>?_⟩
  rw[g9G,h2 y,hx.2]
  simp[or_assoc]
theorem f3k{u:List Un}(hu:b2T u)(h0:(b5g u).1=0){un i:Nat}{l:List Rw}(hl:(b0e u)[un]? = some l)(hi:i<l.length):tgR u un l i=c0Y u un i:=by
 have hg:=(b4X hu h0).gram l (g9f hl)
 rw[d2t hu h0 hl hi,c1n,tgR]
 by_cases h20:(b0j l i).kind=20
 ·rw[if_pos h20,if_pos h20]
 rw[if_neg h20,if_neg h20]
 by_cases h21:(b0j l i).kind=21
 ·rw[if_pos h21,if_pos h21]
  obtain⟨g1,g2,g3,_⟩:=c8s hu h0 hl hi h21
  have hk0:b1d l i 0=i+1:=by
   obtain⟨x,hx,rfl⟩:=b2R (b4X hu h0).br hl
   exact g6K hi g1
  rw[show((i:Int)+1)=((b1d l i 0:Nat):Int)by omega,g3]
  simp only[if_true]
  generalize tyS u ((un:Int),((b1d l i 0:Nat):Int))=c
  obtain⟨f1,f2⟩:=c3t u (b0j l i).text (c7a (b8S u c) c) [] .nil
  refine c3n f1 (b7M (b7G _ [] (by simp)).1) fun y=>?_
  rw[tgQ,f2 y,(b2H _).mem_iff,c1U,(b7G _ [] (by simp)).2,c5R]
  simp only[List.not_mem_nil,false_or,c2l,g9y]
  constructor
  ·rintro⟨x,hx,d,h⟩;exact⟨x,hx.symm,d,h⟩
  ·rintro⟨x,hx,d,h⟩;exact⟨x,hx.symm,d,h⟩
 ·rw[if_neg h21,if_neg h21]
theorem d4s(u:List Un)(hu:b2T u)(hgp:b9R u):b0u env 38 [sl 70 (u.map Un.enc)] (.bool (decide ((b5g u).1=0))):=by
 have hC:=d4V u hu hgp
 refine b0i (fn:=Tryz.f38) Tryz.func38 rfl (by rw[Tryz.ntmps38];simp) (by simp -implicitDefEqProofs only[go_sem];exact b0x _) rfl ?_
 simp -implicitDefEqProofs only[go_sem,Tryz.f38]
 refine hC.calls (by simp -implicitDefEqProofs only[go_sem]) ?_
 rw[←d7V hu]
 simp -implicitDefEqProofs only[go_sem,c2U]
theorem d5x{u:List Un}(hu:b2T u)(h0:(b5g u).1=0):PreU u:=by
 have hS:=b4X hu h0
 have hC:=b9l h0
 have hb:c4B u 0=none:=by
  cases h:c4B u 0 with
  | none=>rfl
  | some i=>unfold b5g at h0;rw[h]at h0;cases h0
 have h1:(d8A u).1=0:=by unfold b5g at h0;rw[hb]at h0;exact h0
 unfold d8A at h1
 split at h1
 ·rename_i h;exact absurd h1 h
 rename_i hc
 have hc':(b3p u (b0f u 0)).1=0:=by simpa using hc
 split at h1
 ·cases h1
 rename_i hn
 unfold f1g at h1
 split at h1
 ·cases h1
 split at h1
 ·cases h1
 rename_i hu2
 exact⟨hS,hc',hn,hu2⟩
theorem c8P(u:List Un)(hP:PreU u){un i:Nat}{l:List Rw}(hl:(b0e u)[un]? = some l)(hi:i<l.length):b0u env 40 [.agg (b6f u),.agg [.int .i64 un,.int .i64 i]] (sl 9 ((tgR u un l i).map b0p)):=by
 have hS:=hP.snd
 have hg:=hS.gram l (g9f hl)
 have hle:=hg.least i hi
 obtain⟨t1,t2,t3⟩:=b1U hl
 obtain⟨r1,r2,r3⟩:=b1k hi
 refine b0i (fn:=Tryz.f40) Tryz.func40 rfl (by rw[Tryz.ntmps40];simp) (by simp -implicitDefEqProofs only[go_sem];exact b1p _) (by simp -implicitDefEqProofs only[go_sem]) ?_
 unfold tgR
 by_cases h20:(b0j l i).kind=20
 ·rw[if_pos h20]
  simp -implicitDefEqProofs only[go_sem,Tryz.f40,b0k]
  refine b0h (cs:=[]) b0v (by kernel_rfl) ?_
  simp -implicitDefEqProofs only[go_sem,b0k,t1,t2,t3,r1,r2,r3,h20,b0q,Rw.enc]
  rfl
 rw[if_neg h20]
 have e20:((b0j l i).kind=20)=False:=eq_false h20
 by_cases h21:(b0j l i).kind=21
 ·rw[if_pos h21]
  have hk1:0<(b0j l i).kids.length:=by rw[h21]at hle;simp[b0U]at hle;omega
  have hkd:=hg.kid i hi 0 hk1
  have hgk:=b2l hk1
  have hk0:(0<((b0j l i).kids.length:Int))=True:=by simp;omega
  have hTy:=c5a u hP hl hkd.2.1
  have hRd:=d2W u hS.fit
  generalize tyS u ((un:Int),((b1d l i 0:Nat):Int))=c at *
  have hSu:=d0u u hS.fit c
  have hSl:=c6d hS.fit c
  have hIn:=b9h (b8S u c) c hSl
  have hIl:=c1Q (b8S u c) c
  simp -implicitDefEqProofs only[go_sem,Tryz.f40,b0k]
  refine b0h (cs:=[]) b0v (by kernel_rfl) ?_
  simp -implicitDefEqProofs only[go_sem,b0k,t1,t2,t3,r1,r2,r3,h21,b0q,Rw.enc]
  refine b0h (cs:=[]) b0v (by kernel_rfl) ?_
  simp -implicitDefEqProofs only[go_sem,b0k,t1,t2,t3,r1,r2,r3,hgk,hk0,b0M,b0q,Rw.enc]
  refine b0B hTy (by simp -implicitDefEqProofs only[go_sem,b0k]) ?_
  simp -implicitDefEqProofs only[go_sem,b0k]
  refine hRd.calls (by simp -implicitDefEqProofs only[go_sem,b0k]) ?_
  have hlk:=fun y=>c4H u hS.fit y (b0j l i).text
  have hsd:=b8W hS.fit
  simp -implicitDefEqProofs only[go_sem,b0k,b1x]
  refine hSu.calls (by simp -implicitDefEqProofs only[go_sem,b1x]) ?_
  simp -implicitDefEqProofs only[go_sem,b0k,b1x]
  refine hIn.calls (by simp -implicitDefEqProofs only[go_sem]) ?_
  generalize hL:c7a (b8S u c) c=L at hIl
  simp -implicitDefEqProofs only[go_sem]
  refine b0n (β:=List VObj) L (fun q z=>⟨[(10,.int .i64 q.length),(9,sl 9 ((tgQ u (b0j l i).text q).map b0p)),(8,sl 9 (L.map b0p)),(7,.ptr 3 0),(5,.ptr 2 0)],
   .dead :: .dead :: .cells (b0j l i).enc :: .cells (b1x u (b0f u 0))::z,[]⟩)
   (fun _ _ _=>True) [] ?_ trivial ?_ ?_
  ·simp -implicitDefEqProofs only[go_sem,b1x,Rw.enc]
   exact⟨⟨rfl,rfl⟩,h21.symm⟩
  ·intro _ _
   simp -implicitDefEqProofs only[go_sem]
  ·rintro q x post z hx _
   have hpl:L.length=q.length+1+post.length:=by rw[hx];simp;omega
   have hgx:(L.map b0p).getD (q.length:Int).toNat []=b0p x:=by rw[hx];simp[g8Z]
   have hlt:((q.length:Int)<L.length)=True:=by simp;omega
   have hw:IntKind.i64.wrap (↑q.length+1)=↑(q.length+1):=b0g (by omega)
   have hql:=d0D u (b0j l i).text q []
   have hsq:tgQ u (b0j l i).text (q++[x])=tgF u (b0j l i).text (tgQ u (b0j l i).text q) x:=by simp[tgQ]
   have hlx:=hlk x
   simp -implicitDefEqProofs only[go_sem,hgx,hlt,b0p,b1x,Rw.enc]
   refine fun _ _=>?_
   unfold b1x at hlx
   refine b0h (cs:=[]) b0v (by kernel_rfl) ?_
   simp -implicitDefEqProofs only[go_sem,hgx,hlt,b0p]
   refine b0B hlx (by simp -implicitDefEqProofs only[go_sem]) ?_
   cases hd:b1D u x (b0j l i).text with
   | none =>
    have hf:tgF u (b0j l i).text (tgQ u (b0j l i).text q) x=tgQ u (b0j l i).text q:=by rw[tgF,hd]
    simp -implicitDefEqProofs only[go_sem,b2s,g9u,h0a,Dl.zero,Dl.enc,b0d,b0b,b0c,b0a,g8V,g8W,g8X]
    exact⟨_,⟨hw,by rw[hsq,hf]⟩,b0s,.inl (by simp)⟩
   | some d =>
    have hf:tgF u (b0j l i).text (tgQ u (b0j l i).text q) x=c7a (tgQ u (b0j l i).text q) (b2y d):=by rw[tgF,hd]
    simp -implicitDefEqProofs only[go_sem,b2s,g9H,g9w,Dl.enc,b0d,b0b,b0c,b0a,g8V,g8W,g8X]
    have hds:=hsd d (b7S hd).1
    have h46:(#[46]:Array UInt8).size=1:=rfl
    have hI:=b9h (tgQ u (b0j l i).text q) (b2y d) (by simp only[tgQ];simp only[g9F]at hql;omega)
    refine⟨by omega,by omega,?_⟩
    refine hI.calls (by simp -implicitDefEqProofs only[go_sem,b2y]) ?_
    simp -implicitDefEqProofs only[go_sem]
    exact⟨_,⟨hw,by rw[hsq,hf]⟩,b0s,.inl (by simp)⟩
 rw[if_neg h21]
 have e21:((b0j l i).kind=21)=False:=eq_false h21
 simp -implicitDefEqProofs only[go_sem,Tryz.f40,b0k]
 refine b0h (cs:=[]) b0v (by kernel_rfl) ?_
 simp -implicitDefEqProofs only[go_sem,b0k,t1,t2,t3,r1,r2,r3,e20,e21,b0q,Rw.enc]
theorem d9v{u:List Un}(h0:(b5g u).1=0)(hS:SndU u){un nd:Int}(h:¬ (0≤un∧un<(b0e u).length∧0≤nd∧nd<((b0e u).getD un.toNat []).length)):c0Y u un nd=[]:=by
 have htl:(b0e u).length=u.length:=by unfold b0e;rw[g9r]
 unfold c0Y
 by_cases hu:un<0∨(u.length:Int)≤un
 ·rw[if_pos (.inr hu)]
 ·rw[if_neg (fun h=>h.elim (fun h=>h h0) hu)]
  rw[not_or]at hu
  by_cases hn:0≤nd
  ·rw[if_pos hn]
   obtain⟨k,rfl⟩:=g9T (by omega:0≤un)
   obtain⟨j,rfl⟩:=g9T hn
   have hk:k<u.length:=by omega
   have hx:u[k]? = some u[k]:=g9b hk
   have ht:=c1N hS.br hx
   have hd:(b0e u).getD k []=b0z (u[k]).tree (-1) 0:=by rw[g8Z,ht];rfl
   rw[g9j,hd,b0N]at h
   rw[g9j,g9j,hx,g9z,g9w]
   rw[g9K (by omega)]
  ·rw[if_neg hn]
theorem c8B(u:List Un)(hu:b2T u)(hgp:b9R u)(un nd:Int):b0u env 13 [sl 70 (u.map Un.enc),.agg [.int .i64 un,.int .i64 nd]] (sl 9 ((c0Y u un nd).map b0p)):=by
 have hSo:=d4s u hu hgp
 refine b0i (fn:=Tryz.f13) Tryz.func13 rfl (by rw[Tryz.ntmps13];simp) (by simp -implicitDefEqProofs only[go_sem];exact b0x _) (by simp -implicitDefEqProofs only[go_sem]) ?_
 simp -implicitDefEqProofs only[go_sem,Tryz.f13]
 refine hSo.calls (by simp -implicitDefEqProofs only[go_sem]) ?_
 by_cases h0:(b5g u).1=0
 ·have e0:((b5g u).1=0)=True:=eq_true h0
  have hP:=d5x hu h0
  have hW:=d0k u hP.snd
  have hE:=c9H (b0e u) un nd
  simp -implicitDefEqProofs only[go_sem,e0]
  refine hW.calls (by simp -implicitDefEqProofs only[go_sem]) ?_
  simp -implicitDefEqProofs only[go_sem,b0k]
  by_cases hx:0≤un∧un<(b0e u).length∧0≤nd∧nd<((b0e u).getD un.toNat []).length
  ·have ex:(0≤un∧un<(b0e u).length∧0≤nd∧nd<((b0e u).getD un.toNat []).length)=True:=eq_true hx
   obtain⟨h1,h2,h3,h4⟩:=hx
   have h4':=h4
   obtain⟨k,rfl⟩:=g9T h1
   obtain⟨j,rfl⟩:=g9T h3
   rw[g9j]at h4
   have hk:k<(b0e u).length:=by omega
   have hl:(b0e u)[k]? = some ((b0e u).getD k []):=by rw[g8Z,g9b hk];rfl
   have hj:j<((b0e u).getD k []).length:=by omega
   have hT:=c8P u hP hl hj
   rw[f3k hu h0 hl hj]at hT
   rw[g9D ⟨h1,h2,h3,h4'⟩]at hE
   refine hE.calls (by simp -implicitDefEqProofs only[go_sem,b0k]) ?_
   simp -implicitDefEqProofs only[go_sem,b0k]
   refine hT.calls (by simp -implicitDefEqProofs only[go_sem,b0k]) ?_
   simp -implicitDefEqProofs only[go_sem,b0k]
  ·rw[g9v hx]at hE
   rw[d9v h0 hP.snd hx]
   refine hE.calls (by simp -implicitDefEqProofs only[go_sem,b0k]) ?_
   simp -implicitDefEqProofs only[go_sem,b0k]
 ·have e0:((b5g u).1=0)=False:=eq_false h0
  have ht:c0Y u un nd=[]:=by unfold c0Y;rw[if_pos (.inl h0)]
  rw[ht]
  simp -implicitDefEqProofs only[go_sem,e0]
theorem b8r(u:List Un)(un nd:Int)(hnd:nd≤9223372036854775807):b0u env 3 [sl 70 (u.map Un.enc),.agg [.int .i64 un,.int .i64 nd]] (.bool true):=by
 have hAw:=f4q
 refine b0i (fn:=Tryz.f3) Tryz.func3 rfl (by rw[Tryz.ntmps3];simp) (by simp -implicitDefEqProofs only[go_sem];exact b0x _) rfl ?_
 simp -implicitDefEqProofs only[go_sem,Tryz.f3]
 refine b0h (cs:=[]) b0v (by kernel_rfl) ?_
 simp -implicitDefEqProofs only[go_sem]
 refine b0B hAw (by simp -implicitDefEqProofs only[go_sem]) ?_
 simp -implicitDefEqProofs only[go_sem]
 refine b0B (g7I u) (by simp -implicitDefEqProofs only[go_sem]) ?_
 cases hf:f6D u with
 | false =>
  simp -implicitDefEqProofs only[go_sem]
 | true =>
  have hfs:b7x u 3 160 6000=true:=by
   unfold f6D at hf
   rw[g9g]at hf
   exact hf.1
  have hfo:=(c3N (m:=160) (g9m _) hfs)
  have hT:=c1K u hfo.1 hfo.2 un nd hnd
  have hR:=c8B u hfo.1 hfo.2 un nd
  have hSt:=b6a (c0Y u un nd) (c0Y u un nd)
  simp -implicitDefEqProofs only[go_sem]
  refine b0B hT (by simp -implicitDefEqProofs only[go_sem]) ?_
  simp -implicitDefEqProofs only[go_sem]
  refine b0B hR (by simp -implicitDefEqProofs only[go_sem]) ?_
  simp -implicitDefEqProofs only[go_sem]
  refine b0B hSt (by simp -implicitDefEqProofs only[go_sem]) ?_
  simp -implicitDefEqProofs only[go_sem,decide_true,eq_self]
end Go.Proofs.YtighfcpaplmaiaaGreatDoor
