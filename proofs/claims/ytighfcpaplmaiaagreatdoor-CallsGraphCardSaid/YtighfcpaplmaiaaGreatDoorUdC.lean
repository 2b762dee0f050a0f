import Derived.Test.YtighfcpaplmaiaaGreatDoorUcG
set_option linter.unusedVariables false
set_option linter.unusedSimpArgs false
set_option maxRecDepth 20000
namespace Go.Proofs.YtighfcpaplmaiaaGreatDoor
open Go Go.Vg Go.Proofs
section
variable (u : List Un) (tb : List (List Rw)) (ub : List Us) (n : Nat) {un i : Nat} {l : List Rw}
theorem b5z(hu:tb[un]? = some l)(hi:i<l.length):b0B env 91 [.fptr (ckF u tb ub n),.agg [.int .i64 un,.int .i64 i]] (.agg (b0h l i).enc) :=
 ⟨_,.inr (by simp only[h0s,h0T,jkA,c6B]),b9r _ _ _ un i l (b5e hu) hi (b9n u tb ub)⟩
theorem d4g{k:Nat}(hu:tb[un]? = some l)(hi:i<l.length)(hk:k<(b0h l i).kids.length):b0B env 146 [.fptr (ckF u tb ub n),.agg [.int .i64 un,.int .i64 i],.int .i64 k] (.agg [.int .i64 un,.int .i64 (b1c l i k)]) :=
 ⟨_,.inr (by simp only[h0s,h0T,jkA,c6B]),c5z _ _ _ un i k l (b5e hu) hi hk (b9n u tb ub)⟩
theorem b9S(hu:tb[un]? = some l)(hi:i<l.length)(hr:rowsOK l):b0B env 147 [.fptr (ckF u tb ub n),.agg [.int .i64 un,.int .i64 i]] (.tuple [.agg [.int .i64 (if(b9d l i).isSome then(un:Int)else 0),.int .i64 ((b9d l i).getD 0:Nat)],.bool (b9d l i).isSome]) :=
 ⟨_,.inr (by simp only[h0s,h0T,jkA,c6B]),c9X _ _ _ un i l (b5e hu) hi hr (b9n u tb ub)⟩
theorem d2L(hu:tb[un]? = some l)(hi:i<l.length)(hr:rowsOK l)(h0:0≤(b0h l i).parent):b0B env 153 [.fptr (ckF u tb ub n),.agg [.int .i64 un,.int .i64 i]] (.str (c7y l i)) :=
 ⟨_,.inr (by simp only[h0s,h0T,jkA,c6B]),f1q _ _ _ un i l (b5e hu) hi hr h0 (b9n u tb ub)⟩
theorem f5y(hu:tb[un]? = some l)(hi:i<l.length)(hg:gramL l):b0B env 186 [.fptr (ckF u tb ub n),.agg [.int .i64 un,.int .i64 i]] (.str (b4h l l.length i)) :=
 ⟨_,.inr (by simp only[h0s,h0T,jkA,c6B]),f1w _ _ _ un i l (b5e hu) hi hg (b9n u tb ub)⟩
theorem d1J(hu:tb[un]? = some l)(hi:i<l.length)(hg:gramL l):b0B env 154 [.fptr (ckF u tb ub n),.agg [.int .i64 un,.int .i64 i]] (.bool (b1B l l.length i)) :=
 ⟨_,.inr (by simp only[h0s,h0T,jkA,c6B]),c8A _ _ _ un l (b5e hu) hg (b9n u tb ub) l.length i hi (by omega)⟩
end
structure Mems(u:List Un)(kn:KnM)(sg:SgM)(ab:AbM):Prop where
 kn:c5H (tyS u) kn
 sg:c5H (mtS u) sg
 ab:c5H (b8W u) ab
def b5R(u:List Un)(ub:List Us)(pre:List VObj)(f:FuncId)(args:List V)(v:V):Prop:=∀ (kn:KnM) (sg:SgM) (ab:AbM) (z:List VObj) (a:List Nat) (K:b1y),Mems u kn sg ab →
 (∀ kn' sg' ab',Mems u kn' sg' ab'→K v (pre++ck4 (b2v u) kn' sg' ab' z) a)→b0q env f (.fptr (ckF u (b0f u) ub pre.length)::args) (pre++ck4 (b2v u) kn sg ab z) a K
def b6G(k:Int×Int):V := .agg [.int .i64 k.1,.int .i64 k.2]
def d9T(u:List Un)(ub:List Us)(pre:List VObj)(k:Int×Int):Prop:=b5R u ub pre 60 [b6G k] (.str (tyS u k))
theorem b0R{tb:List (List Rw)}{un i:Nat}{l:List Rw}(h:tb[un]? = some l):rwK tb ((un:Int),(i:Int))=b0h l i:=by
 simp[rwK,h0c,h]
theorem b3B{tb:List (List Rw)}{un i j:Nat}{l:List Rw}(h:tb[un]? = some l):kdK tb ((un:Int),(i:Int)) j=((un:Int),((b1c l i j:Nat):Int)):=by
 simp[kdK,h0c,h]
theorem b5Z{tb:List (List Rw)}{un:Nat}{l:List Rw}(h:tb[un]? = some l):tb.getD ((un:Int)).toNat []=l:=by
 simp[h0c,h]
theorem b5N{l:List Rw}(hg:gramL l){i p:Nat}(hi:i<l.length)(h:b9d l i=some p):p<l.length∧(b0h l p).kind=2∧0≤(b0h l p).parent:=by
 have key:∀ (f:Nat) (k:Int),k<l.length→upF l f k=some p→p<l.length∧(b0h l p).kind=2:=by
  intro f;induction f with
  | zero=>intro k _ h;cases h
  | succ f ih =>
   intro k hk h;rw[upF]at h;split at h
   ·cases h
   rename_i h0;have hkl:k.toNat<l.length:=by omega
   split at h
   ·rename_i h2;cases h
    exact⟨hkl,h2⟩
   ·exact ih _ (by have:=(hg.ok.par _ hkl).1;omega) h
 have hp:=(hg.ok.par i hi).1;obtain⟨h1,h2⟩:=key _ _ (by omega) h;refine⟨h1,h2,?_⟩;rcases Nat.eq_zero_or_pos p with h0 | h0
 ·subst h0;rw[hg.root h1]at h2;omega
 ·obtain⟨q,hq,_⟩:=hg.par p h1 h0;omega
theorem c3R{u:List Un}(hT:CkT u)(ub:List Us)(pre:List VObj){d:Int×Int}(hd:Val (b0f u) d)(hk:(rwK (b0f u) d).kind=4∨(rwK (b0f u) d).kind=9∨(rwK (b0f u) d).kind=10)(ho:(rwK (b0f u) d).kind=10→d9T u ub pre (kdK (b0f u) d 0)) :
  b5R u ub pre 144 [b6G d] (.str (c9R (b0f u) (tyS u) d)):=by
 obtain⟨un,i,l,rfl,hl,hi⟩:=hd;have hg:=hT.gram l (h0j hl);have hle:=hg.least i hi;rw[b0R hl]at hk ho;intro kn sg ab z a K hm hK;refine b0q.tidyCk ?_;refine b0y (fn:=Tryz.f144) Tryz.func144 rfl (by rw[Tryz.ntmps144];simp) ?_;rw[c9R,b0R hl,b3B hl,b5Z hl,h0n]at hK;rw[b3B hl]at ho;rcases hk with hk | hk | hk
 ·rw[if_pos hk,b0R hl]at hK;have hk1:0<(b0h l i).kids.length:=by rw[hk]at hle;simp[b0S]at hle;omega
  have hkd:=hg.kid i hi 0 hk1;simp -implicitDefEqProofs only[go_sem,Tryz.f144,b6G,ck4,b0d,b0a,b0c,b0b,g9Y,g9Z,h0a];refine b0B.callsS (b5z u (b0f u) ub pre.length hl hi) (by simp -implicitDefEqProofs only[go_sem]) ?_;simp -implicitDefEqProofs only[go_sem,b0d,b0a,b0c,b0b,g9Y,g9Z,h0a,hk];refine b0B.callsS (d4g u (b0f u) ub pre.length (k:=0) hl hi hk1) (by simp -implicitDefEqProofs only[go_sem];rfl) ?_;simp -implicitDefEqProofs only[go_sem,b0d,b0a,b0c,b0b,g9Y,g9Z,h0a];refine b0B.callsS (b5z u (b0f u) ub pre.length hl hkd.2.1) (by simp -implicitDefEqProofs only[go_sem]) ?_;simp -implicitDefEqProofs only[go_sem,b0d,b0a,b0c,b0b,g9Y,g9Z,h0a];exact⟨kn,sg,ab,_,[],rfl,by simp,hK _ _ _ hm⟩
 ·rw[if_neg (by omega),if_neg (by omega),if_pos hk]at hK;have hk1:0<(b0h l i).kids.length:=by rw[hk]at hle;simp[b0S]at hle;omega
  have hkd:=hg.kid i hi 0 hk1;simp -implicitDefEqProofs only[go_sem,Tryz.f144,b6G,ck4,b0d,b0a,b0c,b0b,g9Y,g9Z,h0a];refine b0B.callsS (b5z u (b0f u) ub pre.length hl hi) (by simp -implicitDefEqProofs only[go_sem]) ?_;simp -implicitDefEqProofs only[go_sem,b0d,b0a,b0c,b0b,g9Y,g9Z,h0a,hk];refine b0B.callsS (d4g u (b0f u) ub pre.length (k:=0) hl hi hk1) (by simp -implicitDefEqProofs only[go_sem];rfl) ?_;simp -implicitDefEqProofs only[go_sem,b0d,b0a,b0c,b0b,g9Y,g9Z,h0a];refine b0B.callsS (f5y u (b0f u) ub pre.length hl hkd.2.1 hg) (by simp -implicitDefEqProofs only[go_sem]) ?_;simp -implicitDefEqProofs only[go_sem,b0d,b0a,b0c,b0b,g9Y,g9Z,h0a];exact⟨kn,sg,ab,_,[],rfl,by simp,hK _ _ _ hm⟩
 ·rw[if_neg (by omega),if_pos hk]at hK;have hk1:0<(b0h l i).kids.length:=by rw[hk]at hle;simp[b0S]at hle;omega
  have hkd:=hg.kid i hi 0 hk1;simp -implicitDefEqProofs only[go_sem,Tryz.f144,b6G,ck4,b0d,b0a,b0c,b0b,g9Y,g9Z,h0a];refine b0B.callsS (b5z u (b0f u) ub pre.length hl hi) (by simp -implicitDefEqProofs only[go_sem]) ?_;simp -implicitDefEqProofs only[go_sem,b0d,b0a,b0c,b0b,g9Y,g9Z,h0a,hk];refine b0B.callsS (d4g u (b0f u) ub pre.length (k:=0) hl hi hk1) (by simp -implicitDefEqProofs only[go_sem];rfl) ?_;simp -implicitDefEqProofs only[go_sem,b0d,b0a,b0c,b0b,g9Y,g9Z,h0a];refine ho hk kn sg ab _ _ _ hm ?_;intro kn' sg' ab' hm';simp -implicitDefEqProofs only[go_sem,ck4,b0d,b0a,b0c,b0b,g9Y,g9Z,h0a];exact⟨kn',sg',ab',_,[],rfl,by simp,hK _ _ _ hm'⟩
theorem c4X{u:List Un}(ub:List Us)(pre:List VObj){un i:Nat}{l:List Rw}(hl:(b0f u)[un]? = some l)(hi:i<l.length)(hk1:0<(b0h l i).kids.length)(ho:d9T u ub pre ((un:Int),((b1c l i 0:Nat):Int))) :
  b5R u ub pre 151 [.agg [.int .i64 un,.int .i64 i]] (.str (rcT (tyS u ((un:Int),((b1c l i 0:Nat):Int))))):=by
 intro kn sg ab z a K hm hK;refine b0q.tidyCk ?_;refine b0y (fn:=Tryz.f151) Tryz.func151 rfl (by rw[Tryz.ntmps151];simp) ?_;simp -implicitDefEqProofs only[go_sem,Tryz.f151,ck4,b0d,b0a,b0c,b0b,g9Y,g9Z,h0a];refine b0B.callsS (d4g u (b0f u) ub pre.length (k:=0) hl hi hk1) (by simp -implicitDefEqProofs only[go_sem];rfl) ?_;simp -implicitDefEqProofs only[go_sem,b0d,b0a,b0c,b0b,g9Y,g9Z,h0a];refine ho kn sg ab _ _ _ hm ?_;intro kn' sg' ab' hm';simp -implicitDefEqProofs only[go_sem,ck4,b0d,b0a,b0c,b0b,g9Y,g9Z,h0a];have hfin:∀ s,rcT (tyS u ((un:Int),((b1c l i 0:Nat):Int)))=s→K (.str s) (pre++ck4 (b2v u) kn' sg' ab' z) a:=fun s h=>h ▸ hK _ _ _ hm'
 generalize tyS u ((un:Int),((b1c l i 0:Nat):Int))=s at hfin ⊢;refine⟨fun h1=>⟨fun h2=>?_,fun h2=>?_⟩,fun h1=>?_⟩
 ·exact⟨kn',sg',ab',_,[],rfl,by simp,hfin _ (by rw[rcT,if_pos (.inr h2)])⟩
 ·exact⟨kn',sg',ab',_,[],rfl,by simp,hfin _ (by rw[rcT,if_neg (fun h=>h.elim h1 h2)])⟩
 ·exact⟨kn',sg',ab',_,[],rfl,by simp,hfin _ (by rw[rcT,if_pos (.inl h1)])⟩
theorem b6D{D:List ((Int×Int)×(Int×Int))}{a b:Int}{K:V→Prop}:b1L env 24 (b1e [1,1] [.int .i64 a,.int .i64 b] (c9l D) 0) true K=K (.tuple [((b1t D (a,b)).map b6G).getD (.agg [.int .i64 0,.int .i64 0]),.bool (b1t D (a,b)).isSome]) :=
 c6p (E:=env) (ve:=fun a => .agg (f0n a)) c2V (k:=(a,b)) (by kernel_rfl) (by kernel_rfl)
theorem d3R{M:KnM}{a b:Int}{K:V→Prop}:b1L env 9 (b1e [1,1] [.int .i64 a,.int .i64 b] (c9P M) 0) true K=K (.tuple [((b1t M (a,b)).map V.str).getD (.str ⟨#[]⟩),.bool (b1t M (a,b)).isSome]) :=
 c6p (E:=env) (ve:=V.str) c2V (k:=(a,b)) (by kernel_rfl) (by kernel_rfl)
theorem d8A{M:KnM}{a b:Int}{s:ByteArray}{h:List VObj}{id:Nat}{L:List VObj→Prop}:b3Z h id (c9P M) (.agg [.int .i64 a,.int .i64 b]) (.str s) (b1e [1,1] [.int .i64 a,.int .i64 b] (c9P M) 0) L=L (h.set id (.map (c9P (b4e M (a,b) s)))) :=
 c6Q (ve:=V.str) c2V (k:=(a,b)) (v:=s)
theorem d6X{u:List Un}(ub:List Us)(pre:List VObj){k:Int×Int}(hf:b5R u ub pre 96 [b6G k] (.str (tyS u k))):d9T u ub pre k:=by
 intro kn sg ab z a K hm hK;obtain⟨un,i⟩:=k;refine b0q.tidyCk ?_;refine b0y (fn:=Tryz.f60) Tryz.func60 rfl (by rw[Tryz.ntmps60];simp) ?_;simp -implicitDefEqProofs only[go_sem,Tryz.f60,b6G,ck4,b0d,b0a,b0c,b0b,g9Y,g9Z,h0a];refine sdq ?_;cases hg:b1t kn (un,i)with
 | some s =>
  have hs:=hm.kn _ _ hg;subst hs;simp -implicitDefEqProofs only[go_sem,b0d,b0a,b0c,b0b,g9Y,g9Z,h0a,b1S,d3R,hg,h0D,h0A,h0L];exact⟨kn,sg,ab,_,[],rfl,by simp,hK _ _ _ hm⟩
 | none =>
  simp -implicitDefEqProofs only[go_sem,b0d,b0a,b0c,b0b,g9Y,g9Z,h0a,b1S,d3R,hg,h1r,h1f,h0y];refine hf kn sg ab _ _ _ hm ?_;intro kn' sg' ab' hm';simp -implicitDefEqProofs only[go_sem,ck4,b0d,b0a,b0c,b0b,g9Y,g9Z,h0a,b1S,d8A];refine sdq ?_;simp -implicitDefEqProofs only[go_sem,b0d,b0a,b0c,b0b,g9Y,g9Z,h0a,b1S,d8A];exact⟨_,sg',ab',_,[],rfl,by simp,hK _ _ _ ⟨hm'.kn.set (un,i),hm'.sg,hm'.ab⟩⟩
def b8w:Wk := .one 0 (.one 1 (.one 2 (.one 4 (.br 3 (.one 5 (.br 6 (.one 7 (.one 8 (.one 9 (.one 10 (.one 11 (.one 12 (.stop))))))) (.br 10 (.one 6 (.one 7 (.one 8 (.one 9 (.one 11 (.one 12 (.stop))))))) (.stop)))) (.br 5 (.br 3 (.br 6 (.one 7 (.one 8 (.one 9 (.one 10 (.one 11 (.one 12 (.stop))))))) (.br 10 (.one 6 (.one 7 (.one 8 (.one 9 (.one 11 (.one 12 (.stop))))))) (.stop))) (.br 10 (.one 3 (.one 6 (.one 7 (.one 8 (.one 9 (.one 11 (.one 12 (.stop)))))))) (.stop))) (.br 10 (.br 3 (.one 5 (.one 6 (.one 7 (.one 8 (.one 9 (.one 11 (.one 12 (.stop)))))))) (.br 5 (.one 3 (.one 6 (.one 7 (.one 8 (.one 9 (.one 11 (.one 12 (.stop)))))))) (.stop))) (.stop)))))))
theorem g3J{u:List Un}(hT:CkT u)(ub:List Us)(pre:List VObj){k:Int×Int}(hk:Val (b0f u) k)(ho:∀ q,tgt (b0f u) (b2v u) k q→d9T u ub pre q):b5R u ub pre 96 [b6G k] (.str (tyS u k)):=by
 intro kn sg ab z a K hm hK;rw[d2D hT hk]at hK;have hd19:=hT.d19 k;have hd20:=hT.d20 k;obtain⟨un,i,l,rfl,hl,hi⟩:=hk;have hvk:Val (b0f u) ((un:Int),(i:Int)):=⟨un,i,l,rfl,hl,hi⟩
 have hg:=hT.gram l (h0j hl);have hle:=hg.least i hi;have hro:=hg.ok;unfold tgt at ho;rw[tyB,b0R hl,b5Z hl,h0n]at hK;rw[b0R hl]at hd19 hd20 ho;rw[b3B hl]at ho hK;have hrr:=b0z hi;refine b0q.tidyCk ?_;refine b0y (fn:=Tryz.f96) Tryz.func96 rfl (by rw[Tryz.ntmps96];simp) ?_;have hdone:∀ s:ByteArray,(∀ kn' sg' ab',Mems u kn' sg' ab'→K (.str s) (pre++ck4 (b2v u) kn' sg' ab' z) a)→∀ kn' sg' ab' z' y,Mems u kn' sg' ab'→∃ kn'' sg'' ab'' z'' y',(pre++ck4 (b2v u) kn' sg' ab' (z++z'))=pre++ck4 (b2v u) kn'' sg'' ab'' (z++z'')∧a++y=a++y'∧K (.str s) (pre++ck4 (b2v u) kn'' sg'' ab'' z) a :=
  fun s h kn' sg' ab' z' y hm'=>⟨kn',sg',ab',z',y,rfl,rfl,h _ _ _ hm'⟩
 by_cases h17:(b0h l i).kind=17
 ·simp only[h17,if_true]at hK;simp -implicitDefEqProofs only[go_sem,Tryz.f96,b6G,ck4,b0d,b0a,b0c,b0b,g9Y,g9Z,h0a];refine b0B.callsS (b5z u (b0f u) ub pre.length hl hi) (by simp -implicitDefEqProofs only[go_sem]) ?_;simp -implicitDefEqProofs only[go_sem,b0d,b0a,b0c,b0b,g9Y,g9Z,h0a,h17];exact⟨kn,sg,ab,_,[],rfl,by simp,hK _ _ _ hm⟩
 by_cases h18:(b0h l i).kind=18
 ·rw[if_neg h17,if_pos h18]at hK;simp -implicitDefEqProofs only[go_sem,Tryz.f96,b6G,ck4,b0d,b0a,b0c,b0b,g9Y,g9Z,h0a];refine b0B.callsS (b5z u (b0f u) ub pre.length hl hi) (by simp -implicitDefEqProofs only[go_sem]) ?_;simp -implicitDefEqProofs only[go_sem,b0d,b0a,b0c,b0b,g9Y,g9Z,h0a,h18];exact⟨kn,sg,ab,_,[],rfl,by simp,hK _ _ _ hm⟩
 by_cases h19:(b0h l i).kind=19
 ·rw[if_neg h17,if_neg h18,if_pos h19]at hK;simp -implicitDefEqProofs only[go_sem,Tryz.f96,b6G,ck4,b0d,b0a,b0c,b0b,g9Y,g9Z,h0a];refine b0B.callsS (b5z u (b0f u) ub pre.length hl hi) (by simp -implicitDefEqProofs only[go_sem]) ?_;simp -implicitDefEqProofs only[go_sem,b0d,b0a,b0c,b0b,g9Y,g9Z,h0a,h19];refine sdq ?_;cases hd:b1t (b2v u) ((un:Int),(i:Int))with
  | none =>
   simp -implicitDefEqProofs only[go_sem,b0d,b0a,b0c,b0b,g9Y,g9Z,h0a,b1S,b6D,hd,h1r,h1f,h0y];rw[hd]at hK;exact⟨kn,sg,ab,_,[],rfl,by simp,hK _ _ _ hm⟩
  | some d =>
   obtain⟨hdv,hdk⟩:=hd19 d hvk (.inl h19) hd;have hV:=c3R hT ub pre hdv hdk fun h10=>ho _ (.inr ⟨h19,d,hd,h10,rfl⟩)
   rw[hd]at hK;simp -implicitDefEqProofs only[go_sem,b0d,b0a,b0c,b0b,g9Y,g9Z,h0a,b1S,b6D,hd,h0D,h0A,h0L,b6G];refine hV kn sg ab _ _ _ hm ?_;intro kn' sg' ab' hm';simp -implicitDefEqProofs only[go_sem,ck4,b0d,b0a,b0c,b0b,g9Y,g9Z,h0a];exact⟨kn',sg',ab',_,[],rfl,by simp,hK _ _ _ hm'⟩
 by_cases h20:(b0h l i).kind=20
 ·rw[if_neg h17,if_neg h18,if_neg h19,if_pos h20]at hK;simp -implicitDefEqProofs only[go_sem,Tryz.f96,b6G,ck4,b0d,b0a,b0c,b0b,g9Y,g9Z,h0a];refine b0B.callsS (b5z u (b0f u) ub pre.length hl hi) (by simp -implicitDefEqProofs only[go_sem]) ?_;simp -implicitDefEqProofs only[go_sem,b0d,b0a,b0c,b0b,g9Y,g9Z,h0a,h20];refine sdq ?_;cases hd:b1t (b2v u) ((un:Int),(i:Int))with
  | none =>
   simp -implicitDefEqProofs only[go_sem,b0d,b0a,b0c,b0b,g9Y,g9Z,h0a,b1S,b6D,hd,h1r,h1f,h0y];rw[hd]at hK;exact⟨kn,sg,ab,_,[],rfl,by simp,hK _ _ _ hm⟩
  | some d =>
   obtain⟨⟨un',i',l',rfl,hl',hi'⟩,hdk⟩:=hd20 d hvk h20 hd;rw[b0R hl']at hdk;have hso:=(hT.gram l' (h0j hl')).sign i' hi' hdk;rw[hd]at hK;have hlx:=b5Z hl';simp only[hlx,h0n]at hK;rw[h0c,hl',h0A]at hK;simp -implicitDefEqProofs only[go_sem,b0d,b0a,b0c,b0b,g9Y,g9Z,h0a,b1S,b6D,hd,h0D,h0A,h0L,b6G];refine b0B.callsS (d3F u (b0f u) ub pre.length hl' hso) (by simp -implicitDefEqProofs only[go_sem]) ?_;simp -implicitDefEqProofs only[go_sem,b0d,b0a,b0c,b0b,g9Y,g9Z,h0a,Sg.enc];exact⟨kn,sg,ab,_,[],rfl,by simp,hK _ _ _ hm⟩
 by_cases h21:(b0h l i).kind=21
 ·rw[if_neg h17,if_neg h18,if_neg h19,if_neg h20,if_pos h21]at hK;have hk1:0<(b0h l i).kids.length:=by rw[h21]at hle;simp[b0S]at hle;omega
  have hO:=ho _ (.inl ⟨.inl h21,rfl⟩);simp -implicitDefEqProofs only[go_sem,Tryz.f96,b6G,ck4,b0d,b0a,b0c,b0b,g9Y,g9Z,h0a];refine b0B.callsS (b5z u (b0f u) ub pre.length hl hi) (by simp -implicitDefEqProofs only[go_sem]) ?_;simp -implicitDefEqProofs only[go_sem,b0d,b0a,b0c,b0b,g9Y,g9Z,h0a,h21];have hRc:=c4X ub pre hl hi hk1 hO;cases hms:mtS u (rcT (tyS u ((un:Int),((b1c l i 0:Nat):Int))),(b0h l i).text)with
  | none =>
   rw[hms]at hK;refine b1f (cs:=[3,6]) b8w b4c (by kernel_rfl) ?_;simp -implicitDefEqProofs only[go_sem,b0d,b0a,b0c,b0b,g9Y,g9Z,h0a,b8w]
   repeat' apply And.intro
   all_goals(
    refine hRc kn sg ab _ _ _ hm ?_;intro kn1 sg1 ab1 hm1;simp -implicitDefEqProofs only[go_sem,ck4,b0d,b0a,b0c,b0b,g9Y,g9Z,h0a])
   all_goals(repeat' apply And.intro)
   all_goals(
    refine b7T u hT.toCkW ub pre (b2v u) kn1 sg1 ab1 _ _ _ _ hm1.sg ?_;intro sg2 hsg2;rw[hms];simp -implicitDefEqProofs only[go_sem,ck4,b0d,b0a,b0c,b0b,g9Y,g9Z,h0a,b6A,Sg.enc];exact⟨kn1,sg2,ab1,_,[],rfl,by simp,hK _ _ _ ⟨hm1.kn,hsg2,hm1.ab⟩⟩)
  | some s =>
   rw[hms]at hK;refine b1f (cs:=[3,6]) b8w b4c (by kernel_rfl) ?_;simp -implicitDefEqProofs only[go_sem,b0d,b0a,b0c,b0b,g9Y,g9Z,h0a,b8w]
   repeat' apply And.intro
   all_goals(
    refine hRc kn sg ab _ _ _ hm ?_;intro kn1 sg1 ab1 hm1;simp -implicitDefEqProofs only[go_sem,ck4,b0d,b0a,b0c,b0b,g9Y,g9Z,h0a])
   all_goals(repeat' apply And.intro)
   all_goals(
    refine b7T u hT.toCkW ub pre (b2v u) kn1 sg1 ab1 _ _ _ _ hm1.sg ?_;intro sg2 hsg2;rw[hms];simp -implicitDefEqProofs only[go_sem,ck4,b0d,b0a,b0c,b0b,g9Y,g9Z,h0a,b6A,Sg.enc];exact⟨kn1,sg2,ab1,_,[],rfl,by simp,hK _ _ _ ⟨hm1.kn,hsg2,hm1.ab⟩⟩)
 by_cases h22:(b0h l i).kind=22
 ·rw[if_neg h17,if_neg h18,if_neg h19,if_neg h20,if_neg h21,if_pos h22]at hK;simp -implicitDefEqProofs only[go_sem,Tryz.f96,b6G,ck4,b0d,b0a,b0c,b0b,g9Y,g9Z,h0a];refine b0B.callsS (b5z u (b0f u) ub pre.length hl hi) (by simp -implicitDefEqProofs only[go_sem]) ?_;simp -implicitDefEqProofs only[go_sem,b0d,b0a,b0c,b0b,g9Y,g9Z,h0a,h22];exact⟨kn,sg,ab,_,[],rfl,by simp,hK _ _ _ hm⟩
 by_cases h23:(b0h l i).kind=23
 ·rw[if_neg h17,if_neg h18,if_neg h19,if_neg h20,if_neg h21,if_neg h22,if_pos h23]at hK;simp -implicitDefEqProofs only[go_sem,Tryz.f96,b6G,ck4,b0d,b0a,b0c,b0b,g9Y,g9Z,h0a];refine b0B.callsS (b5z u (b0f u) ub pre.length hl hi) (by simp -implicitDefEqProofs only[go_sem]) ?_;simp -implicitDefEqProofs only[go_sem,b0d,b0a,b0c,b0b,g9Y,g9Z,h0a,h23];have hJ:=b9S u (b0f u) ub pre.length hl hi hro;cases hfr:b9d l i with
  | none =>
   rw[hfr]at hJ hK;refine b0B.callsS hJ (by simp -implicitDefEqProofs only[go_sem]) ?_;simp -implicitDefEqProofs only[go_sem,b0d,b0a,b0c,b0b,g9Y,g9Z,h0a,h0y];exact⟨kn,sg,ab,_,[],rfl,by simp,hK _ _ _ hm⟩
  | some p =>
   rw[hfr]at hJ hK;refine b0B.callsS hJ (by simp -implicitDefEqProofs only[go_sem]) ?_;simp -implicitDefEqProofs only[go_sem,b0d,b0a,b0c,b0b,g9Y,g9Z,h0a,h0L,h0A];obtain⟨hp1,hp2,hp3⟩:=b5N hg hi hfr;refine b0B.callsS (d2L u (b0f u) ub pre.length hl hp1 hro hp3) (by simp -implicitDefEqProofs only[go_sem]) ?_;simp -implicitDefEqProofs only[go_sem,b0d,b0a,b0c,b0b,g9Y,g9Z,h0a];exact⟨kn,sg,ab,_,[],rfl,by simp,hK _ _ _ hm⟩
 by_cases h24:(b0h l i).kind=24∨(b0h l i).kind=25
 ·rw[if_neg h17,if_neg h18,if_neg h19,if_neg h20,if_neg h21,if_neg h22,if_neg h23,if_pos h24]at hK;rcases h24 with h24 | h24
  ·simp -implicitDefEqProofs only[go_sem,Tryz.f96,b6G,ck4,b0d,b0a,b0c,b0b,g9Y,g9Z,h0a];refine b0B.callsS (b5z u (b0f u) ub pre.length hl hi) (by simp -implicitDefEqProofs only[go_sem]) ?_;simp -implicitDefEqProofs only[go_sem,b0d,b0a,b0c,b0b,g9Y,g9Z,h0a,h24];refine(b7m (b0h l i)).calls (show [V.agg ((b0h l i).enc.map share1)]=_ by rw[b4y]) ?_;simp -implicitDefEqProofs only[go_sem,b0d,b0a,b0c,b0b,g9Y,g9Z,h0a];exact⟨kn,sg,ab,_,[],rfl,by simp,hK _ _ _ hm⟩
  ·simp -implicitDefEqProofs only[go_sem,Tryz.f96,b6G,ck4,b0d,b0a,b0c,b0b,g9Y,g9Z,h0a];refine b0B.callsS (b5z u (b0f u) ub pre.length hl hi) (by simp -implicitDefEqProofs only[go_sem]) ?_;simp -implicitDefEqProofs only[go_sem,b0d,b0a,b0c,b0b,g9Y,g9Z,h0a,h24];refine(b7m (b0h l i)).calls (show [V.agg ((b0h l i).enc.map share1)]=_ by rw[b4y]) ?_;simp -implicitDefEqProofs only[go_sem,b0d,b0a,b0c,b0b,g9Y,g9Z,h0a];exact⟨kn,sg,ab,_,[],rfl,by simp,hK _ _ _ hm⟩
 by_cases h26:(b0h l i).kind=26
 ·rw[if_neg h17,if_neg h18,if_neg h19,if_neg h20,if_neg h21,if_neg h22,if_neg h23,if_neg h24,if_pos h26]at hK;have hk1:0<(b0h l i).kids.length:=by rw[h26]at hle;simp[b0S]at hle;omega
  have hO:=ho _ (.inl ⟨.inr h26,rfl⟩);simp -implicitDefEqProofs only[go_sem,Tryz.f96,b6G,ck4,b0d,b0a,b0c,b0b,g9Y,g9Z,h0a];refine b0B.callsS (b5z u (b0f u) ub pre.length hl hi) (by simp -implicitDefEqProofs only[go_sem]) ?_;simp -implicitDefEqProofs only[go_sem,b0d,b0a,b0c,b0b,g9Y,g9Z,h0a,h26];refine b0B.callsS (d4g u (b0f u) ub pre.length (k:=0) hl hi hk1) (by simp -implicitDefEqProofs only[go_sem];rfl) ?_;simp -implicitDefEqProofs only[go_sem,b0d,b0a,b0c,b0b,g9Y,g9Z,h0a];refine hO kn sg ab _ _ _ hm ?_;intro kn' sg' ab' hm';simp -implicitDefEqProofs only[go_sem,ck4,b0d,b0a,b0c,b0b,g9Y,g9Z,h0a];exact⟨kn',sg',ab',_,[],rfl,by simp,hK _ _ _ hm'⟩
 rw[if_neg h17,if_neg h18,if_neg h19,if_neg h20,if_neg h21,if_neg h22,if_neg h23,if_neg h24,if_neg h26]at hK;rw[not_or]at h24;simp -implicitDefEqProofs only[go_sem,Tryz.f96,b6G,ck4,b0d,b0a,b0c,b0b,g9Y,g9Z,h0a];refine b0B.callsS (b5z u (b0f u) ub pre.length hl hi) (by simp -implicitDefEqProofs only[go_sem]) ?_;simp -implicitDefEqProofs only[go_sem,b0d,b0a,b0c,b0b,g9Y,g9Z,h0a,h17,h18,h19,h20,h21,h22,h23,h24.1,h24.2,h26];exact⟨kn,sg,ab,_,[],rfl,by simp,hK _ _ _ hm⟩
theorem Tof{u:List Un}(hT:CkT u)(ub:List Us)(pre:List VObj){k:Int×Int}(hk:Val (b0f u) k):d9T u ub pre k:=by
 obtain⟨μ,hμ⟩:=hT.mu;have key:∀ (n:Nat) (k:Int×Int),Val (b0f u) k→μ k<n→d9T u ub pre k:=by
  intro n;induction n with
  | zero=>intro k _ h;omega
  | succ n ih =>
   intro k hk h;refine d6X ub pre (g3J hT ub pre hk fun q hq=>?_);obtain⟨h1,h2,h3⟩:=(hμ k hk).2 q hq;exact ih q h1 (by omega)
 exact key _ k hk (Nat.lt_succ_self _)
open Go Go.Vg Go.Proofs
def b4R(u:List Un)(s want:ByteArray):Bool:=decide (s=⟨#[]⟩) || (decide (s=want) || (b8W u s).any fun x=>decide (x=want))
theorem b4S{u:List Un}(hW:CkW u)(ub:List Us)(pre:List VObj)(s want:ByteArray):b5R u ub pre 145 [.str s,.str want] (.bool (b4R u s want)):=by
 intro kn sg ab z a K hm hK;refine b0q.tidyCk ?_;refine b0y (fn:=Tryz.f145) Tryz.func145 rfl (by rw[Tryz.ntmps145];simp) ?_;simp -implicitDefEqProofs only[go_sem,Tryz.f145,ck4,b0d,b0a,b0c,b0b,g9Y,g9Z,h0a];refine⟨fun h1=>⟨fun h2=>?_,fun h2=>?_⟩,fun h1=>?_⟩
 ·refine d2x u hW ub pre (b2v u) kn sg ab _ _ _ hm.ab ?_;intro ab' hab';simp -implicitDefEqProofs only[go_sem,ck4,b0d,b0a,b0c,b0b,g9Y,g9Z,h0a];refine(c4h (b8W u s) want).calls (by simp -implicitDefEqProofs only[go_sem]) ?_;simp -implicitDefEqProofs only[go_sem,b0d,b0a,b0c,b0b,g9Y,g9Z,h0a];have hf:b4R u s want=(b8W u s).any fun x=>decide (x=want):=by rw[b4R,h0z h1,h0z h2,h0Y,h0Y]
  rw[hf]at hK;exact⟨kn,sg,ab',[],[],by simp,by simp,hK _ _ _ ⟨hm.kn,hm.sg,hab'⟩⟩
 ·have hf:b4R u s want=true:=by rw[b4R,h0H h2,Bool.true_or,Bool.or_true]
  rw[hf]at hK;exact⟨kn,sg,ab,[],[],by simp,by simp,hK _ _ _ hm⟩
 ·have hf:b4R u s want=true:=by rw[b4R,h0H h1,Bool.true_or]
  rw[hf]at hK;exact⟨kn,sg,ab,[],[],by simp,by simp,hK _ _ _ hm⟩
def g4T(s t:Sg):Bool:=decide (s.params=t.params) && decide (s.result=t.result)
def d7P(u:List Un)(l:List Rw)(i:Nat):Bool:=if c7y l i=⟨#[]⟩then false else match b8W u (c7y l i)with
 | []=>false
 | c::_=>match mtS u (c,(b0h l i).text)with
  | some s => !g4T s (b2W l i)
  | none=>false
def d5f:Wk := .one 0 (.one 1 (.one 2 (.one 3 (.one 4 (.one 5 (.one 6 (.one 7 (.br 8 (.one 9 (.one 10 (.one 11 (.one 12 (.one 13 (.one 14 (.stop))))))) (.br 12 (.one 8 (.one 9 (.one 10 (.one 11 (.one 13 (.one 14 (.stop))))))) (.stop))))))))))
theorem c9h{u:List Un}(hT:CkT u)(ub:List Us)(pre:List VObj){un i:Nat}{l:List Rw}(hl:(b0f u)[un]? = some l)(hi:i<l.length)(h2:(b0h l i).kind=2):b5R u ub pre 143 [.agg [.int .i64 un,.int .i64 i]] (.bool (d7P u l i)):=by
 intro kn sg ab z a K hm hK;refine b0q.tidyCk ?_;refine b0y (fn:=Tryz.f143) Tryz.func143 rfl (by rw[Tryz.ntmps143];simp) ?_;simp -implicitDefEqProofs only[go_sem,Tryz.f143,ck4,b0d,b0a,b0c,b0b,g9Y,g9Z,h0a,b6G];have hg:=hT.gram l (h0j hl);have hp3:0≤(b0h l i).parent:=by
  rcases Nat.eq_zero_or_pos i with h0 | h0
  ·subst h0;rw[hg.root hi]at h2;omega
  ·obtain⟨q,hq,_⟩:=hg.par i hi h0;omega
 refine b0B.callsS (d2L u (b0f u) ub pre.length hl hi hg.ok hp3) (by simp -implicitDefEqProofs only[go_sem]) ?_;rw[d7P]at hK;simp -implicitDefEqProofs only[go_sem,b0d,b0a,b0c,b0b,g9Y,g9Z,h0a];refine⟨fun hc=>?_,fun hc=>?_⟩
 ·rw[if_pos hc]at hK;exact⟨kn,sg,ab,_,[],rfl,by simp,hK _ _ _ hm⟩
 ·rw[if_neg hc]at hK;refine d2x u hT.toCkW ub pre (b2v u) kn sg ab _ _ _ hm.ab ?_;intro ab' hab';have hm':Mems u kn sg ab':=⟨hm.kn,hm.sg,hab'⟩
  cases hs:b8W u (c7y l i)with
  | nil =>
   rw[hs]at hK;simp -implicitDefEqProofs only[go_sem,ck4,b0d,b0a,b0c,b0b,g9Y,g9Z,h0a];exact⟨fun _=>⟨kn,sg,ab',_,[],rfl,by simp,hK _ _ _ hm'⟩,fun h=>absurd rfl h⟩
  | cons c r =>
   rw[hs]at hK;simp only at hK;simp -implicitDefEqProofs only[go_sem,ck4,b0d,b0a,b0c,b0b,g9Y,g9Z,h0a];intro _ _;refine⟨fun h=>absurd h (by omega),fun _=>?_⟩;have hJr:=b5z u (b0f u) ub pre.length hl hi;cases hms:mtS u (c,(b0h l i).text)with
   | none =>
    rw[hms]at hK;refine b1f (cs:=[8]) d5f b4c (by kernel_rfl) ?_;simp -implicitDefEqProofs only[go_sem,b0d,b0a,b0c,b0b,g9Y,g9Z,h0a,d5f,b0n];refine⟨by omega,b5b hJr (by simp -implicitDefEqProofs only[go_sem]) ?_⟩;simp -implicitDefEqProofs only[go_sem,b0d,b0a,b0c,b0b,g9Y,g9Z,h0a,b0n]
    repeat' apply And.intro
    all_goals(
     refine b7T u hT.toCkW ub pre (b2v u) kn sg ab' _ _ _ _ hm.sg ?_;intro sg2 hsg2;rw[hms];simp -implicitDefEqProofs only[go_sem,ck4,b0d,b0a,b0c,b0b,g9Y,g9Z,h0a,b6A])
    all_goals(
     refine sdq ?_;simp -implicitDefEqProofs only[go_sem,b0d,b0a,b0c,b0b,g9Y,g9Z,h0a];exact⟨kn,sg2,ab',_,[],rfl,by simp,hK _ _ _ ⟨hm.kn,hsg2,hab'⟩⟩)
   | some s =>
    rw[hms]at hK;refine b1f (cs:=[8]) d5f b4c (by kernel_rfl) ?_;simp -implicitDefEqProofs only[go_sem,b0d,b0a,b0c,b0b,g9Y,g9Z,h0a,d5f,b0n];refine⟨by omega,b5b hJr (by simp -implicitDefEqProofs only[go_sem]) ?_⟩;simp -implicitDefEqProofs only[go_sem,b0d,b0a,b0c,b0b,g9Y,g9Z,h0a,b0n]
    repeat' apply And.intro
    all_goals(
     refine b7T u hT.toCkW ub pre (b2v u) kn sg ab' _ _ _ _ hm.sg ?_;intro sg2 hsg2;rw[hms];simp -implicitDefEqProofs only[go_sem,ck4,b0d,b0a,b0c,b0b,g9Y,g9Z,h0a,b6A,Sg.enc])
    all_goals(
     refine sdq ?_;simp -implicitDefEqProofs only[go_sem,b0d,b0a,b0c,b0b,g9Y,g9Z,h0a];refine b5b (d3F u (b0f u) ub pre.length hl (hg.sign i hi h2)) (by simp -implicitDefEqProofs only[go_sem]) ?_;generalize b2W l i=t at hK ⊢;simp -implicitDefEqProofs only[go_sem,b0d,b0a,b0c,b0b,g9Y,g9Z,h0a,Sg.enc];refine b0L (d0D s t) (by simp -implicitDefEqProofs only[go_sem,Sg.enc]) ?_;simp -implicitDefEqProofs only[go_sem,b0d,b0a,b0c,b0b,g9Y,g9Z,h0a];exact⟨kn,sg2,ab',_,[],rfl,by simp,hK _ _ _ ⟨hm.kn,hsg2,hab'⟩⟩)
def d4z(u:List Un)(un:Nat)(l:List Rw)(i:Nat):Nat→List ByteArray→Bool
 | _,[]=>false
 | j,w::r=>if b4R u (tyS u ((un:Int),((b1c l i j:Nat):Int))) w=true then d4z u un l i (j+1) r else true
def f3r(u:List Un)(un:Nat)(l:List Rw)(i:Nat)(from_:Nat)(params:List ByteArray):Bool:=if(b0h l i).kids.length=from_+params.length then d4z u un l i from_ params else true
theorem c1C{u:List Un}(hT:CkT u)(ub:List Us)(pre:List VObj){un i:Nat}{l:List Rw}(hl:(b0f u)[un]? = some l)(hi:i<l.length)(fr:Nat)(hfr:fr≤1)(s:Sg) :
  b5R u ub pre 149 [.agg [.int .i64 un,.int .i64 i],.int .i64 fr,.agg s.enc] (.bool (f3r u un l i fr s.params)):=by
 intro kn sg ab z a K hm hK;have hg:=hT.gram l (h0j hl);have hkb:=(hg.ok.kids i hi).1;refine b0q.tidyCk ?_;refine b0y (fn:=Tryz.f149) Tryz.func149 rfl (by rw[Tryz.ntmps149];simp) ?_;simp -implicitDefEqProofs only[go_sem,Tryz.f149,ck4,b0d,b0a,b0c,b0b,g9Y,g9Z,h0a,Sg.enc];refine b0B.callsS (b5z u (b0f u) ub pre.length hl hi) (by simp -implicitDefEqProofs only[go_sem]) ?_;have hks:=hg.kid i hi;simp -implicitDefEqProofs only[go_sem,b0d,b0a,b0c,b0b,g9Y,g9Z,h0a];intro _ _ _ _;have hwr:IntKind.i64.wrap (((b0h l i).kids.length:Int) - fr)=((b0h l i).kids.length:Int) - fr:=b1M (by omega) (by omega);rw[hwr,f3r]at *;refine⟨fun hne=>?_,fun heq _ _=>?_⟩
 ·have hne':¬ ((b0h l i).kids.length:Int) - fr=s.params.length:=by simpa using hne
  rw[if_neg (by omega)]at hK;exact⟨kn,sg,ab,_,[],rfl,by simp,hK _ _ _ hm⟩
 ·have heq':((b0h l i).kids.length:Int) - fr=s.params.length:=by simpa using heq
  rw[if_pos (by omega)]at hK;refine b0l (β:=KnM×SgM×AbM) s.params (fun q b=>⟨[(27,.int .i64 q.length),(26,.int .i64 s.params.length),(25,sl 9 (s.params.map b0n)),(5,.ptr (pre.length+(z.length+1+1+1+1)) 0),(0,.fptr (ckF u (b0f u) ub pre.length)),(2,.int .i64 fr)],
    pre++ck4 (b2v u) b.1 b.2.1 b.2.2 (z++[.cells [.int .i64 un,.int .i64 i],.cells [sl 9 (s.params.map b0n),.str s.result]]),a⟩)
   (fun q r b=>Mems u b.1 b.2.1 b.2.2∧d4z u un l i fr s.params=d4z u un l i (fr+q.length) r) (kn,sg,ab) ?_ ⟨hm,rfl⟩ ?_ ?_
  ·simp -implicitDefEqProofs only[go_sem,ck4];exact⟨rfl,by omega⟩
  ·rintro⟨kn1,sg1,ab1⟩ ⟨hm1,he⟩;simp -implicitDefEqProofs only[go_sem,ck4,b0d,b0a,b0c,b0b,g9Y,g9Z,h0a];rw[he]at hK;exact⟨kn1,sg1,ab1,_,[],rfl,by simp,hK _ _ _ hm1⟩
  ·rintro q w r ⟨kn1,sg1,ab1⟩ hx ⟨hm1,he⟩;simp only at hm1 ⊢;have hpl:s.params.length=q.length+1+r.length:=by rw[hx];simp;omega
   have hgx:(s.params.map b0n).getD (q.length:Int).toNat []=b0n w:=by rw[hx];simp[h0c]
   have hlt:((q.length:Int)<s.params.length)=True:=by simp;omega
   have hw:IntKind.i64.wrap (↑q.length+1)=↑(q.length+1):=b0g (by omega);have hjl:fr+q.length<(b0h l i).kids.length:=by omega
   have hkd:=hks _ hjl;have hwk:IntKind.i64.wrap ((fr:Int)+q.length)=((fr+q.length:Nat):Int):=by rw[b1M (by omega) (by omega)];omega
   rw[d4z]at he;simp -implicitDefEqProofs only[go_sem,hgx,hlt,b0n,ck4,b0d,b0a,b0c,b0b,g9Y,g9Z,h0a,hwk];refine b0B.callsS (d4g u (b0f u) ub pre.length hl hi hjl) (by simp -implicitDefEqProofs only[go_sem]) ?_;simp -implicitDefEqProofs only[go_sem,b0d,b0a,b0c,b0b,g9Y,g9Z,h0a];refine Tof hT ub pre (k:=((un:Int),((b1c l i (fr+q.length):Nat):Int))) ⟨un,_,l,rfl,hl,hkd.2.1⟩ kn1 sg1 ab1 _ _ _ hm1 ?_;intro kn2 sg2 ab2 hm2;simp -implicitDefEqProofs only[go_sem,ck4,b0d,b0a,b0c,b0b,g9Y,g9Z,h0a];refine b4S hT.toCkW ub pre _ w kn2 sg2 ab2 _ _ _ hm2 ?_;intro kn3 sg3 ab3 hm3;simp -implicitDefEqProofs only[go_sem,ck4,b0d,b0a,b0c,b0b,g9Y,g9Z,h0a];cases hf:b4R u (tyS u ((un:Int),((b1c l i (fr+q.length):Nat):Int))) w with
   | true =>
    rw[hf,if_pos rfl]at he;exact⟨fun h=>(by cases h),fun _=>⟨(kn3,sg3,ab3),⟨hm3,by rw[he,h1s]⟩,hw,⟨rfl,rfl,rfl⟩,by omega⟩⟩
   | false =>
    rw[hf,if_neg (by simp)]at he;rw[he]at hK;exact⟨fun _=>⟨kn3,sg3,ab3,_,[],rfl,by simp,hK _ _ _ hm3⟩,fun h=>(by cases h)⟩
def plT(s:ByteArray):Bool:=decide (s=⟨#[]⟩) || (decide (s=tI) || decide (s=tB))
theorem c7H(s:ByteArray):b0s env 188 [.str s] (.bool (plT s)):=by
 refine b0i (fn:=Tryz.f188) Tryz.func188 rfl (by rw[Tryz.ntmps188];simp) rfl rfl ?_;simp -implicitDefEqProofs only[go_sem,Tryz.f188,plT,tI,tB];by_cases h1:s=⟨#[]⟩
 ·simp[h1]
 by_cases h2:s=⟨#[105,110,116]⟩
 ·simp[h1,h2]
 simp[h1,h2];rfl
def c5i(u:List Un)(tx a b:ByteArray):Bool :=
 if tx=⟨#[61,61]⟩then !plT a || (!plT b || (!decide (a=⟨#[]⟩) && (!decide (b=⟨#[]⟩) && !decide (a=b))))
 else if tx=⟨#[38]⟩∨tx=⟨#[124]⟩then !b4R u a tB || !b4R u b tB
 else !b4R u a tI || !b4R u b tI
def f4D(u:List Un)(un:Nat)(l:List Rw)(i:Nat):Bool:=c5i u (b0h l i).text (tyS u ((un:Int),((b1c l i 0:Nat):Int))) (tyS u ((un:Int),((b1c l i 1:Nat):Int)))
def f4Z:Wk := .one 0 (.one 1 (.one 2 (.one 3 (.one 5 (.one 6 (.br 4 (.one 7 (.one 8 (.one 9 (.one 10 (.one 11 (.stop)))))) (.br 7 (.one 4 (.one 8 (.one 9 (.one 10 (.one 11 (.stop)))))) (.stop))))))))
theorem d2k{u:List Un}(hT:CkT u)(ub:List Us)(pre:List VObj){un i:Nat}{l:List Rw}(hl:(b0f u)[un]? = some l)(hi:i<l.length)(h24:(b0h l i).kind=24) :
  b5R u ub pre 152 [.agg [.int .i64 un,.int .i64 i]] (.bool (f4D u un l i)):=by
 intro kn sg ab z a K hm hK;rw[f4D]at hK;have hg:=hT.gram l (h0j hl);have hle:=hg.least i hi;have hk2:2≤(b0h l i).kids.length:=by rw[h24]at hle;simp[b0S]at hle;omega
 have hkd0:=hg.kid i hi 0 (by omega);have hkd1:=hg.kid i hi 1 (by omega);refine b0q.tidyCk ?_;refine b0y (fn:=Tryz.f152) Tryz.func152 rfl (by rw[Tryz.ntmps152];simp) ?_;simp -implicitDefEqProofs only[go_sem,Tryz.f152,ck4,b0d,b0a,b0c,b0b,g9Y,g9Z,h0a];have hJ0:=d4g u (b0f u) ub pre.length (k:=0) hl hi (by omega);have hJ1:=d4g u (b0f u) ub pre.length (k:=1) hl hi (by omega);have hO0:=Tof hT ub pre (k:=((un:Int),((b1c l i 0:Nat):Int))) ⟨un,_,l,rfl,hl,hkd0.2.1⟩;have hO1:=Tof hT ub pre (k:=((un:Int),((b1c l i 1:Nat):Int))) ⟨un,_,l,rfl,hl,hkd1.2.1⟩;refine b1f (cs:=[4,9]) f4Z b4c (by kernel_rfl) ?_;simp -implicitDefEqProofs only[go_sem,b0d,b0a,b0c,b0b,g9Y,g9Z,h0a,f4Z];refine b5b hJ0 (by simp -implicitDefEqProofs only[go_sem];rfl) ?_;simp -implicitDefEqProofs only[go_sem,b0d,b0a,b0c,b0b,g9Y,g9Z,h0a];refine⟨?_,?_⟩
 ·refine hO0 kn sg ab _ _ _ hm ?_;intro kn1 sg1 ab1 hm1;simp -implicitDefEqProofs only[go_sem,ck4,b0d,b0a,b0c,b0b,g9Y,g9Z,h0a];refine b5b hJ1 (by simp -implicitDefEqProofs only[go_sem];rfl) ?_;simp -implicitDefEqProofs only[go_sem,b0d,b0a,b0c,b0b,g9Y,g9Z,h0a];refine hO1 kn1 sg1 ab1 _ _ _ hm1 ?_;intro kn2 sg2 ab2 hm2;simp -implicitDefEqProofs only[go_sem,ck4,b0d,b0a,b0c,b0b,g9Y,g9Z,h0a];generalize tyS u ((un:Int),((b1c l i 0:Nat):Int))=A at hK ⊢;generalize tyS u ((un:Int),((b1c l i 1:Nat):Int))=B at hK ⊢;have hfin:∀ (q:Bool) kn' sg' ab',Mems u kn' sg' ab'→c5i u (b0h l i).text A B=q→K (.bool q) (pre++ck4 (b2v u) kn' sg' ab' z) a:=fun q kn' sg' ab' hm' h=>h ▸ hK kn' sg' ab' hm'
  refine b0B.callsS (b5z u (b0f u) ub pre.length hl hi) (by simp -implicitDefEqProofs only[go_sem]) ?_;by_cases t1:(b0h l i).text=⟨#[61,61]⟩
  ·have hop:c5i u (b0h l i).text A B=(!plT A || (!plT B || (!decide (A=⟨#[]⟩) && (!decide (B=⟨#[]⟩) && !decide (A=B))))):=by rw[c5i,if_pos t1]
   simp -implicitDefEqProofs only[go_sem,b0d,b0a,b0c,b0b,g9Y,g9Z,h0a,t1];refine(c7H A).calls (by simp -implicitDefEqProofs only[go_sem]) ?_;simp -implicitDefEqProofs only[go_sem,b0d,b0a,b0c,b0b,g9Y,g9Z,h0a];cases hpa:plT A with
   | false =>
    rw[hpa]at hop;simp -implicitDefEqProofs only[go_sem];exact⟨kn2,sg2,ab2,_,[],rfl,by simp,hfin _ _ _ _ hm2 hop⟩
   | true =>
    rw[hpa,Bool.not_true,h0Y]at hop;simp -implicitDefEqProofs only[go_sem];refine(c7H B).calls (by simp -implicitDefEqProofs only[go_sem]) ?_;simp -implicitDefEqProofs only[go_sem,b0d,b0a,b0c,b0b,g9Y,g9Z,h0a];cases hpb:plT B with
    | false =>
     rw[hpb]at hop;simp -implicitDefEqProofs only[go_sem];exact⟨kn2,sg2,ab2,_,[],rfl,by simp,hfin _ _ _ _ hm2 hop⟩
    | true =>
     rw[hpb,Bool.not_true,h0Y]at hop;simp -implicitDefEqProofs only[go_sem];refine⟨fun ha=>⟨fun hb=>?_,fun hb=>?_⟩,fun ha=>?_⟩
     ·rw[ha,hb,h0S,h0S]at hop;exact⟨kn2,sg2,ab2,_,[],rfl,by simp,hfin _ _ _ _ hm2 hop⟩
     ·rw[hb,h0U,Bool.and_false]at hop;exact⟨kn2,sg2,ab2,_,[],rfl,by simp,hfin _ _ _ _ hm2 hop⟩
     ·rw[ha,h0U]at hop;exact⟨kn2,sg2,ab2,_,[],rfl,by simp,hfin _ _ _ _ hm2 hop⟩
  ·by_cases t2:(b0h l i).text=⟨#[38]⟩∨(b0h l i).text=⟨#[124]⟩
   ·have hop:c5i u (b0h l i).text A B=(!b4R u A tB || !b4R u B tB):=by rw[c5i,if_neg t1,if_pos t2]
    rcases t2 with t2 | t2
    rotate_left
    have hn38:¬ (b0h l i).text=⟨#[38]⟩:=by rw[t2];decide
    rotate_left
    ·simp -implicitDefEqProofs only[go_sem,b0d,b0a,b0c,b0b,g9Y,g9Z,h0a,t1,eq_true t2];refine b4S hT.toCkW ub pre A tB kn2 sg2 ab2 _ _ _ hm2 ?_;intro kn3 sg3 ab3 hm3;simp -implicitDefEqProofs only[go_sem,ck4,b0d,b0a,b0c,b0b,g9Y,g9Z,h0a];cases hfa:b4R u A tB with
     | false =>
      rw[hfa]at hop;simp -implicitDefEqProofs only[go_sem];exact⟨kn3,sg3,ab3,_,[],rfl,by simp,hfin _ _ _ _ hm3 hop⟩
     | true =>
      rw[hfa,Bool.not_true,h0Y]at hop;simp -implicitDefEqProofs only[go_sem];refine b4S hT.toCkW ub pre B tB kn3 sg3 ab3 _ _ _ hm3 ?_;intro kn4 sg4 ab4 hm4;simp -implicitDefEqProofs only[go_sem,ck4,b0d,b0a,b0c,b0b,g9Y,g9Z,h0a];exact⟨kn4,sg4,ab4,_,[],rfl,by simp,hfin _ _ _ _ hm4 hop⟩
    ·simp -implicitDefEqProofs only[go_sem,b0d,b0a,b0c,b0b,g9Y,g9Z,h0a,t1,hn38,eq_true t2];refine b4S hT.toCkW ub pre A tB kn2 sg2 ab2 _ _ _ hm2 ?_;intro kn3 sg3 ab3 hm3;simp -implicitDefEqProofs only[go_sem,ck4,b0d,b0a,b0c,b0b,g9Y,g9Z,h0a];cases hfa:b4R u A tB with
     | false =>
      rw[hfa]at hop;simp -implicitDefEqProofs only[go_sem];exact⟨kn3,sg3,ab3,_,[],rfl,by simp,hfin _ _ _ _ hm3 hop⟩
     | true =>
      rw[hfa,Bool.not_true,h0Y]at hop;simp -implicitDefEqProofs only[go_sem];refine b4S hT.toCkW ub pre B tB kn3 sg3 ab3 _ _ _ hm3 ?_;intro kn4 sg4 ab4 hm4;simp -implicitDefEqProofs only[go_sem,ck4,b0d,b0a,b0c,b0b,g9Y,g9Z,h0a];exact⟨kn4,sg4,ab4,_,[],rfl,by simp,hfin _ _ _ _ hm4 hop⟩
   ·have hop:c5i u (b0h l i).text A B=(!b4R u A tI || !b4R u B tI):=by rw[c5i,if_neg t1,if_neg t2]
    rw[not_or]at t2;simp -implicitDefEqProofs only[go_sem,b0d,b0a,b0c,b0b,g9Y,g9Z,h0a,t1,t2.1,t2.2];refine b4S hT.toCkW ub pre A tI kn2 sg2 ab2 _ _ _ hm2 ?_;intro kn3 sg3 ab3 hm3;simp -implicitDefEqProofs only[go_sem,ck4,b0d,b0a,b0c,b0b,g9Y,g9Z,h0a];cases hfa:b4R u A tI with
    | false =>
     rw[hfa]at hop;simp -implicitDefEqProofs only[go_sem];exact⟨kn3,sg3,ab3,_,[],rfl,by simp,hfin _ _ _ _ hm3 hop⟩
    | true =>
     rw[hfa,Bool.not_true,h0Y]at hop;simp -implicitDefEqProofs only[go_sem];refine b4S hT.toCkW ub pre B tI kn3 sg3 ab3 _ _ _ hm3 ?_;intro kn4 sg4 ab4 hm4;simp -implicitDefEqProofs only[go_sem,ck4,b0d,b0a,b0c,b0b,g9Y,g9Z,h0a];exact⟨kn4,sg4,ab4,_,[],rfl,by simp,hfin _ _ _ _ hm4 hop⟩
 ·refine hO0 kn sg ab _ _ _ hm ?_;intro kn1 sg1 ab1 hm1;simp -implicitDefEqProofs only[go_sem,ck4,b0d,b0a,b0c,b0b,g9Y,g9Z,h0a];refine b5b hJ1 (by simp -implicitDefEqProofs only[go_sem];rfl) ?_;simp -implicitDefEqProofs only[go_sem,b0d,b0a,b0c,b0b,g9Y,g9Z,h0a];refine hO1 kn1 sg1 ab1 _ _ _ hm1 ?_;intro kn2 sg2 ab2 hm2;simp -implicitDefEqProofs only[go_sem,ck4,b0d,b0a,b0c,b0b,g9Y,g9Z,h0a];generalize tyS u ((un:Int),((b1c l i 0:Nat):Int))=A at hK ⊢;generalize tyS u ((un:Int),((b1c l i 1:Nat):Int))=B at hK ⊢;have hfin:∀ (q:Bool) kn' sg' ab',Mems u kn' sg' ab'→c5i u (b0h l i).text A B=q→K (.bool q) (pre++ck4 (b2v u) kn' sg' ab' z) a:=fun q kn' sg' ab' hm' h=>h ▸ hK kn' sg' ab' hm'
  refine b0B.callsS (b5z u (b0f u) ub pre.length hl hi) (by simp -implicitDefEqProofs only[go_sem]) ?_;by_cases t1:(b0h l i).text=⟨#[61,61]⟩
  ·have hop:c5i u (b0h l i).text A B=(!plT A || (!plT B || (!decide (A=⟨#[]⟩) && (!decide (B=⟨#[]⟩) && !decide (A=B))))):=by rw[c5i,if_pos t1]
   simp -implicitDefEqProofs only[go_sem,b0d,b0a,b0c,b0b,g9Y,g9Z,h0a,t1];refine(c7H A).calls (by simp -implicitDefEqProofs only[go_sem]) ?_;simp -implicitDefEqProofs only[go_sem,b0d,b0a,b0c,b0b,g9Y,g9Z,h0a];cases hpa:plT A with
   | false =>
    rw[hpa]at hop;simp -implicitDefEqProofs only[go_sem];exact⟨kn2,sg2,ab2,_,[],rfl,by simp,hfin _ _ _ _ hm2 hop⟩
   | true =>
    rw[hpa,Bool.not_true,h0Y]at hop;simp -implicitDefEqProofs only[go_sem];refine(c7H B).calls (by simp -implicitDefEqProofs only[go_sem]) ?_;simp -implicitDefEqProofs only[go_sem,b0d,b0a,b0c,b0b,g9Y,g9Z,h0a];cases hpb:plT B with
    | false =>
     rw[hpb]at hop;simp -implicitDefEqProofs only[go_sem];exact⟨kn2,sg2,ab2,_,[],rfl,by simp,hfin _ _ _ _ hm2 hop⟩
    | true =>
     rw[hpb,Bool.not_true,h0Y]at hop;simp -implicitDefEqProofs only[go_sem];refine⟨fun ha=>⟨fun hb=>?_,fun hb=>?_⟩,fun ha=>?_⟩
     ·rw[ha,hb,h0S,h0S]at hop;exact⟨kn2,sg2,ab2,_,[],rfl,by simp,hfin _ _ _ _ hm2 hop⟩
     ·rw[hb,h0U,Bool.and_false]at hop;exact⟨kn2,sg2,ab2,_,[],rfl,by simp,hfin _ _ _ _ hm2 hop⟩
     ·rw[ha,h0U]at hop;exact⟨kn2,sg2,ab2,_,[],rfl,by simp,hfin _ _ _ _ hm2 hop⟩
  ·by_cases t2:(b0h l i).text=⟨#[38]⟩∨(b0h l i).text=⟨#[124]⟩
   ·have hop:c5i u (b0h l i).text A B=(!b4R u A tB || !b4R u B tB):=by rw[c5i,if_neg t1,if_pos t2]
    rcases t2 with t2 | t2
    rotate_left
    have hn38:¬ (b0h l i).text=⟨#[38]⟩:=by rw[t2];decide
    rotate_left
    ·simp -implicitDefEqProofs only[go_sem,b0d,b0a,b0c,b0b,g9Y,g9Z,h0a,t1,eq_true t2];refine b4S hT.toCkW ub pre A tB kn2 sg2 ab2 _ _ _ hm2 ?_;intro kn3 sg3 ab3 hm3;simp -implicitDefEqProofs only[go_sem,ck4,b0d,b0a,b0c,b0b,g9Y,g9Z,h0a];cases hfa:b4R u A tB with
     | false =>
      rw[hfa]at hop;simp -implicitDefEqProofs only[go_sem];exact⟨kn3,sg3,ab3,_,[],rfl,by simp,hfin _ _ _ _ hm3 hop⟩
     | true =>
      rw[hfa,Bool.not_true,h0Y]at hop;simp -implicitDefEqProofs only[go_sem];refine b4S hT.toCkW ub pre B tB kn3 sg3 ab3 _ _ _ hm3 ?_;intro kn4 sg4 ab4 hm4;simp -implicitDefEqProofs only[go_sem,ck4,b0d,b0a,b0c,b0b,g9Y,g9Z,h0a];exact⟨kn4,sg4,ab4,_,[],rfl,by simp,hfin _ _ _ _ hm4 hop⟩
    ·simp -implicitDefEqProofs only[go_sem,b0d,b0a,b0c,b0b,g9Y,g9Z,h0a,t1,hn38,eq_true t2];refine b4S hT.toCkW ub pre A tB kn2 sg2 ab2 _ _ _ hm2 ?_;intro kn3 sg3 ab3 hm3;simp -implicitDefEqProofs only[go_sem,ck4,b0d,b0a,b0c,b0b,g9Y,g9Z,h0a];cases hfa:b4R u A tB with
     | false =>
      rw[hfa]at hop;simp -implicitDefEqProofs only[go_sem];exact⟨kn3,sg3,ab3,_,[],rfl,by simp,hfin _ _ _ _ hm3 hop⟩
     | true =>
      rw[hfa,Bool.not_true,h0Y]at hop;simp -implicitDefEqProofs only[go_sem];refine b4S hT.toCkW ub pre B tB kn3 sg3 ab3 _ _ _ hm3 ?_;intro kn4 sg4 ab4 hm4;simp -implicitDefEqProofs only[go_sem,ck4,b0d,b0a,b0c,b0b,g9Y,g9Z,h0a];exact⟨kn4,sg4,ab4,_,[],rfl,by simp,hfin _ _ _ _ hm4 hop⟩
   ·have hop:c5i u (b0h l i).text A B=(!b4R u A tI || !b4R u B tI):=by rw[c5i,if_neg t1,if_neg t2]
    rw[not_or]at t2;simp -implicitDefEqProofs only[go_sem,b0d,b0a,b0c,b0b,g9Y,g9Z,h0a,t1,t2.1,t2.2];refine b4S hT.toCkW ub pre A tI kn2 sg2 ab2 _ _ _ hm2 ?_;intro kn3 sg3 ab3 hm3;simp -implicitDefEqProofs only[go_sem,ck4,b0d,b0a,b0c,b0b,g9Y,g9Z,h0a];cases hfa:b4R u A tI with
    | false =>
     rw[hfa]at hop;simp -implicitDefEqProofs only[go_sem];exact⟨kn3,sg3,ab3,_,[],rfl,by simp,hfin _ _ _ _ hm3 hop⟩
    | true =>
     rw[hfa,Bool.not_true,h0Y]at hop;simp -implicitDefEqProofs only[go_sem];refine b4S hT.toCkW ub pre B tI kn3 sg3 ab3 _ _ _ hm3 ?_;intro kn4 sg4 ab4 hm4;simp -implicitDefEqProofs only[go_sem,ck4,b0d,b0a,b0c,b0b,g9Y,g9Z,h0a];exact⟨kn4,sg4,ab4,_,[],rfl,by simp,hfin _ _ _ _ hm4 hop⟩
def wrS(u:List Un)(un:Nat)(l:List Rw)(i:Nat):Bool :=
 let k0:=tyS u ((un:Int),((b1c l i 0:Nat):Int))
 if(b0h l i).kind=2 then d7P u l i
 else if(b0h l i).kind=11 then(match b1t (b2v u) ((un:Int),(i:Int))with
  | some d=>if(rwK (b0f u) d).kind=9 then false else !decide (c9R (b0f u) (tyS u) d=⟨#[]⟩) && !b4R u k0 (c9R (b0f u) (tyS u) d)
  | none=>false)
 else if(b0h l i).kind=12 then(match b9d l i with
  | some f => !b4R u k0 (b2W l f).result
  | none=>false)
 else if(b0h l i).kind=13∨(b0h l i).kind=15 then !b4R u k0 tB
 else if(b0h l i).kind=20 then(match b1t (b2v u) ((un:Int),(i:Int))with
  | some d=>f3r u un l i 0 (b2W ((b0f u).getD d.1.toNat []) d.2.toNat).params
  | none=>false)
 else if(b0h l i).kind=21 then(if k0=⟨#[]⟩then false else match mtS u (rcT k0,(b0h l i).text)with
  | some m=>f3r u un l i 1 m.params
  | none=>true)
 else if(b0h l i).kind=24 then f4D u un l i
 else if(b0h l i).kind=25 then !b4R u k0 (if(b0h l i).text=⟨#[33]⟩then tB else tI)
 else false
def d4V:Wk := .one 0 (.one 1 (.one 2 (.one 3 (.one 4 (.one 5 (.one 6 (.one 8 (.br 7 (.one 9 (.one 10 (.one 11 (.one 12 (.one 13 (.one 14 (.one 15 (.stop)))))))) (.br 9 (.one 7 (.one 10 (.one 11 (.one 12 (.one 13 (.one 14 (.one 15 (.stop)))))))) (.stop))))))))))
def d4F:Wk := .one 0 (.one 1 (.one 2 (.one 3 (.one 4 (.one 5 (.one 6 (.one 7 (.one 8 (.one 9 (.stop))))))))))
theorem f4F{u:List Un}(hT:CkT u)(ub:List Us)(pre:List VObj){un i:Nat}{l:List Rw}(hl:(b0f u)[un]? = some l)(hi:i<l.length) :
  b5R u ub pre 94 [.agg [.int .i64 un,.int .i64 i]] (.bool (wrS u un l i)):=by
 intro kn sg ab z a K hm hK;simp only[wrS]at hK;have hvk:Val (b0f u) ((un:Int),(i:Int)):=⟨un,i,l,rfl,hl,hi⟩
 have hd19:=hT.d19 ((un:Int),(i:Int));have hd20:=hT.d20 ((un:Int),(i:Int));rw[b0R hl]at hd19 hd20;have hg:=hT.gram l (h0j hl);have hle:=hg.least i hi;have hkd:=hg.kid i hi;have hJ0:=fun h=>d4g u (b0f u) ub pre.length (k:=0) hl hi h
 have hO0:0<(b0h l i).kids.length→d9T u ub pre ((un:Int),((b1c l i 0:Nat):Int)):=fun h=>Tof hT ub pre ⟨un,_,l,rfl,hl,(hkd 0 h).2.1⟩
 refine b0q.tidyCk ?_;refine b0y (fn:=Tryz.f94) Tryz.func94 rfl (by rw[Tryz.ntmps94];simp) ?_;by_cases h2:(b0h l i).kind=2
 ·rw[if_pos h2]at hK;simp -implicitDefEqProofs only[go_sem,Tryz.f94,ck4,b0d,b0a,b0c,b0b,g9Y,g9Z,h0a];refine b0B.callsS (b5z u (b0f u) ub pre.length hl hi) (by simp -implicitDefEqProofs only[go_sem]) ?_;simp -implicitDefEqProofs only[go_sem,b0d,b0a,b0c,b0b,g9Y,g9Z,h0a,h2];refine c9h hT ub pre hl hi h2 kn sg ab _ _ _ hm ?_;intro kn1 sg1 ab1 hm1;simp -implicitDefEqProofs only[go_sem,ck4,b0d,b0a,b0c,b0b,g9Y,g9Z,h0a];exact⟨kn1,sg1,ab1,_,[],rfl,by simp,hK _ _ _ hm1⟩
 rw[if_neg h2]at hK;by_cases h11:(b0h l i).kind=11
 ·rw[if_pos h11]at hK;have hk1:0<(b0h l i).kids.length:=by rw[h11]at hle;simp[b0S]at hle;omega
  simp -implicitDefEqProofs only[go_sem,Tryz.f94,ck4,b0d,b0a,b0c,b0b,g9Y,g9Z,h0a];refine b0B.callsS (b5z u (b0f u) ub pre.length hl hi) (by simp -implicitDefEqProofs only[go_sem]) ?_;simp -implicitDefEqProofs only[go_sem,b0d,b0a,b0c,b0b,g9Y,g9Z,h0a,h11];refine sdq ?_;cases hd:b1t (b2v u) ((un:Int),(i:Int))with
  | none =>
   rw[hd]at hK;simp -implicitDefEqProofs only[go_sem,b0d,b0a,b0c,b0b,g9Y,g9Z,h0a,b1S,b6D,hd,h1r,h1f,h0y];exact⟨kn,sg,ab,_,[],rfl,by simp,hK _ _ _ hm⟩
  | some d =>
   obtain⟨hdv,hdk⟩:=hd19 d hvk (.inr h11) hd;rw[hd]at hK;simp -implicitDefEqProofs only[go_sem,b0d,b0a,b0c,b0b,g9Y,g9Z,h0a,b1S,b6D,hd,h0D,h0A,h0L,b6G];obtain⟨un',i',l',rfl,hl',hi'⟩:=id hdv;simp only at hK;rw[b0R hl']at hdk hK;refine b0B.callsS (b5z u (b0f u) ub pre.length hl' hi') (by simp -implicitDefEqProofs only[go_sem]) ?_;by_cases h9:(b0h l' i').kind=9
   ·simp only[h9,if_true]at hK;simp -implicitDefEqProofs only[go_sem,b0d,b0a,b0c,b0b,g9Y,g9Z,h0a,h9];exact⟨kn,sg,ab,_,[],rfl,by simp,hK _ _ _ hm⟩
   ·simp only[if_neg h9]at hK;simp -implicitDefEqProofs only[go_sem,b0d,b0a,b0c,b0b,g9Y,g9Z,h0a,h9];refine c3R hT ub pre hdv (by rw[b0R hl'];exact hdk) (fun h10=>?_) kn sg ab _ _ _ hm ?_
    ·rw[b3B hl'];have hg':=hT.gram l' (h0j hl');have hle':=hg'.least i' hi';rw[b0R hl']at h10;exact Tof hT ub pre ⟨un',_,l',rfl,hl',(hg'.kid i' hi' 0 (by rw[h10]at hle';simp[b0S]at hle';omega)).2.1⟩
    intro kn1 sg1 ab1 hm1;generalize c9R (b0f u) (tyS u) ((un':Int),(i':Int))=wt at hK ⊢;simp -implicitDefEqProofs only[go_sem,ck4,b0d,b0a,b0c,b0b,g9Y,g9Z,h0a];refine⟨fun hne=>?_,fun hne=>?_⟩
    ·rw[hne,h0S]at hK;refine b0B.callsS (hJ0 hk1) (by simp -implicitDefEqProofs only[go_sem];rfl) ?_;simp -implicitDefEqProofs only[go_sem,b0d,b0a,b0c,b0b,g9Y,g9Z,h0a];refine hO0 hk1 kn1 sg1 ab1 _ _ _ hm1 ?_;intro kn2 sg2 ab2 hm2;simp -implicitDefEqProofs only[go_sem,ck4,b0d,b0a,b0c,b0b,g9Y,g9Z,h0a];refine b4S hT.toCkW ub pre _ wt kn2 sg2 ab2 _ _ _ hm2 ?_;intro kn3 sg3 ab3 hm3;simp -implicitDefEqProofs only[go_sem,ck4,b0d,b0a,b0c,b0b,g9Y,g9Z,h0a];exact⟨kn3,sg3,ab3,_,[],rfl,by simp,hK _ _ _ hm3⟩
    ·rw[hne,h0U]at hK;exact⟨kn1,sg1,ab1,_,[],rfl,by simp,hK _ _ _ hm1⟩
 rw[if_neg h11]at hK;by_cases h12:(b0h l i).kind=12
 ·rw[if_pos h12]at hK;have hk1:0<(b0h l i).kids.length:=by rw[h12]at hle;simp[b0S]at hle;omega
  simp -implicitDefEqProofs only[go_sem,Tryz.f94,ck4,b0d,b0a,b0c,b0b,g9Y,g9Z,h0a];refine b0B.callsS (b5z u (b0f u) ub pre.length hl hi) (by simp -implicitDefEqProofs only[go_sem]) ?_;simp -implicitDefEqProofs only[go_sem,b0d,b0a,b0c,b0b,g9Y,g9Z,h0a,h12];have hJ:=b9S u (b0f u) ub pre.length hl hi hg.ok;cases hfr:b9d l i with
  | none =>
   rw[hfr]at hJ hK;refine b0B.callsS hJ (by simp -implicitDefEqProofs only[go_sem]) ?_;simp -implicitDefEqProofs only[go_sem,b0d,b0a,b0c,b0b,g9Y,g9Z,h0a,h0y];refine b1f (cs:=[7,12]) d4V b4c (by kernel_rfl) ?_;simp -implicitDefEqProofs only[go_sem,b0d,b0a,b0c,b0b,g9Y,g9Z,h0a,d4V];exact⟨kn,sg,ab,_,[],rfl,by simp,hK _ _ _ hm⟩
  | some p =>
   obtain⟨hp1,hp2,hp3⟩:=b5N hg hi hfr;rw[hfr]at hJ hK;refine b0B.callsS hJ (by simp -implicitDefEqProofs only[go_sem]) ?_;simp -implicitDefEqProofs only[go_sem,b0d,b0a,b0c,b0b,g9Y,g9Z,h0a,h0L,h0A];refine b1f (cs:=[7,12]) d4V b4c (by kernel_rfl) ?_;simp -implicitDefEqProofs only[go_sem,b0d,b0a,b0c,b0b,g9Y,g9Z,h0a,d4V];refine b5b (hJ0 hk1) (by simp -implicitDefEqProofs only[go_sem];rfl) ?_;simp -implicitDefEqProofs only[go_sem,b0d,b0a,b0c,b0b,g9Y,g9Z,h0a]
   repeat' apply And.intro
   all_goals(
    refine hO0 hk1 kn sg ab _ _ _ hm ?_;intro kn1 sg1 ab1 hm1;simp -implicitDefEqProofs only[go_sem,ck4,b0d,b0a,b0c,b0b,g9Y,g9Z,h0a])
   all_goals(repeat' apply And.intro)
   all_goals(
    refine b5b (d3F u (b0f u) ub pre.length hl (hg.sign p hp1 hp2)) (by simp -implicitDefEqProofs only[go_sem]) ?_;simp -implicitDefEqProofs only[go_sem,ck4,b0d,b0a,b0c,b0b,g9Y,g9Z,h0a,Sg.enc];refine b4S hT.toCkW ub pre _ (b2W l p).result kn1 sg1 ab1 _ _ _ hm1 ?_;intro kn2 sg2 ab2 hm2;simp -implicitDefEqProofs only[go_sem,ck4,b0d,b0a,b0c,b0b,g9Y,g9Z,h0a];exact⟨kn2,sg2,ab2,_,[],rfl,by simp,hK _ _ _ hm2⟩)
 rw[if_neg h12]at hK;by_cases h13:(b0h l i).kind=13∨(b0h l i).kind=15
 ·rw[if_pos h13]at hK;have hk1:0<(b0h l i).kids.length:=by rcases h13 with h13 | h13 <;> (rw[h13]at hle;simp[b0S]at hle;omega)
  rcases h13 with h13 | h13
  ·simp -implicitDefEqProofs only[go_sem,Tryz.f94,ck4,b0d,b0a,b0c,b0b,g9Y,g9Z,h0a];refine b0B.callsS (b5z u (b0f u) ub pre.length hl hi) (by simp -implicitDefEqProofs only[go_sem]) ?_;simp -implicitDefEqProofs only[go_sem,b0d,b0a,b0c,b0b,g9Y,g9Z,h0a,h13];refine b0B.callsS (hJ0 hk1) (by simp -implicitDefEqProofs only[go_sem];rfl) ?_;simp -implicitDefEqProofs only[go_sem,b0d,b0a,b0c,b0b,g9Y,g9Z,h0a];refine hO0 hk1 kn sg ab _ _ _ hm ?_;intro kn1 sg1 ab1 hm1;simp -implicitDefEqProofs only[go_sem,ck4,b0d,b0a,b0c,b0b,g9Y,g9Z,h0a];refine b4S hT.toCkW ub pre _ tB kn1 sg1 ab1 _ _ _ hm1 ?_;intro kn2 sg2 ab2 hm2;simp -implicitDefEqProofs only[go_sem,ck4,b0d,b0a,b0c,b0b,g9Y,g9Z,h0a];exact⟨kn2,sg2,ab2,_,[],rfl,by simp,hK _ _ _ hm2⟩
  ·simp -implicitDefEqProofs only[go_sem,Tryz.f94,ck4,b0d,b0a,b0c,b0b,g9Y,g9Z,h0a];refine b0B.callsS (b5z u (b0f u) ub pre.length hl hi) (by simp -implicitDefEqProofs only[go_sem]) ?_;simp -implicitDefEqProofs only[go_sem,b0d,b0a,b0c,b0b,g9Y,g9Z,h0a,h13];refine b0B.callsS (hJ0 hk1) (by simp -implicitDefEqProofs only[go_sem];rfl) ?_;simp -implicitDefEqProofs only[go_sem,b0d,b0a,b0c,b0b,g9Y,g9Z,h0a];refine hO0 hk1 kn sg ab _ _ _ hm ?_;intro kn1 sg1 ab1 hm1;simp -implicitDefEqProofs only[go_sem,ck4,b0d,b0a,b0c,b0b,g9Y,g9Z,h0a];refine b4S hT.toCkW ub pre _ tB kn1 sg1 ab1 _ _ _ hm1 ?_;intro kn2 sg2 ab2 hm2;simp -implicitDefEqProofs only[go_sem,ck4,b0d,b0a,b0c,b0b,g9Y,g9Z,h0a];exact⟨kn2,sg2,ab2,_,[],rfl,by simp,hK _ _ _ hm2⟩
 rw[if_neg h13]at hK;rw[not_or]at h13;by_cases h20:(b0h l i).kind=20
 ·rw[if_pos h20]at hK;simp -implicitDefEqProofs only[go_sem,Tryz.f94,ck4,b0d,b0a,b0c,b0b,g9Y,g9Z,h0a];refine b0B.callsS (b5z u (b0f u) ub pre.length hl hi) (by simp -implicitDefEqProofs only[go_sem]) ?_;simp -implicitDefEqProofs only[go_sem,b0d,b0a,b0c,b0b,g9Y,g9Z,h0a,h20];refine sdq ?_;cases hd:b1t (b2v u) ((un:Int),(i:Int))with
  | none =>
   rw[hd]at hK;simp -implicitDefEqProofs only[go_sem,b0d,b0a,b0c,b0b,g9Y,g9Z,h0a,b1S,b6D,hd,h1r,h1f,h0y];refine b1f (cs:=[7]) d4F b4c (by kernel_rfl) ?_;simp -implicitDefEqProofs only[go_sem,b0d,b0a,b0c,b0b,g9Y,g9Z,h0a,d4F];exact⟨kn,sg,ab,_,[],rfl,by simp,hK _ _ _ hm⟩
  | some d =>
   obtain⟨⟨un',i',l',rfl,hl',hi'⟩,hdk⟩:=hd20 d hvk h20 hd;rw[b0R hl']at hdk;have hso:=(hT.gram l' (h0j hl')).sign i' hi' hdk;rw[hd]at hK;simp only[b5Z hl',h0n]at hK;simp -implicitDefEqProofs only[go_sem,b0d,b0a,b0c,b0b,g9Y,g9Z,h0a,b1S,b6D,hd,h0D,h0A,h0L,b6G];have hlx:(b0f u).getD un' []=l':=by rw[h0c,hl'];rfl
   rw[hlx]at hK;refine b1f (cs:=[7]) d4F b4c (by kernel_rfl) ?_;simp -implicitDefEqProofs only[go_sem,b0d,b0a,b0c,b0b,g9Y,g9Z,h0a,d4F];refine b5b (d3F u (b0f u) ub pre.length hl' hso) (by simp -implicitDefEqProofs only[go_sem]) ?_;simp -implicitDefEqProofs only[go_sem,b0d,b0a,b0c,b0b,g9Y,g9Z,h0a];refine c1C hT ub pre hl hi 0 (by omega) (b2W l' i') kn sg ab _ _ _ hm ?_;intro kn1 sg1 ab1 hm1;simp -implicitDefEqProofs only[go_sem,ck4,b0d,b0a,b0c,b0b,g9Y,g9Z,h0a];exact⟨kn1,sg1,ab1,_,[],rfl,by simp,hK _ _ _ hm1⟩
 rw[if_neg h20]at hK;by_cases h21:(b0h l i).kind=21
 ·rw[if_pos h21]at hK;have hk1:0<(b0h l i).kids.length:=by rw[h21]at hle;simp[b0S]at hle;omega
  simp -implicitDefEqProofs only[go_sem,Tryz.f94,ck4,b0d,b0a,b0c,b0b,g9Y,g9Z,h0a];refine b0B.callsS (b5z u (b0f u) ub pre.length hl hi) (by simp -implicitDefEqProofs only[go_sem]) ?_;simp -implicitDefEqProofs only[go_sem,b0d,b0a,b0c,b0b,g9Y,g9Z,h0a,h21];refine b0B.callsS (hJ0 hk1) (by simp -implicitDefEqProofs only[go_sem];rfl) ?_;simp -implicitDefEqProofs only[go_sem,b0d,b0a,b0c,b0b,g9Y,g9Z,h0a];refine hO0 hk1 kn sg ab _ _ _ hm ?_;intro kn1 sg1 ab1 hm1;have hRc:=c4X ub pre hl hi hk1 (hO0 hk1);generalize hA:tyS u ((un:Int),((b1c l i 0:Nat):Int))=A at hK hRc ⊢;simp -implicitDefEqProofs only[go_sem,ck4,b0d,b0a,b0c,b0b,g9Y,g9Z,h0a];refine⟨fun h0=>?_,fun h0=>?_⟩
  ·rw[if_pos h0]at hK;exact⟨kn1,sg1,ab1,_,[],rfl,by simp,hK _ _ _ hm1⟩
  ·rw[if_neg h0]at hK;cases hms:mtS u (rcT A,(b0h l i).text)with
   | none =>
    rw[hms]at hK;refine b1f (cs:=[3,6]) b8w b4c (by kernel_rfl) ?_;simp -implicitDefEqProofs only[go_sem,b0d,b0a,b0c,b0b,g9Y,g9Z,h0a,b8w]
    repeat' apply And.intro
    all_goals(
     refine hRc kn1 sg1 ab1 _ _ _ hm1 ?_;intro kn2 sg2 ab2 hm2;simp -implicitDefEqProofs only[go_sem,ck4,b0d,b0a,b0c,b0b,g9Y,g9Z,h0a])
    all_goals(repeat' apply And.intro)
    all_goals(
     refine b7T u hT.toCkW ub pre (b2v u) kn2 sg2 ab2 _ _ _ _ hm2.sg ?_;intro sg3 hsg3;rw[hms];simp -implicitDefEqProofs only[go_sem,ck4,b0d,b0a,b0c,b0b,g9Y,g9Z,h0a,b6A,Sg.enc])
    all_goals exact⟨kn2,sg3,ab2,_,[],rfl,by simp,hK _ _ _ ⟨hm2.kn,hsg3,hm2.ab⟩⟩
   | some s =>
    rw[hms]at hK;refine b1f (cs:=[3,6]) b8w b4c (by kernel_rfl) ?_;simp -implicitDefEqProofs only[go_sem,b0d,b0a,b0c,b0b,g9Y,g9Z,h0a,b8w]
    repeat' apply And.intro
    all_goals(
     refine hRc kn1 sg1 ab1 _ _ _ hm1 ?_;intro kn2 sg2 ab2 hm2;simp -implicitDefEqProofs only[go_sem,ck4,b0d,b0a,b0c,b0b,g9Y,g9Z,h0a])
    all_goals(repeat' apply And.intro)
    all_goals(
     refine b7T u hT.toCkW ub pre (b2v u) kn2 sg2 ab2 _ _ _ _ hm2.sg ?_;intro sg3 hsg3;rw[hms];simp -implicitDefEqProofs only[go_sem,ck4,b0d,b0a,b0c,b0b,g9Y,g9Z,h0a,b6A,Sg.enc])
    all_goals(
     refine c1C hT ub pre hl hi 1 (by omega) s kn2 sg3 ab2 _ _ _ ⟨hm2.kn,hsg3,hm2.ab⟩ ?_;intro kn4 sg4 ab4 hm4;simp -implicitDefEqProofs only[go_sem,ck4,b0d,b0a,b0c,b0b,g9Y,g9Z,h0a];exact⟨kn4,sg4,ab4,_,[],rfl,by simp,hK _ _ _ hm4⟩)
 rw[if_neg h21]at hK;by_cases h24:(b0h l i).kind=24
 ·rw[if_pos h24]at hK;simp -implicitDefEqProofs only[go_sem,Tryz.f94,ck4,b0d,b0a,b0c,b0b,g9Y,g9Z,h0a];refine b0B.callsS (b5z u (b0f u) ub pre.length hl hi) (by simp -implicitDefEqProofs only[go_sem]) ?_;simp -implicitDefEqProofs only[go_sem,b0d,b0a,b0c,b0b,g9Y,g9Z,h0a,h24];refine d2k hT ub pre hl hi h24 kn sg ab _ _ _ hm ?_;intro kn1 sg1 ab1 hm1;simp -implicitDefEqProofs only[go_sem,ck4,b0d,b0a,b0c,b0b,g9Y,g9Z,h0a];exact⟨kn1,sg1,ab1,_,[],rfl,by simp,hK _ _ _ hm1⟩
 rw[if_neg h24]at hK;by_cases h25:(b0h l i).kind=25
 ·rw[if_pos h25]at hK;have hk1:0<(b0h l i).kids.length:=by rw[h25]at hle;simp[b0S]at hle;omega
  simp -implicitDefEqProofs only[go_sem,Tryz.f94,ck4,b0d,b0a,b0c,b0b,g9Y,g9Z,h0a];refine b0B.callsS (b5z u (b0f u) ub pre.length hl hi) (by simp -implicitDefEqProofs only[go_sem]) ?_;simp -implicitDefEqProofs only[go_sem,b0d,b0a,b0c,b0b,g9Y,g9Z,h0a,h25];refine⟨fun ht=>?_,fun ht=>?_⟩
  ·rw[if_pos ht]at hK;refine b0B.callsS (hJ0 hk1) (by simp -implicitDefEqProofs only[go_sem];rfl) ?_;simp -implicitDefEqProofs only[go_sem,b0d,b0a,b0c,b0b,g9Y,g9Z,h0a];refine hO0 hk1 kn sg ab _ _ _ hm ?_;intro kn1 sg1 ab1 hm1;simp -implicitDefEqProofs only[go_sem,ck4,b0d,b0a,b0c,b0b,g9Y,g9Z,h0a];refine b4S hT.toCkW ub pre _ tB kn1 sg1 ab1 _ _ _ hm1 ?_;intro kn2 sg2 ab2 hm2;simp -implicitDefEqProofs only[go_sem,ck4,b0d,b0a,b0c,b0b,g9Y,g9Z,h0a];exact⟨kn2,sg2,ab2,_,[],rfl,by simp,hK _ _ _ hm2⟩
  ·rw[if_neg ht]at hK;refine b0B.callsS (hJ0 hk1) (by simp -implicitDefEqProofs only[go_sem];rfl) ?_;simp -implicitDefEqProofs only[go_sem,b0d,b0a,b0c,b0b,g9Y,g9Z,h0a];refine hO0 hk1 kn sg ab _ _ _ hm ?_;intro kn1 sg1 ab1 hm1;simp -implicitDefEqProofs only[go_sem,ck4,b0d,b0a,b0c,b0b,g9Y,g9Z,h0a];refine b4S hT.toCkW ub pre _ tI kn1 sg1 ab1 _ _ _ hm1 ?_;intro kn2 sg2 ab2 hm2;simp -implicitDefEqProofs only[go_sem,ck4,b0d,b0a,b0c,b0b,g9Y,g9Z,h0a];exact⟨kn2,sg2,ab2,_,[],rfl,by simp,hK _ _ _ hm2⟩
 rw[if_neg h25]at hK;simp -implicitDefEqProofs only[go_sem,Tryz.f94,ck4,b0d,b0a,b0c,b0b,g9Y,g9Z,h0a];refine b0B.callsS (b5z u (b0f u) ub pre.length hl hi) (by simp -implicitDefEqProofs only[go_sem]) ?_;simp -implicitDefEqProofs only[go_sem,b0d,b0a,b0c,b0b,g9Y,g9Z,h0a,h2,h11,h12,h13.1,h13.2,h20,h21,h24,h25];exact⟨kn,sg,ab,_,[],rfl,by simp,hK _ _ _ hm⟩
end Go.Proofs.YtighfcpaplmaiaaGreatDoor
namespace Go.Vg
def f1c(rs:List Rw)(b i:Nat):Prop:=∃ (q j:Nat) (r s:Rw),rs[i]? = some r∧r.parent=((b+q:Nat):Int)∧q<i∧rs[q]? = some s∧s.kids[j]? = some (b+i)
theorem d1e{rs rs':List Rw}{b i:Nat}(h:f1c rs b i):f1c (rs++rs') b i:=by
 obtain⟨q,j,r,s,h1,h2,h3,h4,h5⟩:=h;refine⟨q,j,r,s,?_,h2,h3,?_,h5⟩
 ·rw[h0e (h0b.1 h1).1];exact h1
 ·rw[h0e (h0b.1 h4).1];exact h4
theorem c8V{rs rs':List Rw}{b i:Nat}(h:f1c rs' (b+rs.length) i):f1c (rs++rs') b (rs.length+i):=by
 obtain⟨q,j,r,s,h1,h2,h3,h4,h5⟩:=h;refine⟨rs.length+q,j,r,s,?_,by rw[h2];congr 1;omega,by omega,?_,by rw[h5,h1s]⟩
 ·rw[h0g (by omega)];simpa using h1
 ·rw[h0g (by omega)];simpa using h4
theorem d1I:∀ (n:Nd) (p:Int) (b i:Nat),0<i→i<(b0o n).length→f1c (b0u n p b) b i:=by
 refine Nd.all fun k t g ks ih p b i h0 hi=>?_
 have hs:∀ l:List Nd,(∀ x∈l,∀ (p:Int) (b i:Nat),0<i→i<(b0o x).length→f1c (b0u x p b) b i)→∀ (p b i:Nat),i<(b0k l).length →
   (∃ (j:Nat) (r:Rw),(b0X l p b)[i]? = some r∧r.parent=p∧(b0E l b)[j]? = some (b+i))∨f1c (b0X l p b) b i:=by
  intro l;induction l with
  | nil=>intro _ p b i h;simp[b0k]at h
  | cons x r ihr =>
   intro hx p b i hi;rw[b0X];have hlen:(b0u x p b).length=(b0o x).length:=b0K ..;rcases h1A i (b0o x).length with hl | hl
   ·rcases Nat.eq_zero_or_pos i with h0 | h0
    ·subst h0;left;refine⟨0,(b0u x p b)[0],?_,?_,?_⟩
     ·rw[h0e (by omega)];exact h0f _
     ·obtain⟨k,t,g,ks⟩:=x;simp[b0u]
     ·simp[b0E]
    ·exact .inr (d1e (hx x (by simp) p b i h0 hl))
   ·rw[b0k,h0h]at hi;rcases ihr (fun y hy=>hx y (by simp[hy])) p (b+(b0o x).length) (i - (b0o x).length) (by omega)with⟨j,rr,h1,h2,h3⟩ | h
    ·left;refine⟨j+1,rr,?_,h2,?_⟩
     ·rw[h0g (by omega),hlen];exact h1
     ·rw[b0E,g9Y,h3];congr 1;omega
    ·right;have:=c8V (rs:=b0u x p b) (rs':=b0X r p (b+(b0o x).length)) (b:=b) (i:=i - (b0o x).length) (by rw[hlen];exact h);rw[hlen,show(b0o x).length+(i - (b0o x).length)=i by omega]at this;exact this
 rw[b7z];obtain⟨i,rfl⟩:∃ m,i=m+1:=⟨i - 1,by omega⟩
 rw[b0Z]at hi;rcases hs ks ih b (b+1) i (by omega)with⟨j,r,h1,h2,h3⟩ | ⟨q,j,r,s,h1,h2,h3,h4,h5⟩
 ·exact⟨0,j,r,_,by simpa using h1,by rw[h2];simp,by omega,rfl,by rw[h3];congr 1;omega⟩
 ·exact⟨q+1,j,r,s,by simpa using h1,by rw[h2];congr 1;omega,by omega,by simpa using h4,by rw[h5];congr 1;omega⟩
theorem b3N:∀ (ks:List Nd) (b j:Nat),j<ks.length→(b0E ks b)[j]? = some (b+(b0k (ks.take j)).length)
 | [],b,j,h=>by simp at h
 | x::r,b,0,h=>by simp[b0E,b0k]
 | x::r,b,j+1,h=>by
  rw[b0E,g9Y,b3N r _ j (by simpa using h),List.take_succ_cons,b0k,h0h,h1s]
def d0b(n:Nd)(i:Nat):Nat:=i+(((b0o n)[i]?).map fun y=>(b0o y).length).getD 0
theorem c3v{n y:Nd}{i:Nat}(h:(b0o n)[i]? = some y):d0b n i=i+(b0o y).length:=by simp[d0b,h]
theorem c4b(n:Nd):0<(b0o n).length:=by obtain⟨k,t,g,ks⟩:=n;rw[b0Z];omega
theorem b7L{n:Nd}{i j c:Nat}{k:Int}{t g}{ks:List Nd}(h:(b0o n)[i]? = some (.mk k t g ks))(hc:(b0E ks (i+1))[j]? = some c) :
  ∃ z,ks[j]? = some z∧(b0o n)[c]? = some z∧i<c∧d0b n c≤d0b n i∧(∀ c',(b0E ks (i+1))[j+1]? = some c'→c'=d0b n c):=by
 have hl:=(h0b.1 hc).1;rw[b0U]at hl;obtain⟨c',h1,h2⟩:=b8C h (h0f hl);have:c'=c:=by rw[hc]at h1;simpa using h1.symm
 subst this;rw[b3N ks _ j hl]at hc;simp at hc;have hsum:(b0k (ks.take j)).length+(b0o ks[j]).length≤(b0k ks).length:=by
  have:ks=ks.take j++ks[j]::ks.drop (j+1):=by simp
  have h3:(b0k ks).length=(b0k (ks.take j++ks[j]::ks.drop (j+1))).length:=by rw[←this]
  rw[b1n,h0h,b0k,h0h]at h3;omega
 refine⟨_,h0f hl,h2,by omega,?_,fun c2 h3=>?_⟩
 ·rw[c3v h2,c3v h,b0Z];omega
 ·have hl2:=(h0b.1 h3).1;rw[b0U]at hl2;rw[b3N ks _ _ hl2,List.take_add_one,h0f hl,Option.toList_some,b1s,h0h]at h3;simp at h3;rw[c3v h2];omega
theorem d1u{n:Nd}{i j j' c c':Nat}{k:Int}{t g}{ks:List Nd}(h:(b0o n)[i]? = some (.mk k t g ks))(hc:(b0E ks (i+1))[j]? = some c)(hc':(b0E ks (i+1))[j']? = some c')(hj:j<j'):d0b n c≤c':=by
 obtain⟨z,h1,h2,h3,h4,h5⟩:=b7L h hc;have hl:=(h0b.1 hc).1;have hl':=(h0b.1 hc').1;rw[b0U]at hl hl';have h6:=h5 _ (b3N ks (i+1) (j+1) (by omega));rw[←h6];rw[b3N ks _ j' hl']at hc';simp at hc';have:ks.take j'=ks.take (j+1)++(ks.drop (j+1)).take (j' - (j+1)):=by
  rw[←List.take_add];congr 1;omega
 rw[this,b1n,h0h]at hc';omega
theorem c4F:∀ (ks:List Nd) (p b j:Nat),j<ks.length→∃ o r,(b0E ks b)[j]? = some (b+o)∧(b0X ks p b)[o]? = some r∧r.parent=p
 | [],p,b,j,h=>by simp at h
 | x::r,p,b,0,h=>by
  obtain⟨k,t,g,ks⟩:=x;exact⟨0,⟨p,k,t,g,b0E ks (b+1)⟩,by simp[b0E],by simp[b0X,b0u],rfl⟩
 | x::r,p,b,j+1,h=>by
  obtain⟨o,s,h1,h2,h3⟩:=c4F r p (b+(b0o x).length) j (by simpa using h);refine⟨(b0o x).length+o,s,by rw[b0E,g9Y,h1,h1s],?_,h3⟩;rw[b0X,h0g (by rw[b0K];omega),b0K];simpa using h2
theorem d8V{n:Nd}{i j c:Nat}{k:Int}{t g}{ks:List Nd}(h:(b0o n)[i]? = some (.mk k t g ks))(hc:(b0E ks (i+1))[j]? = some c):∃ r,(b0u n (-1) 0)[c]? = some r∧r.parent=i:=by
 have hl:=(h0b.1 hc).1;rw[b0U]at hl;obtain⟨A,B,h1,h2,h3⟩:=c3e n i _ h;obtain⟨q,A',B',g1,g2⟩:=h3 (-1) 0;obtain⟨o,r,f1,f2,f3⟩:=c4F ks i (i+1) j hl;refine⟨r,?_,f3⟩;rw[hc]at f1;have hco:c=i+1+o:=by simpa using f1
 have hol:=(h0b.1 f2).1;rw[g1,b7z,h0w,h0x,h0g (by omega),g2,hco,show i+1+o - i=o+1 by omega,h0a,g9Y,h0e hol];exact f2
theorem b3J{l:List Rw}{i j:Nat}(h:j<(b0h l i).kids.length):(b0h l i).kids[j]? = some (b1c l i j):=by
 rw[b1c,h0c,h0f h];rfl
theorem b5H{l:List Rw}{i:Nat}{r:Rw}(h:l[i]? = some r):b0h l i=r:=by simp[b0h,h0c,h]
theorem b1I{n:Nd}{i:Nat}(hi:i<(b0u n (-1) 0).length):∃ k t g ks,(b0o n)[i]? = some (.mk k t g ks)∧(b0h (b0u n (-1) 0) i).kind=k∧(b0h (b0u n (-1) 0) i).text=t∧(b0h (b0u n (-1) 0) i).kids=b0E ks (i+1):=by
 have hlen:(b0u n (-1) 0).length=(b0o n).length:=b0K ..;have hn:(b0o n)[i]? = some (b0o n)[i]:=h0f (by omega);generalize(b0o n)[i]=y at hn;obtain⟨k,t,g,ks⟩:=y;exact⟨k,t,g,ks,hn,b4d hn⟩
theorem d6j{n:Nd}(hc:b3T n=0)(hl:(b0o n).length≤1000)(h1:n.kind=1):gramL (b0u n (-1) 0):=by
 have hsh:=c0B hc;have hlen:(b0u n (-1) 0).length=(b0o n).length:=b0K ..;have hkid:∀ i<(b0u n (-1) 0).length,∀ j<(b0h (b0u n (-1) 0) i).kids.length,i<b1c (b0u n (-1) 0) i j∧b1c (b0u n (-1) 0) i j<(b0u n (-1) 0).length∧(b0h (b0u n (-1) 0) (b1c (b0u n (-1) 0) i j)).parent=i ∧
   b3l (b0h (b0u n (-1) 0) i).kind j (b0h (b0u n (-1) 0) (b1c (b0u n (-1) 0) i j)).kind=true:=by
  intro i hi j hj;obtain⟨k,t,g,ks,e1,e2,e3,e4⟩:=b1I hi;have hg:=b3J hj;rw[e4]at hg;obtain⟨z,g1,g2,g3,g4,_⟩:=b7L e1 hg;have hcl:=(h0b.1 g2).1;refine⟨g3,by omega,?_,?_⟩
  ·obtain⟨r,f1,f2⟩:=d8V e1 hg;rw[b5H f1,f2]
  ·rw[e2];have hf:=(b3d (hsh _ (h0j e1))).2.1;have:=b3t hf j z g1;obtain⟨zk,zt,zg,zks⟩:=z;rw[(b4d g2).1];rw[Int.zero_add]at this;exact this
 have hshp:∀ i<(b0u n (-1) 0).length,∃ k t g ks,(b0o n)[i]? = some (.mk k t g ks)∧(Nd.mk k t g ks).shape=true∧(b0h (b0u n (-1) 0) i).kind=k∧(b0h (b0u n (-1) 0) i).text=t∧(b0h (b0u n (-1) 0) i).kids=b0E ks (i+1):=by
  intro i hi;obtain⟨k,t,g,ks,e1,e2⟩:=b1I hi;exact⟨k,t,g,ks,e1,hsh _ (h0j e1),e2⟩
 refine⟨b6a (by omega),fun i hi=>?_,fun i hi=>?_,fun i hi j hj=>?_,fun i hi=>?_,fun i hi j hj=>?_,fun hi=>?_,fun i hi h0=>?_,fun i hi h2=>?_⟩
 ·obtain⟨k,t,g,ks,e1,e2,e3,e4⟩:=hshp i hi;rw[e3];unfold Nd.shape at e2;simp only[h0k,Bool.not_eq_true',h1q]at e2;obtain⟨⟨⟨⟨⟨h1,h2⟩,h3⟩,h4⟩,h5⟩,h6⟩:=e2;have:(Nd.mk k t g ks).kind=k:=rfl;omega
 ·obtain⟨k,t,g,ks,e1,e2,e3,e4,e5⟩:=hshp i hi;rw[e3,e5,b0U];exact(b3d e2).1
 ·exact(hkid i hi j hj).2.2.2
 ·obtain⟨k,t,g,ks,e1,e2,e3,e4,e5⟩:=hshp i hi;rw[e3,e4];exact(b3d e2).2.2
 ·exact⟨(hkid i hi j hj).1,(hkid i hi j hj).2.1,(hkid i hi j hj).2.2.1⟩
 ·obtain⟨k,t,g,ks⟩:=n;exact h1
 ·obtain⟨q,j,r,s,f1,f2,f3,f4,f5⟩:=d1I n (-1) 0 i h0 (by omega);refine⟨q,by rw[b5H f1,f2,h0w],f3,j,?_,?_⟩
  ·rw[b5H f4];exact(h0b.1 f5).1
  ·rw[b1c,b5H f4,h0c,f5,h0w];rfl
 ·obtain⟨k,t,g,ks,e1,e2,e3,e4⟩:=b1I hi;exact f1m hc hl e1 (by rw[e2]at h2;exact h2)
theorem c1A(k:Int)(n:ByteArray):∀ (l M:List Dl),(l.foldl c8F M).find? (b5m k n)=(M.find? (b5m k n)).or (l.find? (b5m k n))
 | [],M=>by simp
 | d::r,M=>by
  rw[h0K,c1A k n r,h0W];unfold c8F;by_cases h:M.any (b5m d.kind d.name)=false
  ·rw[if_pos h,List.find?_append,h0W,List.find?_nil,Option.or_assoc];cases b5m k n d <;> simp
  ·rw[if_neg h];cases hk:b5m k n d with
   | false=>rfl
   | true =>
    have h':M.any (b5m d.kind d.name)=true:=by simpa using h
    have e:k=d.kind∧n=d.name:=by simpa[b5m]using hk
    obtain⟨rfl,rfl⟩:=e;have:(M.find? (b5m d.kind d.name)).isSome=true:=by
     rw[List.find?_isSome];obtain⟨x,hx,hp⟩:=h1a.1 h';exact⟨x,hx,hp⟩
    obtain⟨y,hy⟩:=h0I.1 this;rw[hy];rfl
theorem b9m(k:Int)(n:ByteArray)(l:List Dl):(b2c l).find? (b5m k n)=l.find? (b5m k n):=by
 unfold b2c;rw[c1A];rfl
theorem c3V{α:Type}{p q:α→Bool}:∀ (l:List α),(∀ x∈l,p x=true→q x=true)→(∃ x∈l,q x=true∧p x=false)→(l.filter p).length<(l.filter q).length:=by
 have le:∀ l:List α,(∀ x∈l,p x=true→q x=true)→(l.filter p).length≤(l.filter q).length:=by
  intro l;induction l with
  | nil=>intro _;simp
  | cons a r ih =>
   intro h;have:=ih fun x hx=>h x (by simp[hx])
   have ha:=h a (by simp);rw[List.filter_cons,List.filter_cons];cases hp:p a <;> cases hq:q a <;> simp_all <;> omega
 intro l;induction l with
 | nil=>rintro _ ⟨x,hx,_⟩;cases hx
 | cons a r ih =>
  intro h h2;have h1:=le r fun x hx=>h x (by simp[hx])
  have ha:=h a (by simp);rw[List.filter_cons,List.filter_cons];obtain⟨x,hx,hxq,hxp⟩:=h2;rcases h0C.1 hx with rfl | hx
  ·rw[hxp,hxq];simp;omega
  ·have:=ih (fun x hx=>h x (by simp[hx])) ⟨x,hx,hxq,hxp⟩;cases hp:p a <;> cases hq:q a <;> simp_all <;> omega
def bfN(n:Nd)(q i:Nat):Bool:=decide (d0b n q<d0b n i∨(d0b n q=d0b n i∧i<q))
def f2U(n:Nd)(i:Nat):Nat:=((List.range (b0o n).length).filter fun j=>bfN n j i).length
theorem d8W{n:Nd}{i:Nat}(hi:i<(b0o n).length):f2U n i<(b0o n).length:=by
 have:=c3V (p:=fun j=>bfN n j i) (q:=fun _=>true) (List.range (b0o n).length) (fun _ _ _=>rfl) ⟨i,by simpa using hi,rfl,by simp[bfN]⟩;rw[List.filter_eq_self.2 (fun _ _=>rfl:∀ a∈List.range (b0o n).length,(fun _=>true) a=true)]at this;simpa[f2U]using this
theorem c5c{n:Nd}{q i:Nat}(hq:q<(b0o n).length)(h:bfN n q i=true):f2U n q<f2U n i:=by
 refine c3V _ (fun x _ hx=>?_) ⟨q,by simpa using hq,h,by simp[bfN]⟩;simp only[bfN,h0l]at h hx ⊢;omega
theorem c1X{k c:Nat}:∀ {ks:List Nat},c∈b2q k ks→∃ j:Nat,ks[j]? = some c∧∀ j':Nat,ks[j']? = some k→j<j'
 | [],h=>by simp[b2q]at h
 | x::r,h=>by
  unfold b2q at h;rw[List.takeWhile_cons]at h;split at h
  ·rename_i hx;have hxk:¬ x=k:=by simpa using hx
   rcases h0C.1 h with rfl | h
   ·refine⟨0,rfl,fun j' hj=>?_⟩;cases j' with
    | zero=>simp at hj;exact(hxk hj).elim
    | succ j'=>omega
   ·obtain⟨j,h1,h2⟩:=c1X (ks:=r) h;refine⟨j+1,by simpa using h1,fun j' hj=>?_⟩;cases j' with
    | zero=>simp at hj;exact(hxk hj).elim
    | succ j'=>have:=h2 j' (by simpa using hj);omega
  ·cases h
theorem d9X{n:Nd}(hg:gramL (b0u n (-1) 0)):∀ (f k:Nat),k<(b0u n (-1) 0).length→∀ d∈b7J (b0u n (-1) 0) f k,d<(b0u n (-1) 0).length∧((b0h (b0u n (-1) 0) d).kind=10∧d0b n d≤k∨(b0h (b0u n (-1) 0) d).kind=4):=by
 intro f;induction f with
 | zero=>intro k _ d h;simp[b7J]at h
 | succ f ih =>
  intro k hk d h;rw[b7J]at h;split at h
  ·cases h
  rename_i h0;have hp:=(hg.ok.par k hk).1;have hk0:0<k:=by omega
  obtain⟨p,hpe,hpk,jk,hjk,hkk⟩:=hg.par k hk hk0;rw[hpe,h0n]at h;have hpl:p<(b0u n (-1) 0).length:=by omega
  rcases h0E.1 h with h | h
  ·obtain⟨c,hc,hd⟩:=List.mem_flatMap.1 h;obtain⟨j,hj,hj2⟩:=c1X hc;have hjl:=(h0b.1 hj).1;have hkg:=b3J hjk;rw[hkk]at hkg;have hlt:=hj2 jk hkg;obtain⟨pk,pt,pg,pks,e1,e2,e3,e4⟩:=b1I hpl;rw[e4]at hj hkg;have hend:=d1u e1 hj hkg hlt;obtain⟨z,_,hz,_⟩:=b7L e1 hj;have hlen:(b0u n (-1) 0).length=(b0o n).length:=b0K ..;have hcl:=(h0b.1 hz).1;unfold b2h at hd;rcases h0E.1 hd with hd | hd
   ·split at hd
    ·rename_i hcond;have:=h0R.1 hd;subst this;exact⟨by omega,.inl ⟨hcond.2,hend⟩⟩
    ·cases hd
   ·split at hd
    ·rename_i hcond;obtain⟨h1,h2⟩:=List.mem_filter.1 hd;have:=(hg.ok.kids c (by omega)).2 d h1;exact⟨this,.inr (by simpa using h2)⟩
    ·cases hd
  ·split at h
   ·cases h
   ·obtain⟨h1,h2⟩:=ih p hpl d h;refine⟨h1,h2.imp (fun⟨h3,h4⟩=>⟨h3,by omega⟩) id⟩
theorem d1q{l:List Rw}{t:ByteArray}{vs:List Nat}(h:0≤b1j l t vs):∃ v∈vs,b1j l t vs=v∧(b0h l v).text=t:=by
 unfold b1j at h ⊢;cases hf:vs.find? fun n=>decide ((b0h l n).text=t)with
 | none=>rw[hf]at h;simp at h
 | some v=>exact⟨v,h0Z hf,rfl,by simpa using List.find?_some hf⟩
theorem d6z:∀ (n:Nd) (u:Int) (m:Nat) (x:Ar) (d:Dl),d∈b1z n u m x→∃ (j:Nat) (y:Nd) (a:Ar),(b0o n)[j]? = some y∧b2u y.kind y.text u ((m+j:Nat):Int) a=some d:=by
 refine Nd.all fun k t g ks ih u m x d hd=>?_
 have hs:∀ (l:List Nd),(∀ y∈l,∀ (u:Int) (m:Nat) (x:Ar) (d:Dl),d∈b1z y u m x→∃ (j:Nat) (z:Nd) (a:Ar),(b0o y)[j]? = some z∧b2u z.kind z.text u ((m+j:Nat):Int) a=some d)→∀ (m:Nat) (x:Ar) (d:Dl),d∈b0V l u m x →
   ∃ (j:Nat) (z:Nd) (a:Ar),(b0k l)[j]? = some z∧b2u z.kind z.text u ((m+j:Nat):Int) a=some d:=by
  intro l;induction l with
  | nil=>intro _ m x d hd;simp[b0V]at hd
  | cons z r ihr =>
   intro h m x d hd;rw[b0V,h0E]at hd;rcases hd with hd | hd
   ·obtain⟨j,y,a,h2,h3⟩:=h z (by simp) u m x d hd;exact⟨j,y,a,by rw[b0k,h0e (h0b.1 h2).1];exact h2,h3⟩
   ·obtain⟨j,y,a,h2,h3⟩:=ihr (fun y hy=>h y (by simp[hy])) _ x d hd;refine⟨(b0o z).length+j,y,a,by rw[b0k,h0g (by omega)];simpa using h2,?_⟩;rw[←h3];congr 2;omega
 rw[b1z,h0E]at hd;rcases hd with hd | hd
 ·cases hdt:b2u k t u m x with
  | none=>rw[hdt]at hd;cases hd
  | some d' =>
   rw[hdt]at hd;simp at hd;subst hd;exact⟨0,.mk k t g ks,x,by simp[b0o],by rw[h1m];exact hdt⟩
 ·obtain⟨j,y,a,h2,h3⟩:=hs ks ih _ _ d hd;refine⟨j+1,y,a,by simpa[b0o]using h2,?_⟩;rw[←h3];congr 2;omega
theorem b4J:∀ (u:List Un) (i:Nat) (d:Dl),d∈b0e u i→∃ (un:Nat) (x:Un) (j:Nat) (y:Nd) (a:Ar),u[un]? = some x∧x.broken=false∧(b0o x.tree)[j]? = some y∧b2u y.kind y.text ((i+un:Nat):Int) (j:Int) a=some d
 | [],i,d,h=>by simp[b0e]at h
 | x::r,i,d,h=>by
  rw[b0e,h0E]at h;rcases h with h | h
  ·split at h
   ·cases h
   ·rename_i hb;obtain⟨j,y,a,h1,h2⟩:=d6z x.tree i 0 Ar.none d h;exact⟨0,x,j,y,a,rfl,by simpa using hb,h1,by simpa using h2⟩
  ·obtain⟨un,y,j,z,a,h1,h2,h3,h4⟩:=b4J r (i+1) d h;refine⟨un+1,y,j,z,a,by simpa using h1,h2,h3,?_⟩;rw[←h4];congr 2;omega
theorem c2i{k:Int}{t:ByteArray}{u m:Int}{x:Ar}{d:Dl}(h:b2u k t u m x=some d):d.unit=u∧d.node=m∧d.name=t∧((k=2∧(d.kind=1∨d.kind=4))∨(k=7∧d.kind=2)∨(k=9∧d.kind=3)∨(k=4∧d.kind=5)∨(k=10∧d.kind=6)):=by
 unfold b2u at h
 repeat' split at h
 all_goals first | (cases h;done) | (cases h;simp_all)
end Go.Vg
namespace Go.Proofs.YtighfcpaplmaiaaGreatDoor
open Go Go.Vg Go.Proofs
theorem b2H{u:List Un}(hb:∀ x∈u,x.broken=false){un:Nat}{l:List Rw}(h:(b0f u)[un]? = some l):∃ x,u[un]? = some x∧l=b0u x.tree (-1) 0:=by
 unfold b0f at h;rw[h0u]at h;obtain⟨x,h1,h2⟩:=h0p.1 h;refine⟨x,h1,?_⟩;rw[if_neg (by rw[hb x (h0j h1)];simp)]at h2;exact h2.symm
theorem c7d{u:List Un}(hb:∀ x∈u,x.broken=false){un:Nat}{x:Un}(h:u[un]? = some x):(b0f u)[un]? = some (b0u x.tree (-1) 0):=by
 unfold b0f;rw[h0u,h,h0D,if_neg (by rw[hb x (h0j h)];simp)]
theorem c3N{k d:Int×Int}:∀ (us:List Us) (M:List ((Int×Int)×(Int×Int))),b1t (us.foldl d4D M) k=some d→(∃ x∈us,k=((x.un:Int),(x.nd:Int))∧x.to=some d)∨b1t M k=some d
 | [],M,h => .inr h
 | x::r,M,h=>by
  rw[h0K]at h;rcases c3N r _ h with⟨y,h1,h2⟩ | h
  ·exact .inl ⟨y,by simp[h1],h2⟩
  ·unfold d4D at h;split at h
   ·rename_i d' hd;rw[b7V]at h;split at h
    ·rename_i hk;simp only[Option.some.injEq]at h;subst h;exact .inl ⟨x,by simp,hk,hd⟩
    ·exact .inr h
   ·exact .inr h
theorem b9K{M:List Dl}{x:Us}:∀ (tb:List (List Rw)) (n:Nat),x∈b2O M tb n→∃ (un i:Nat) (l:List Rw),tb[un]? = some l∧i<l.length∧(b6Y (b0h l i).kind (b0h l i).text).2=true∧x=⟨n+un,i,c3B l M (n+un) i (b6Y (b0h l i).kind (b0h l i).text).1⟩
 | [],n,h=>by simp[b2O]at h
 | l::r,n,h=>by
  rw[b2O,h0E]at h;rcases h with h | h
  ·obtain⟨i,hi,h⟩:=List.mem_flatMap.1 h;unfold b5I at h;split at h
   ·rename_i hu;exact⟨0,i,l,rfl,by simpa using hi,hu,h0R.1 h⟩
   ·cases h
  ·obtain⟨un,i,l',h1,h2,h3,h4⟩:=b9K r (n+1) h;exact⟨un+1,i,l',by simpa using h1,h2,h3,by rw[h4,show n+1+un=n+(un+1)by omega]⟩
theorem b8Q{u:List Un}{un i:Nat}{l:List Rw}(hl:(b0f u)[un]? = some l){d:Int×Int}(h:b1t (b2v u) ((un:Int),(i:Int))=some d) :
  (b6Y (b0h l i).kind (b0h l i).text).2=true∧c3B l (b2c (b0e u 0)) un i (b6Y (b0h l i).kind (b0h l i).text).1=some d:=by
 rcases c3N _ _ h with⟨x,h1,h2,h3⟩ | h
 ·obtain⟨un',i',l',g1,g2,g3,g4⟩:=b9K _ _ h1;subst g4;simp only[h0w,Prod.mk.injEq]at h2 h3 ⊢;obtain⟨e1,e2⟩:=h2;have e1':un=un':=by omega
  have e2':i=i':=by omega
  subst e1' e2';rw[hl]at g1;cases g1
  exact⟨g3,h3⟩
 ·simp[b1t]at h
structure SndU(u:List Un):Prop where
 fit:b2D u
 snd:∀ x∈u,b1q x=true
theorem SndU.br{u:List Un}(h:SndU u):∀ x∈u,x.broken=false:=fun x hx=>by
 have:=h.snd x hx;simp only[b1q,h0k,Bool.not_eq_true']at this;exact this.1.1
theorem SndU.gram{u:List Un}(h:SndU u):∀ l∈b0f u,gramL l:=by
 intro l hl;obtain⟨un,hun⟩:=List.mem_iff_getElem?.1 hl;obtain⟨x,hx,rfl⟩:=b2H h.br hun;have hxm:=h0j hx;have:=h.snd x hxm;simp only[b1q,h0k,h0l]at this;exact d6j this.2 (h.fit.2 x hxm).1 this.1.2
theorem SndU.decl{u:List Un}(h:SndU u){d:Dl}(hd:d∈b0e u 0):∃ (un nd:Nat) (l:List Rw),d.unit=(un:Int)∧d.node=(nd:Int)∧(b0f u)[un]? = some l∧nd<l.length∧d.name=(b0h l nd).text ∧
  (((b0h l nd).kind=2∧(d.kind=1∨d.kind=4))∨((b0h l nd).kind=7∧d.kind=2)∨((b0h l nd).kind=9∧d.kind=3)∨((b0h l nd).kind=4∧d.kind=5)∨((b0h l nd).kind=10∧d.kind=6)):=by
 obtain⟨un,x,j,y,a,h1,h2,h3,h4⟩:=b4J u 0 d hd;obtain⟨g1,g2,g3,g4⟩:=c2i h4;obtain⟨k,t,g,ks⟩:=y;obtain⟨e1,e2,e3⟩:=b4d h3;have hlen:(b0u x.tree (-1) 0).length=(b0o x.tree).length:=b0K ..;have hj:=(h0b.1 h3).1;refine⟨un,j,_,by simpa using g1,g2,c7d h.br h1,by omega,by rw[e2,g3];rfl,?_⟩;rw[e1];exact g4
theorem c8m{k:Int}{t:ByteArray}(h:k=19∨k=11):b6Y k t=(3,true):=by rw[b6Y,if_pos h]
theorem d3n{t:ByteArray}:b6Y 20 t=(1,true):=by simp[b6Y]
theorem SndU.var{u:List Un}(h:SndU u){un i:Nat}{l:List Rw}(hl:(b0f u)[un]? = some l)(hi:i<l.length)(hk:(b0h l i).kind=19∨(b0h l i).kind=11){d:Int×Int}(hd:b1t (b2v u) ((un:Int),(i:Int))=some d) :
  (∃ (v:Nat) (x:Un),d=((un:Int),(v:Int))∧v<l.length∧u[un]? = some x∧l=b0u x.tree (-1) 0∧v∈b7J l (i+1) i∧(b0h l v).text=(b0h l i).text∧((b0h l v).kind=10∧d0b x.tree v≤i∨(b0h l v).kind=4)) ∨
  (Val (b0f u) d∧(rwK (b0f u) d).kind=9):=by
 obtain⟨h1,h2⟩:=b8Q hl hd;rw[c8m hk]at h2;obtain⟨x,hx,rfl⟩:=b2H h.br hl;have hg:=h.gram _ (h0j hl);unfold c3B at h2;split at h2
 ·rename_i hc;obtain⟨v,hv,he,ht⟩:=d1q hc.2;cases h2
  obtain⟨g1,g2⟩:=d9X hg (i+1) i hi v hv;exact .inl ⟨v,x,by rw[he],g1,hx,rfl,hv,ht,g2⟩
 ·right;rw[b9m]at h2;obtain⟨dd,hdd,rfl⟩:=h0p.1 h2;have hkey:=List.find?_some hdd;simp only[b5m,h0k,h0l]at hkey;obtain⟨un',nd',l',q1,q2,q3,q4,q5,q6⟩:=h.decl (h0Z hdd);rw[q1,q2,b0R q3];exact⟨⟨un',nd',l',rfl,q3,q4⟩,by omega⟩
theorem SndU.fnc{u:List Un}(h:SndU u){un i:Nat}{l:List Rw}(hl:(b0f u)[un]? = some l)(hk:(b0h l i).kind=20){d:Int×Int}(hd:b1t (b2v u) ((un:Int),(i:Int))=some d) :
  Val (b0f u) d∧(rwK (b0f u) d).kind=2∧∃ dd,(b0e u 0).find? (b5m 1 (b0h l i).text)=some dd∧d=(dd.unit,dd.node):=by
 obtain⟨h1,h2⟩:=b8Q hl hd;rw[hk,d3n]at h2;unfold c3B at h2;rw[if_neg (by simp),b9m]at h2;obtain⟨dd,hdd,rfl⟩:=h0p.1 h2;have hkey:=List.find?_some hdd;simp only[b5m,h0k,h0l]at hkey;obtain⟨un',nd',l',q1,q2,q3,q4,q5,q6⟩:=h.decl (h0Z hdd);refine⟨?_,?_,dd,hdd,rfl⟩
 ·rw[q1,q2];exact⟨un',nd',l',rfl,q3,q4⟩
 ·rw[q1,q2,b0R q3];omega
def g2B(u:List Un)(k:Int×Int):Nat:=match u[k.1.toNat]? with
 | some x=>f2U x.tree k.2.toNat
 | none=>0
theorem SndU.ckT{u:List Un}(h:SndU u):CkT u:=by
 have hW:CkW u:=⟨h.fit,h.br,h.gram,fun d hd hk=>by
  obtain⟨un,nd,l,h1,h2,h3,h4,h5,h6⟩:=h.decl hd;exact⟨un,nd,l,h1,h2,h3,h4,by omega⟩⟩
 refine⟨hW,⟨g2B u,?_⟩,?_,?_⟩
 ·rintro k ⟨un,i,l,rfl,hl,hi⟩;have hg:=h.gram _ (h0j hl);have hle:=hg.least i hi;obtain⟨x,hx,hlx⟩:=b2H h.br hl;have hlen:l.length=(b0o x.tree).length:=by rw[hlx];exact b0K ..
  have hmu:∀ j:Nat,g2B u ((un:Int),(j:Int))=f2U x.tree j:=fun j=>by simp[g2B,hx]
  rw[b5Z hl,hmu];refine⟨by rw[hlen];exact d8W (by omega),fun q hq=>?_⟩;unfold tgt at hq;rw[b0R hl,b3B hl]at hq;rcases hq with⟨hk,rfl⟩ | ⟨hk,d,hd,h10,rfl⟩
  ·have hk1:0<(b0h l i).kids.length:=by rcases hk with hk | hk <;> (rw[hk]at hle;simp[b0S]at hle;omega)
   have hkd:=hg.kid i hi 0 hk1;refine⟨⟨un,_,l,rfl,hl,hkd.2.1⟩,rfl,?_⟩;rw[hmu];have hgt:=b3J hk1;subst hlx;obtain⟨k,t,g,ks,e1,e2,e3,e4⟩:=b1I hi;rw[e4]at hgt;obtain⟨z,g1,g2,g3,g4,_⟩:=b7L e1 hgt;refine c5c (by omega) ?_;simp only[bfN,h0l];omega
  ·rcases h.var hl hi (.inl hk) hd with⟨v,x',rfl,hv,hx',hl',hvis,ht,hc⟩ | ⟨_,h9⟩
   ·rw[hx]at hx';cases hx'
    rw[b0R hl]at h10;rw[b3B hl];rcases hc with⟨_,hend⟩ | hc
    ·have hlv:=hg.least v hv;have hk1:0<(b0h l v).kids.length:=by rw[h10]at hlv;simp[b0S]at hlv;omega
     have hkd:=hg.kid v hv 0 hk1;refine⟨⟨un,_,l,rfl,hl,hkd.2.1⟩,rfl,?_⟩;rw[hmu];have hgt:=b3J hk1;subst hlx;obtain⟨k,t,g,ks,e1,e2,e3,e4⟩:=b1I hv;rw[e4]at hgt;obtain⟨z,g1,g2,g3,g4,_⟩:=b7L e1 hgt;obtain⟨ki,ti,gi,ksi,f1,_⟩:=b1I hi;refine c5c (by omega) ?_;simp only[bfN,h0l];have h1:=c3v f1;have h2:=c4b (.mk ki ti gi ksi);omega
    ·omega
   ·omega
 ·intro k d hk hkk hd;obtain⟨un,i,l,rfl,hl,hi⟩:=hk;rw[b0R hl]at hkk;rcases h.var hl hi hkk hd with⟨v,x',rfl,hv,hx',hl',hvis,ht,hc⟩ | ⟨h1,h9⟩
  ·rw[b0R hl];exact⟨⟨un,v,l,rfl,hl,hv⟩,hc.elim (fun h => .inr (.inr h.1)) .inl⟩
  ·exact⟨h1,.inr (.inl h9)⟩
 ·intro k d hk hkk hd;obtain⟨un,i,l,rfl,hl,hi⟩:=hk;rw[b0R hl]at hkk;obtain⟨h1,h2,_⟩:=h.fnc hl hkk hd;exact⟨h1,h2⟩
def d2t(u:List Un)(un:Nat)(l:List Rw)(i:Nat):Bool :=
 if(b0h l i).kind=23 then(match b9d l i with | some p=>decide (c7y l p=⟨#[]⟩) | none=>true)
 else if(b0h l i).kind=9 then !b1B l l.length (b1c l i 0)
 else if(b0h l i).kind=11 then(match b1t (b2v u) ((un:Int),(i:Int))with | some d=>decide ((rwK (b0f u) d).kind=9) | none=>false)
 else false
theorem c9i{u:List Un}(hT:CkT u)(ub:List Us)(pre:List VObj){un i:Nat}{l:List Rw}(hl:(b0f u)[un]? = some l)(hi:i<l.length) :
  b5R u ub pre 95 [.agg [.int .i64 un,.int .i64 i]] (.bool (d2t u un l i)):=by
 intro kn sg ab z a K hm hK;simp only[d2t]at hK;have hvk:Val (b0f u) ((un:Int),(i:Int)):=⟨un,i,l,rfl,hl,hi⟩
 have hd19:=hT.d19 ((un:Int),(i:Int));rw[b0R hl]at hd19;have hg:=hT.gram l (h0j hl);have hle:=hg.least i hi;have hkd:=hg.kid i hi;refine b0q.tidyCk ?_;refine b0y (fn:=Tryz.f95) Tryz.func95 rfl (by rw[Tryz.ntmps95];simp) ?_;by_cases h23:(b0h l i).kind=23
 ·rw[if_pos h23]at hK;simp -implicitDefEqProofs only[go_sem,Tryz.f95,ck4,b0d,b0a,b0c,b0b,g9Y,g9Z,h0a];refine b0B.callsS (b5z u (b0f u) ub pre.length hl hi) (by simp -implicitDefEqProofs only[go_sem]) ?_;simp -implicitDefEqProofs only[go_sem,b0d,b0a,b0c,b0b,g9Y,g9Z,h0a,h23];have hJ:=b9S u (b0f u) ub pre.length hl hi hg.ok;cases hfr:b9d l i with
  | none =>
   rw[hfr]at hJ hK;refine b0B.callsS hJ (by simp -implicitDefEqProofs only[go_sem]) ?_;simp -implicitDefEqProofs only[go_sem,b0d,b0a,b0c,b0b,g9Y,g9Z,h0a,h0y];exact⟨kn,sg,ab,_,[],rfl,by simp,hK _ _ _ hm⟩
  | some p =>
   rw[hfr]at hJ hK;obtain⟨hp1,hp2,hp3⟩:=b5N hg hi hfr;refine b0B.callsS hJ (by simp -implicitDefEqProofs only[go_sem]) ?_;simp -implicitDefEqProofs only[go_sem,b0d,b0a,b0c,b0b,g9Y,g9Z,h0a,h0L,h0A];refine b0B.callsS (d2L u (b0f u) ub pre.length hl hp1 hg.ok hp3) (by simp -implicitDefEqProofs only[go_sem]) ?_;simp -implicitDefEqProofs only[go_sem,b0d,b0a,b0c,b0b,g9Y,g9Z,h0a];exact⟨kn,sg,ab,_,[],rfl,by simp,hK _ _ _ hm⟩
 rw[if_neg h23]at hK;by_cases h9:(b0h l i).kind=9
 ·rw[if_pos h9]at hK;have hk1:0<(b0h l i).kids.length:=by rw[h9]at hle;simp[b0S]at hle;omega
  simp -implicitDefEqProofs only[go_sem,Tryz.f95,ck4,b0d,b0a,b0c,b0b,g9Y,g9Z,h0a];refine b0B.callsS (b5z u (b0f u) ub pre.length hl hi) (by simp -implicitDefEqProofs only[go_sem]) ?_;simp -implicitDefEqProofs only[go_sem,b0d,b0a,b0c,b0b,g9Y,g9Z,h0a,h9];refine b0B.callsS (d4g u (b0f u) ub pre.length (k:=0) hl hi hk1) (by simp -implicitDefEqProofs only[go_sem];rfl) ?_;simp -implicitDefEqProofs only[go_sem,b0d,b0a,b0c,b0b,g9Y,g9Z,h0a];refine b0B.callsS (d1J u (b0f u) ub pre.length hl (hkd 0 hk1).2.1 hg) (by simp -implicitDefEqProofs only[go_sem]) ?_;simp -implicitDefEqProofs only[go_sem,b0d,b0a,b0c,b0b,g9Y,g9Z,h0a];exact⟨kn,sg,ab,_,[],rfl,by simp,hK _ _ _ hm⟩
 rw[if_neg h9]at hK;by_cases h11:(b0h l i).kind=11
 ·rw[if_pos h11]at hK;simp -implicitDefEqProofs only[go_sem,Tryz.f95,ck4,b0d,b0a,b0c,b0b,g9Y,g9Z,h0a];refine b0B.callsS (b5z u (b0f u) ub pre.length hl hi) (by simp -implicitDefEqProofs only[go_sem]) ?_;simp -implicitDefEqProofs only[go_sem,b0d,b0a,b0c,b0b,g9Y,g9Z,h0a,h11];refine sdq ?_;cases hd:b1t (b2v u) ((un:Int),(i:Int))with
  | none =>
   rw[hd]at hK;simp -implicitDefEqProofs only[go_sem,b0d,b0a,b0c,b0b,g9Y,g9Z,h0a,b1S,b6D,hd,h1r,h1f,h0y];exact⟨kn,sg,ab,_,[],rfl,by simp,hK _ _ _ hm⟩
  | some d =>
   obtain⟨hdv,hdk⟩:=hd19 d hvk (.inr h11) hd;rw[hd]at hK;simp -implicitDefEqProofs only[go_sem,b0d,b0a,b0c,b0b,g9Y,g9Z,h0a,b1S,b6D,hd,h0D,h0A,h0L,b6G];obtain⟨un',i',l',rfl,hl',hi'⟩:=id hdv;simp only at hK;rw[b0R hl']at hK;refine b0B.callsS (b5z u (b0f u) ub pre.length hl' hi') (by simp -implicitDefEqProofs only[go_sem]) ?_;simp -implicitDefEqProofs only[go_sem,b0d,b0a,b0c,b0b,g9Y,g9Z,h0a];exact⟨kn,sg,ab,_,[],rfl,by simp,hK _ _ _ hm⟩
 rw[if_neg h11]at hK;simp -implicitDefEqProofs only[go_sem,Tryz.f95,ck4,b0d,b0a,b0c,b0b,g9Y,g9Z,h0a];refine b0B.callsS (b5z u (b0f u) ub pre.length hl hi) (by simp -implicitDefEqProofs only[go_sem]) ?_;simp -implicitDefEqProofs only[go_sem,b0d,b0a,b0c,b0b,g9Y,g9Z,h0a,h23,h9,h11];exact⟨kn,sg,ab,_,[],rfl,by simp,hK _ _ _ hm⟩
end Go.Proofs.YtighfcpaplmaiaaGreatDoor
