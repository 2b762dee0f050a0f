import Derived.Test.YtighfcpaplmaiaaGreatDoorUdL
import Derived.Test.YtighfcpaplmaiaaGreatDoorVgFr
import Derived.ProofKit
import Derived.Deep.QuietTactic
import Derived.Test.YtighfcpaplmaiaaGreatDoorVgZ
import Derived.Shelf.SlSortFuncK.WholeK
set_option linter.unusedVariables false
set_option linter.unusedSimpArgs false
set_option maxRecDepth 20000
namespace Go.Vg
theorem b9X{q:Nat→Bool}:∀ (n i:Nat),b2e q n i=none→∀ j,j<n→q (i+j)=false
 | 0,_,_,j,h=>by omega
 | n+1,i,h,j,hj=>by
  rw[b2e]at h;split at h
  ·cases h
  ·rename_i h0;cases j with
   | zero=>simpa using h0
   | succ j =>
    have:=b9X n (i+1) h j (by omega)
    rwa [show i+(j+1)=i+1+j by omega]
theorem b4o{p:Nat→Nat→Bool}:∀ (tb:List (List Rw)) (n:Nat),b0O p tb n=none→∀ (un i:Nat) (l:List Rw),tb[un]? = some l→i<l.length→p (n+un) i=false
 | [],_,_,un,i,l,h,_=>by simp at h
 | t::r,n,h0,un,i,l,h,hi=>by
  rw[b0O]at h0;split at h0
  ·cases h0
  ·rename_i h1;cases un with
   | zero =>
    simp at h;subst h;have:=b9X _ 0 h1 i hi;simpa using this
   | succ un =>
    rw[g9Y]at h;have:=b4o r (n+1) h0 un i l h hi
    rwa [show n+(un+1)=n+1+un by omega]
theorem f0g{y:Nd}(h:y.node=0)(hk:y.kind=2∨y.kind=4∨y.kind=5∨y.kind=7∨y.kind=22):b0F y.text=true:=by
 unfold Nd.node at h;have h17:y.kind≠17:=by omega
 have hn:b2s y.kind y.text=true:=by
  unfold b2s;rw[if_neg (by omega)];simp only[h0l];omega
 split at h
 ·cases h
 ·split at h
  ·cases h
  ·rename_i hv;simp only[h17,decide_false,h0U,Bool.not_false,h0S,h0Y,hn,Bool.not_eq_true,Bool.not_eq_false']at hv;exact hv
theorem c7a{l:List Rw}(hg:gramL l):∀ (f i:Nat),i<l.length→b1B l f i=true→b4h l f i≠⟨#[]⟩
 | 0,_,_,h=>by cases h
 | f+1,i,hi,h=>by
  rw[b1B,h0k,h0l,List.all_eq_true]at h;obtain⟨hk,ha⟩:=h;rw[b4h];by_cases h26:(b0h l i).kind=26
  ·rw[if_pos h26];have hle:=hg.least i hi;rw[h26]at hle;have hk1:0<(b0h l i).kids.length:=by simp[b0S]at hle;omega
   have hkd:=hg.kid i hi 0 hk1;exact c7a hg f _ hkd.2.1 (ha _ (h0j (b3J hk1)))
  ·rw[if_neg h26];split
   ·decide
   split
   ·decide
   split
   ·unfold opT;split <;> decide
   ·omega
end Go.Vg
namespace Go.Proofs.YtighfcpaplmaiaaGreatDoor
open Go Go.Vg Go.Proofs
structure ChkF(u:List Un):Prop where
 cls:(b3r u (b0e u 0)).1=0
 nm:b0O (nmP u) (b0f u) 0=none
 dbl:(b8A (b0f u) (b0e u 0)).2=[]
 unb:b6I (b4r u)=[]
 wr:b0O (wrP u) (b0f u) 0=none
 mi:b0O (miP u) (b0f u) 0=none
theorem b7k{u:List Un}(h:(b4H u).1=0):ChkF u:=by
 unfold b4H at h;split at h
 ·cases h
 unfold f1l at h;split at h
 ·rename_i h1;exact absurd h h1
 rename_i h1;split at h
 ·cases h
 rename_i h2;unfold f2z at h;split at h
 ·cases h
 rename_i h3;split at h
 ·cases h
 rename_i h4;unfold f8b at h;split at h
 ·cases h
 rename_i h5;split at h
 ·cases h
 rename_i h6;exact⟨by simpa using h1,h2,h3,h4,h5,h6⟩
theorem ChkF.wrong{u:List Un}(h:ChkF u){un i:Nat}{l:List Rw}(hl:(b0f u)[un]? = some l)(hi:i<l.length):wrS u un l i=false:=by
 have:=b4o _ 0 h.wr un i l hl hi;rw[h0w]at this
 rwa [wrP,b7D hl]at this
theorem ChkF.placed{u:List Un}(h:ChkF u){un i:Nat}{l:List Rw}(hl:(b0f u)[un]? = some l)(hi:i<l.length):d2t u un l i=false:=by
 have:=b4o _ 0 h.mi un i l hl hi;rw[h0w]at this
 rwa [miP,b7D hl]at this
theorem ChkF.const{u:List Un}(h:ChkF u){un:Nat}{l:List Rw}(hl:(b0f u)[un]? = some l):∀ i<l.length,(b0h l i).kind=9→∃ f,b1B l f (b1c l i 0)=true:=fun i hi hk=>by
 have:=h.placed hl hi;rw[d2t,if_neg (by omega),if_pos hk]at this;exact⟨l.length,by simpa using this⟩
theorem b5B{M:List Dl}:∀ (tb:List (List Rw)) (n un i:Nat) (l:List Rw),tb[un]? = some l→i<l.length→(b6Y (b0h l i).kind (b0h l i).text).2=true→(⟨n+un,i,c3B l M (n+un) i (b6Y (b0h l i).kind (b0h l i).text).1⟩:Us)∈b2O M tb n
 | [],n,un,i,l,h,_,_=>by simp at h
 | t::r,n,un,i,l,h,hi,hu=>by
  rw[b2O];cases un with
  | zero =>
   simp at h;subst h;refine h1e _ (List.mem_flatMap.2 ⟨i,by simpa using hi,?_⟩);unfold b5I;rw[if_pos hu];exact h0R.2 rfl
  | succ un =>
   rw[g9Y]at h;have:=b5B (M:=M) r (n+1) un i l h hi hu;rw[show n+1+un=n+(un+1)by omega]at this;exact h1j _ this
theorem ChkF.bound{u:List Un}(h:ChkF u){un i:Nat}{l:List Rw}(hl:(b0f u)[un]? = some l)(hi:i<l.length)(hk:(b6Y (b0h l i).kind (b0h l i).text).2=true):(c3B l (b2c (b0e u 0)) un i (b6Y (b0h l i).kind (b0h l i).text).1).isSome=true:=by
 have hm:=b5B (M:=b2c (b0e u 0)) (b0f u) 0 un i l hl hi hk;rw[h0w]at hm;cases hr:(c3B l (b2c (b0e u 0)) un i (b6Y (b0h l i).kind (b0h l i).text).1)with
 | some d=>rfl
 | none =>
  rw[hr]at hm;have:(⟨un,i,none⟩:Us)∈b6I (b4r u):=List.mem_filter.2 ⟨hm,rfl⟩;rw[h.unb]at this;cases this
theorem c8v{B:List (ByteArray×ByteArray)}{M:List Dl}{c n:ByteArray}{d:Dl}(h:c2j B M c n=some d):d∈M∧(d.owner=c∨d.owner∈(b3M B c).1)∧d.name=n:=by
 unfold c2j at h;obtain⟨s,hs,hf⟩:=List.exists_of_findSome?_eq_some h;have h1:=List.find?_some hf;simp only[h0k,h0l]at h1;refine⟨h0Z hf,?_,h1.2.symm⟩;rw[←h1.1];exact h0C.1 hs
theorem b7Q{u:List Un}{c n:ByteArray}{d:Dl}(h:b1H u c n=some d):d∈b0e u 0∧d.kind=4∧(d.owner=c∨d.owner∈(b3M (b0C (btU u) (b0e u 0)) c).1)∧d.name=n:=by
 obtain⟨h1,h2,h3⟩:=c8v h;obtain⟨h4,h5⟩:=b4M h;exact⟨h4,h5,h2,h3⟩
theorem b6V{u:List Un}(h:SndU u){un i:Nat}{l:List Rw}(hl:(b0f u)[un]? = some l)(hi:i<l.length)(hk:(b0h l i).kind=2∨(b0h l i).kind=4∨(b0h l i).kind=5∨(b0h l i).kind=7∨(b0h l i).kind=22):(b0h l i).text≠⟨#[]⟩:=by
 obtain⟨x,hx,rfl⟩:=b2H h.br hl;have hs:=h.snd x (h0j hx);obtain⟨k,t,g,ks,e1,e2,e3,e4⟩:=b1I hi;have hck:b3T x.tree=0:=by simp[b1q]at hs;exact hs.2
 unfold b3T at hck;split at hck
 ·cases hck
 rw[e3];rw[e2]at hk;exact c6N (f0g (y := .mk k t g ks) (b6N _ hck _ (h0j e1)) hk)
theorem c0M{k:Int×Int}:∀ (us:List Us) (M:List ((Int×Int)×(Int×Int))),(∃ x∈us,k=((x.un:Int),(x.nd:Int))∧x.to.isSome=true)∨(b1t M k).isSome=true→(b1t (us.foldl d4D M) k).isSome=true
 | [],M,h=>by
  rcases h with⟨x,hx,_⟩ | h
  ·cases hx
  ·exact h
 | x::r,M,h=>by
  rw[h0K];refine c0M r _ ?_;have keep:(b1t M k).isSome=true→(b1t (d4D M x) k).isSome=true:=fun h=>by
   unfold d4D;split
   ·rw[b7V];split
    ·rfl
    ·exact h
   ·exact h
  rcases h with⟨y,hy,hk,ht⟩ | h
  ·rcases h0C.1 hy with rfl | hy
   ·obtain⟨d,hd⟩:=h0I.1 ht;right;unfold d4D;rw[hd];simp only;rw[b7V,if_pos hk];rfl
   ·exact .inl ⟨y,hy,hk,ht⟩
  ·exact .inr (keep h)
theorem ChkF.dcl{u:List Un}(h:ChkF u){un i:Nat}{l:List Rw}(hl:(b0f u)[un]? = some l)(hi:i<l.length)(hk:(b6Y (b0h l i).kind (b0h l i).text).2=true):∃ d,b1t (b2v u) ((un:Int),(i:Int))=some d:=by
 have hm:=b5B (M:=b2c (b0e u 0)) (b0f u) 0 un i l hl hi hk;rw[h0w]at hm;exact h0I.1 (c0M _ _ (.inl ⟨_,hm,rfl,h.bound hl hi hk⟩))
theorem c0e{u:List Un}(h:SndU u){un i:Nat}{l:List Rw}(hl:(b0f u)[un]? = some l)(hi:i<l.length)(hk:(b0h l i).kind=2):(b2W l i).result≠⟨#[]⟩:=by
 have hg:=h.gram l (h0j hl);have hle:=hg.least i hi;rw[hk]at hle;have hk1:1<(b0h l i).kids.length:=by simp[b0S]at hle;omega
 have hkd:=hg.kid i hi 1 hk1;have hf:=hg.fit i hi 1 hk1;rw[hk]at hf;simp[b3l]at hf;exact b6V h hl hkd.2.1 (.inr (.inr (.inl hf)))
theorem g4Y{u:List Un}(h:SndU u){c n:ByteArray}{s:Sg}(hs:mtS u (c,n)=some s):s.result≠⟨#[]⟩:=by
 unfold mtS at hs;obtain⟨d,hd,rfl⟩:=h0p.1 hs;obtain⟨h1,h2⟩:=b4M hd;obtain⟨un,nd,l,q1,q2,q3,q4,q5,q6⟩:=h.decl h1;rw[q1,q2,b5Z q3,h0n];exact c0e h q3 q4 (by omega)
theorem f9W{u:List Un}(hu:b2D u)(h0:(b4H u).1=0){un i:Nat}{l:List Rw}(hl:(b0f u)[un]? = some l)(hi:i<l.length)(hg3:17≤(b0h l i).kind):tyS u ((un:Int),(i:Int))≠⟨#[]⟩:=by
 have hS:=b3H hu h0;have hT:=hS.ckT;have hC:=b7k h0;obtain⟨μ,hμ⟩:=hT.mu;have key:∀ (n un i:Nat) (l:List Rw),μ ((un:Int),(i:Int))<n→(b0f u)[un]? = some l→i<l.length→17≤(b0h l i).kind→tyS u ((un:Int),(i:Int))≠⟨#[]⟩:=by
  intro n;induction n with
  | zero=>intro _ _ _ h;omega
  | succ n ih =>
   intro un i l hn hl hi hk;have hV:Val (b0f u) ((un:Int),(i:Int)):=⟨un,i,l,rfl,hl,hi⟩
   have hg:=hS.gram l (h0j hl);obtain⟨r1,r2⟩:=hg.rng i hi;have ihq:∀ q,tgt (b0f u) (b2v u) ((un:Int),(i:Int)) q→17≤(rwK (b0f u) q).kind→tyS u q≠⟨#[]⟩:=fun q hq h17=>by
    obtain⟨⟨un',i',l',rfl,g1,g2⟩,g3,g4⟩:=(hμ _ hV).2 q hq;rw[b0R g1]at h17;exact ih un' i' l' (by omega) g1 g2 h17
   have kid3:∀ {p:Nat},p<l.length→((b0h l p).kind=10∨(b0h l p).kind=21∨(b0h l p).kind=26)→b1c l p 0<l.length∧17≤(b0h l (b1c l p 0)).kind:=fun {p} hp hk=>by
    have hle:=hg.least p hp;have hk1:0<(b0h l p).kids.length:=by
     rcases hk with hk | hk | hk <;> (rw[hk]at hle;simp[b0S]at hle;omega)
    have hkd:=hg.kid p hp 0 hk1;have hf:=hg.fit p hp 0 hk1;refine⟨hkd.2.1,?_⟩;have g3:∀ k:Int,b1D k=3→17≤k:=fun k h=>by
     unfold b1D at h
     repeat' split at h
     all_goals omega
    rcases hk with hk | hk | hk <;> (rw[hk]at hf;simp[b3l]at hf;exact g3 _ hf)
   rw[d2D hT hV];unfold tyB;rw[b0R hl,b3B hl,b5Z hl,h0n];by_cases h17:(b0h l i).kind=17
   ·rw[if_pos h17];decide
   rw[if_neg h17];by_cases h18:(b0h l i).kind=18
   ·rw[if_pos h18];decide
   rw[if_neg h18];by_cases h19:(b0h l i).kind=19
   ·rw[if_pos h19];obtain⟨d,hd⟩:=hC.dcl hl hi (by rw[c8m (.inl h19)]);rw[hd];simp only;obtain⟨⟨un',i',l',rfl,g1,g2⟩,g3⟩:=hT.d19 _ _ hV (by rw[b0R hl];exact .inl h19) hd;have hg':=hS.gram l' (h0j g1);rw[b0R g1]at g3;unfold c9R;rw[b0R g1,b3B g1,b0R g1,b5Z g1,h0n];have hle:=hg'.least i' g2;have hk1:0<(b0h l' i').kids.length:=by
     rcases g3 with hk | hk | hk <;> (rw[hk]at hle;simp[b0S]at hle;omega)
    have hkd:=hg'.kid i' g2 0 hk1;have hf:=hg'.fit i' g2 0 hk1;rcases g3 with g3 | g3 | g3
    ·rw[if_pos g3];rw[g3]at hf;simp[b3l]at hf;exact b6V hS g1 hkd.2.1 (.inr (.inr (.inl hf)))
    ·rw[if_neg (by omega),if_neg (by omega),if_pos g3];have hp:=hC.placed g1 g2;rw[d2t,if_neg (by omega),if_pos g3]at hp;exact c7a hg' _ _ hkd.2.1 (by simpa using hp)
    ·rw[if_neg (by omega),if_pos g3];refine ihq _ (.inr ⟨by rw[b0R hl];exact h19,_,hd,by rw[b0R g1];exact g3,(b3B g1).symm⟩) ?_;rw[b0R g1];rw[g3]at hf;simp[b3l,b1D]at hf;omega
   rw[if_neg h19];by_cases h20:(b0h l i).kind=20
   ·rw[if_pos h20];obtain⟨d,hd⟩:=hC.dcl hl hi (by rw[h20,d3n]);rw[hd];simp only;obtain⟨⟨un',i',l',rfl,g1,g2⟩,g3,_⟩:=hS.fnc hl h20 hd;rw[b0R g1]at g3;rw[b5Z g1,h0n];exact c0e hS g1 g2 g3
   rw[if_neg h20];by_cases h21:(b0h l i).kind=21
   ·rw[if_pos h21];obtain⟨k1,k2⟩:=kid3 hi (.inr (.inl h21));have hne:=ihq _ (.inl ⟨by rw[b0R hl];exact .inl h21,(b3B hl).symm⟩) (by rw[b0R hl];exact k2);have hw:=hC.wrong hl hi;unfold wrS at hw;simp only at hw;rw[if_neg (by omega),if_neg (by omega),if_neg (by omega),if_neg (by omega),if_neg (by omega),if_pos h21,if_neg hne]at hw;cases hm:mtS u (rcT (tyS u ((un:Int),((b1c l i 0:Nat):Int))),(b0h l i).text)with
    | none=>rw[hm]at hw;cases hw
    | some s=>exact g4Y hS hm
   rw[if_neg h21];by_cases h22:(b0h l i).kind=22
   ·rw[if_pos h22];exact b6V hS hl hi (.inr (.inr (.inr (.inr h22))))
   rw[if_neg h22];by_cases h23:(b0h l i).kind=23
   ·rw[if_pos h23];have hp:=hC.placed hl hi;rw[d2t,if_pos h23]at hp;cases hf:b9d l i with
    | none=>rw[hf]at hp;cases hp
    | some p=>rw[hf]at hp;simpa using hp
   rw[if_neg h23];by_cases h24:(b0h l i).kind=24∨(b0h l i).kind=25
   ·rw[if_pos h24];unfold opT;split <;> decide
   rw[if_neg h24];have h26:(b0h l i).kind=26:=by omega
   rw[if_pos h26];obtain⟨k1,k2⟩:=kid3 hi (.inr (.inr h26));exact ihq _ (.inl ⟨by rw[b0R hl];exact .inr h26,(b3B hl).symm⟩) (by rw[b0R hl];exact k2)
 exact key _ un i l (Nat.lt_succ_self _) hl hi hg3
open Go Go.Vg Go.Proofs Go.RowKit
instance:Inhabited Ed:=⟨⟨⟨#[]⟩,⟨#[]⟩⟩⟩
structure Hid(p:Prop):Prop where
 h:p
structure Wq(P:Program)(ops:Array Oper)(C:World→Prop)(Q:Act→Prop)(l:List Oper)(a:Act):Prop where
 h:wpQuiet P ops C Q l a
theorem Wq.nil{P:Program}{ops:Array Oper}{C:World→Prop}{Q:Act→Prop}{a:Act}(h:Q a):Wq P ops C Q [] a:=⟨wpQuiet_nil h⟩
theorem Wq.skip{P:Program}{ops:Array Oper}{C:World→Prop}{Q:Act→Prop}{o:Oper}{rest:List Oper}{a:Act}(hw:Region.wanted o (yielded ops a.tmps)=false)(h:∀ K:Act→Prop,(∀ a,Wq P ops C Q rest a→K a)→K (a.put o.dst undef)):Wq P ops C Q (o::rest) a :=
 ⟨wpQuiet_step fun K hK=>by rw[if_neg (by rw[hw];simp)];exact h K fun a ha=>hK a ha.h⟩
theorem Wq.take{P:Program}{ops:Array Oper}{C:World→Prop}{Q:Act→Prop}{o:Oper}{rest:List Oper}{a:Act}(hw:Region.wanted o (yielded ops a.tmps)=true)(h:∀ K:Act→Prop,(∀ a,Wq P ops C Q rest a→K a)→o.quiet P a C K):Wq P ops C Q (o::rest) a :=
 ⟨wpQuiet_step fun K hK=>by rw[if_pos hw];exact h K fun a ha=>hK a ha.h⟩
set_option maxHeartbeats 2000000 in
theorem f6K(blk off c Bs size:Nat)(W:World)(g:Nat→Ed)(hs:W.cell? ⟨Bs,0,none⟩=some (.slice (some ⟨blk,off,none⟩) size c))
    (i j:Nat) (hi:i<size) (hj:j<size) (_hsz:size<4611686018427387904)
    (ci:W.cell? ⟨blk,off+i * 2,none⟩=some (.string (g i).fr)) (cj:W.cell? ⟨blk,off+j * 2,none⟩=some (.string (g j).fr))
    (ci':W.cell? ⟨blk,off+i * 2+1,none⟩=some (.string (g i).to)) (cj':W.cell? ⟨blk,off+j * 2+1,none⟩=some (.string (g j).to))
    (hb:Hid (Op.bytesLess (g i).fr.toList (g j).fr.toList=true)) :
    Calls Tryz.prog 44 #[.int .i64 i,.int .i64 j,.pointer (some ⟨Bs,0,none⟩)] W fun e w'=>e = .returned (.bool true)∧∃ q,w'=W.drewN q:=by
  go_enter Tryz.func44,Tryz.ntmps44
  go_wp2
  refine wp_region_quiet_lit (by kernel_rfl) (by kernel_rfl) ?_;refine Wq.h ?_
  iterate 12
    (refine Wq.take rfl (fun K hK=>?_)
     go_simp
     refine hK _ ?_;clear hK K)
  iterate 12
    (refine Wq.skip ?_ (fun K hK=>?_)
     · go_simp
       exact hb.h
     go_simp
     refine hK _ ?_;clear hK K)
  iterate 11
    (refine Wq.skip rfl (fun K hK=>?_)
     go_simp
     refine hK _ ?_;clear hK K)
  iterate 1
    (refine Wq.skip ?_ (fun K hK=>?_)
     · go_simp
       exact hb.h
     go_simp
     refine hK _ ?_;clear hK K)
  iterate 2
    (refine Wq.take rfl (fun K hK=>?_)
     go_simp
     refine hK _ ?_;clear hK K)
  refine Wq.nil ?_;intro _ hw';obtain⟨nq,hw''⟩:=hw';subst hw'';simp only[hb.h,if_true]
  go_wp2
  go_ret
  exact⟨rfl,nq,rfl⟩
set_option maxHeartbeats 2000000 in
theorem f5d(blk off c Bs size:Nat)(W:World)(g:Nat→Ed)(hs:W.cell? ⟨Bs,0,none⟩=some (.slice (some ⟨blk,off,none⟩) size c))
    (i j:Nat) (hi:i<size) (hj:j<size) (_hsz:size<4611686018427387904)
    (ci:W.cell? ⟨blk,off+i * 2,none⟩=some (.string (g i).fr)) (cj:W.cell? ⟨blk,off+j * 2,none⟩=some (.string (g j).fr))
    (ci':W.cell? ⟨blk,off+i * 2+1,none⟩=some (.string (g i).to)) (cj':W.cell? ⟨blk,off+j * 2+1,none⟩=some (.string (g j).to))
    (hb:Hid (Op.bytesLess (g i).fr.toList (g j).fr.toList=false)) (hb2:Hid (¬ (g i).fr.toList=(g j).fr.toList)) :
    Calls Tryz.prog 44 #[.int .i64 i,.int .i64 j,.pointer (some ⟨Bs,0,none⟩)] W fun e w'=>e = .returned (.bool false)∧∃ q,w'=W.drewN q:=by
  go_enter Tryz.func44,Tryz.ntmps44
  go_wp2
  refine wp_region_quiet_lit (by kernel_rfl) (by kernel_rfl) ?_;refine Wq.h ?_
  iterate 12
    (refine Wq.take rfl (fun K hK=>?_)
     go_simp
     refine hK _ ?_;clear hK K)
  iterate 12
    (refine Wq.take ?_ (fun K hK=>?_)
     · go_simp
       exact hb.h
     go_simp
     refine hK _ ?_;clear hK K)
  iterate 11
    (refine Wq.skip ?_ (fun K hK=>?_)
     · go_simp
       exact hb2.h
     go_simp
     refine hK _ ?_;clear hK K)
  iterate 1
    (refine Wq.take ?_ (fun K hK=>?_)
     · go_simp
       exact hb.h
     go_simp
     refine hK _ ?_;clear hK K)
  iterate 2
    (refine Wq.take rfl (fun K hK=>?_)
     go_simp
     refine hK _ ?_;clear hK K)
  refine Wq.nil ?_;intro _ hw';obtain⟨nq,hw''⟩:=hw';subst hw'';simp only[hb.h,eq_false hb2.h,h0r,if_false,if_true,decide_false]
  go_wp2
  go_ret
  exact⟨rfl,nq,rfl⟩
set_option maxHeartbeats 2000000 in
theorem f6H(blk off c Bs size:Nat)(W:World)(g:Nat→Ed)(hs:W.cell? ⟨Bs,0,none⟩=some (.slice (some ⟨blk,off,none⟩) size c))
    (i j:Nat) (hi:i<size) (hj:j<size) (_hsz:size<4611686018427387904)
    (ci:W.cell? ⟨blk,off+i * 2,none⟩=some (.string (g i).fr)) (cj:W.cell? ⟨blk,off+j * 2,none⟩=some (.string (g j).fr))
    (ci':W.cell? ⟨blk,off+i * 2+1,none⟩=some (.string (g i).to)) (cj':W.cell? ⟨blk,off+j * 2+1,none⟩=some (.string (g j).to))
    (hb:Hid (Op.bytesLess (g i).fr.toList (g j).fr.toList=false)) (hb2:Hid ((g i).fr.toList=(g j).fr.toList)) :
    Calls Tryz.prog 44 #[.int .i64 i,.int .i64 j,.pointer (some ⟨Bs,0,none⟩)] W fun e w'=>e = .returned (.bool (Op.bytesLess (g i).to.toList (g j).to.toList))∧∃ q,w'=W.drewN q:=by
  go_enter Tryz.func44,Tryz.ntmps44
  go_wp2
  refine wp_region_quiet_lit (by kernel_rfl) (by kernel_rfl) ?_;refine Wq.h ?_
  iterate 12
    (refine Wq.take rfl (fun K hK=>?_)
     go_simp
     refine hK _ ?_;clear hK K)
  iterate 12
    (refine Wq.take ?_ (fun K hK=>?_)
     · go_simp
       exact hb.h
     go_simp
     refine hK _ ?_;clear hK K)
  iterate 11
    (refine Wq.take ?_ (fun K hK=>?_)
     · go_simp
       exact hb2.h
     go_simp
     refine hK _ ?_;clear hK K)
  iterate 1
    (refine Wq.take ?_ (fun K hK=>?_)
     · go_simp
       exact hb.h
     go_simp
     refine hK _ ?_;clear hK K)
  iterate 2
    (refine Wq.take rfl (fun K hK=>?_)
     go_simp
     refine hK _ ?_;clear hK K)
  refine Wq.nil ?_;intro _ hw';obtain⟨nq,hw''⟩:=hw';subst hw'';have hbe:((g i).fr.toList == (g j).fr.toList)=true:=beq_iff_eq.2 hb2.h;simp only[hb.h,hbe,h0Y,h0S]
  go_wp2
  go_ret
  exact⟨rfl,nq,rfl⟩
def b2Z(a b:Ed):Bool:=ltB a.fr b.fr || (decide (a.fr=b.fr) && ltB a.to b.to)
theorem g2j(blk off c Bs size:Nat)(W:World)(g:Nat→Ed)(hs:W.cell? ⟨Bs,0,none⟩=some (.slice (some ⟨blk,off,none⟩) size c))
  (hc:∀ t,t<size→W.cell? ⟨blk,off+t * 2,none⟩=some (.string (g t).fr)∧W.cell? ⟨blk,off+t * 2+1,none⟩=some (.string (g t).to)) (i j:Nat) (hi:i<size) (hj:j<size) (hsz:size<4611686018427387904) :
  Calls Tryz.prog 44 #[.int .i64 i,.int .i64 j,.pointer (some ⟨Bs,0,none⟩)] W fun e w'=>e = .returned (.bool (b2Z (g i) (g j)))∧∃ q,w'=W.drewN q:=by
 obtain⟨ci,ci'⟩:=hc i hi;obtain⟨cj,cj'⟩:=hc j hj;cases h1:Op.bytesLess (g i).fr.toList (g j).fr.toList with
 | true =>
  have e:b2Z (g i) (g j)=true:=by unfold b2Z ltB;rw[h1];rfl
  rw[e];exact f6K blk off c Bs size W g hs i j hi hj hsz ci cj ci' cj' ⟨h1⟩
 | false =>
  by_cases h2:(g i).fr.toList=(g j).fr.toList
  ·have e:b2Z (g i) (g j)=Op.bytesLess (g i).to.toList (g j).to.toList:=by unfold b2Z ltB;rw[h1,h0H (c2f h2)];rfl
   rw[e];exact f6H blk off c Bs size W g hs i j hi hj hsz ci cj ci' cj' ⟨h1⟩ ⟨h2⟩
  ·have e:b2Z (g i) (g j)=false:=by unfold b2Z ltB;rw[h1,h0z fun h=>h2 (by rw[h])];rfl
   rw[e];exact f5d blk off c Bs size W g hs i j hi hj hsz ci cj ci' cj' ⟨h1⟩ ⟨h2⟩
end Go.Proofs.YtighfcpaplmaiaaGreatDoor
namespace Go.Proofs.YtighfcpaplmaiaaGreatDoor
open Go Go.Vg Go.Proofs Go.Shelf Go.RowKit Go.Sort
theorem d6k{a b:Ed}:b2Z a b=true↔ltB a.fr b.fr=true∨(a.fr=b.fr∧ltB a.to b.to=true):=by simp[b2Z]
theorem b5f(a:Ed):b2Z a a=false:=by simp[b2Z,b3f]
theorem b6c{a b c:Ed}(h1:b2Z a b=true)(h2:b2Z b c=true):b2Z a c=true:=by
 rw[d6k]at h1 h2 ⊢;rcases h1 with h1 | ⟨e1,h1⟩ <;> rcases h2 with h2 | ⟨e2,h2⟩
 ·exact .inl (b5E h1 h2)
 ·exact .inl (e2 ▸ h1)
 ·exact .inl (e1 ▸ h2)
 ·exact .inr ⟨e1.trans e2,b5E h1 h2⟩
theorem b8Z{a b:Ed}(h1:b2Z a b=false)(h2:b2Z b a=false):a=b:=by
 simp only[b2Z,h1B,Bool.and_eq_false_iff,h1q]at h1 h2;have e1:=b7W h1.1 h2.1;have e2:a.to=b.to:=by
  refine b7W ?_ ?_
  ·rcases h1.2 with h | h
   ·exact absurd e1 h
   ·exact h
  ·rcases h2.2 with h | h
   ·exact absurd e1.symm h
   ·exact h
 obtain⟨a1,a2⟩:=a;obtain⟨b1,b2⟩:=b;simp only at e1 e2;rw[e1,e2]
theorem c5q{a b c:Ed}(h1:b2Z a b=false)(h2:b2Z b c=false):b2Z a c=false:=by
 cases h:b2Z a c with
 | false=>rfl
 | true =>
  cases hb:b2Z b a with
  | true=>have:=b6c hb h;rw[h2]at this;cases this
  | false =>
   have e:=b8Z h1 hb;subst e;rw[h2]at h;cases h
theorem d6V:SWO b2Z:=⟨fun _=>b5f _,fun _ _ _ h1 h2=>b6c h1 h2,fun _ _ _ h1 h2=>c5q h1 h2⟩
def b4q(c:Ed):List Value:=[.string c.fr,.string c.to]
def b2E(l:List Ed):List Ed:=l.mergeSort fun a b => !b2Z b a
theorem b1T(l:List Ed):(b2E l).Perm l:=List.mergeSort_perm l _
theorem b6U(l:List Ed):(b2E l).Pairwise fun a b=>b2Z b a=false:=by
 have:=List.pairwise_mergeSort (le:=fun a b => !b2Z b a) (fun a b c h1 h2=>by
  simp only[Bool.not_eq_true']at h1 h2 ⊢;exact d6V.ntrans _ _ _ h2 h1) (fun a b=>by
  show(!b2Z b a || !b2Z a b)=true;cases h1:b2Z b a with
  | false=>rfl
  | true =>
   cases h2:b2Z a b with
   | false=>rfl
   | true=>have:=d6V.trans _ _ _ h1 h2;rw[d6V.irrefl]at this;cases this) l
 exact this.imp fun h=>by simpa using h
theorem d8G:∀ {l1 l2:List Ed},l1.Perm l2→(l1.Pairwise fun a b=>b2Z b a=false)→(l2.Pairwise fun a b=>b2Z b a=false)→l1=l2:=by
 intro l1;induction l1 with
 | nil=>intro l2 h _ _;exact(h.symm.eq_nil).symm
 | cons a r ih =>
  intro l2 h h1 h2;cases l2 with
  | nil=>exact absurd h.eq_nil (by simp)
  | cons b s =>
   have hab:a=b:=by
    have ha:a∈b::s:=h.mem_iff.1 (by simp);have hb:b∈a::r:=h.mem_iff.2 (by simp);rcases h0C.1 ha with e | ha
    ·exact e
    ·rcases h0C.1 hb with e | hb
     ·exact e.symm
     ·have x1:=(h1x.1 h1).1 b hb;have x2:=(h1x.1 h2).1 a ha;exact b8Z x2 x1
   subst hab;rw[ih (List.perm_cons a |>.1 h) (h1x.1 h1).2 (h1x.1 h2).2]
theorem c2m{l:List Ed}{j:Nat}(hj:j<l.length * 2):∃ c x v,l[j / 2]? = some c∧c.enc[j % 2]? = some x∧((l.map Ed.enc).flatten)[j]? = some x∧(b4q c)[j % 2]? = some v∧∀ (P:Program) (G:Gh) (a:List Nat) u,RV P G a x u→u=v:=by
 have hi:j / 2<l.length:=by omega
 have hk:j % 2<2:=by omega
 refine⟨l[j / 2],(l[j / 2]).enc[j % 2]'(by rw[c1O];exact hk),(b4q l[j / 2])[j % 2]'(by simpa[b4q]using hk),h0f hi,h0f _,?_,h0f _,fun P G a u hu=>?_⟩
 ·have key:∀ (l:List Ed) (i k:Nat) (hi:i<l.length) (hk:k<2),((l.map Ed.enc).flatten)[i * 2+k]? = some ((l[i]).enc[k]'(by rw[c1O];exact hk)):=by
   intro l;induction l with
   | nil=>intro i k hi;simp at hi
   | cons c r ih =>
    intro i k hi hk;rw[h0s,h1b];cases i with
    | zero =>
     rw[h0e (by rw[c1O];omega),Nat.zero_mul,h0w];exact h0f _
    | succ i =>
     rw[h0g (by rw[c1O];omega),c1O,show(i+1) * 2+k - 2=i * 2+k by omega];exact ih i k (by simpa using hi) hk
  have e:j=j / 2 * 2+j % 2:=by omega
  have:=key l (j / 2) (j % 2) hi hk;rw[←e]at this;exact this
 ·generalize hc:l[j / 2]=c at hu ⊢;have key:∀ (m:Nat) (x:V) (v:Value),c.enc[m]? = some x→(b4q c)[m]? = some v→RV P G a x u→u=v:=by
   intro m x v hx hv hr
   match m with
   | 0=>simp[Ed.enc]at hx;simp[b4q]at hv;subst hx hv;cases hr;rfl
   | 1=>simp[Ed.enc]at hx;simp[b4q]at hv;subst hx hv;cases hr;rfl
   | m+2=>simp[Ed.enc]at hx
  exact key (j % 2) _ _ (h0f _) (h0f _) hu
theorem get!_list{l:List Ed}{i:Nat}{c:Ed}(h:l[i]? = some c):l.toArray[i]! = c:=by
 obtain⟨hi,e⟩:=h0b.1 h;rw[getElem!_pos l.toArray i (by simpa using hi)];simpa using e
theorem getV!{l:List Value}{i:Nat}{c:Value}(h:l[i]? = some c):l[i]! = c:=by
 obtain⟨hi,e⟩:=h0b.1 h;rw[getElem!_pos l i hi,e]
theorem d8i{l:List Ed}{j:Nat}{c:Ed}{v:Value}(hj:j<l.length * 2)(h1:l[j / 2]? = some c)(h2:(b4q c)[j % 2]? = some v):(flatK b4q 2 l.toArray)[j]! = v:=by
 rw[get_flatK b4q 2 l.toArray j (by simpa using hj),get!_list h1,getV! h2]
noncomputable def sdT:TypeInfo:=(Tryz.prog.info? 32).get (by kernel_rfl)
noncomputable def sdE:TypeInfo:=(Tryz.prog.info? 38).get (by kernel_rfl)
theorem f6v:∀ n,2≤n→Lib.swapperK n sdE 25=Lib.swapperK 2 sdE 25:=by
 intro n hn;unfold Lib.swapperK;have h0:(n == 0)=false:=by simp;omega
 have h1:(n == 1)=false:=by simp;omega
 rw[h0,h1];rfl
theorem d0f{h:List VObj}{a:List Nat}{id k gen o:Nat}{l:List Ed}{K:b1y}(hid:h[id]? = some (.vec k gen 38 (l.map Ed.enc).flatten))(ho:h[o]? = some (.cells [.vec id k gen l.length 38]))(hl:1≤l.length)
  (hK:K (.tuple []) (h.set id (.vec k gen 38 ((b2E l).map Ed.enc).flatten)) a) :
  b0q (envV 32) 43 [.iface 32 (.vec id k gen l.length 38),.func 44 [.ptr o 0]] h a K:=by
 intro G w0 w vals hr ha;obtain⟨v,vs,rfl,hv,ha⟩:=ha.cons;obtain⟨v2,vs,rfl,hv2,ha⟩:=ha.cons;rw[ha.nil];have hce:Tryz.prog.cellsOf 38=2:=by kernel_rfl
 obtain⟨hak,hgg,b,hi,hρ,hch,hcells⟩:=hr.vs.at_ _ _ _ _ _ hid;cases hv with
 | iface _ _ x hx =>
 cases hx with
 | vec _ _ _ _ _ b' off cap hvv h1 h2 =>
 cases hv2 with
 | func _ _ cs f1 f2 =>
 obtain⟨n,q1,q2,q3⟩:=hvv;rw[hak]at q1;cases q1
 obtain⟨b1,hi1,q4,q5,q6,q7,q8⟩:=q3 rfl;rw[hρ]at q4;cases q4
 subst q7 q8;rw[show(envV 32).P=Tryz.prog from rfl,hce]at q5;have hcsl:((l.map Ed.enc).flatten).length=l.length * 2:=by
  rw[b5l (c:=2)]
  ·rw[h0v]
  ·intro i el hi;rw[h0u]at hi;cases hl:l[i]? with
   | none=>rw[hl]at hi;cases hi
   | some c=>rw[hl]at hi;cases hi;rfl
 have hhi:0<hi:=by omega
 obtain⟨⟨c,t,hb,hcz⟩,hloose,hFn,hw0⟩:=hr.reg k b 0 hi hρ hhi;have hblk:b<w.heap.size:=(h0B.1 hb).1;obtain⟨Bs,hφ,ce,te,hB,hBz,hBv⟩:=hr.obj o _ ho;obtain⟨sv,hsv,hsr⟩:=hBv 0 _ rfl;have hcs1:cs.size=1:=by simpa using f1.symm
 obtain⟨cp,rfl⟩:∃ cp,cs = #[cp]:=by
  obtain⟨l'⟩:=cs;obtain⟨cp,rfl⟩:=List.length_eq_one_iff.1 (show l'.length=1 by simpa using hcs1);exact⟨cp,rfl⟩
 have hptr:=f2 0 _ cp rfl rfl;cases hptr with
 | ptr _ _ B' hB' =>
 rw[hφ]at hB';cases hB'
 have hBne:Bs≠b:=by
  rintro rfl;have:=hloose o hφ _ ho;simp[VObj.looseAt]at this
 have hBlt:Bs<w.heap.size:=(h0B.1 hB).1;have hsve:sv = .slice (some ⟨b,0,none⟩) l.length cap:=by
  cases hsr with
  | vec _ _ _ _ _ b2 off2 cap2 hv2 _ _ =>
  obtain⟨n2,r1,r2,r3⟩:=hv2;rw[hak]at r1;cases r1
  obtain⟨b3,hi3,r4,r5,r6,r7,r8⟩:=r3 rfl;rw[hρ]at r4;cases r4
  subst r7 r8;rw[show(envV 32).P=Tryz.prog from rfl,hce]at r5;have:cap2=cap:=by omega
  rw[this]
 subst hsve;have hBs:w.cell? ⟨Bs,0,none⟩=some (.slice (some ⟨b,0,none⟩) l.length cap):=by
  simp only[World.cell?,hB];simpa using hsv
 have hH:HoldsK b4q 2 w b 0 l.toArray:=by
  intro j hj;rw[size_flatK]at hj;have hj':j<l.length * 2:=by simpa using hj
  obtain⟨c1,x1,v1,e1,e2,e3,e4,e5⟩:=c2m hj';obtain⟨u,u1,u2,u3⟩:=hcells j x1 e3;rw[d8i hj' e1 e4,h0w];refine⟨by rw[u1,e5 _ _ _ _ u2];rfl,?_⟩;simp[World.frozen?,hb]
 have hlen:(l.toArray:Array Ed).size=l.length:=by simp
 by_cases h1l:l.length=1
 ·have hso:b2E l=l:=by
   obtain⟨c0,hc0⟩:=List.length_eq_one_iff.1 h1l;have:=b1T l;rw[hc0]at this ⊢;exact List.perm_singleton.1 this
  have hset:h.set id (.vec k gen 38 ((b2E l).map Ed.enc).flatten)=h:=by rw[hso];exact b3n hid
  rw[hset]at hK;have hf:∃ g,Tryz.prog.funcs.findIdx? (·.name == "internal/reflectlite" ++ ".Swapper$" ++ toString (Lib.swapperK l.length sdE 25))=some g:=by
   rw[h1l];exact h0I.1 (by kernel_rfl)
  obtain⟨g,hf⟩:=hf;refine(Any.sort_Slice_tiny Tryz.laysGg6 32 38 sdT sdE (by kernel_rfl) (by kernel_rfl) (by kernel_rfl) (by kernel_rfl) 25 (fun _=>by kernel_rfl) (some ⟨b,0,none⟩) l.length cap (by omega) g hf (.func 44) #[] #[.pointer (some ⟨Bs,0,none⟩)] w).mono ?_;rintro e w' ⟨rfl,os,rfl⟩;refine .inl ⟨_,rfl,_,_,_,G,hK,Ext.refl _ _,hr.belowW ⟨rfl,rfl,rfl,?_,fun i hi=>?_⟩,.tuple _ _ rfl (by simp)⟩
  ·show w.heap.size≤(w.heap++os).size;simp
  ·show(w.heap++os)[i]? = w.heap[i]?;rw[h1z hi]
 ·have hless:LessReadsK Tryz.prog 44 #[.pointer (some ⟨Bs,0,none⟩)] b4q 2 b2Z b 0 l.toArray.size w:=by
   intro m os dk hs i j hi hj;have e:sortWorldK b4q 2 w b 0 m dk os=putRowK b4q 2 (grow (Sort.ahead w m) os) b 0 dk:=by
    unfold sortWorldK;rw[putRowK_grow _ _ (Sort.ahead w m) _ b 0 _ hblk]
   have hHg:HoldsK b4q 2 (grow (Sort.ahead w m) os) b 0 l.toArray:=holdsK_grow _ _ _ _ b 0 _ hblk (holdsK_ahead _ _ _ _ _ _ _ hH);refine g2j b 0 cap Bs l.length _ (fun t=>dk[t]!) ?_ (fun t ht=>?_) i j (by omega) (by omega) (by omega)
   ·rw[e,cell?_putRowK_other _ _ _ b 0 dk _ (by exact hBne),cell?_grow _ _ _ (by exact hBlt)];exact hBs
   ·rw[e];have hq:=holdsK_putRowK _ _ _ b 0 l.toArray dk hHg hs;exact⟨(hq.cell (i:=t) (c:=0) (by omega) (by omega)).1,(hq.cell (i:=t) (c:=1) (by omega) (by omega)).1⟩
  refine(Any.sort_Slice_cells_sorted Tryz.laysGg6 32 38 sdT sdE (by kernel_rfl) (by kernel_rfl) (by kernel_rfl) (by kernel_rfl) 25 (fun _=>by kernel_rfl) b4q 2 (fun _=>rfl) (by kernel_rfl) (fun _=>by kernel_rfl)
   (fun x v hv=>by simp[b4q]at hv;rcases hv with rfl | rfl <;> rfl) b2Z d6V 44 _
   (enters_of Tryz.func44 (by kernel_rfl) rfl) b 0 cap l.toArray (by omega) (by omega) 126 (by rw[f6v _ (by omega)];kernel_rfl) false
   (fun args W=>run_callFunc_extern Tryz.func126 (by kernel_rfl) (by kernel_rfl) (by kernel_rfl) (e:=Extern.ReflectliteSwapper.swap false) (by kernel_rfl) args W) w hless hH hblk).mono ?_
  rintro e w' ⟨rfl,d',n,os,hpm,hso,rfl⟩;obtain⟨p1,p2,p3⟩:=hpm;have hd':d'.toList=b2E l:=by
   refine(d8G (b1T l |>.trans ?_) (b6U l) ?_).symm
   ·have t1:List.take d'.size l=l:=List.take_of_length_le (by omega);have:=p3.symm;simp only[hlen]at this p1;rw[←p1]at this;simpa[t1]using this
   ·rw[List.pairwise_iff_getElem];intro i j hi hj hij;have:=hso i j (Nat.zero_le _) hij (by simp at hj;omega);rw[getElem!_pos d' i (by simpa using hi),getElem!_pos d' j (by simpa using hj)]at this;simpa using this
  have hsl:(b2E l).length=l.length:=(b1T l).length_eq;have hdd:d'=(b2E l).toArray:=by rw[←hd']
  subst hdd;have hel:∀ c1∈l,∀ (m:Nat) (x:V) (v:Value),m<2→c1.enc[m]? = some x→(b4q c1)[m]? = some v→RV Tryz.prog G a x v:=by
   intro c1 hc1 m x v hm hx hv;obtain⟨i,hi,rfl⟩:=h1h hc1;have hj:i * 2+m<l.length * 2:=by omega
   obtain⟨c2,x1,v1,e1,e2,e3,e4,e5⟩:=c2m hj;have hd1:(i * 2+m) / 2=i:=by omega
   have hd2:(i * 2+m) % 2=m:=by omega
   rw[hd1,h0f hi]at e1;cases e1
   rw[hd2]at e2 e4;rw[hx]at e2;cases e2;rw[hv]at e4;cases e4;obtain⟨u,u1,u2,u3⟩:=hcells _ _ e3;have:=e5 _ _ _ _ u2;subst this;exact u2
  have hcl':(((b2E l).map Ed.enc).flatten).length=l.length * 2:=by
   rw[b5l (c:=2),h0v,hsl];intro i el hi;rw[h0u]at hi;cases hl:(b2E l)[i]? with
   | none=>rw[hl]at hi;cases hi
   | some c=>rw[hl]at hi;cases hi;rfl
  obtain⟨hx,hr'⟩:=hr.vecStep2 (gen':=gen) (cs':=((b2E l).map Ed.enc).flatten) (w':=putRowK b4q 2 (Sort.ahead w n) b 0 (b2E l).toArray) (c':=putCells _root_.id 0 (flatK b4q 2 (b2E l).toArray) c) hid hρ hhi (h0q _) hb (by rw[hcl'];omega) (fun j x hj=>by
   have hjl:j<(b2E l).length * 2:=by
    have:=(h0b.1 hj).1;rw[hcl']at this;rw[hsl];exact this
   obtain⟨c2,x1,v1,e1,e2,e3,e4,e5⟩:=c2m hjl;rw[hj]at e3;cases e3;have hm2:c2∈l:=(b1T l).mem_iff.1 (h0j e1);refine⟨v1,?_,hel c2 hm2 _ _ _ (by omega) e2 e4,?_⟩
   ·have hjc:j<c.size:=by rw[hsl]at hjl;omega
    simp only[putCells,Array.getElem?_mapIdx,h0t hjc,h0D];rw[if_pos ⟨Nat.zero_le _,by simpa using hjl⟩,Nat.sub_zero,d8i hjl e1 e4];rfl
   ·have:∀ v∈b4q c2,v.oneCell'=true:=fun v hv=>by simp[b4q]at hv;rcases hv with rfl | rfl <;> rfl
    exact this _ (h0j e4)) rfl rfl rfl (by simp[putRowK]) (fun k' hk'=>by
    simp only[putRowK,putRow,mapBlock,Array.getElem?_modify];rw[if_neg (Ne.symm hk')];rfl) (by
    simp only[putRowK,putRow,mapBlock,Array.getElem?_modify];rw[if_pos trivial,show(Sort.ahead w n).heap=w.heap from rfl,hb];rfl) (by simp[putCells]) (fun j hj=>by
    simp only[putCells,Array.getElem?_mapIdx];cases hcj:c[j]? with
    | none=>rfl
    | some y =>
     simp only[h0D];rw[if_neg];intro h;have:=h.2;simp only[size_flatK,List.size_toArray,hsl]at this;omega)
  have hset:a.set k gen=a:=b3n hak;rw[hset]at hx hr';refine .inl ⟨_,rfl,_,_,_,G,hK,hx,hr'.belowW ⟨rfl,rfl,rfl,?_,fun i hi=>?_⟩,.tuple _ _ rfl (by simp)⟩
  ·simp
  ·exact heap_grow_old _ _ hi
end Go.Proofs.YtighfcpaplmaiaaGreatDoor
namespace Go.Vg
theorem b4f.shape{e n0 m0:Nat}{z:List VObj}{y:List Nat}{v:V}{l:List (List V)}(h:b4f e n0 m0 z y v l):v.some? = true∧cellsV v=[v]∧v.cell=true:=by
 rcases h with⟨_,e0,rfl⟩ | ⟨_,j,k,gen,rfl,_,_⟩
 ·exact⟨rfl,rfl,rfl⟩
 ·exact⟨rfl,rfl,rfl⟩
def g8p(P:Program)(r:V):b1y:=fun v h' _=>share v=r∨∃ id k gen len e cs,v = .vec id k gen len e∧h'[id]? = some (.vec k gen e cs)∧0<cs.length∧b0W P e=true∧len * P.cellsOf e≤cs.length∧sl e (b3a (P.cellsOf e) len cs)=r
theorem c9D{E:Env}{f:FuncId}{args:List V}{r:V}(hp:b0Y args=true)(hr:r.pure=true)(h:b0q E f args [] [] (g8p E.P r))(hal:E.alive=E:=by exact rfl):b0s E f args r:=by
 refine⟨hp,hr,?_⟩;rw[hal];intro G w0 w vals hrel ha;refine(h G w0 w vals hrel ha).mono fun e' w' hg=>?_
 rcases hg with⟨val,he,v,heap',arr',G',hv,hx,hr',hrv⟩ | hd
 ·rcases hv with rfl | ⟨id,k,gen,len,e,cs,rfl,h1,h2,h3,h4,rfl⟩
  ·exact .inl ⟨val,he,_,_,_,G',rfl,hx,hr',hrv.share⟩
  ·obtain⟨G'',b,hi,g1,g2,g3,g4,g5⟩:=hr'.freezeV h1 h2;exact .inl ⟨val,he,_,_,_,G'',rfl,hx.trans g3,g4,hrv.thawV g2 g1 h3 h4 g5⟩
 ·exact .inr hd
def d0a(a:List Ed)(x:Ed):List Ed:=if a.getLast? = some x then a else a++[x]
def b6z(l:List Ed):List Ed:=l.foldl d0a []
theorem c3G(l:List Ed)(x:Ed):b6z (l++[x])=d0a (b6z l) x:=by simp[b6z]
theorem f2j(a:List Ed)(x:Ed):(d0a a x).length≤a.length+1:=by
 unfold d0a;split <;> simp
theorem d0g:∀ (l a:List Ed),(l.foldl d0a a).length≤a.length+l.length
 | [],a=>by simp
 | x::r,a=>by
  have h1:=d0g r (d0a a x);have h2:=f2j a x;simp only[h0K,h0o];omega
theorem c2T(l:List Ed):(b6z l).length≤l.length:=by have:=d0g l [];simpa[b6z]using this
def c1V(S q:List Ed):List Ed:=b6z q++S.drop (b6z q).length
theorem c2a:∀ l:List Ed,((l.map Ed.enc).flatten).length=l.length * 2
 | []=>rfl
 | a::r=>by rw[h0s,h1b,h0h,c2a r,show a.enc.length=2 from rfl,h0o];omega
theorem d8R:∀ (l:List Ed) (i:Nat),((l.map Ed.enc).flatten).take (i * 2)=((l.take i).map Ed.enc).flatten
 | [],i=>by simp
 | x::r,0=>by simp
 | x::r,i+1=>by
  have e:(((x::r).map Ed.enc).flatten) = .str x.fr :: .str x.to::((r.map Ed.enc).flatten):=rfl;rw[e,show(i+1) * 2=i * 2+1+1 by omega,List.take_succ_cons,List.take_succ_cons,d8R r i];rfl
theorem f0F{q:List Ed}(h:q≠[]):b6z q≠[]:=by
 rw[←List.dropLast_concat_getLast h,c3G];unfold d0a;split
 ·rename_i h1;intro h2;rw[h2]at h1;cases h1
 ·simp
theorem d2Z:∀ (l s:List Ed),b3a 2 l.length (((l++s).map Ed.enc).flatten)=l.map Ed.enc
 | [],s=>by cases s <;> rfl
 | x::r,s=>by
  have:=d2Z r s;have e:(((x::r++s).map Ed.enc).flatten)=x.enc++((r++s).map Ed.enc).flatten:=rfl;rw[h0o,b3a,e,List.take_left' (by rfl),List.drop_left' (by rfl),this];rfl
theorem c7G:∀ (l:List Ed) (i:Nat),((l.map Ed.enc).flatten).drop (i * 2)=((l.drop i).map Ed.enc).flatten
 | [],i=>by simp
 | x::r,0=>by simp
 | x::r,i+1=>by
  have:=c7G r i;rw[h0s,h1b,show(i+1) * 2=2+i * 2 by omega,←h1y,List.drop_succ_cons,←this];rfl
theorem d2X{S q:List Ed}(x:Ed)(h:b6z (q++[x])=b6z q++[x]):((c1V S q).map Ed.enc).flatten.take ((b6z q).length * 2)++[.str x.fr,.str x.to]++((c1V S q).map Ed.enc).flatten.drop ((b6z q).length * 2+2)=((c1V S (q++[x])).map Ed.enc).flatten:=by
 rw[d8R,show(b6z q).length * 2+2=((b6z q).length+1) * 2 by omega,c7G];unfold c1V;rw[h,List.take_left' rfl,←h1y,List.drop_left' rfl,h1y];simp[Ed.enc]
theorem d1s{S q r:List Ed}{x:Ed}(hx:S=q++x::r):(c1V S q).drop q.length=x::r:=by
 have h:=c2T q;unfold c1V;rw[List.drop_append,List.drop_of_length_le h,h0Q,h1y,show(b6z q).length+(q.length - (b6z q).length)=q.length by omega,hx];simp
theorem c7Q(S:List Ed):c1V S []=S:=by simp[c1V,b6z]
end Go.Vg
namespace Go.Proofs.YtighfcpaplmaiaaGreatDoor
open Go Go.Vg Go.Proofs
def b4g(u:List Un)(un:Nat)(l:List Rw)(k:Nat):List Ed:=if(b0h l k).kind=20∨(b0h l k).kind=21 then match c0V l k with
 | some f=>(c0T u un k (b0h l k).kind (b0h l k).text).map (Ed.mk f)
 | none=>[]else []
def b1a(u:List Un)(un:Nat)(l:List Rw):Nat→List Ed
 | 0=>[]
 | k+1=>b1a u un l k++b4g u un l k
def b8N(u:List Un)(i:Nat):List Rw:=(u[i]?.map fun x=>b0u x.tree (-1) 0).getD []
def b1F(u:List Un):Nat→List Ed
 | 0=>[]
 | i+1=>b1F u i++b1a u i (b8N u i) (b8N u i).length
theorem c4E(u:List Un)(un:Nat)(l:List Rw){i j:Nat}(h:i≤j):(b1a u un l i).length≤(b1a u un l j).length:=by
 induction h with
 | refl=>exact h0q _
 | step _ ih=>rw[b1a,h0h];omega
theorem c7e(u:List Un){i j:Nat}(h:i≤j):(b1F u i).length≤(b1F u j).length:=by
 induction h with
 | refl=>exact h0q _
 | step _ ih=>rw[b1F,h0h];omega
theorem d3o:b0W Tryz.prog 38=true:=by kernel_rfl
theorem d4J:(envV 32).P.bytesOf 38=32:=by
 rw[show(envV 32).P=Tryz.prog from rfl];kernel_rfl
theorem d9E{l:List Ed}:∀ el∈l.map Ed.enc,el.length=(envV 32).P.cellsOf 38:=by
 rw[show(envV 32).P.cellsOf 38=2 by rw[show(envV 32).P=Tryz.prog from rfl];kernel_rfl];intro el h;obtain⟨c,_,rfl⟩:=h1p.1 h;rfl
theorem d0C{o:Own}{e:TypeId}(f:Nat)(caps:List V)(h:List VObj)(a:List Nat)(K:b1y)(hK:K (.tuple []) h a):b0q (envV 32) 43 [.iface 32 (.slice o e []),.func f caps] h a K:=by
 intro G w0 w vals hr ha;obtain⟨v,vs,rfl,hv,ha⟩:=ha.cons;obtain⟨v2,vs,rfl,hv2,ha⟩:=ha.cons;rw[ha.nil];cases hv with
 | iface _ _ x hx =>
 cases hv2 with
 | func _ _ cs h1 h2 =>
 have key:∀ (p:Option Addr) (c:Nat),Calls (envV 32).P 43 #[.iface 32 (.slice p 0 c),.func (.func f) #[] cs] w fun e w'=>d9U (envV 32) G a w0 K e w':=fun p c=>by
  have hf:∃ g,Tryz.prog.funcs.findIdx? (·.name == "internal/reflectlite" ++ ".Swapper$" ++ toString (Lib.swapperK 0 sdE 25))=some g:=h0I.1 (by kernel_rfl);obtain⟨g,hf⟩:=hf;refine(Any.sort_Slice_tiny Tryz.laysGg6 32 38 sdT sdE (by kernel_rfl) (by kernel_rfl) (by kernel_rfl) (by kernel_rfl) 25 (fun _=>by kernel_rfl) p 0 c (by omega) g hf (.func f) #[] cs w).mono ?_;rintro e w' ⟨rfl,os,rfl⟩;refine .inl ⟨_,rfl,_,_,_,G,hK,Ext.refl _ _,hr.belowW ⟨rfl,rfl,rfl,?_,fun i hi=>?_⟩,.tuple _ _ rfl (by simp)⟩
  ·show w.heap.size≤(w.heap++os).size;simp
  ·show(w.heap++os)[i]? = w.heap[i]?;rw[h1z hi]
 cases hx with
 | snil=>exact key none 0
 | sodd _ b c=>exact key b c
 | slice _ _ _ b off cap=>exact key _ cap
def b1b(u:List Un):List Ed:=if(b4H u).1=0 then b6z (b2E (b1F u u.length))else []
theorem f4v(u:List Un)(hu:b2D u)(hgp:b7O u)(hE:(b1F u u.length).length≤1000000):b0s env 15 [sl 70 (u.map Un.enc)] (sl 38 ((b1b u).map Ed.enc)):=by
 refine b0s.ofV (tv:=32) ?_;refine c9D (by simp -implicitDefEqProofs only[go_sem];exact b0v _) (by simp -implicitDefEqProofs only[go_sem];exact b4T _) ?_;refine b0y (fn:=Tryz.f15) Tryz.func15 rfl (by rw[Tryz.ntmps15];simp) ?_;simp -implicitDefEqProofs only[go_sem,Tryz.f15];refine b0q.toV ((d7y u hu hgp).calls (by simp -implicitDefEqProofs only[go_sem]) ?_);simp -implicitDefEqProofs only[go_sem,c3E];refine⟨fun h0=>?_,fun h0 _ _=>?_⟩
 ·have hc0:¬ (b4H u).1=0:=by simpa using h0
  rw[b1b,if_neg hc0];exact .inl rfl
 have hc0:(b4H u).1=0:=by simpa using h0
 refine b0l (β:=V×List VObj×List Nat) u (fun pre b=>⟨[(26,.int .i64 pre.length),(25,.int .i64 u.length),(24,sl 70 (u.map Un.enc)),(5,.ptr 1 0),(2,.slice .nil 0 []),(0,sl 70 (u.map Un.enc))],[.dead,.cells [b.1]]++b.2.1,b.2.2⟩)
  (fun pre post b=>b4f 38 2 0 b.2.1 b.2.2 b.1 ((b1F u pre.length).map Ed.enc)) (.slice .nil 0 [],[],[]) ?_ b4f.nil ?_ ?_
 ·simp -implicitDefEqProofs only[go_sem];rfl
 ·rintro⟨v,z,y⟩ hacc;simp only at hacc ⊢;have hgr:b1b u=b6z (b2E (b1F u u.length)):=by rw[b1b,if_pos hc0]
  generalize b1F u u.length=L at hgr hE hacc;rw[hgr];simp -implicitDefEqProofs only[go_sem,b0d,b0a,b0c,b0b,g9Y,g9Z,h0a];rcases hacc with⟨hnil,e0,rfl⟩ | ⟨hne,j,k,gen,rfl,h3,h4⟩
  ·have hL:L=[]:=by simpa using hnil
   subst hL;refine d0C _ _ _ _ _ ?_;simp -implicitDefEqProofs only[go_sem,b0d,b0a,b0c,b0b,g9Y,g9Z,h0a];intro _;refine b0l (β:=Unit) ([]:List Ed) (fun q b=>⟨[(87,.int .i64 q.length),(86,.int .i64 0),(85,.slice .nil e0 []),(14,.int .i64 0),(5,.ptr 1 0)],[.dead,.cells [.slice .nil e0 []]]++z,y⟩)
    (fun q post b=>True) () ?_ trivial ?_ ?_
   ·simp -implicitDefEqProofs only[go_sem,b0d,b0a,b0c,b0b,g9Y,g9Z,h0a];exact⟨rfl,rfl⟩
   ·intro _ _;simp -implicitDefEqProofs only[go_sem,b0d,b0a,b0c,b0b,g9Y,g9Z,h0a];refine⟨fun h=>absurd h (by simp),fun _=>?_⟩;rw[show b6z (b2E [])=[]by simp[b2E,b6z]];exact .inl rfl
   ·rintro q x r b hx _;exact absurd hx (by simp)
  ·have hL1:1≤L.length:=by
    cases L with
    | nil=>exact absurd rfl hne
    | cons=>simp
   have hLm:(L.map Ed.enc).length=L.length:=h0v ..;rw[hLm];clear hLm hne;obtain⟨i,hi⟩:∃ i,i=2+j:=⟨_,rfl⟩
   have hij:i=j+1+1:=by omega
   rw[←hi];subst hij;rw[h0w]at h3 ⊢;refine d0f (h:=_) (id:=j+1+1) (k:=k) (gen:=gen) (o:=1) (l:=L) h3 rfl hL1 ?_;generalize hS:b2E L=S;have hSl:S.length=L.length:=hS ▸ (b1T L).length_eq
   have hjz:=b0w h3;simp -implicitDefEqProofs only[go_sem,b0d,b0a,b0c,b0b,g9Y,g9Z,h0a];intro _;refine b0l (β:=List VObj) S (fun q ex=>⟨[(87,.int .i64 q.length),(86,.int .i64 L.length),(85,.vec (j+1+1) k gen L.length 38),(14,.int .i64 (b6z q).length),(5,.ptr 1 0)],[.dead,.cells [.vec (j+1+1) k gen L.length 38]]++(z.set j (.vec k gen 38 ((c1V S q).map Ed.enc).flatten)++ex),y⟩)
    (fun q post b=>True) [] ?_ trivial ?_ ?_
   ·simp -implicitDefEqProofs only[go_sem,b0d,b0a,b0c,b0b,g9Y,g9Z,h0a,c7Q,h0F];exact⟨rfl,rfl⟩
   ·intro ex _;simp -implicitDefEqProofs only[go_sem,b0d,b0a,b0c,b0b,g9Y,g9Z,h0a];refine⟨fun h=>absurd h (by omega),fun _=>?_⟩;have hds:=c2T S;refine⟨⟨by omega,h4⟩,?_⟩;unfold g8p;right;have hget:∀ (X:VObj) (ex:List VObj),(z.set j X++ex)[j]? = some X:=fun X ex=>by rw[h0e (by simpa using hjz)];simp[hjz]
    have hbl:c1V S S=b6z S++S.drop (b6z S).length:=rfl;have hfl:∀ l:List Ed,((l.map Ed.enc).flatten).length=l.length * 2:=fun l=>by
     induction l with
     | nil=>rfl
     | cons a r ih=>rw[h0s,h1b,h0h,ih,c1O,h0o];omega
    have hce:(envV 32).P.cellsOf 38=2:=by rw[show(envV 32).P=Tryz.prog from rfl];kernel_rfl
    have hce':Tryz.prog.cellsOf 38=2:=by kernel_rfl
    refine⟨j+1+1,k,gen,(b6z S).length,38,((c1V S S).map Ed.enc).flatten,by rw[h0n],?_,?_,d3o,?_,?_⟩
    ·show(z.set j _++ex)[j]? = _;exact hget _ ex
    ·rw[hfl,hbl,h0h,h1i];omega
    ·rw[hce',hfl,hbl,h0h];omega
    ·rw[hce',hbl,d2Z]
   ·rintro q x r ex hx _;have hpq:S.length=q.length+1+r.length:=by rw[hx];simp;omega
    have hlt:((q.length:Int)<L.length)=True:=by simp;omega
    have hw:IntKind.i64.wrap (↑q.length+1)=↑(q.length+1):=b0g (by omega);have hdq:=c2T q;have hget:∀ (X:VObj) (ex:List VObj),(z.set j X++ex)[j]? = some X:=fun X ex=>by rw[h0e (by simpa using hjz)];simp[hjz]
    have hdr:(((c1V S q).map Ed.enc).flatten).drop (q.length * 2) = .str x.fr :: .str x.to::(r.map Ed.enc).flatten:=by
     rw[c7G,d1s hx];rfl
    simp -implicitDefEqProofs only[go_sem,b0d,b0a,b0c,b0b,g9Y,g9Z,h0a,hlt,hget,hdr,h0n];have hset:∀ (X Y:VObj) (e:List VObj),(z.set j X++e).set j Y=z.set j Y++e:=fun X Y e=>by
     rw[List.set_append_left _ _ (by simpa using hjz),List.set_set]
    have hfl:=c2a;by_cases hq:q=[]
    ·subst hq;have hd0:(b6z []).length=0:=rfl;refine sdq ?_;simp -implicitDefEqProofs only[go_sem,b0d,b0a,b0c,b0b,g9Y,g9Z,h0a,hlt,hget,hdr,h0n,h0J,hd0];have hb:V.str x.fr::V.str x.to::List.drop 2 (List.map Ed.enc (c1V S [])).flatten=(List.map Ed.enc (c1V S [x])).flatten:=d2X (S:=S) (q:=[]) x rfl;refine⟨fun h=>absurd rfl h,fun _=>⟨by omega,?_,ex++[.cells [.str x.fr,.str x.to]],?_,?_,Or.inl (by simp)⟩⟩
     ·rw[c7Q,hfl];omega
     ·rfl
     ·rw[hset,hb];exact b0r
    ·obtain⟨dp,la,hdl⟩:∃ dp la,b6z q=dp++[la]:=⟨_,_,(List.dropLast_concat_getLast (f0F hq)).symm⟩
     have hq0:((q.length:Int)=0)=False:=by simpa using hq
     have hdl1:(b6z q).length=dp.length+1:=by rw[hdl];simp
     have hwm:IntKind.i64.wrap (((dp.length+1:Nat):Int) - 1)=dp.length:=by rw[b1M] <;> omega
     have hdm:(((c1V S q).map Ed.enc).flatten).drop (dp.length * 2) = .str la.fr :: .str la.to::((S.drop (dp.length+1)).map Ed.enc).flatten:=by
      rw[c7G,c1V,hdl1,hdl,h0x,List.drop_left' rfl];rfl
     rw[hdl1];refine sdq ?_;simp -implicitDefEqProofs only[go_sem,b0d,b0a,b0c,b0b,g9Y,g9Z,h0a,hlt,hget,hdr,hdm,hq0,hwm,h0n];have hfk:flatK Tryz.prog 38=some [0,0]:=by kernel_rfl
     have hd1:(b6z (q++[x]))=if la=x then b6z q else b6z q++[x]:=by
      rw[c3G,d0a,hdl];simp
     have hla:la=x↔(x.fr=la.fr∧x.to=la.to):=by
      obtain⟨a1,a2⟩:=la;obtain⟨b1,b2⟩:=x;simp only[Ed.mk.injEq];exact⟨fun h=>⟨h.1.symm,h.2.symm⟩,fun h=>⟨h.1.symm,h.2.symm⟩⟩
     refine⟨by omega,by rw[hfk];rfl,fun hne=>?_,fun heq=>?_⟩
     ·have hn:¬ la=x:=by
       rw[hla];rintro⟨h1,h2⟩;rw[h1,h2]at hne;simp at hne
      rw[if_neg hn]at hd1;have hb:=d2X (S:=S) (q:=q) x hd1;rw[hdl1]at hb;refine⟨by omega,?_,ex++[.cells [.str x.fr,.str x.to]],⟨hw,?_⟩,?_,Or.inl (by simp)⟩
      ·rw[hfl,c1V,h0h,h1i];omega
      ·rw[hd1,h0h,hdl1];exact b0g (by omega)
      ·rw[hset,hb];exact b0r
     ·have hn:la=x:=by
       rw[hla];have h2:=heq;simp only[Bool.not_eq_false',h0k,h0l]at h2;exact h2
      rw[if_pos hn]at hd1;refine⟨ex++[.cells [.str x.fr,.str x.to]],⟨hw,?_⟩,?_,Or.inl (by simp)⟩
      ·rw[hd1,hdl1]
      ·rw[show c1V S (q++[x])=c1V S q by unfold c1V;rw[hd1]];exact b0r
 ·rintro pre x post ⟨v,z,y⟩ hx hacc;have hpl:u.length=pre.length+1+post.length:=by rw[hx];simp;omega
  have hgx:(u.map Un.enc).getD (pre.length:Int).toNat []=x.enc:=by rw[hx];simp[h0c]
  have hlt:((pre.length:Int)<u.length)=True:=by simp;omega
  have hw:IntKind.i64.wrap (↑pre.length+1)=↑(pre.length+1):=b0g (by omega);have hxm:x∈u:=by rw[hx];simp
  have hux:u[pre.length]? = some x:=by rw[hx];simp
  obtain⟨hxn,hxs⟩:=hu.2 x hxm;simp only at hacc ⊢;simp -implicitDefEqProofs only[go_sem,hgx,hlt,b0d,b0a,b0c,b0b,g9Y,g9Z,h0a];refine b0q.toV ((d4H x.tree (by omega)).calls (by simp -implicitDefEqProofs only[go_sem]) ?_);generalize hl:b0u x.tree (-1) 0=l;have hll:l.length=(b0o x.tree).length:=by rw[←hl];exact b0K ..
  have hro:rowsOK l:=hl ▸ b6a (by omega)
  have hrw:b8N u pre.length=l:=by rw[b8N,hux,←hl];rfl
  have hall:b1F u (pre.length+1)=b1F u pre.length++b1a u pre.length l l.length:=by rw[b1F,hrw]
  have hle1:=c7e u (show pre.length+1≤u.length by omega);rw[hall,h0h]at hle1;have hts:∀ r∈l,r.text.size≤1000000:=fun r hr=>by
   obtain⟨i,hi,rfl⟩:=h1h hr;obtain⟨k,t,g,ks,e1,_,e3,_⟩:=b1I (n:=x.tree) (i:=i) (by rw[hl];exact hi);have e4:b0h (b0u x.tree (-1) 0) i=l[i]:=by rw[hl];simp[b0h,h0c,hi]
   rw[e4]at e3;rw[e3];exact hxs _ (h0j e1)
  simp -implicitDefEqProofs only[go_sem,hgx,hlt,b0d,b0a,b0c,b0b,g9Y,g9Z,h0a];intro _ _;refine b0l (β:=V×List VObj×List Nat) l (fun q b=>⟨[(37,.int .i64 q.length),(36,.int .i64 l.length),(35,sl 48 (l.map Rw.enc)),(7,sl 48 (l.map Rw.enc)),(6,.int .i64 pre.length),(26,.int .i64 pre.length),(25,.int .i64 u.length),(24,sl 70 (u.map Un.enc)),(5,.ptr 1 0),(2,.slice .nil 0 []),(0,sl 70 (u.map Un.enc))],[.dead,.cells [b.1]]++b.2.1,b.2.2⟩)
   (fun q post b=>b4f 38 2 0 b.2.1 b.2.2 b.1 ((b1F u pre.length++b1a u pre.length l q.length).map Ed.enc)) (v,z,y) ?_ (by simpa[b1a]using hacc) ?_ ?_
  ·simp -implicitDefEqProofs only[go_sem];rfl
  ·rintro⟨v,z,y⟩ hacc;simp only at hacc ⊢;simp -implicitDefEqProofs only[go_sem,b0d,b0a,b0c,b0b,g9Y,g9Z,h0a];rw[←hall]at hacc;exact⟨(v,z,y),hacc,hw,⟨b2X,b0r⟩,b0G,.inl ⟨h0q _,h0q _⟩⟩
  ·rintro q r post2 ⟨v,z,y⟩ hx2 hacc;have hpl2:l.length=q.length+1+post2.length:=by rw[hx2];simp;omega
   have hgx2:(l.map Rw.enc).getD (q.length:Int).toNat []=r.enc:=by rw[hx2];simp[h0c]
   have hlt2:((q.length:Int)<l.length)=True:=by simp;omega
   have hw2:IntKind.i64.wrap (↑q.length+1)=↑(q.length+1):=b0g (by omega);have hrq:b0h l q.length=r:=by rw[hx2];simp[b0h,h0c]
   have hle2:=c4E u pre.length l (show q.length+1≤l.length by omega);have hrow:b1a u pre.length l (q.length+1)=b1a u pre.length l q.length++b4g u pre.length l q.length:=rfl;rw[b1a,h0h]at hle2;simp only at hacc ⊢;simp -implicitDefEqProofs only[go_sem,hgx2,hlt2,b0d,b0a,b0c,b0b,g9Y,g9Z,h0a,Rw.enc];refine⟨fun h20=>⟨fun h21=>?_,fun h21=>?_⟩,fun h20=>?_⟩
   ·have he:b4g u pre.length l q.length=[]:=by
     rw[b4g,hrq,if_neg];simp at h20 h21;rintro(h | h) <;> contradiction
    rw[hrow,he,h0F];exact⟨(v,z++[_],y),hacc.heap _,hw2,⟨b2X,b0r⟩,b0G,.inl ⟨by simp,h0q _⟩⟩
   all_goals
    have hkk:r.kind=20∨r.kind=21:=by first | exact .inr (by simpa using h21) | exact .inl (by simpa using h20)
    refine b0q.toV ((f0D l hro q.length (by omega) hts).calls (by simp -implicitDefEqProofs only[go_sem]) ?_);cases har:c0V l q.length with
    | none =>
     have he:b4g u pre.length l q.length=[]:=by rw[b4g,hrq,if_pos hkk,har]
     simp -implicitDefEqProofs only[go_sem,h0y,h1f,hgx2,hlt2,b0d,b0a,b0c,b0b,g9Y,g9Z,h0a,Rw.enc];rw[hrow,he,h0F];exact⟨(v,z++[_],y),hacc.heap _,hw2,⟨b2X,b0r⟩,b0G,.inl ⟨by simp,h0q _⟩⟩
    | some f =>
     have he:b4g u pre.length l q.length=(c0T u pre.length q.length r.kind r.text).map (Ed.mk f):=by rw[b4g,hrq,if_pos hkk,har]
     simp -implicitDefEqProofs only[go_sem,h0L,h0A,hgx2,hlt2,b0d,b0a,b0c,b0b,g9Y,g9Z,h0a,Rw.enc];try refine b0q.toV ((c8t u hu hgp pre.length q.length r.kind ⟨by omega,by omega⟩ r.text).calls (by simp -implicitDefEqProofs only[go_sem]) ?_)
     generalize c0T u pre.length q.length r.kind r.text=ts at he;simp -implicitDefEqProofs only[go_sem,hgx2,hlt2,b0d,b0a,b0c,b0b,g9Y,g9Z,h0a,Rw.enc];intro _ _;have hle3:(b1F u pre.length).length+(b1a u pre.length l q.length).length+ts.length≤1000000:=by
      rw[he,h0v]at hle2;omega
     refine b0l (β:=V×List VObj×List Nat) ts (fun s b=>⟨[(68,.int .i64 s.length),(67,.int .i64 ts.length),(66,sl 9 (ts.map b0n)),(10,.str f),(37,.int .i64 q.length),(36,.int .i64 l.length),(35,sl 48 (l.map Rw.enc)),(7,sl 48 (l.map Rw.enc)),(6,.int .i64 pre.length),(26,.int .i64 pre.length),(25,.int .i64 u.length),(24,sl 70 (u.map Un.enc)),(5,.ptr 1 0),(2,.slice .nil 0 []),(0,sl 70 (u.map Un.enc))],[.dead,.cells [b.1]]++b.2.1,b.2.2⟩)
      (fun s post b=>b4f 38 2 0 b.2.1 b.2.2 b.1 ((b1F u pre.length++b1a u pre.length l q.length++s.map (Ed.mk f)).map Ed.enc)∧z.length+1≤b.2.1.length∧y.length≤b.2.2.length) (v,z++[.cells r.enc],y) ?_ ⟨by simpa using hacc.heap [.cells r.enc],by simp,h0q _⟩ ?_ ?_
     ·simp -implicitDefEqProofs only[go_sem,Rw.enc];rfl
     ·rintro⟨v',z',y'⟩ ⟨hacc',hz1,hy1⟩;simp only at hacc' hz1 hy1 ⊢;simp -implicitDefEqProofs only[go_sem,b0d,b0a,b0c,b0b,g9Y,g9Z,h0a];rw[hrow,he,←h0x];exact⟨(v',z',y'),hacc',hw2,⟨b2X,b0r⟩,b0G,.inl ⟨h0q _,h0q _⟩⟩
     ·rintro s t0 post3 ⟨v',z',y'⟩ hx3 ⟨hacc',hz1,hy1⟩;have hpl3:ts.length=s.length+1+post3.length:=by rw[hx3];simp;omega
      have hgx3:(ts.map b0n).getD (s.length:Int).toNat []=b0n t0:=by rw[hx3];simp[h0c]
      have hlt3:((s.length:Int)<ts.length)=True:=by simp;omega
      have hw3:IntKind.i64.wrap (↑s.length+1)=↑(s.length+1):=b0g (by omega);simp only at hacc' hz1 hy1 ⊢;simp -implicitDefEqProofs only[go_sem,hgx3,hlt3,b0d,b0a,b0c,b0b,g9Y,g9Z,h0a,b0n,hacc'.asl];have hb1:(((b1F u pre.length++b1a u pre.length l q.length++s.map (Ed.mk f)).map Ed.enc).length+1) * (envV 32).P.bytesOf 38≤140737488355328:=by
       rw[d4J];simp only[h0v,h0h];omega
      refine b4x (h0:=[.dead,.cells [v']]) (a0:=[]) hacc' d9E d3o hb1 fun v2 z2 y2 hacc2 hz1' hz2' hy1'=>?_
      have hs:(b1F u pre.length++b1a u pre.length l q.length++s.map (Ed.mk f)).map Ed.enc++[[.str f,.str t0]]=(b1F u pre.length++b1a u pre.length l q.length++(s++[t0]).map (Ed.mk f)).map Ed.enc:=by simp[Ed.enc]
      rw[hs]at hacc2;obtain⟨c1,c2,c3⟩:=hacc2.shape;simp -implicitDefEqProofs only[go_sem,hgx3,hlt3,b0d,b0a,b0c,b0b,g9Y,g9Z,h0a,b0n,c1,c2,c3];refine⟨(v2,z2,y2),⟨by simpa using hacc2,?_,?_⟩,hw3,⟨b2X,b0r⟩,b0G,.inl ⟨h0q _,h0q _⟩⟩
      ·exact h1n hz1 hz1'
      ·exact h1n hy1 hy1'
open Classical in
theorem c3U(s:ByteArray):∀ (r o:List ByteArray),r.foldl (c5x s) o=if s∈r∧o.getLast?≠some s then o++[s]else o
 | [],o=>by rw[if_neg (by rintro⟨h,_⟩;cases h)];rfl
 | t::r,o=>by
  rw[h0K,c3U s r];by_cases h1:o.getLast? = some s
  ·rw[show c5x s o t=o from if_neg (fun h=>h.2 h1),if_neg (fun h=>h.2 h1),if_neg (fun h=>h.2 h1)]
  ·by_cases h2:t=s
   ·rw[show c5x s o t=o++[s]from if_pos ⟨h2,h1⟩,if_neg (fun h=>h.2 (by simp)),if_pos ⟨by rw[h2];simp,h1⟩]
   ·rw[show c5x s o t=o from if_neg (fun h=>h2 h.1)];by_cases h3:s∈r
    ·rw[if_pos ⟨h3,h1⟩,if_pos ⟨by simp[h3],h1⟩]
    ·rw[if_neg (fun h=>h3 h.1),if_neg (fun h=>(h0C.1 h.1).elim (fun e=>h2 e.symm) h3)]
open Classical in
theorem d9m(l:List Ed)(o:List ByteArray)(s:ByteArray):d5c l o s=if s∈b1E (b7q l s)∧o.getLast?≠some s then o++[s]else o:=c3U s _ _
theorem c2B(l:List Ed):∀ (c o:List ByteArray),(c.Pairwise fun a b=>ltB b a=false)→Asc o→(∀ a∈o,∀ b∈c,ltB b a=false)→Asc (c.foldl (d5c l) o)∧∀ x,x∈c.foldl (d5c l) o↔x∈o∨(x∈c∧x∈b1E (b7q l x))
 | [],o,_,ho,_=>⟨ho,by simp⟩
 | s::c,o,hc,ho,hoc=>by
  rw[h0K,d9m];obtain⟨hc1,hc2⟩:=h1x.1 hc;by_cases h:s∈b1E (b7q l s)∧o.getLast?≠some s
  ·rw[if_pos h];have hlt:∀ a∈o,ltB a s=true:=fun a ha=>by
    cases hl:ltB a s with
    | true=>rfl
    | false =>
     have e:a=s:=b7W hl (hoc a ha s (by simp));subst e;exfalso;have hne:o≠[]:=by intro h0;rw[h0]at ha;cases ha
     have hcl:=List.dropLast_concat_getLast hne;have hlast:o.getLast? = some (o.getLast hne):=List.getLast?_eq_some_getLast hne;rw[←hcl]at ha;rcases h0E.1 ha with h1 | h1
     ·have h2:ltB a (o.getLast hne)=true:=by
       have h3:=ho;unfold Asc at h3;rw[←hcl]at h3;exact(List.pairwise_append.1 h3).2.2 a h1 _ (by simp)
      rw[hoc _ (List.getLast_mem hne) a (by simp)]at h2;cases h2
     ·simp only[h0R]at h1;rw[←h1]at hlast;exact h.2 hlast
   have hasc:Asc (o++[s]):=by
    refine List.pairwise_append.2 ⟨ho,by simp,fun a ha b hb=>?_⟩;simp only[h0R]at hb;subst hb;exact hlt a ha
   obtain⟨g1,g2⟩:=c2B l c (o++[s]) hc2 hasc (fun a ha b hb=>by
    rcases h0E.1 ha with h1 | h1
    ·exact hoc a h1 b (by simp[hb])
    ·simp only[h0R]at h1;subst h1;exact hc1 b hb)
   refine⟨g1,fun x=>?_⟩;rw[g2 x];simp only[h0E,h0C,List.not_mem_nil,or_false];constructor
   ·rintro((h1 | rfl) | h1)
    ·exact .inl h1
    ·exact .inr ⟨.inl rfl,h.1⟩
    ·exact .inr ⟨.inr h1.1,h1.2⟩
   ·rintro(h1 | ⟨rfl | h1,h2⟩)
    ·exact .inl (.inl h1)
    ·exact .inl (.inr rfl)
    ·exact .inr ⟨h1,h2⟩
  ·rw[if_neg h];obtain⟨g1,g2⟩:=c2B l c o hc2 ho (fun a ha b hb=>hoc a ha b (by simp[hb]));refine⟨g1,fun x=>?_⟩;rw[g2 x];simp only[h0C];constructor
   ·rintro(h1 | h1)
    ·exact .inl h1
    ·exact .inr ⟨.inr h1.1,h1.2⟩
   ·rintro(h1 | ⟨rfl | h1,h2⟩)
    ·exact .inl h1
    ·by_cases hl:o.getLast? = some x
     ·exact .inl (List.mem_of_getLast? hl)
     ·exact absurd ⟨h2,hl⟩ h
    ·exact .inr ⟨h1,h2⟩
theorem c1k(u:List Un)(l:List Ed):Asc (c7U u l)∧∀ x,x∈c7U u l↔l≠[]∧x∈d7H u∧Rch (scN (b1Q l)) x x:=by
 unfold c7U;split
 ·rename_i h;exact⟨List.Pairwise.nil,fun x=>by simp[h]⟩
 ·rename_i h;obtain⟨h1,h2⟩:=c2B l (d4i u) [] (c0H _) List.Pairwise.nil (by simp);refine⟨h1,fun x=>?_⟩;rw[h2 x,(b1N _).mem_iff,(b2k l x).2.1,d4i,(b1N _).mem_iff];simp[h]
end Go.Proofs.YtighfcpaplmaiaaGreatDoor
namespace Go.Vg
def f1e(R:List Rw)(b m:Nat)(W:List Dl)(u p:Int)(x:Ar):Prop:=∀ (i:Nat) r,R[i]? = some r→r.kind=2→∃ a d,d∈W∧b2u 2 r.text u ((m+i:Nat):Int) a=some d ∧
 ((r.parent=p∧a=x)∨∃ (q:Nat) (r':Rw),R[q]? = some r'∧r.parent=((b+q:Nat):Int)∧a.method=decide (r'.kind=7)∧a.cls=r'.text)
theorem d6p:∀ (n:Nd) (p:Int) (b m:Nat) (u:Int) (x:Ar),f1e (b0u n p b) b m (b1z n u m x) u p x:=by
 refine Nd.all fun k t g ks ih p b m u x=>?_
 have hs:∀ l:List Nd,(∀ y∈l,∀ (p:Int) (b m:Nat) (u:Int) (x:Ar),f1e (b0u y p b) b m (b1z y u m x) u p x)→∀ (p b m:Nat) (u:Int) (x:Ar),f1e (b0X l p b) b m (b0V l u m x) u p x:=by
  intro l;induction l with
  | nil=>intro _ p b m u x i r h;simp[b0X]at h
  | cons y l ihl =>
   intro hx p b m u x i r hi hk;have hlen:(b0u y p b).length=(b0o y).length:=b0K ..;rw[b0X]at hi;rw[b0V];rcases h1A i (b0u y p b).length with hl | hl
   ·rw[h0e hl]at hi;obtain⟨a,d,h1,h2,h3⟩:=hx y (by simp) p b m u x i r hi hk;refine⟨a,d,h1e _ h1,h2,?_⟩;rcases h3 with h3 | ⟨q,r',h4,h5⟩
    ·exact .inl h3
    ·refine .inr ⟨q,r',?_,h5⟩;rw[b0X,h0e (h0b.1 h4).1];exact h4
   ·rw[h0g hl]at hi;obtain⟨a,d,h1,h2,h3⟩:=ihl (fun z hz=>hx z (by simp[hz])) p (b+(b0o y).length) (m+(b0o y).length) u x _ r hi hk;refine⟨a,d,h1j _ h1,?_,?_⟩
    ·rw[←h2];congr 2;omega
    rcases h3 with h3 | ⟨q,r',h4,h5,h6⟩
    ·exact .inl h3
    ·refine .inr ⟨(b0u y p b).length+q,r',?_,by rw[h5,hlen];omega,h6⟩;rw[b0X,h0g (by omega),Nat.add_sub_cancel_left];exact h4
 intro i r hi hk;rw[b0u]at hi;rw[b1z];cases i with
 | zero =>
  simp at hi;subst hi;simp only at hk;subst hk;exact⟨x,(if x.method=true then⟨4,x.cls,t,u,m⟩else⟨1,⟨#[]⟩,t,u,m⟩),h1e _ (by rw[b2u,if_pos rfl];simp),by rw[b2u,if_pos rfl];rfl,.inl ⟨rfl,rfl⟩⟩
 | succ i =>
  rw[g9Y]at hi;obtain⟨a,d,h1,h2,h3⟩:=hs ks ih b (b+1) (m+1) u (b4b k t x) i r hi hk;refine⟨a,d,h1j _ h1,?_,?_⟩
  ·rw[←h2];congr 2;omega
  rcases h3 with⟨h3,rfl⟩ | ⟨q,r',h4,h5,h6⟩
  ·exact .inr ⟨0,_,rfl,h3,rfl,rfl⟩
  ·refine .inr ⟨q+1,r',?_,by rw[h5];omega,h6⟩;rw[b0u,g9Y];exact h4
theorem b8j:∀ (u:List Un) (i un:Nat) (x:Un) (d:Dl),u[un]? = some x→x.broken=false→d∈b1z x.tree ((i+un:Nat):Int) 0 Ar.none→d∈b0e u i
 | [],i,un,x,d,h,_,_=>by simp at h
 | y::r,i,0,x,d,h,hb,hd=>by
  simp at h;subst h;rw[b0e,if_neg (by rw[hb];simp)];exact h1e _ hd
 | y::r,i,un+1,x,d,h,hb,hd=>by
  rw[g9Y]at h;rw[b0e];exact h1j _ (b8j r (i+1) un x d h hb (by rw[show i+1+un=i+(un+1)by omega];exact hd))
end Go.Vg
namespace Go.Proofs.YtighfcpaplmaiaaGreatDoor
open Go Go.Vg Go.Proofs
theorem d8S{u:List Un}{un i:Nat}{x:Un}(hx:u[un]? = some x)(hb:x.broken=false)(hi:i<(b0u x.tree (-1) 0).length)(hk:(b0h (b0u x.tree (-1) 0) i).kind=2):qnR (b0u x.tree (-1) 0) i∈d7H u:=by
 have hg:(b0u x.tree (-1) 0)[i]? = some (b0h (b0u x.tree (-1) 0) i):=by
  simp[b0h,h0c,hi]
 obtain⟨a,d,h1,h2,h3⟩:=d6p x.tree (-1) 0 0 (un:Int) Ar.none i _ hg hk;have hd:d∈b0e u 0:=b8j u 0 un x d hx hb (by rw[h0w];exact h1);refine List.mem_filterMap.2 ⟨d,hd,?_⟩;rw[b2u,if_pos rfl]at h2;cases h2
 rcases h3 with⟨h3,rfl⟩ | ⟨q,r',h4,h5,h6,h7⟩
 ·rw[if_neg (by simp[Ar.none]),b4X,if_pos rfl];unfold qnR;rw[if_neg (by rw[h3];rintro⟨h,_⟩;omega)]
 ·have hr':b0h (b0u x.tree (-1) 0) q=r':=b5H h4;unfold qnR;rw[h0w]at h5;rw[h5,h0n,hr'];by_cases h7k:r'.kind=7
  ·rw[if_pos (by rw[h6];simp[h7k]),b4X,if_neg (by simp),if_pos rfl,if_pos ⟨by omega,h7k⟩,h7]
  ·rw[if_neg (by rw[h6];simp[h7k]),b4X,if_pos rfl,if_neg (fun h=>h7k h.2)]
end Go.Proofs.YtighfcpaplmaiaaGreatDoor
namespace Go.Vg
theorem c4s:∀ (l a:List Ed) (y:Ed),y∈l.foldl d0a a↔y∈a∨y∈l
 | [],a,y=>by simp
 | x::r,a,y=>by
  rw[h0K,c4s r];unfold d0a;split
  ·rename_i h;have:=List.mem_of_getLast? h;simp only[h0C];constructor
   ·rintro(h1 | h1)
    ·exact .inl h1
    ·exact .inr (.inr h1)
   ·rintro(h1 | rfl | h1)
    ·exact .inl h1
    ·exact .inl this
    ·exact .inr h1
  ·simp only[h0E,h0C,List.not_mem_nil,or_false];exact or_assoc
theorem c8h(l:List Ed)(y:Ed):y∈b6z l↔y∈l:=by rw[b6z,c4s];simp
theorem d7G{l:List Rw}:∀ (f:Nat) (i:Int) {j:Nat},i<l.length→(∀ r∈l,r.parent<l.length)→upF l f i=some j→j<l.length∧(b0h l j).kind=2
 | 0,i,j,_,_,h=>by simp[upF]at h
 | f+1,i,j,hi,hl,h=>by
  rw[upF]at h;split at h
  ·cases h
  ·rename_i h0;split at h
   ·rename_i h2;cases h
    exact⟨by omega,h2⟩
   ·refine d7G f _ ?_ hl h;have hn:i.toNat<l.length:=by omega
    have:b0h l i.toNat=l[i.toNat]:=by simp[b0h,h0c,hn]
    rw[this];exact hl _ (List.getElem_mem hn)
end Go.Vg
namespace Go.Proofs.YtighfcpaplmaiaaGreatDoor
open Go Go.Vg Go.Proofs
theorem c1m{u:List Un}{un:Nat}{l:List Rw}{e:Ed}:∀ k,e∈b1a u un l k↔∃ i,i<k∧e∈b4g u un l i
 | 0=>by simp[b1a]
 | k+1=>by
  rw[b1a,h0E,c1m k];constructor
  ·rintro(⟨i,h1,h2⟩ | h)
   ·exact⟨i,by omega,h2⟩
   ·exact⟨k,by omega,h⟩
  ·rintro⟨i,h1,h2⟩;by_cases h:i=k
   ·subst h;exact .inr h2
   ·exact .inl ⟨i,by omega,h2⟩
theorem c4O{u:List Un}{e:Ed}:∀ n,e∈b1F u n↔∃ un,un<n∧∃ i,i<(b8N u un).length∧e∈b4g u un (b8N u un) i
 | 0=>by simp[b1F]
 | n+1=>by
  rw[b1F,h0E,c4O n,c1m];constructor
  ·rintro(⟨i,h1,h2⟩ | h)
   ·exact⟨i,by omega,h2⟩
   ·exact⟨n,by omega,h⟩
  ·rintro⟨i,h1,h2⟩;by_cases h:i=n
   ·subst h;exact .inr h2
   ·exact .inl ⟨i,by omega,h2⟩
theorem d1H{u:List Un}{e:Ed}:e∈b1b u↔(b4H u).1=0∧∃ (un:Nat) (x:Un) (i:Nat),u[un]? = some x∧i<(b0u x.tree (-1) 0).length∧e∈b4g u un (b0u x.tree (-1) 0) i:=by
 unfold b1b;split
 ·rename_i h0;rw[c8h,(b1T _).mem_iff,c4O];constructor
  ·rintro⟨un,h1,i,h2,h3⟩;have hx:u[un]? = some u[un]:=h0f h1;have hr:b8N u un=b0u (u[un]).tree (-1) 0:=by rw[b8N,hx];rfl
   rw[hr]at h2 h3;exact⟨h0,un,_,i,hx,h2,h3⟩
  ·rintro⟨_,un,x,i,hx,h2,h3⟩;have hr:b8N u un=b0u x.tree (-1) 0:=by rw[b8N,hx];rfl
   refine⟨un,(h0b.1 hx).1,i,?_,?_⟩ <;> rw[hr] <;> assumption
 ·rename_i h0;constructor
  ·intro h;cases h
  ·rintro⟨h,_⟩;exact absurd h h0
theorem d1b{u:List Un}{un i:Nat}{l:List Rw}{e:Ed}:e∈b4g u un l i↔((b0h l i).kind=20∨(b0h l i).kind=21)∧c0V l i=some e.fr∧e.to∈c0T u un i (b0h l i).kind (b0h l i).text:=by
 unfold b4g;split
 ·rename_i hk;cases ha:c0V l i with
  | none=>simp
  | some f =>
   simp only[h1p,Option.some.injEq];constructor
   ·rintro⟨t,ht,rfl⟩;exact⟨hk,rfl,ht⟩
   ·rintro⟨_,h1,h2⟩;exact⟨e.to,h2,by rw[h1]⟩
 ·rename_i hk;constructor
  ·intro h;cases h
  ·rintro⟨h,_⟩;exact absurd h hk
theorem c9o{u:List Un}(hu:b2D u){e:Ed}(h:e∈b1b u):e.fr∈d7H u:=by
 obtain⟨h0,un,x,i,hx,hi,he⟩:=d1H.1 h;obtain⟨_,ha,_⟩:=d1b.1 he;have hxm:=h0j hx;have hb:=(b3H hu h0).br x hxm;have hn:=(hu.2 x hxm).1;have hro:=b6a (n:=x.tree) (by omega);unfold c0V at ha;obtain⟨j,hj,hq⟩:=h0p.1 ha;obtain⟨h1,h2⟩:=d7G _ _ (by omega) (fun r hr=>by
  obtain⟨k,hk,rfl⟩:=h1h hr;have:=hro.par k hk;have e1:b0h (b0u x.tree (-1) 0) k=(b0u x.tree (-1) 0)[k]:=by simp[b0h,h0c,hk]
  rw[e1]at this;omega) hj
 rw[←hq];exact d8S hx hb h1 h2
theorem c4R{u:List Un}{m:Nat}(hm:m≤160)(h:b6W u 3 m 6000=true):u.length≤3∧∀ x∈u,(b0o x.tree).length≤m:=by
 unfold b6W at h;simp only[h0k,h0l,List.all_eq_true]at h;obtain⟨h1,h2⟩:=h;refine⟨by omega,fun x hx=>?_⟩;have h3:=(h2 x hx).1;have:=c8N x.tree m 60 h3;omega
theorem c2h{u:List Un}{m:Nat}(hm:m≤160)(h:b6W u 3 m 6000=true):b2D u∧b7O u:=by
 have hs:=c4R hm h;unfold b6W at h;simp only[h0k,h0l,List.all_eq_true]at h;obtain⟨h1,h2⟩:=h;refine⟨⟨by omega,fun x hx=>?_⟩,fun x hx=>?_⟩
 ·obtain⟨h3,h4⟩:=h2 x hx;have:=hs.2 x hx;exact⟨by omega,(c1G (by omega) h4).1⟩
 ·obtain⟨h3,h4⟩:=h2 x hx;exact(c1G (by omega) h4).2
theorem b8z:∀ (u:List Un) i,(∀ x∈u,(b0o x.tree).length≤160)→(b0e u i).length≤u.length * 160
 | [],_,_=>by simp[b0e]
 | x::r,i,h=>by
  have h1:=b8z r (i+1) fun y hy=>h y (by simp[hy])
  have h2:=b9T x.tree i 0 Ar.none;have h3:=h x (by simp);rw[b0e,h0h,h0o];split
  ·simp;omega
  ·omega
theorem d5V(u:List Un)(un nd kind:Int)(text:ByteArray):(c0T u un nd kind text).length≤(b0e u 0).length+1:=by
 unfold c0T;split
 ·simp
 split
 ·split
  ·rw[b4B];refine h1n (b9b _ []) ?_;have h1:=b1i (btU u) (b0e u 0);have h4:=h1o (c7h (b0C (btU u) (b0e u 0)) (c3D u un (nd+1)).1) (b0C (btU u) (b0e u 0));have h5:(b9y u (c3D u un (nd+1)).1).length≤(b0e u 0).length:=by
    unfold b9y d8E;rw[b4B,h0v];omega
   have h6:=List.length_filterMap_le (fun x=>(b1H u x text).map b2z) ((c3D u un (nd+1)).1::b9y u (c3D u un (nd+1)).1);rw[h0o]at h6;unfold tgL;simp only[h0J,h0w];omega
  ·simp
 ·simp
theorem d0M(u:List Un)(un:Nat)(l:List Rw)(k:Nat):(b4g u un l k).length≤(b0e u 0).length+1:=by
 unfold b4g;split
 ·split
  ·rw[h0v];exact d5V ..
  ·simp
 ·simp
theorem c1g(u:List Un)(un:Nat)(l:List Rw):∀ k,(b1a u un l k).length≤k * ((b0e u 0).length+1)
 | 0=>by simp[b1a]
 | k+1=>by
  have h1:=c1g u un l k;have h2:=d0M u un l k;rw[b1a,h0h,Nat.succ_mul];omega
theorem c4w{u:List Un}(h:∀ x∈u,(b0o x.tree).length≤160):∀ n,(b1F u n).length≤n * (160 * ((b0e u 0).length+1))
 | 0=>by simp[b1F]
 | n+1=>by
  have h1:=c4w h n;have h2:=c1g u n (b8N u n) (b8N u n).length;have h3:(b8N u n).length≤160:=by
   unfold b8N;cases hx:u[n]? with
   | none=>simp
   | some x =>
    simp only[h0D,h0A];rw[b0K];exact h x (h0j hx)
  have h4:=h0P ((b0e u 0).length+1) h3;rw[b1F,h0h,Nat.succ_mul];omega
theorem b7p{u:List Un}{m:Nat}(hm:m≤160)(h:b6W u 3 m 6000=true):(b1F u u.length).length≤1000000:=by
 obtain⟨h1,h2⟩:=c4R hm h;have h3:∀ x∈u,(b0o x.tree).length≤160:=fun x hx=>h1n (h2 x hx) hm
 have h4:=b8z u 0 h3;have h5:=c4w h3 u.length;have h6:u.length * (160 * ((b0e u 0).length+1))≤3 * (160 * ((b0e u 0).length+1)):=h0P _ h1;omega
theorem c5Y{u:List Un}{m:Nat}(hm:m≤160)(h:b6W u 3 m 6000=true):b0s env 15 [sl 70 (u.map Un.enc)] (sl 38 ((b1b u).map Ed.enc)) :=
 f4v u (c2h hm h).1 (c2h hm h).2 (b7p hm h)
theorem d1w{u:List Un}{m:Nat}(hm:m≤160)(h:b6W u 3 m 6000=true):(b1b u).length≤1000000:=by
 have h1:=b7p hm h;unfold b1b;split
 ·have h2:=c2T (b2E (b1F u u.length));have h3:=(b1T (b1F u u.length)).length_eq;omega
 ·simp
def f3I(u:List Un):Bool:=b6W u 3 160 6000 && decide ((b2P (b0e u 0):Int)≤20)
theorem f8u(u:List Un):b0s env 10 [sl 70 (u.map Un.enc)] (.bool (f3I u)):=by
 refine b0i (fn:=Tryz.f10) Tryz.func10 rfl (by rw[Tryz.ntmps10];simp) (by simp -implicitDefEqProofs only[go_sem];exact b0v _) rfl ?_;simp -implicitDefEqProofs only[go_sem,Tryz.f10];refine(f1B u 3 160 6000 (by omega) (by omega)).calls (by simp -implicitDefEqProofs only[go_sem]) ?_;simp -implicitDefEqProofs only[go_sem];unfold f3I;cases hf:b6W u 3 160 6000 with
 | false =>
  simp -implicitDefEqProofs only[go_sem]
 | true =>
  simp -implicitDefEqProofs only[go_sem];refine(f4G u (c2h (m:=160) (h0q _) hf).1 20 (by omega) (by omega)).calls (by simp -implicitDefEqProofs only[go_sem]) ?_;simp -implicitDefEqProofs only[go_sem]
theorem b6k{l:List ByteArray}(h:l.Nodup):Asc (b1E l):=c9A h
end Go.Proofs.YtighfcpaplmaiaaGreatDoor
namespace Go.Vg
def lfN(k:Int)(t:ByteArray):Nd := .mk k t [] []
def fnN(name:ByteArray)(x:Nd):Nd := .mk 2 name [] [lfN 3 ⟨#[]⟩,lfN 5 ⟨#[105,110,116]⟩,.mk 6 ⟨#[]⟩ [] [.mk 12 ⟨#[]⟩ [] [x]]]
end Go.Vg
namespace Go.Proofs.YtighfcpaplmaiaaGreatDoor
open Go Go.Vg Go.Proofs
theorem c6e(k:Int)(t:ByteArray):b0s env 65 [.int .i64 k,.str t] (.agg (lfN k t).enc):=by
 refine b0i (fn:=Tryz.f65) Tryz.func65 rfl (by rw[Tryz.ntmps65];simp) (by simp -implicitDefEqProofs only[go_sem]) (by simp -implicitDefEqProofs only[go_sem]) ?_;simp -implicitDefEqProofs only[go_sem,Tryz.f65,lfN,b8y,h0T];try rfl
theorem b9j(name:ByteArray)(x:Nd):b0s env 66 [.str name,.agg x.enc] (.agg (fnN name x).enc):=by
 refine b0i (fn:=Tryz.f66) Tryz.func66 rfl (by rw[Tryz.ntmps66];simp) (by simp -implicitDefEqProofs only[go_sem]) (by simp -implicitDefEqProofs only[go_sem]) ?_;simp -implicitDefEqProofs only[go_sem,Tryz.f66];refine sdq ?_;simp -implicitDefEqProofs only[go_sem];refine vPd (c6e 3 ⟨#[]⟩) ?_;simp -implicitDefEqProofs only[go_sem];refine vPd (c6e 5 ⟨#[105,110,116]⟩) ?_;simp -implicitDefEqProofs only[go_sem];simp only[fnN,b8y,h0s,h0T];try rfl
def g7Z:Nd := .mk 7 ⟨#[65]⟩ [] [lfN 8 ⟨#[]⟩,fnN ⟨#[109]⟩ (lfN 20 ⟨#[102]⟩)]
def g8H:Nd := .mk 21 ⟨#[109]⟩ [] [lfN 22 ⟨#[65]⟩]
def g1y:Nd := .mk 24 ⟨#[43]⟩ [] [g8H,lfN 20 ⟨#[103]⟩]
def b6q:List Un:=[⟨⟨#[97]⟩,⟨#[]⟩,.mk 1 ⟨#[]⟩ [] [g7Z,fnN ⟨#[102]⟩ (lfN 17 ⟨#[50]⟩),fnN ⟨#[103]⟩ g1y],false⟩]
theorem d9j:b0s env 35 [] (sl 70 (b6q.map Un.enc)):=by
 refine b0i (fn:=Tryz.f35) Tryz.func35 rfl (by rw[Tryz.ntmps35];simp) rfl (by simp -implicitDefEqProofs only[go_sem];exact b0v _) ?_;simp -implicitDefEqProofs only[go_sem,Tryz.f35];refine(c6e 8 ⟨#[]⟩).calls (by simp -implicitDefEqProofs only[go_sem]) ?_;simp -implicitDefEqProofs only[go_sem];refine(c6e 20 ⟨#[102]⟩).calls (by simp -implicitDefEqProofs only[go_sem]) ?_;simp -implicitDefEqProofs only[go_sem];refine(b9j ⟨#[109]⟩ (lfN 20 ⟨#[102]⟩)).calls (by simp -implicitDefEqProofs only[go_sem]) ?_;simp -implicitDefEqProofs only[go_sem];refine(c6e 22 ⟨#[65]⟩).calls (by simp -implicitDefEqProofs only[go_sem]) ?_;simp -implicitDefEqProofs only[go_sem];refine sdq ?_;simp -implicitDefEqProofs only[go_sem];refine vPd (c6e 20 ⟨#[103]⟩) ?_;simp -implicitDefEqProofs only[go_sem];refine sdq ?_;simp -implicitDefEqProofs only[go_sem];refine vPd (c6e 17 ⟨#[50]⟩) ?_;simp -implicitDefEqProofs only[go_sem];refine b0L (b9j ⟨#[102]⟩ (lfN 17 ⟨#[50]⟩)) (by simp -implicitDefEqProofs only[go_sem]) ?_;simp -implicitDefEqProofs only[go_sem];refine b0L (b9j ⟨#[103]⟩ g1y) (by simp -implicitDefEqProofs only[go_sem,g1y,g8H,b8y,h0s,h0T]) ?_;simp -implicitDefEqProofs only[go_sem];simp only[b6q,g7Z,Un.enc,b8y,h0s,h0T,h0a,h0Q];try rfl
theorem d3s(a b:List Ed):b0s env 14 [sl 38 (a.map Ed.enc),sl 38 (b.map Ed.enc)] (.bool (decide (a=b))):=by
 refine b0i (fn:=Tryz.f14) Tryz.func14 rfl (by rw[Tryz.ntmps14];simp) (by simp -implicitDefEqProofs only[go_sem];try simp[b4T]) rfl ?_;simp -implicitDefEqProofs only[go_sem,Tryz.f14];intro _ h1 _ h2;refine⟨fun c=>?_,fun c=>?_⟩
 ·have:a≠b:=by rintro rfl;simp at c
  simp[this]
 ·have hl:a.length=b.length:=by simp at c;omega
  refine b0l (β:=Unit) a (fun pre _=>⟨[(5,.int .i64 pre.length),(0,sl 38 (a.map Ed.enc)),(1,sl 38 (b.map Ed.enc))],[],[]⟩) (fun pre _ _=>∃ r,b=pre++r) () ?_ ⟨b,rfl⟩ ?_ ?_
  ·simp -implicitDefEqProofs only[go_sem];trivial
  ·rintro _ ⟨r,hr⟩;simp -implicitDefEqProofs only[go_sem];have:r=[]:=h0G (by have:=congrArg List.length hr;simp at this;omega);subst this;simp[hr]
  ·rintro pre x post _ rfl ⟨r,rfl⟩;rcases r with _ | ⟨y,r⟩
   ·simp at hl
   ·simp -implicitDefEqProofs only[go_sem];intro _ hl;refine sdq ?_;have hl2:((pre.length:Int)<((pre++y::r).length:Int))=True:=d8b;have hfk:flatK Tryz.prog 38=some [0,0]:=by kernel_rfl
    simp -implicitDefEqProofs only[go_sem,Ed.enc,hl2,hfk];refine⟨fun c=>?_,fun c=>⟨(),⟨r,?_⟩,b0g (c2w hl (by decide))⟩⟩
    ·have hne:x≠y:=by rintro rfl;simp at c
     simp[hne]
    ·have hxy:x=y:=by
      obtain⟨x1,x2⟩:=x;obtain⟨y1,y2⟩:=y;simp only[Bool.not_eq_false',h0k,h0l]at c;rw[c.1,c.2]
     rw[hxy];simp
theorem g4m:(b4H b6q).1=0:=by kernel_rfl
theorem f6c:b6W b6q 3 160 6000=true:=by kernel_rfl
theorem g2n:(b8N b6q 0).length=24:=by kernel_rfl
theorem g1B:c3D b6q 0 22=(⟨#[65]⟩,0):=by kernel_rfl
theorem g1t:tgL b6q ⟨#[65]⟩ ⟨#[109]⟩=[⟨#[65,46,109]⟩]:=by kernel_rfl
def edW:List Ed:=[⟨⟨#[65,46,109]⟩,⟨#[102]⟩⟩,⟨⟨#[103]⟩,⟨#[65,46,109]⟩⟩,⟨⟨#[103]⟩,⟨#[103]⟩⟩]
theorem g1G:c0T b6q 0 21 21 ⟨#[109]⟩=[⟨#[65,46,109]⟩]:=by
 unfold c0T;rw[if_neg (by decide),if_pos rfl,show((21:Int)+1)=22 from rfl,g1B,if_pos rfl,g1t];exact c4n _
theorem g4H:b4g b6q 0 (b8N b6q 0) 21=[⟨⟨#[103]⟩,⟨#[65,46,109]⟩⟩]:=by
 have h1:(b0h (b8N b6q 0) 21).kind=21:=by kernel_rfl
 have h2:(b0h (b8N b6q 0) 21).text=⟨#[109]⟩:=by kernel_rfl
 have h3:c0V (b8N b6q 0) 21=some ⟨#[103]⟩:=by kernel_rfl
 unfold b4g;rw[h1,h2,h3,if_pos (.inr rfl)];show(c0T b6q 0 21 21 ⟨#[109]⟩).map (Ed.mk ⟨#[103]⟩)=_;rw[g1G];rfl
theorem f5p:b1a b6q 0 (b8N b6q 0) 21=[⟨⟨#[65,46,109]⟩,⟨#[102]⟩⟩]:=by kernel_rfl
theorem g1u:b4g b6q 0 (b8N b6q 0) 22=[]:=by kernel_rfl
theorem g5d:b4g b6q 0 (b8N b6q 0) 23=[⟨⟨#[103]⟩,⟨#[103]⟩⟩]:=by kernel_rfl
theorem g3w:b1F b6q b6q.length=edW:=by
 show b1F b6q 1=edW;rw[b1F,b1F,g2n,b1a,b1a,b1a,f5p,g4H,g1u,g5d];rfl
theorem g2S:edW.Pairwise fun a b=>b2Z b a=false:=by
 unfold edW;refine .cons (fun b hb=>?_) (.cons (fun b hb=>?_) (.cons (by simp) .nil))
 ·simp only[h0C,List.not_mem_nil,or_false]at hb;rcases hb with rfl | rfl <;> kernel_rfl
 ·simp only[h0C,List.not_mem_nil,or_false]at hb;subst hb;kernel_rfl
theorem f0W:b1b b6q=edW:=by
 rw[b1b,if_pos g4m,g3w,show b2E edW=edW from d8G (b1T edW) (b6U edW) g2S];kernel_rfl
theorem g7C:b7q edW ⟨#[103]⟩=[⟨#[65,46,109]⟩,⟨#[103]⟩,⟨#[102]⟩]:=by kernel_rfl
theorem g5b:d7H b6q=[⟨#[65,46,109]⟩,⟨#[102]⟩,⟨#[103]⟩]:=by kernel_rfl
theorem g9B:b7q edW ⟨#[65,46,109]⟩=[⟨#[102]⟩]:=by kernel_rfl
theorem g9F:b7q edW ⟨#[102]⟩=[]:=by kernel_rfl
def d4S:List ByteArray:=[⟨#[65,46,109]⟩,⟨#[102]⟩,⟨#[103]⟩]
theorem g9n:Asc d4S:=by
 unfold d4S;refine .cons (fun b hb=>?_) (.cons (fun b hb=>?_) (.cons (by simp) .nil))
 ·simp only[h0C,List.not_mem_nil,or_false]at hb;rcases hb with rfl | rfl <;> kernel_rfl
 ·simp only[h0C,List.not_mem_nil,or_false]at hb;subst hb;kernel_rfl
theorem f2f:b1E (b7q edW ⟨#[103]⟩)=d4S:=by
 refine b9x (b6k (b2k edW _).1) g9n fun x=>?_
 rw[(b1N _).mem_iff,g7C];simp only[d4S,h0C,List.not_mem_nil,or_false];constructor
 ·rintro(h | h | h) <;> simp[h]
 ·rintro(h | h | h) <;> simp[h]
theorem g3m:c7U b6q edW=[⟨#[103]⟩]:=by
 obtain⟨h1,h2⟩:=c1k b6q edW;refine b9x h1 (by exact .cons (by simp) .nil) fun x=>?_
 rw[h2 x,←(b2k edW x).2.1,g5b];simp only[h0C,List.not_mem_nil,or_false];constructor
 ·rintro⟨_,rfl | rfl | rfl,h⟩
  ·rw[g9B]at h;exact absurd (h0R.1 h) (by decide)
  ·rw[g9F]at h;cases h
  ·rfl
 ·rintro rfl;exact⟨by unfold edW;simp,.inr (.inr rfl),by rw[g7C];simp⟩
theorem g9o:c8H b6q 0 8=[⟨#[102]⟩]:=by kernel_rfl
theorem g8O:c8H b6q 0 0=[]:=by kernel_rfl
theorem d7o:b0s env 9 [] (.bool true):=by
 have hfo:=(c2h (m:=160) (h0q _) f6c)
 have hG:=c5Y (m:=160) (h0q _) f6c;rw[f0W]at hG;have hR:=d8w b6q edW (by decide) hG ⟨#[103]⟩;rw[f2f]at hR;have hC:=c1r b6q hfo.1 edW (by decide) hG;rw[g3m]at hC;have hT8:=c6V b6q hfo.1 hfo.2 0 8 (by omega);rw[g9o]at hT8;have hT0:=c6V b6q hfo.1 hfo.2 0 0 (by omega);rw[g8O]at hT0;refine b0i (fn:=Tryz.f9) Tryz.func9 rfl (by rw[Tryz.ntmps9];simp) rfl rfl ?_;simp -implicitDefEqProofs only[go_sem,Tryz.f9];refine d9j.cq ?_;generalize b6q=su at *;simp -implicitDefEqProofs only[go_sem];refine hG.cq ?_;simp -implicitDefEqProofs only[go_sem];refine(d3s edW edW).calls (by simp -implicitDefEqProofs only[go_sem,edW,Ed.enc,h0s,h0T]) ?_;have d1:decide (edW=edW)=true:=by simp
 simp -implicitDefEqProofs only[go_sem,d1];refine hR.cq ?_;simp -implicitDefEqProofs only[go_sem];refine(b4K d4S d4S).calls (by simp -implicitDefEqProofs only[go_sem,d4S,b0n,h0s,h0T]) ?_;have d2:decide (d4S=d4S)=true:=by simp
 simp -implicitDefEqProofs only[go_sem,d2];refine hC.cq ?_;simp -implicitDefEqProofs only[go_sem];refine(b4K [⟨#[103]⟩] [⟨#[103]⟩]).calls (by simp -implicitDefEqProofs only[go_sem,b0n,h0s,h0T]) ?_;have d3:decide ([(⟨#[103]⟩:ByteArray)]=[⟨#[103]⟩])=true:=by simp
 simp -implicitDefEqProofs only[go_sem,d3];refine hT8.cq ?_;simp -implicitDefEqProofs only[go_sem];refine(b4K [⟨#[102]⟩] [⟨#[102]⟩]).calls (by simp -implicitDefEqProofs only[go_sem,b0n,h0s,h0T]) ?_;have d4:decide ([(⟨#[102]⟩:ByteArray)]=[⟨#[102]⟩])=true:=by simp
 simp -implicitDefEqProofs only[go_sem,d4];refine hT0.cq ?_;simp -implicitDefEqProofs only[go_sem];rfl
theorem c4M(u:List Un)(hu:b2D u):b0s env 25 [sl 70 (u.map Un.enc)] (sl 45 ((b0f u).map b0p)):=by
 have hul:=hu.1;refine b0i (fn:=Tryz.f25) Tryz.func25 rfl (by rw[Tryz.ntmps25];simp) (by simp -implicitDefEqProofs only[go_sem];exact b0v _) (by simp -implicitDefEqProofs only[go_sem];exact b1g _) ?_;simp -implicitDefEqProofs only[go_sem,Tryz.f25];refine b0l (β:=Unit) u (fun pre _=>⟨[(4,.int .i64 pre.length),(3,.slice (.arr 0) 45 ((b0f pre).map b0p)),(0,sl 70 (u.map Un.enc))],[],[(b0f pre).length]⟩)
  (fun _ _ _=>True) () ?_ trivial ?_ ?_
 ·simp -implicitDefEqProofs only[go_sem];exact⟨rfl,rfl⟩
 ·intro _ _;simp -implicitDefEqProofs only[go_sem]
 ·rintro pre x post _ hx _;have hpl:u.length=pre.length+1+post.length:=by rw[hx];simp;omega
  have hgx:(u.map Un.enc).getD (pre.length:Int).toNat []=x.enc:=by rw[hx];simp[h0c]
  have hlt:((pre.length:Int)<u.length)=True:=by simp;omega
  have hw:IntKind.i64.wrap (↑pre.length+1)=↑(pre.length+1):=b0g (by omega);have hxn:=(hu.2 x (by rw[hx];simp)).1;have htl:(b0f pre).length=pre.length:=by simp[b0f]
  have hsn:(b0f (pre++[x])).map b0p=(b0f pre).map b0p++[b0p (if x.broken=true then []else b0u x.tree (-1) 0)]:=by simp[b0f]
  simp -implicitDefEqProofs only[go_sem,hgx,hlt];intro _ _;refine⟨fun hb=>?_,fun hb=>⟨by omega,(),⟨hw,?_⟩,by simp[b0f]⟩⟩
  ·refine(c5G x.tree (by omega)).calls (by simp -implicitDefEqProofs only[go_sem]) ?_;simp -implicitDefEqProofs only[go_sem];refine⟨by omega,(),⟨hw,?_⟩,by simp[b0f]⟩;rw[hsn,if_neg (by simpa using hb)];rfl
  ·rw[hsn,if_pos (by simpa using hb)];rfl
theorem c5P(l:List Rw)(i:Nat)(hi:i<l.length)(hr:rowsOK l)(hs:∀ r∈l,r.text.size≤1000000):b0s env 54 [sl 48 (l.map Rw.enc),.int .i64 i] (.str (qnR l i)):=by
 refine b0i (fn:=Tryz.f54) Tryz.func54 rfl (by rw[Tryz.ntmps54];simp) (by simp -implicitDefEqProofs only[go_sem];exact b0T _) rfl ?_;have hgi:=b0z hi;have hpi:=hr.par i hi;have hlt:((i:Int)<l.length)=True:=by simp;omega
 have hts:∀ j:Nat,j<l.length→(b0h l j).text.size≤1000000:=fun j hj=>by
  have:=hs l[j] (List.getElem_mem hj);rw[show b0h l j=l[j]by simp[b0h,h0c,hj]];exact this
 simp -implicitDefEqProofs only[go_sem,Tryz.f54,hgi,hlt,Rw.enc];refine⟨fun hp0=>?_,fun hp0=>?_⟩
 ·obtain⟨p,hpe⟩:=h0X hp0;have hpl:p<l.length:=by omega
  have hgp:=b0z hpl;have hplt:((p:Int)<l.length)=True:=by simp;omega
  have hpp0:(0≤(p:Int))=True:=by simp
  have hq:qnR l i=if(b0h l p).kind=7 then(b0h l p).text++⟨#[46]⟩++(b0h l i).text else(b0h l i).text:=by
   unfold qnR;rw[hpe,h0n];simp
  rw[hpe,hq];simp -implicitDefEqProofs only[go_sem,hgp,hplt,hpp0,hgi,hlt,Rw.enc];refine⟨fun h7=>?_,fun h7=>by rw[if_neg h7]⟩;rw[if_pos h7];refine sdq ?_;simp -implicitDefEqProofs only[go_sem,hgp,hplt,hpp0,hgi,hlt,hpe,Rw.enc];have t1:=hts p hpl;have t2:=hts i hi;exact⟨(show(b0h l p).text.size+1≤1152921504606846976 by omega),(show(b0h l p).text.size+1+(b0h l i).text.size≤1152921504606846976 by omega)⟩
 ·have hq:qnR l i=(b0h l i).text:=by unfold qnR;rw[if_neg (fun h=>hp0 h.1)]
  rw[hq]
theorem d0G(l:List Rw)(hr:rowsOK l)(i:Nat)(hi:i<l.length)(hs:∀ r∈l,r.text.size≤1000000):b0s env 26 [sl 48 (l.map Rw.enc),.int .i64 i] (.str ((c0V l i).getD ⟨#[]⟩)):=by
 refine b0i (fn:=Tryz.f26) Tryz.func26 rfl (by rw[Tryz.ntmps26];simp) (by simp -implicitDefEqProofs only[go_sem];exact b0T _) rfl ?_;simp -implicitDefEqProofs only[go_sem,Tryz.f26];refine b1u (α:=Int×Nat) (fun b=>⟨[(5,.int .i64 b.1),(4,.str ⟨#[]⟩),(0,sl 48 (l.map Rw.enc))],[],[]⟩)
  (fun b => -1≤b.1∧b.1+1<b.2∧b.1<l.length∧c7V l i=upF l b.2 b.1) (fun b=>(b.1+1).toNat) (i,l.length+1) ?_ ⟨by omega,by simp;omega,by simp;omega,rfl⟩ ?_
 ·simp -implicitDefEqProofs only[go_sem];try rfl
 ·rintro⟨k,f⟩ ⟨h1,h2,h3,h4⟩;simp only at h1 h2 h3 h4 ⊢;obtain⟨f,rfl⟩:∃ f',f=f'+1:=⟨f - 1,by omega⟩
  simp -implicitDefEqProofs only[go_sem];refine⟨fun hk=>?_,fun hk=>?_⟩
  ·obtain⟨k,rfl⟩:=h0X hk;have hkl:k<l.length:=by omega
   have hgk:=b0z hkl;have hklt:((k:Int)<l.length)=True:=by simp;omega
   have hk0:(0≤(k:Int))=True:=by simp
   have hpk:=hr.par k hkl;rw[upF,if_neg (by omega),h0n]at h4;simp -implicitDefEqProofs only[go_sem,hgk,hklt,hk0,Rw.enc];refine⟨fun h2=>?_,fun h2=>?_⟩
   ·have h2':¬ (b0h l k).kind=2:=by simpa using h2
    rw[if_neg h2']at h4;exact⟨((b0h l k).parent,f),by simp only;omega,⟨hpk.2,by simp only;omega,by simp only;omega,h4⟩,rfl⟩
   ·have h2':(b0h l k).kind=2:=by simpa using h2
    rw[if_pos h2']at h4;have har:c0V l i=some (qnR l k):=by rw[c0V,h4];rfl
    rw[har];refine⟨fun h=>by omega,fun _=>?_⟩;refine(c5P l k hkl hr hs).calls (by simp -implicitDefEqProofs only[go_sem]) ?_;simp -implicitDefEqProofs only[go_sem];try rfl
  ·have hk':k<0:=by omega
   rw[upF,if_pos hk']at h4;have:c0V l i=none:=by rw[c0V,h4];rfl
   rw[this];exact⟨fun _=>rfl,fun h=>absurd hk' h⟩
end Go.Proofs.YtighfcpaplmaiaaGreatDoor
namespace Go.Vg
theorem c7N{l:List Rw}(hr:rowsOK l):∀ (f g:Nat) (k:Int),k<l.length→k+1≤f→k+1≤g→upF l f k=upF l g k
 | 0,0,k,_,_,_=>rfl
 | 0,g+1,k,_,h,_=>by rw[upF,upF,if_pos (by omega)]
 | f+1,0,k,_,_,h=>by rw[upF,upF,if_pos (by omega)]
 | f+1,g+1,k,hk,h1,h2=>by
  rw[upF,upF];by_cases h0:k<0
  ·rw[if_pos h0,if_pos h0]
  ·rw[if_neg h0,if_neg h0];have hp:=hr.par k.toNat (by omega);rw[c7N hr f g _ (by omega) (by omega) (by omega)]
theorem b9W{l:List Rw}(hr:rowsOK l){i:Nat}(hi:i<l.length):c7V l i=if(b0h l i).kind=2 then some i else upF l (l.length+1) (b0h l i).parent:=by
 have hp:=hr.par i hi;unfold c7V;rw[upF,if_neg (by omega),h0n,c7N hr l.length (l.length+1) _ (by omega) (by omega) (by omega)]
theorem g1C{l:List Rw}(hg:gramL l)(hc:∀ i<l.length,(b0h l i).kind=9→∃ f,b1B l f (b1c l i 0)=true) :
  ∀ i,i<l.length→(c7V l i).isSome=true∨(b0h l i).kind=1∨(b0h l i).kind=7∨(b0h l i).kind=8∨(b0h l i).kind=9∨∃ f,b1B l f i=true:=by
 intro i;induction i using Nat.strongRecOn with
 | _ i ih =>
  intro hi;rcases Nat.eq_zero_or_pos i with rfl | h0
  ·exact .inr (.inl (hg.root hi))
  obtain⟨p,hp,hpi,j,hj,hk⟩:=hg.par i hi h0;have hpl:p<l.length:=by omega
  have hst:=b9W hg.ok hi;rw[hp]at hst;have hst':(b0h l i).kind≠2→c7V l i=c7V l p:=fun h=>by rw[hst,if_neg h];rfl
  by_cases h2:(b0h l i).kind=2
  ·rw[if_pos h2]at hst;exact .inl (by rw[hst];rfl)
  have hf:=hg.fit p hpl j hj;rw[hk]at hf;rcases ih p hpi hpl with h | h | h | h | h | ⟨f,h⟩
  ·exact .inl (by rw[hst' h2];exact h)
  ·rw[h]at hf;simp[b3l,b1D]at hf;omega
  ·rw[h]at hf;simp[b3l]at hf;omega
  ·rw[h]at hf;simp[b3l]at hf
  ·have h9:=hc p hpl h;rw[h]at hf;simp[b3l]at hf;have:j=0:=by omega
   subst this;rw[hk]at h9;exact .inr (.inr (.inr (.inr (.inr h9))))
  ·cases f with
   | zero=>cases h
   | succ f =>
    rw[b1B,h0k,List.all_eq_true]at h;have hm:i∈(b0h l p).kids:=by
     have:=b3J hj;rw[hk]at this;exact h0j this
    exact .inr (.inr (.inr (.inr (.inr ⟨f,h.2 i hm⟩))))
theorem d9t{l:List Rw}(hg:gramL l)(hc:∀ i<l.length,(b0h l i).kind=9→∃ f,b1B l f (b1c l i 0)=true){i:Nat}(hi:i<l.length)(hk:(b0h l i).kind=20∨(b0h l i).kind=21):(c7V l i).isSome=true:=by
 rcases g1C hg hc i hi with h | h | h | h | h | ⟨f,h⟩
 ·exact h
 ·omega
 ·omega
 ·omega
 ·omega
 ·cases f with
  | zero=>cases h
  | succ f =>
   rw[b1B,h0k,h0l]at h;omega
end Go.Vg
namespace Go.Proofs.YtighfcpaplmaiaaGreatDoor
open Go Go.Vg Go.Proofs
theorem c2t:∀ (l a:List Ed),(l.Pairwise fun x y=>b2Z y x=false)→(a.Pairwise fun x y=>b2Z x y=true)→(∀ x∈a,∀ y∈l,b2Z y x=false)→(l.foldl d0a a).Pairwise fun x y=>b2Z x y=true
 | [],a,_,ha,_=>ha
 | s::c,a,hc,ha,hac=>by
  rw[h0K];obtain⟨hc1,hc2⟩:=h1x.1 hc;unfold d0a;split
  ·exact c2t c a hc2 ha fun x hx y hy=>hac x hx y (by simp[hy])
  ·rename_i hne;have hlt:∀ x∈a,b2Z x s=true:=fun x hx=>by
    cases hl:b2Z x s with
    | true=>rfl
    | false =>
     have e:x=s:=b8Z hl (hac x hx s (by simp));subst e;exfalso;have hn:a≠[]:=by intro h0;rw[h0]at hx;cases hx
     have hcl:=List.dropLast_concat_getLast hn;have hlast:a.getLast? = some (a.getLast hn):=List.getLast?_eq_some_getLast hn;rw[←hcl]at hx;rcases h0E.1 hx with h1 | h1
     ·have h2:b2Z x (a.getLast hn)=true:=by
       have h3:=ha;rw[←hcl]at h3;exact(List.pairwise_append.1 h3).2.2 x h1 _ (by simp)
      rw[hac _ (List.getLast_mem hn) x (by simp)]at h2;cases h2
     ·simp only[h0R]at h1;rw[←h1]at hlast;exact hne hlast
   refine c2t c _ hc2 (List.pairwise_append.2 ⟨ha,by simp,fun x hx y hy=>?_⟩) fun x hx y hy=>?_
   ·simp only[h0R]at hy;subst hy;exact hlt x hx
   ·rcases h0E.1 hx with h1 | h1
    ·exact hac x h1 y (by simp[hy])
    ·simp only[h0R]at h1;subst h1;exact hc1 y hy
theorem d1o{u:List Un}(hu:b2D u)(h0:(b4H u).1=0){un i:Nat}{l:List Rw}(hl:(b0f u)[un]? = some l)(hi:i<l.length)(hk:(b0h l i).kind=20∨(b0h l i).kind=21):(c0V l i).isSome=true:=by
 have hc:=(b7k h0).const hl;have hg:=(b3H hu h0).gram l (h0j hl);rw[c0V,Option.isSome_map];exact d9t hg hc hi hk
theorem c5w{u:List Un}{c t x:ByteArray}:x∈tgL u c t↔∃ y∈c::b9y u c,∃ d,b1H u y t=some d∧b2z d=x:=by
 unfold tgL;simp only[List.mem_filterMap,h0p]
theorem d2p(u:List Un):(b1b u).Pairwise fun x y=>b2Z x y=true:=by
 unfold b1b;split
 ·exact c2t _ [] (b6U _) .nil (by simp)
 ·exact .nil
theorem c5X{u:List Un}(hu:b2D u)(h0:(b4H u).1=0){un i:Nat}{l:List Rw}(hl:(b0f u)[un]? = some l)(hi:i<l.length):c8H u un i=c0T u un i (b0h l i).kind (b0h l i).text:=by
 obtain⟨x,hx,rfl⟩:=b2H (b3H hu h0).br hl;have hlt:=(h0b.1 hx).1;obtain⟨k,t,g,ks,e1,e2,e3,e4⟩:=b1I hi;rw[c8H,if_neg (by rintro(h | h | h) <;> first | exact h h0 | omega),if_pos (by omega),h0n,h0n,hx,h0D,h0A,e1];simp only;rw[e2,e3];rfl
theorem d3a{u:List Un}(hu:b2D u){l:List Rw}(hl:l∈b0f u):rowsOK l∧∀ r∈l,r.text.size≤1000000:=by
 obtain⟨x,hx,rfl⟩:=h1p.1 hl;obtain⟨hxn,hxs⟩:=hu.2 x hx;split
 ·exact⟨⟨by simp,by simp,by simp⟩,by simp⟩
 ·refine⟨b6a (by omega),fun r hr=>?_⟩;obtain⟨i,hi,rfl⟩:=h1h hr;obtain⟨k,t,g,ks,e1,_,e3,_⟩:=b1I (n:=x.tree) (i:=i) hi;have e4:b0h (b0u x.tree (-1) 0) i=(b0u x.tree (-1) 0)[i]:=by simp[b0h,h0c,hi]
  rw[e4]at e3;rw[e3];exact hxs _ (h0j e1)
end Go.Proofs.YtighfcpaplmaiaaGreatDoor
namespace Go.Vg
def c3z(B:List (ByteArray×ByteArray)):ByteArray→List ByteArray→Prop
 | _,[]=>True
 | n,x::r=>x=n∧x≠⟨#[]⟩∧(b1G B x).isSome=true∧c3z B ((b1G B x).getD ⟨#[]⟩) r
theorem c6M{B:List (ByteArray×ByteArray)}{s:ByteArray}:∀ (f:Nat) (out:List ByteArray) (n:ByteArray),∀ x∈out,x∈(b7B B s f out n).1
 | 0,out,n,x,h=>h
 | f+1,out,n,x,h=>by
  rw[b7B];split
  ·exact h
  ·exact c6M f _ _ x (h1e _ h)
theorem c8r{B:List (ByteArray×ByteArray)}{s:ByteArray}:∀ (f:Nat) (out:List ByteArray) (n:ByteArray) (p:List ByteArray),c3z B n p→p.length≤f→p.Nodup→(∀ x∈p,x ∉ s::out)→∀ x∈p,x∈(b7B B s f out n).1
 | _,out,n,[],_,_,_,_,x,hx=>by cases hx
 | 0,out,n,y::r,_,h,_,_,x,hx=>by simp at h
 | f+1,out,n,y::r,hp,hl,hn,hd,x,hx=>by
  obtain⟨rfl,h1,h2,h3⟩:=hp;have hy:=hd y (by simp);have hc:(decide (y=⟨#[]⟩) || !(b1G B y).isSome || (s::out).any fun x=>decide (x=y))=false:=by
   simp only[h1,h2,decide_false,Bool.not_true,Bool.or_false,h0Y,List.any_eq_false,h0l];rintro z hz rfl;exact hy hz
  rw[b7B,if_neg (by rw[hc];simp)];obtain⟨hn1,hn2⟩:=h1t.1 hn;rcases h0C.1 hx with rfl | hx
  ·exact c6M f _ _ _ (by simp)
  ·refine c8r f (out++[y]) _ r h3 (by simpa using hl) hn2 (fun z hz h=>?_) x hx;have:=hd z (by simp[hz]);simp only[h0C,h0E,List.not_mem_nil,or_false]at h this;rcases h with h | h | h
   ·exact this (.inl h)
   ·exact this (.inr h)
   ·subst h;exact hn1 hz
theorem d0V{B:List (ByteArray×ByteArray)}{s:ByteArray}:∀ (f:Nat) (out:List ByteArray) (n:ByteArray),(s::out).Nodup→∃ p,(b7B B s f out n).1=out++p∧c3z B n p∧(s::(out++p)).Nodup
 | 0,out,n,h=>⟨[],by simp[b7B],trivial,by simpa using h⟩
 | f+1,out,n,h=>by
  rw[b7B];split
  ·exact⟨[],by simp,trivial,by simpa using h⟩
  ·rename_i hc;simp only[h1u,not_or,h0l,Bool.not_eq_true',Bool.not_eq_false,h1a,not_exists,not_and]at hc;obtain⟨⟨h1,h2⟩,h3⟩:=hc;have hn:(s::(out++[n])).Nodup:=by
    have hno:n ∉ s::out:=fun hm=>h3 n hm rfl
    rw[←h0a];refine h1v.2 ⟨h,by simp,fun a ha b hb=>?_⟩;simp only[h0R]at hb;subst hb;rintro rfl;exact hno ha
   obtain⟨p,g1,g2,g3⟩:=d0V f (out++[n]) ((b1G B n).getD ⟨#[]⟩) hn;exact⟨n::p,by rw[g1];simp,⟨rfl,h1,h2,g2⟩,by simpa using g3⟩
theorem b5S{B:List (ByteArray×ByteArray)}:∀ (p:List ByteArray) {n x:ByteArray} {r:List ByteArray},c3z B n (p++x::r)→c3z B ((b1G B x).getD ⟨#[]⟩) r∧(b1G B x).isSome=true
 | [],n,x,r,h=>⟨h.2.2.2,h.2.2.1⟩
 | y::p,n,x,r,h=>b5S p h.2.2.2
theorem c3T{B:List (ByteArray×ByteArray)}:∀ (p:List ByteArray) {n:ByteArray} {r:List ByteArray},c3z B n (p++r)→c3z B n p
 | [],n,r,h=>trivial
 | y::p,n,r,h=>⟨h.1,h.2.1,h.2.2.1,c3T p h.2.2.2⟩
theorem c7v{B:List (ByteArray×ByteArray)}{s:ByteArray}{p:List ByteArray}(hp:c3z B ((b1G B s).getD ⟨#[]⟩) p)(hl:p.length≤B.length+1)(hn:(s::p).Nodup):∀ x∈p,x∈(b3M B s).1:=by
 obtain⟨h1,h2⟩:=h1t.1 hn;refine c8r _ _ _ p hp hl h2 fun x hx h=>?_
 simp only[h0R]at h;subst h;exact h1 hx
theorem b9w{B:List (ByteArray×ByteArray)}{n:ByteArray}(h:(b1G B n).isSome=true):∃ b,(n,b)∈B:=by
 unfold b1G at h;rw[Option.isSome_map]at h;obtain⟨p,hp⟩:=h0I.1 h;have h1:=List.find?_some hp;simp only[h0l]at h1;obtain⟨a,b⟩:=p;simp only at h1;subst h1;exact⟨b,h0Z hp⟩
theorem c2o{B:List (ByteArray×ByteArray)}{c y:ByteArray}:y∈d8E B c↔∃ b,(y,b)∈B∧c∈(b3M B y).1:=by
 unfold d8E;rw[(b1N _).mem_iff];simp only[h1p,List.mem_filter,c7h,h1a,h0l];constructor
 ·rintro⟨⟨a,b⟩,⟨h1,x,h2,rfl⟩,rfl⟩;exact⟨b,h1,h2⟩
 ·rintro⟨b,h1,h2⟩;exact⟨(y,b),⟨h1,c,h2,rfl⟩,rfl⟩
theorem f3T{B:List (ByteArray×ByteArray)}{y c z:ByteArray}(hc:c∈(b3M B y).1)(hz:z∈(b3M B y).1):z=c∨z∈(b3M B c).1∨z∈d8E B c:=by
 obtain⟨p,h1,h2,h3⟩:=d0V (B:=B) (s:=y) (B.length+1) [] ((b1G B y).getD ⟨#[]⟩) (by simp);have hl:=b8X B y;have hP:(b3M B y).1=p:=by unfold b3M;rw[h1];rfl
 rw[hP]at hc hz hl;rw[h0Q]at h3;obtain⟨_,h4⟩:=h1t.1 h3;obtain⟨p1,p2,rfl⟩:=List.append_of_mem hc;obtain⟨n1,n2,n3⟩:=h1v.1 h4;rcases h0E.1 hz with hz | hz
 ·obtain⟨a,b,rfl⟩:=List.append_of_mem hz;rw[h0x,h0a]at h2 h4;obtain⟨g1,g2⟩:=b5S a h2;obtain⟨bb,hb⟩:=b9w g2;obtain⟨_,m2,_⟩:=h1v.1 h4;have e:b++c::p2=(b++[c])++p2:=by simp
  rw[e]at g1 m2;refine .inr (.inr (c2o.2 ⟨bb,hb,c7v (c3T _ g1) ?_ ?_ c (by simp)⟩))
  ·simp only[h0h,h0o,h0J]at hl ⊢;omega
  ·rw[←h0a]at m2;exact(h1v.1 m2).1
 ·rcases h0C.1 hz with rfl | hz
  ·exact .inl rfl
  ·obtain⟨g1,_⟩:=b5S p1 h2;refine .inr (.inl (c7v g1 ?_ n2 z hz));simp only[h0h,h0o]at hl ⊢;omega
theorem b8m(bt:Dl→ByteArray):∀ (l:List Dl) (B:List (ByteArray×ByteArray)) (p:ByteArray×ByteArray),p∈l.foldl (c1Z bt) B→p∈B∨∃ d∈l,d.kind=2∧d.name=p.1
 | [],B,p,h => .inl h
 | x::r,B,p,h=>by
  rw[h0K]at h;rcases b8m bt r _ p h with h | ⟨d,h1,h2⟩
  ·unfold c1Z at h;split at h
   ·rename_i hc;rcases h0E.1 h with h | h
    ·exact .inl h
    ·simp only[h0R]at h;subst h;exact .inr ⟨x,by simp,hc.1,rfl⟩
   ·exact .inl h
  ·exact .inr ⟨d,by simp[h1],h2⟩
end Go.Vg
namespace Go.Proofs.YtighfcpaplmaiaaGreatDoor
open Go Go.Vg Go.Proofs
theorem c0y{u:List Un}(hS:SndU u)(n:ByteArray):b1H u ⟨#[]⟩ n=none:=by
 cases hl:b1H u ⟨#[]⟩ n with
 | none=>rfl
 | some d =>
  exfalso;obtain⟨h1,h2,h3,_⟩:=b7Q hl;have hg:b1G (b0C (btU u) (b0e u 0)) ⟨#[]⟩=none:=by
   cases hb:b1G (b0C (btU u) (b0e u 0)) ⟨#[]⟩with
   | none=>rfl
   | some b =>
    exfalso;obtain⟨b',hm⟩:=b9w (n:=⟨#[]⟩) (by rw[hb];rfl);rcases b8m _ _ _ _ hm with h | ⟨e,g1,g2,g3⟩
    ·cases h
    ·obtain⟨un,nd,l,q1,q2,q3,q4,q5,q6⟩:=hS.decl g1;have:=b6V hS q3 q4 (by omega);rw[←q5,g3]at this;exact this rfl
  have hp:(b3M (b0C (btU u) (b0e u 0)) ⟨#[]⟩).1=[]:=by
   unfold b3M;rw[hg];show(b7B _ _ (_+1) _ ⟨#[]⟩).1=[]
   rw[b7B,if_pos (by simp)]
  rw[hp]at h3;have ho:d.owner=⟨#[]⟩:=by
   rcases h3 with h | h
   ·exact h
   ·cases h
  obtain⟨x,hx,hb,j,hj⟩:=b6R u 0 d h1;have hs:=hS.snd x hx;have hck:b3T x.tree=0:=by simp[b1q]at hs;exact hs.2
  unfold b3T at hck;split at hck
  ·cases hck
  have hf:=c8P x.tree j 0 Ar.none (fun y hy=>b6N _ hck y hy) (fun h=>by cases h) d hj;exact c6N (hf.2 h2).1 ho
end Go.Proofs.YtighfcpaplmaiaaGreatDoor
