import Derived.Test.YtighfcpaplmaiaaGreatDoorUeN
import Derived.Test.YtighfcpaplmaiaaGreatDoorUaA
import Derived.Test.YtighfcpaplmaiaaGreatDoorVgY
import Derived.Test.YtighfcpaplmaiaaGreatDoorRows
import Derived.Test.YtighfcpaplmaiaaGreatDoorUeD
import Derived.Test.YtighfcpaplmaiaaGreatDoorTst
set_option linter.unusedVariables false
set_option linter.unusedSimpArgs false
set_option maxRecDepth 20000
namespace Go.Vg
def c2X(B:List (ByteArray×ByteArray)):ByteArray→List ByteArray→Prop
 | _,[]=>True
 | n,x::r=>x=n∧x≠⟨#[]⟩∧(b1B B x).isSome=true∧c2X B ((b1B B x).getD ⟨#[]⟩) r
theorem c7n{B:List (ByteArray×ByteArray)}{s:ByteArray}:∀ (f:Nat) (out:List ByteArray) (n:ByteArray),∀ x∈out,x∈(b7p B s f out n).1
 | 0,out,n,x,h=>h
 | f+1,out,n,x,h=>by
  rw[b7p]
  split
  ·exact h
  ·exact c7n f _ _ x (g9Z _ h)
theorem c7g{B:List (ByteArray×ByteArray)}{s:ByteArray}:∀ (f:Nat) (out:List ByteArray) (n:ByteArray) (p:List ByteArray),c2X B n p→p.length≤f→p.Nodup→(∀ x∈p,x ∉ s::out)→∀ x∈p,x∈(b7p B s f out n).1
 | _,out,n,[],_,_,_,_,x,hx=>by cases hx
 | 0,out,n,y::r,_,h,_,_,x,hx=>by simp at h
 | f+1,out,n,y::r,hp,hl,hn,hd,x,hx=>by
  obtain⟨rfl,h1,h2,h3⟩:=hp
  have hy:=hd y (by simp)
  have hc:(decide (y=⟨#[]⟩) || !(b1B B y).isSome || (s::out).any fun x=>decide (x=y))=false:=by
   simp only[h1,h2,decide_false,Bool.not_true,Bool.or_false,g9U,List.any_eq_false,g9h]
   rintro z hz rfl
   exact hy hz
  rw[b7p,if_neg (by rw[hc];simp)]
  obtain⟨hn1,hn2⟩:=h0o.1 hn
  rcases g9y.1 hx with rfl | hx
  ·exact c7n f _ _ _ (by simp)
  ·refine c7g f (out++[y]) _ r h3 (by simpa using hl) hn2 (fun z hz h=>?_) x hx
   have:=hd z (by simp[hz])
   simp only[g9y,g9A,List.not_mem_nil,or_false]at h this
   rcases h with h | h | h
   ·exact this (.inl h)
   ·exact this (.inr h)
   ·subst h;exact hn1 hz
theorem c9W{B:List (ByteArray×ByteArray)}{s:ByteArray}:∀ (f:Nat) (out:List ByteArray) (n:ByteArray),(s::out).Nodup→∃ p,(b7p B s f out n).1=out++p∧c2X B n p∧(s::(out++p)).Nodup
 | 0,out,n,h=>⟨[],by simp[b7p],trivial,by simpa using h⟩
 | f+1,out,n,h=>by
  rw[b7p]
  split
  ·exact⟨[],by simp,trivial,by simpa using h⟩
  ·rename_i hc
   simp only[h0p,not_or,g9h,Bool.not_eq_true',Bool.not_eq_false,g9W,not_exists,not_and]at hc
   obtain⟨⟨h1,h2⟩,h3⟩:=hc
   have hn:(s::(out++[n])).Nodup:=by
    have hno:n ∉ s::out:=fun hm=>h3 n hm rfl
    rw[←g8X]
    refine h0q.2 ⟨h,by simp,fun a ha b hb=>?_⟩
    simp only[g9N]at hb
    subst hb
    rintro rfl
    exact hno ha
   obtain⟨p,g1,g2,g3⟩:=c9W f (out++[n]) ((b1B B n).getD ⟨#[]⟩) hn
   exact⟨n::p,by rw[g1];simp,⟨rfl,h1,h2,g2⟩,by simpa using g3⟩
theorem b5I{B:List (ByteArray×ByteArray)}:∀ (p:List ByteArray) {n x:ByteArray} {r:List ByteArray},c2X B n (p++x::r)→c2X B ((b1B B x).getD ⟨#[]⟩) r∧(b1B B x).isSome=true
 | [],n,x,r,h=>⟨h.2.2.2,h.2.2.1⟩
 | y::p,n,x,r,h=>b5I p h.2.2.2
theorem c4k{B:List (ByteArray×ByteArray)}:∀ (p:List ByteArray) {n:ByteArray} {r:List ByteArray},c2X B n (p++r)→c2X B n p
 | [],n,r,h=>trivial
 | y::p,n,r,h=>⟨h.1,h.2.1,h.2.2.1,c4k p h.2.2.2⟩
theorem c6C{B:List (ByteArray×ByteArray)}{s:ByteArray}{p:List ByteArray}(hp:c2X B ((b1B B s).getD ⟨#[]⟩) p)(hl:p.length≤B.length+1)(hn:(s::p).Nodup):∀ x∈p,x∈(b3D B s).1:=by
 obtain⟨h1,h2⟩:=h0o.1 hn
 refine c7g _ _ _ p hp hl h2 fun x hx h=>?_
 simp only[g9N]at h
 subst h
 exact h1 hx
theorem b9F{B:List (ByteArray×ByteArray)}{n:ByteArray}(h:(b1B B n).isSome=true):∃ b,(n,b)∈B:=by
 unfold b1B at h
 rw[Option.isSome_map]at h
 obtain⟨p,hp⟩:=g9E.1 h
 have h1:=List.find?_some hp
 simp only[g9h]at h1
 obtain⟨a,b⟩:=p
 simp only at h1
 subst h1
 exact⟨b,g9V hp⟩
theorem c2p{B:List (ByteArray×ByteArray)}{c y:ByteArray}:y∈d6K B c↔∃ b,(y,b)∈B∧c∈(b3D B y).1:=by
 unfold d6K
 rw[(b2H _).mem_iff]
 simp only[h0k,List.mem_filter,c7l,g9W,g9h]
 constructor
 ·rintro⟨⟨a,b⟩,⟨h1,x,h2,rfl⟩,rfl⟩
  exact⟨b,h1,h2⟩
 ·rintro⟨b,h1,h2⟩
  exact⟨(y,b),⟨h1,c,h2,rfl⟩,rfl⟩
theorem f3u{B:List (ByteArray×ByteArray)}{y c z:ByteArray}(hc:c∈(b3D B y).1)(hz:z∈(b3D B y).1):z=c∨z∈(b3D B c).1∨z∈d6K B c:=by
 obtain⟨p,h1,h2,h3⟩:=c9W (B:=B) (s:=y) (B.length+1) [] ((b1B B y).getD ⟨#[]⟩) (by simp)
 have hl:=b8F B y
 have hP:(b3D B y).1=p:=by unfold b3D;rw[h1];rfl
 rw[hP]at hc hz hl
 rw[g9M]at h3
 obtain⟨_,h4⟩:=h0o.1 h3
 obtain⟨p1,p2,rfl⟩:=List.append_of_mem hc
 obtain⟨n1,n2,n3⟩:=h0q.1 h4
 rcases g9A.1 hz with hz | hz
 ·obtain⟨a,b,rfl⟩:=List.append_of_mem hz
  rw[g9t,g8X]at h2 h4
  obtain⟨g1,g2⟩:=b5I a h2
  obtain⟨bb,hb⟩:=b9F g2
  obtain⟨_,m2,_⟩:=h0q.1 h4
  have e:b++c::p2=(b++[c])++p2:=by simp
  rw[e]at g1 m2
  refine .inr (.inr (c2p.2 ⟨bb,hb,c6C (c4k _ g1) ?_ ?_ c (by simp)⟩))
  ·simp only[g9d,g9k,g9F]at hl ⊢;omega
  ·rw[←g8X]at m2
   exact(h0q.1 m2).1
 ·rcases g9y.1 hz with rfl | hz
  ·exact .inl rfl
  ·obtain⟨g1,_⟩:=b5I p1 h2
   refine .inr (.inl (c6C g1 ?_ n2 z hz))
   simp only[g9d,g9k]at hl ⊢;omega
theorem b7K(bt:Dl→ByteArray):∀ (l:List Dl) (B:List (ByteArray×ByteArray)) (p:ByteArray×ByteArray),p∈l.foldl (c1c bt) B→p∈B∨∃ d∈l,d.kind=2∧d.name=p.1
 | [],B,p,h => .inl h
 | x::r,B,p,h=>by
  rw[g9G]at h
  rcases b7K bt r _ p h with h | ⟨d,h1,h2⟩
  ·unfold c1c at h
   split at h
   ·rename_i hc
    rcases g9A.1 h with h | h
    ·exact .inl h
    ·simp only[g9N]at h
     subst h
     exact .inr ⟨x,by simp,hc.1,rfl⟩
   ·exact .inl h
  ·exact .inr ⟨d,by simp[h1],h2⟩
end Go.Vg
namespace Go.Proofs.YtighfcpaplmaiaaGreatDoor
open Go Go.Vg Go.Proofs
theorem b9Y{u:List Un}(hS:SndU u)(n:ByteArray):b1D u ⟨#[]⟩ n=none:=by
 cases hl:b1D u ⟨#[]⟩ n with
 | none=>rfl
 | some d =>
  exfalso
  obtain⟨h1,h2,h3,_⟩:=b7S hl
  have hg:b1B (b0D (btU u) (b0f u 0)) ⟨#[]⟩=none:=by
   cases hb:b1B (b0D (btU u) (b0f u 0)) ⟨#[]⟩with
   | none=>rfl
   | some b =>
    exfalso
    obtain⟨b',hm⟩:=b9F (n:=⟨#[]⟩) (by rw[hb];rfl)
    rcases b7K _ _ _ _ hm with h | ⟨e,g1,g2,g3⟩
    ·cases h
    ·obtain⟨un,nd,l,q1,q2,q3,q4,q5,q6⟩:=hS.decl g1
     have:=b6B hS q3 q4 (by omega)
     rw[←q5,g3]at this
     exact this rfl
  have hp:(b3D (b0D (btU u) (b0f u 0)) ⟨#[]⟩).1=[]:=by
   unfold b3D
   rw[hg]
   show(b7p _ _ (_+1) _ ⟨#[]⟩).1=[]
   rw[b7p,if_pos (by simp)]
  rw[hp]at h3
  have ho:d.owner=⟨#[]⟩:=by
   rcases h3 with h | h
   ·exact h
   ·cases h
  obtain⟨x,hx,hb,j,hj⟩:=b6y u 0 d h1
  have hs:=hS.snd x hx
  have hck:b3K x.tree=0:=by simp[b1q]at hs;exact hs.2
  unfold b3K at hck
  split at hck
  ·cases hck
  have hf:=c9j x.tree j 0 Ar.none (fun y hy=>b6G _ hck y hy) (fun h=>by cases h) d hj
  exact c6p (hf.2 h2).1 ho
theorem g6K{n:Nd}{i:Nat}(hi:i<(b0z n (-1) 0).length)(hk:0<(b0j (b0z n (-1) 0) i).kids.length):b1d (b0z n (-1) 0) i 0=i+1:=by
 obtain⟨k,t,g,ks,e1,e2,e3,e4⟩:=b1L hi
 have h1:=b3Y hk
 rw[e4]at h1 hk
 cases ks with
 | nil=>simp[b0H]at hk
 | cons x r =>
  have h2:=b3G (x::r) (i+1) 0 (by simp)
  rw[h2]at h1
  simpa[b0l]using h1.symm
theorem f0C{u:List Un}(hu:b2T u)(h0:(b5g u).1=0){un i:Nat}{l:List Rw}(hl:(b0e u)[un]? = some l)(hi:i<l.length)(h17:17≤(b0j l i).kind):c2W u un i=(tyS u ((un:Int),(i:Int)),0):=by
 have hS:=b4X hu h0
 obtain⟨r1,r2⟩:=(hS.gram l (g9f hl)).rng i hi
 obtain⟨x,hx,rfl⟩:=b2R hS.br hl
 have hlt:=(g8Y.1 hx).1
 obtain⟨k,t,g,ks,e1,e2,e3,e4⟩:=b1L hi
 rw[c2W,if_neg (by simpa using h0),if_neg (by omega),if_pos (by omega),g9j,g9j,hx,g9z,g9w,e1]
 simp only
 rw[if_pos]
 show b1C k=3
 rw[e2]at h17 r2
 unfold b1C
 rw[if_neg (by omega),if_neg (by omega),if_pos (by omega)]
theorem c8s{u:List Un}(hu:b2T u)(h0:(b5g u).1=0){un i:Nat}{l:List Rw}(hl:(b0e u)[un]? = some l)(hi:i<l.length)(hk:(b0j l i).kind=21) :
  0<(b0j l i).kids.length∧b1d l i 0<l.length∧c2W u un (b1d l i 0:Nat)=(tyS u ((un:Int),((b1d l i 0:Nat):Int)),0) ∧
  ∃ d,b1D u (tyS u ((un:Int),((b1d l i 0:Nat):Int))) (b0j l i).text=some d∧b2y d∈c0Y u un i ∧
  ∀ t∈c0Y u un i,∃ y∈tyS u ((un:Int),((b1d l i 0:Nat):Int))::(b8z u (tyS u ((un:Int),((b1d l i 0:Nat):Int)))++b8S u (tyS u ((un:Int),((b1d l i 0:Nat):Int)))),t=y++⟨#[46]⟩++(b0j l i).text:=by
 have hS:=b4X hu h0
 have hC:=b9l h0
 have hg:=hS.gram l (g9f hl)
 have hle:=hg.least i hi
 rw[hk]at hle
 have hk1:0<(b0j l i).kids.length:=by simp[b0U]at hle;omega
 have hkd:=hg.kid i hi 0 hk1
 have hf:=hg.fit i hi 0 hk1
 rw[hk]at hf
 have g3:∀ k:Int,b1C k=3→17≤k:=fun k h=>by
  unfold b1C at h
  repeat' split at h
  all_goals omega
 have h17:17≤(b0j l (b1d l i 0)).kind:=by
  simp[b3P]at hf;exact g3 _ hf
 have hne:=f9n hu h0 hl hkd.2.1 h17
 have htof:=f0C hu h0 hl hkd.2.1 h17
 have hw:=hC.wrong hl hi
 unfold wrS at hw
 simp only at hw
 rw[if_neg (by omega),if_neg (by omega),if_neg (by omega),if_neg (by omega),if_neg (by omega),if_pos hk,if_neg hne]at hw
 have hk0:b1d l i 0=i+1:=by
  obtain⟨x,hx,rfl⟩:=b2R hS.br hl
  exact g6K hi hk1
 refine⟨hk1,hkd.2.1,htof,?_⟩
 rw[d2t hu h0 hl hi,c1n,if_neg (by omega),if_pos hk,show((i:Int)+1)=((b1d l i 0:Nat):Int)by omega,htof]
 generalize tyS u ((un:Int),((b1d l i 0:Nat):Int))=c at hw hne
 simp only[if_true]
 have hrc:rcT c=c:=by
  unfold rcT at hw ⊢
  split
  ·rename_i hc
   rw[if_pos hc]at hw
   unfold mtS at hw
   simp only at hw
   rw[b9Y hS]at hw
   cases hw
  ·rfl
 rw[hrc]at hw
 unfold mtS at hw
 simp only at hw
 cases hd:b1D u c (b0j l i).text with
 | none=>rw[hd]at hw;cases hw
 | some d =>
  have hm:∀ t,t∈b2j (c1U (tgL u c (b0j l i).text))↔t∈tgL u c (b0j l i).text:=fun t=>by
   rw[(b2H _).mem_iff,c1U,(b7G _ [] (by simp)).2];simp
  refine⟨d,rfl,(hm _).2 (c5R.2 ⟨c,by simp,d,hd,rfl⟩),fun t ht=>?_⟩
  obtain⟨y,hy,e,he,rfl⟩:=c5R.1 ((hm _).1 ht)
  obtain⟨_,_,q3,q4⟩:=b7S he
  refine⟨e.owner,?_,by rw[b2y,q4]⟩
  have hsu:∀ z,z∈(b3D (b0D (btU u) (b0f u 0)) c).1→z∈b8z u c:=fun z h=>h
  rcases g9y.1 hy with rfl | hy
  ·rcases q3 with q3 | q3
   ·rw[q3];simp
   ·exact List.mem_cons_of_mem _ (g9Z _ q3)
  ·rcases q3 with q3 | q3
   ·rw[q3]
    exact List.mem_cons_of_mem _ (h0f _ hy)
   ·obtain⟨b,_,hcm⟩:=c2p.1 hy
    rcases f3u hcm q3 with h | h | h
    ·rw[h];simp
    ·exact List.mem_cons_of_mem _ (g9Z _ h)
    ·exact List.mem_cons_of_mem _ (h0f _ h)
theorem c9H(tb:List (List Rw))(un nd:Int):b0u env 30 [sl 45 (tb.map b0q),.agg [.int .i64 un,.int .i64 nd]] (.bool (decide (0≤un∧un<tb.length∧0≤nd∧nd<(tb.getD un.toNat []).length))):=by
 refine b0i (fn:=Tryz.f30) Tryz.func30 rfl (by rw[Tryz.ntmps30];simp) (by simp -implicitDefEqProofs only[go_sem];exact b1e _) rfl ?_
 simp -implicitDefEqProofs only[go_sem,Tryz.f30]
 refine b0h (cs:=[]) b0v (by kernel_rfl) ?_
 by_cases h1:0≤un∧un<tb.length
 ·obtain⟨n,rfl⟩:=g9T h1.1
  have hn:n<tb.length:=by omega
  have hg:(tb.map b0q).getD ((n:Int)).toNat []=b0q (tb.getD n []):=by simp[g8Z,hn]
  have hlt:((n:Int)<tb.length)=True:=by simp;omega
  have h0:(0≤(n:Int))=True:=by simp
  simp -implicitDefEqProofs only[go_sem,hg,hlt,h0,b0q]
  rw[g9j]
  exact⟨fun h=>by simp[h],fun h=>by simp[h]⟩
 ·rw[g9v (by rintro⟨a,b,_⟩;exact h1 ⟨a,b⟩)]
  simp -implicitDefEqProofs only[go_sem]
  exact fun a b=>absurd ⟨a,b⟩ h1
end Go.Proofs.YtighfcpaplmaiaaGreatDoor
namespace Go.Vg
open Go.RowKit
theorem c5z{E:Env}{W:World}(hg:∀ g cs,E.gl g=some cs→b1a cs=true∧RV E.P (b1O W) [] (.fptr cs) (.pointer (some ⟨g,0,none⟩)))(hi:E.ini W):RelW E (b1O W) [] [] ⟨W,f0L W,[]⟩ W where
 newF:=fun b o v h _=>h
 glob:=hg
 below:=Below.refl _ _
 frz:=fun b o v h=>(b9J h).1
 one:=fun b o v h=>(b9J h).2
 obj:=fun id ob h=>by simp at h
 lenφ:=rfl
 vs:=Vecs.nil
 nod:=fun i j b h=>by simp[b1O]at h
 sep:=fun id b o h=>by simp[b1O]at h
 geφ:=fun id b h=>by simp[b1O]at h
 lenρ:=rfl
 reg:=fun k b lo hi h=>by simp[b1O]at h
 regd:=fun k k' b lo hi lo' hi' _ h=>by simp[b1O]at h
 fre:=fun k b lo hi h=>by simp[b1O]at h
 bld:=fun id t s b h=>by simp at h
 ini:=hi
theorem c5E{E:Env}{f:FuncId}{args:List V}{vals:Array Value}{W:World}(h:b0u E f args (.bool true))(hg:∀ g cs,E.gl g=some cs→b1a cs=true∧RV E.P (b1O W) [] (.fptr cs) (.pointer (some ⟨g,0,none⟩)))(hi:E.ini W)(ha:b8d E.P (b1O W) [] args vals) :
  Calls E.P f vals W fun e W'=>e = .returned (.bool true)∧Below W.heap.size W W':=by
 have h3:=h.2.2 (b1O W) ⟨W,f0L W,[]⟩ W vals (c5z (E:=E.alive) hg hi) ha
 refine h3.mono fun e W' hgo=>?_
 obtain⟨val,rfl,v,heap',arr',G',rfl,hx,hr,hv⟩:=hgo.alive
 cases hv
 exact⟨rfl,hr.below⟩
theorem b8G{W:World}(b o:Nat)(v:Value)(hc:W.cell? ⟨b,o,none⟩=some v)(h1:v.oneCell'=true):(b1O W).F b o=some v:=by
 simp only[b1O,f0L,hc,h1,if_true]
theorem c2N{P:Program}{W:World}{name:String}{d:DataW Unit}{g:Nat}{t:TypeId}(ty:Tz)(hcl:ty.closed=true)(hlv:∀ (G:Gh) F,ty.lv (fun _=>()) P W G false F)(hok:ty.ok P (.inl t)=true)
  (hg:P.globalNamed name=some g) (hty:(P.globals[g]?).map (·.type)=some t) (hw:(d.weights P t).all (· ≤ reachBytes)=true)
  (h:Lib.VarReads P W name d):RV P (b1O W) [] (.fptr (ty.val d)) (.pointer (some ⟨g,0,none⟩)):=by
 obtain⟨g',t',cs,fuel,p,hg',ht',hvar,hd⟩:=h
 obtain rfl:=Option.some.inj (hg.symm.trans hg')
 obtain rfl:=Option.some.inj (hty.symm.trans ht')
 obtain⟨xs,h1,h2,h3,h4⟩:=(Tz.read (G:=b1O W) b8G ty (fuel+1) (hlv _ _)).1 t fuel cs.toList d p (by omega) hok hd hw
 have hx:=ty.val_of d xs hcl h1
 subst hx
 have hcell:∀ j:Nat,W.cell? ⟨g,j,none⟩=cs.toList[j]?:=by
  intro j
  unfold World.var? at hvar
  rw[hg,Option.bind_some]at hvar
  split at hvar
  ·rename_i cs' _ _ hh
   cases hvar
   simp only[World.cell?,hh]
   simp
  ·cases hvar
 refine .fptr _ g 0 (fun j hj=>?_) (fun j c v hc hv=>?_)
 ·have hj':j<cs.toList.length:=by omega
  have hv:=hcell j
  rw[g9b hj']at hv
  exact⟨_,b8G _ _ _ (by rw[g9s];exact hv) (h4 j _ _ (g9b hj) (g9b hj')).2⟩
 ·have:=(b9J hv).1
  rw[g9s,hcell]at this
  exact(h4 j c v hc this).1
theorem d3c{H:Type}{enc:TypeId×Value→H}{P:Program}{W:World}{T e:TypeId}{v:Value}{d:DataW H}{p:List MemPlace}{b:Nat}(ty:Tz)(hlv:∀ F,ty.lv enc P W (b1O W) true F)(ht:P.underlying T=some (.slice e))(hok:(Tz.sl e ty).ok P (.inl T)=true)
  (hval:Value.okWide P W .any b T v) (h:DataW.Trod enc P W 0 (fun _=>true) true T v d p) (hw:(d.weights P T).all (· ≤ reachBytes)=true) :
  ∃ es:List (List V),(∀ el∈es,∃ di:DataW H,ty.sem di el)∧RV P (b1O W) [] (sl e es) v:=by
 obtain⟨a0,len,cap,rfl⟩:=Go.WideShapes.okWide_slice ht hval
 obtain⟨fuel,h⟩:=h
 obtain⟨xs,⟨es,rfl,he1,he2⟩,h3,h4,h5⟩:=(Tz.read (G:=b1O W) b8G (.sl e ty) (fuel+1) (hlv _)).1 T fuel _ d p (by omega) hok h hw
 refine⟨es,fun el hel=>?_,(h5 0 _ _ rfl rfl).1⟩
 obtain⟨i,hi,rfl⟩:=h0c hel
 exact⟨_,he2 i _ (g9b hi)⟩
end Go.Vg
namespace Go.Proofs.YtighfcpaplmaiaaGreatDoor
open Go Go.Vg Go.Proofs Go.RowKit
def f7x(xs:List V):Prop:=∃ n:Nd,xs=n.enc
def f7c:Tz := .cons 3 (.int .i64) (.cons 9 .str (.cons 28 (.sl 9 .str) (.cons 64 (.sl 66 (.leaf 66 4 f7x)) .unit)))
def g3T:Tz := .cons 9 .str (.cons 9 .str (.cons 66 (.leaf 66 4 f7x) (.cons 4 .bool .unit)))
def g5w:Tz := .cons 3 (.int .i64) (.cons 3 (.int .i64) .unit)
def g0b:Tz := .cons 254 (.sl 256 g5w) (.cons 256 g5w (.cons 3 (.int .i64) (.cons 28 (.sl 9 .str) (.cons 3 (.int .i64) .unit))))
def d2b:Tz := .arr 258 27 g0b
theorem f0a:f7c.ok Tryz.prog (.inl 66)=true:=by kernel_rfl
theorem d4A:(Tz.sl 70 g3T).ok Tryz.prog (.inl 22)=true:=by kernel_rfl
theorem d0v:d2b.ok Tryz.prog (.inl 259)=true:=by kernel_rfl
theorem c4Y{α β:Type}{f:α→β}{es:List β}(h:∀ el∈es,∃ a,el=f a):∃ l:List α,es=l.map f:=by
 induction es with
 | nil=>exact⟨[],rfl⟩
 | cons x r ih =>
  obtain⟨a,rfl⟩:=h x (by simp)
  obtain⟨l,rfl⟩:=ih fun el hel=>h el (by simp[hel])
  exact⟨a::l,rfl⟩
section
variable {H : Type} {d : DataW H} {xs : List V}
theorem d8O{e:TypeId}(h:(Tz.sl e .str).sem d xs):∃ g:List ByteArray,xs=[sl e (g.map b0p)]:=by
 obtain⟨es,rfl,h1,h2⟩:=h
 obtain⟨l,rfl⟩:=c4Y (f:=b0p) (es:=es) fun el hel=>by
  obtain⟨i,hi,rfl⟩:=h0c hel
  obtain⟨s,hs,_⟩:=h2 i _ (g9b hi)
  exact⟨s,hs⟩
 exact⟨l,rfl⟩
theorem f9d(h:f7c.sem d xs):f7x xs:=by
 obtain⟨_,_,rfl,⟨k,rfl,_⟩,_,_,rfl,⟨t,rfl,_⟩,_,_,rfl,hg,_,_,rfl,⟨es,rfl,h1,h2⟩,rfl⟩:=h
 obtain⟨g,rfl⟩:=d8O hg
 obtain⟨l,rfl⟩:=c4Y (f:=Nd.enc) (es:=es) fun el hel=>by
  obtain⟨i,hi,rfl⟩:=h0c hel
  exact h2 i _ (g9b hi)
 exact⟨.mk k t g l,by rw[b8i];rfl⟩
theorem f9C(h:g3T.sem d xs):∃ u:Un,xs=u.enc:=by
 obtain⟨_,_,rfl,⟨p,rfl,_⟩,_,_,rfl,⟨t,rfl,_⟩,_,_,rfl,⟨n,rfl⟩,_,_,rfl,⟨b,rfl,_⟩,rfl⟩:=h
 exact⟨⟨p,t,n,b⟩,by simp[Un.enc]⟩
end
theorem d7E{H:Type}{enc:TypeId×Value→H}{w:World}{G:Gh}{held:Bool}(hG:∀ b o v,w.cell? ⟨b,o,none⟩=some v→v.oneCell'=true→G.F b o=some v):∀ F,f3Q enc Tryz.prog w G held F 66 4 f7x
 | 0=>fun fuel hF=>absurd hF (Nat.not_lt_zero _)
 | F+1=>fun fuel hF cs d ps ht hw=>by
  have ih:=d7E (enc:=enc) (held:=held) hG F
  have hlv:f7c.lv enc Tryz.prog w G held (F+1):=⟨trivial,trivial,trivial,fun f hf=>ih f (by omega),trivial⟩
  obtain⟨xs,h1,h2,h3,h4⟩:=(Tz.read hG f7c (F+1) hlv).1 66 fuel cs d ps hF f0a ht hw
  exact⟨xs,f9d h1,h2,h3,h4⟩
theorem d2K{H:Type}{enc:TypeId×Value→H}{W:World}{v:Value}{d:DataW H}{p:List MemPlace}{b:Nat}(ht:Tryz.prog.underlying 22=some (.slice 70))
  (hval:Value.okWide Tryz.prog W .any b 22 v) (h:DataW.Trod enc Tryz.prog W 0 (fun _=>true) true 22 v d p) (hw:(d.weights Tryz.prog 22).all (· ≤ reachBytes)=true) :
  ∃ u:List Un,RV Tryz.prog (b1O W) [] (sl 70 (u.map Un.enc)) v:=by
 obtain⟨es,h1,h2⟩:=d3c g3T (fun F=>⟨trivial,trivial,d7E b8G _,trivial,trivial⟩) ht d4A hval h hw
 obtain⟨l,rfl⟩:=c4Y (f:=Un.enc) fun el hel=>by
  obtain⟨di,hdi⟩:=h1 el hel
  exact f9C hdi
 exact⟨l,h2⟩
theorem c9p:d2b.val Rows.laid_treemerge_grammar_shapes (H:=Unit)=b9o:=by kernel_rfl
theorem c4N{W:World}(h:Lib.VarReads Tryz.prog W "treemerge/grammar.shapes" Rows.laid_treemerge_grammar_shapes):∀ g cs,env.gl g=some cs→b1a cs=true∧RV env.P (b1O W) [] (.fptr cs) (.pointer (some ⟨g,0,none⟩)):=by
 intro g cs hg
 by_cases e:g=0
 ·subst e
  rw[c9h]at hg
  cases hg
  refine⟨by kernel_rfl,?_⟩
  have:=c2N (g:=0) (t:=259) d2b rfl (fun G F=>⟨⟨trivial,trivial,trivial⟩,⟨trivial,trivial,trivial⟩,trivial,trivial,trivial,trivial⟩) d0v (by kernel_rfl) (by kernel_rfl) (by kernel_rfl) h
  rw[c9p]at this
  exact this
 ·simp[env,envD,e]at hg
open Go Go.Vg Go.Proofs Go.RowKit
def d8Q:Ty := .cons 3 (.int .i64) (.cons 3 (.int .i64) .unit)
theorem d3N:d8Q.ok Tryz.prog (.inl 24)=true:=by kernel_rfl
theorem f3S{xs:List V}(h:d8Q.sem xs):∃ un nd:Int,nd≤9223372036854775807∧xs=[.int .i64 un,.int .i64 nd]:=by
 obtain⟨_,_,rfl,⟨a,rfl,_⟩,_,_,rfl,⟨b,rfl,_,hb⟩,rfl⟩:=h
 exact⟨a,b,hb,rfl⟩
end Go.Proofs.YtighfcpaplmaiaaGreatDoor
namespace Go.Vg
theorem b3H{α:Type}{p q:α→Bool}:∀ {l:List α},(∀ x∈l,p x=q x)→l.find? p=l.find? q
 | [],_=>rfl
 | x::r,h=>by
  rw[g9S,g9S,h x (by simp),b3H fun y hy=>h y (by simp[hy])]
def d5h(s n:ByteArray)(d:Dl):Bool:=decide (s=d.owner) && decide (n=d.name)
theorem c1h(s n:ByteArray):∀ (l M:List Dl),(l.foldl d0b M).find? (d5h s n)=(M.find? (d5h s n)).or (l.find? fun d=>decide (d.kind=4) && d5h s n d)
 | [],M=>by simp
 | d::r,M=>by
  rw[g9G,c1h s n r,g9S]
  unfold d0b
  by_cases h4:d.kind=4
  ·by_cases h:M.any (b9N d)=false
   ·rw[if_pos ⟨h4,h⟩,List.find?_append,g9S,List.find?_nil,Option.or_assoc,g9D h4,g9O]
    cases d5h s n d <;> simp
   ·rw[if_neg (fun hc=>h hc.2),g9D h4,g9O]
    cases hk:d5h s n d with
    | false=>rfl
    | true =>
     have h':M.any (b9N d)=true:=by simpa using h
     have e:s=d.owner∧n=d.name:=by simpa[d5h]using hk
     obtain⟨rfl,rfl⟩:=e
     have:(M.find? (d5h d.owner d.name)).isSome=true:=by
      rw[List.find?_isSome]
      obtain⟨x,hx,hp⟩:=g9W.1 h'
      exact⟨x,hx,hp⟩
     obtain⟨y,hy⟩:=g9E.1 this
     rw[hy];rfl
  ·rw[if_neg (fun hc=>h4 hc.1),g9v h4,g9Q]
end Go.Vg
namespace Go.Proofs.YtighfcpaplmaiaaGreatDoor
open Go Go.Vg Go.Proofs
end Go.Proofs.YtighfcpaplmaiaaGreatDoor
namespace Go.Vg
def nxB(B:List (ByteArray×ByteArray))(n:ByteArray):ByteArray:=(b1B B n).getD ⟨#[]⟩
def b2D(B:List (ByteArray×ByteArray))(n:ByteArray):Bool:=decide (n=⟨#[]⟩) || !(b1B B n).isSome
def c9J(B:List (ByteArray×ByteArray))(cls sup:ByteArray):Nat→ByteArray→Bool
 | 0,_=>false
 | f+1,n=>if b2D B n=true then false else if n=cls then false else if n=sup then true else c9J B cls sup f (nxB B n)
def c1Y(B:List (ByteArray×ByteArray))(cls:ByteArray):Nat→ByteArray→Bool
 | 0,_=>false
 | f+1,n=>if b2D B n=true then false else if n=cls then true else c1Y B cls f (nxB B n)
def b4B(B:List (ByteArray×ByteArray)):ByteArray→List ByteArray→ByteArray
 | n,[]=>n
 | _,x::r=>b4B B (nxB B x) r
theorem c7p{B:List (ByteArray×ByteArray)}{s:ByteArray}:∀ (f:Nat) (out:List ByteArray) (n:ByteArray),(s::out).Nodup→(∀ x∈out,(b1B B x).isSome=true)→B.length+1≤out.length+f →
  ∃ p,(b7p B s f out n).1=out++p∧c2X B n p∧(s::(out++p)).Nodup∧(b7p B s f out n).2=b4B B n p∧(b2D B (b4B B n p)=true∨b4B B n p∈s::(out++p))
 | 0,out,n,h,hb,hl=>by
  exfalso
  have:=c0S out (B.map (·.1)) (h0o.1 h).2 fun x hx=>b6X (hb x hx)
  rw[g9r]at this
  omega
 | f+1,out,n,h,hb,hl=>by
  rw[b7p]
  split
  ·rename_i hc
   refine⟨[],by simp,trivial,by simpa using h,rfl,?_⟩
   rw[h0p]at hc
   rcases hc with hc | hc
   ·exact .inl hc
   ·right
    rw[g9W]at hc
    obtain⟨x,hx,he⟩:=hc
    have:x=n:=by simpa using he
    subst this
    rw[g9B]
    exact hx
  ·rename_i hc
   simp only[h0p,not_or,g9h,Bool.not_eq_true',Bool.not_eq_false,g9W,not_exists,not_and]at hc
   obtain⟨⟨h1,h2⟩,h3⟩:=hc
   have hn:(s::(out++[n])).Nodup:=by
    have hno:n ∉ s::out:=fun hm=>h3 n hm rfl
    rw[←g8X]
    refine h0q.2 ⟨h,by simp,fun a ha b hb=>?_⟩
    simp only[g9N]at hb
    subst hb
    rintro rfl
    exact hno ha
   obtain⟨p,g1,g2,g3,g4,g5⟩:=c7p f (out++[n]) ((b1B B n).getD ⟨#[]⟩) hn (fun x hx=>by
    rcases g9A.1 hx with hx | hx
    ·exact hb x hx
    ·simp only[g9N]at hx
     subst hx
     exact h2) (by simp;omega)
   exact⟨n::p,by rw[g1];simp,⟨rfl,h1,h2,g2⟩,by simpa using g3,g4,by simpa[b4B,nxB]using g5⟩
theorem b9y{B:List (ByteArray×ByteArray)}:∀ (p:List ByteArray) {n:ByteArray},c2X B n p→∀ x∈p,nxB B x∈p∨nxB B x=b4B B n p
 | [],_,_,x,h=>by cases h
 | y::r,n,h,x,hx=>by
  obtain⟨_,_,_,h4⟩:=h
  rcases g9y.1 hx with rfl | hx
  ·cases r with
   | nil=>exact .inr rfl
   | cons z r' =>
    obtain⟨e,_⟩:=h4
    left
    show(b1B B x).getD ⟨#[]⟩∈_
    rw[←e];simp
  ·rcases b9y r h4 x hx with h | h
   ·exact .inl (by simp[h])
   ·exact .inr h
theorem c1w{B:List (ByteArray×ByteArray)}{n:ByteArray}{p:List ByteArray}(h:c2X B n p):n∈p∨n=b4B B n p:=by
 cases p with
 | nil=>exact .inr rfl
 | cons x r=>exact .inl (by rw[h.1];simp)
theorem c2o{B:List (ByteArray×ByteArray)}:∀ (p:List ByteArray) {n:ByteArray},c2X B n p→∀ x∈p,b2D B x=false
 | [],_,_,x,h=>by cases h
 | y::r,n,h,x,hx=>by
  rcases g9y.1 hx with rfl | hx
  ·simp[b2D,h.2.1,h.2.2.1]
  ·exact c2o r h.2.2.2 x hx
theorem d6V{B:List (ByteArray×ByteArray)}{s sup m:ByteArray}{p:List ByteArray}(hnx:∀ x∈p,nxB B x∈p∨nxB B x=m)(hm:b2D B m=true∨m∈s::p)(hs:sup ∉ p):∀ (f:Nat) (y:ByteArray),y∈p∨y=m→c9J B s sup f y=false
 | 0,_,_=>rfl
 | f+1,y,hy=>by
  rw[c9J]
  by_cases h0:b2D B y=true
  ·rw[if_pos h0]
  rw[if_neg h0]
  by_cases h1:y=s
  ·rw[if_pos h1]
  rw[if_neg h1]
  have hyp:y∈p:=by
   rcases hy with hy | rfl
   ·exact hy
   ·rcases hm with hm | hm
    ·exact absurd hm h0
    ·exact(g9y.1 hm).resolve_left h1
  rw[if_neg (by rintro rfl;exact hs hyp)]
  exact d6V hnx hm hs f _ (hnx y hyp)
theorem d2s{B:List (ByteArray×ByteArray)}{s sup:ByteArray}:∀ (p:List ByteArray) (f:Nat) (n:ByteArray),c2X B n p→s ∉ p→sup∈p→p.length≤f→c9J B s sup f n=true
 | [],_,_,_,_,h,_=>by cases h
 | x::r,0,_,_,_,_,h=>by simp at h
 | x::r,f+1,n,h,hs,hm,hl=>by
  obtain⟨rfl,h1,h2,h3⟩:=h
  rw[c9J,if_neg (by simp[b2D,h1,h2]),if_neg (by rintro rfl;exact hs (by simp))]
  by_cases he:x=sup
  ·rw[if_pos he]
  ·rw[if_neg he]
   exact d2s r f _ h3 (fun h=>hs (by simp[h])) ((g9y.1 hm).resolve_left fun e=>he e.symm) (by simpa using hl)
theorem d7d{B:List (ByteArray×ByteArray)}{s m:ByteArray}{p:List ByteArray}(hnx:∀ x∈p,nxB B x∈p∨nxB B x=m)(hm:b2D B m=true∨m∈p)(hs:s ∉ p):∀ (f:Nat) (y:ByteArray),y∈p∨y=m→c1Y B s f y=false
 | 0,_,_=>rfl
 | f+1,y,hy=>by
  rw[c1Y]
  by_cases h0:b2D B y=true
  ·rw[if_pos h0]
  rw[if_neg h0]
  have hyp:y∈p:=by
   rcases hy with hy | rfl
   ·exact hy
   ·exact hm.resolve_left h0
  rw[if_neg (by rintro rfl;exact hs hyp)]
  exact d7d hnx hm hs f _ (hnx y hyp)
theorem c1R{B:List (ByteArray×ByteArray)}{s:ByteArray}(hs:b2D B s=false):∀ (p:List ByteArray) (f:Nat) (n:ByteArray),c2X B n p→s ∉ p→b4B B n p=s→p.length<f→c1Y B s f n=true
 | _,0,_,_,_,_,h=>by omega
 | [],f+1,n,_,_,h,_=>by
  have e:n=s:=h
  subst e
  rw[c1Y,if_neg (by rw[hs];simp),if_pos rfl]
 | x::r,f+1,n,h,hn,he,hl=>by
  obtain⟨rfl,h1,h2,h3⟩:=h
  rw[c1Y,if_neg (by simp[b2D,h1,h2]),if_neg (by rintro rfl;exact hn (by simp))]
  exact c1R hs r f _ h3 (fun h=>hn (by simp[h])) he (by simpa using hl)
theorem c2P(B:List (ByteArray×ByteArray))(s:ByteArray):∃ p,(b3D B s).1=p∧c2X B (nxB B s) p∧(s::p).Nodup∧p.length≤B.length∧(b3D B s).2=b4B B (nxB B s) p∧(b2D B (b4B B (nxB B s) p)=true∨b4B B (nxB B s) p∈s::p):=by
 obtain⟨p,h1,h2,h3,h4,h5⟩:=c7p (B:=B) (s:=s) (B.length+1) [] (nxB B s) (by simp) (by simp) (by simp)
 refine⟨p,by unfold b3D;exact h1,h2,by simpa using h3,?_,h4,by simpa using h5⟩
 have hall:∀ x∈p,x∈B.map (·.1):=fun x hx=>by
  have:=c2o p h2 x hx
  simp only[b2D,h0w,Bool.not_eq_false']at this
  exact b6X this.2
 have:=c0S p (B.map (·.1)) (by simpa using(h0o.1 h3).2) hall
 rwa [g9r]at this
theorem f3m(B:List (ByteArray×ByteArray))(s sup:ByteArray){f:Nat}(hf:B.length≤f):c9J B s sup f (nxB B s)=(b3D B s).1.any fun x=>decide (x=sup):=by
 obtain⟨p,h1,h2,h3,h4,h5,h6⟩:=c2P B s
 rw[h1]
 by_cases hm:sup∈p
 ·rw[d2s p f _ h2 (h0o.1 h3).1 hm (by omega)]
  symm
  rw[g9W]
  exact⟨sup,hm,by simp⟩
 ·rw[d6V (b9y p h2) h6 hm f _ (c1w h2)]
  symm
  rw[List.any_eq_false]
  intro x hx
  simp only[g9h]
  rintro rfl
  exact hm hx
theorem d6W(B:List (ByteArray×ByteArray)){s:ByteArray}(hs:b2D B s=false){f:Nat}(hf:B.length<f):c1Y B s f (nxB B s)=decide ((b3D B s).2=s):=by
 obtain⟨p,h1,h2,h3,h4,h5,h6⟩:=c2P B s
 rw[h5]
 have hnp:=(h0o.1 h3).1
 by_cases he:b4B B (nxB B s) p=s
 ·rw[c1R hs p f _ h2 hnp he (by omega),g9D he]
 ·rw[g9v he]
  refine d7d (b9y p h2) ?_ hnp f _ (c1w h2)
  rcases h6 with h | h
  ·exact .inl h
  ·exact .inr ((g9y.1 h).resolve_left he)
end Go.Vg
namespace Go.Proofs.YtighfcpaplmaiaaGreatDoor
open Go Go.Vg Go.Proofs
theorem b8y{u:List Un}{dl:List Dl}:(∀ (j:Nat) d,dl[j]? = some d→((dl.map (upD u dl)).map c3a).getD (j:Int).toNat []=[.int .i64 (c3o dl (b2x u d).2)])∧(∀ (j:Nat) d,dl[j]? = some d→(dl.map Dl.enc).getD (j:Int).toNat []=d.enc) :=
 ⟨fun j d h=>by simp[g8Z,h,c3a,upD,c3o],fun j d h=>by simp[g8Z,h]⟩
theorem d5z(u:List Un)(hu:b2T u)(cls sup:ByteArray):b0u env 115 [.agg (b1x u (b0f u 0)),.str cls,.str sup] (.bool ((b3D (b0D (btU u) (b0f u 0)) cls).1.any fun x=>decide (x=sup))):=by
 have hdl:=b0L u 0 fun y hy=>(hu.2 y hy).1
 have hul:=hu.1
 have hbl:=b1i (btU u) (b0f u 0)
 have hgb:=fun n=>b1R (btU u) n (b0f u 0)
 have hrd:∀ d∈b0f u 0,d.kind=2→(b2x u d).2=btU u d:=fun d h1 h2=>b8t h1 h2
 have hbw:=f3m (b0D (btU u) (b0f u 0)) cls sup (f:=(b0f u 0).length+1) (by omega)
 rw[←hbw]
 refine b0i (fn:=Tryz.f115) Tryz.func115 rfl (by rw[Tryz.ntmps115];simp) (by simp -implicitDefEqProofs only[go_sem];exact b2e _ _) rfl ?_
 obtain⟨hup,hdg⟩:=@b8y u (b0f u 0)
 generalize b0D (btU u) (b0f u 0)=B at hbl hgb ⊢
 generalize hdd:b0f u 0=dl at hdl hbl hgb hrd hup hdg ⊢
 simp -implicitDefEqProofs only[go_sem,Tryz.f115,b1x]
 refine(b6V dl cls).calls (by simp -implicitDefEqProofs only[go_sem]) ?_
 simp -implicitDefEqProofs only[go_sem]
 generalize hgo:c9J B cls sup (dl.length+1) (nxB B cls)=goal
 refine b1A (α:=Nat×Int) (fun s=>⟨[(8,.int .i64 s.1),(7,.int .i64 s.2),(6,.bool false),(3,.ptr 0 0),(1,.str cls),(2,.str sup)],[.cells (b1x u dl)],[]⟩)
  (fun s=>s.1≤dl.length+1∧((s.2 = -1∧goal=false)∨∃ (j:Nat) (d:Dl),s.2=j∧dl[j]? = some d∧d.kind=2∧goal=c9J B cls sup (dl.length+1 - s.1) (btU u d))) (fun s=>dl.length+2 - s.1) (0,Vg.firstD dl cls 0) ?_ ⟨by simp,?_⟩ ?_
 ·simp -implicitDefEqProofs only[go_sem,b1x]
  try rfl
 ·rcases b2c cls dl 0 with⟨j,d,q1,q2,q3,q4,q5⟩ | ⟨q1,q2⟩
  ·refine .inr ⟨j,d,by simpa using q1,q2,q3,?_⟩
   have hgc:nxB B cls=btU u d:=by rw[nxB,hgb,q5];rfl
   rw[←hgo,hgc];rfl
  ·refine .inl ⟨q1,?_⟩
   have hgc:nxB B cls=⟨#[]⟩:=by rw[nxB,hgb,q2];rfl
   rw[←hgo,hgc,c9J,if_pos (by simp[b2D])]
 ·rintro⟨n,at'⟩ ⟨hn,hc⟩
  simp only at hn hc ⊢
  rcases hc with⟨rfl,hgf⟩ | ⟨j,d,rfl,hd,hk,hgl⟩
  ·rw[hgf]
   simp -implicitDefEqProofs only[go_sem,b1x]
  ·have hjl:j<dl.length:=(g8Y.1 hd).1
   have hlt:((j:Int)<dl.length)=True:=by simp;omega
   have hj0:(0≤(j:Int))=True:=by simp
   have hbd:(b2x u d).2=btU u d:=hrd d (g9f hd) hk
   have hu1:=hup j d hd
   rw[hbd]at hu1
   generalize btU u d=nb at hgl hu1
   rcases h0v dl.length n with hnl | hnl
   ·have e:dl.length+1 - n=0:=by omega
    rw[e]at hgl
    have hcn:((n:Int)≤dl.length)=False:=by simp;omega
    rw[hgl,c9J]
    simp -implicitDefEqProofs only[go_sem,b1x,hcn,hj0]
   ·obtain⟨f,hf⟩:∃ f,dl.length+1 - n=f+1:=⟨dl.length - n,by omega⟩
    have hcn:((n:Int)≤dl.length)=True:=by simp;omega
    have hw:IntKind.i64.wrap (↑n+1)=↑(n+1):=b0g (by omega)
    rw[hf,c9J]at hgl
    simp -implicitDefEqProofs only[go_sem,b1x,hcn,hj0,hlt,hu1]
    intro _ _
    by_cases hnb:nb=⟨#[]⟩
    ·have hi:c3o dl nb = -1:=by rw[c3o,if_pos hnb]
     rw[if_pos (by simp[b2D,hnb])]at hgl
     rw[hi,hgl]
     exact⟨fun h=>absurd (by omega) h,fun _=>rfl⟩
    have hi:c3o dl nb=Vg.firstD dl nb 0:=by rw[c3o,if_neg hnb]
    rcases b2c nb dl 0 with⟨j2,d2,r1,r2,r3,r4,r5⟩ | ⟨r1,r2⟩
    ·rw[g9s]at r1
     have hgn:b1B B nb=some (btU u d2):=by rw[hgb,r5];rfl
     have hst:¬ b2D B nb=true:=by simp[b2D,hnb,hgn]
     rw[if_neg hst]at hgl
     have hjl2:j2<dl.length:=(g8Y.1 r2).1
     have hlt2:((j2:Int)<dl.length)=True:=by simp;omega
     have hn2:(0≤(j2:Int))=True:=by simp
     rw[hi,r1]
     simp -implicitDefEqProofs only[go_sem,hn2,hlt2,hdg j2 d2 r2,Dl.enc,r4]
     refine⟨fun _=>⟨fun hc=>?_,fun hc=>⟨fun hs=>?_,fun hs=>?_⟩⟩,fun h=>by omega⟩
     ·rw[if_pos hc]at hgl;rw[hgl]
     ·rw[if_neg hc,if_pos hs]at hgl;rw[hgl]
     ·rw[if_neg hc,if_neg hs,nxB,hgn,g9w]at hgl
      refine⟨(n+1,(j2:Int)),by simp only;omega,⟨by simp only;omega,.inr ⟨j2,d2,rfl,r2,r3,?_⟩⟩,hw,rfl⟩
      simp only
      rw[hgl,show dl.length+1 - (n+1)=f by omega]
    ·rw[if_pos (by simp[b2D,hgb,r2])]at hgl
     rw[hi,r1,hgl]
     exact⟨fun h=>absurd (by omega) h,fun _=>rfl⟩
def b7J(B:List (ByteArray×ByteArray))(cls:ByteArray)(o:List ByteArray)(d:Dl):List ByteArray:=if d.kind=2∧((b3D B d.name).1.any fun x=>decide (x=cls))=true then c7a o d.name else o
theorem c6H(B:List (ByteArray×ByteArray))(cls:ByteArray):∀ (l:List Dl) (o:List ByteArray),(l.foldl (b7J B cls) o).length≤o.length+l.length
 | [],o=>by simp
 | d::r,o=>by
  have h1:=c6H B cls r (b7J B cls o d)
  have h2:(b7J B cls o d).length≤o.length+1:=by
   unfold b7J;split
   ·exact c1Q _ _
   ·simp
  rw[g9G,g9k];omega
theorem c1b(B:List (ByteArray×ByteArray))(cls:ByteArray):∀ (l:List Dl) (o:List ByteArray),Asc o→Asc (l.foldl (b7J B cls) o)∧∀ x,x∈l.foldl (b7J B cls) o↔x∈o∨∃ d∈l,d.kind=2∧d.name=x∧cls∈(b3D B x).1
 | [],o,h=>⟨h,by simp⟩
 | d::r,o,h=>by
  have hw:Asc (b7J B cls o d)∧∀ x,x∈b7J B cls o d↔x∈o∨(d.kind=2∧d.name=x∧cls∈(b3D B x).1):=by
   unfold b7J
   split
   ·rename_i hc
    refine⟨c6X _ _,fun x=>?_⟩
    rw[c2l]
    obtain⟨h2,h3⟩:=hc
    rw[g9W]at h3
    obtain⟨z,hz,he⟩:=h3
    have:z=cls:=by simpa using he
    subst this
    constructor
    ·rintro(h | rfl)
     ·exact .inl h
     ·exact .inr ⟨h2,rfl,hz⟩
    ·rintro(h | ⟨_,rfl,_⟩)
     ·exact .inl h
     ·exact .inr rfl
   ·rename_i hc
    refine⟨h,fun x=>⟨.inl,?_⟩⟩
    rintro(h | ⟨h2,rfl,h3⟩)
    ·exact h
    ·exact absurd ⟨h2,g9W.2 ⟨cls,h3,by simp⟩⟩ hc
  obtain⟨h1,h2⟩:=c1b B cls r _ hw.1
  refine⟨h1,fun x=>?_⟩
  rw[g9G,h2 x,hw.2 x]
  simp only[g9y,exists_eq_or_imp,or_assoc]
theorem b9E(bt:Dl→ByteArray):∀ (l:List Dl) (B:List (ByteArray×ByteArray)),(B.map (·.1)).Nodup→((l.foldl (c1c bt) B).map (·.1)).Nodup
 | [],B,h=>h
 | d::r,B,h=>by
  rw[g9G]
  refine b9E bt r _ ?_
  unfold c1c
  split
  ·rename_i hc
   rw[g9I,h0q]
   refine⟨h,by simp,fun a ha b hb=>?_⟩
   simp only[g9o,g9P,g9N]at hb
   subst hb
   rintro rfl
   obtain⟨p,hp,he⟩:=h0k.1 ha
   have:(b1B B d.name).isSome=true:=by
    unfold b1B
    rw[Option.isSome_map,List.find?_isSome]
    exact⟨p,hp,by simpa using he⟩
   rw[this]at hc
   cases hc.2
  ·exact h
theorem f3c(u:List Un)(cls:ByteArray):b8S u cls=(b0f u 0).foldl (b7J (b0D (btU u) (b0f u 0)) cls) []:=by
 obtain⟨h1,h2⟩:=c1b (b0D (btU u) (b0f u 0)) cls (b0f u 0) [] List.Pairwise.nil
 have hnd:=b9E (btU u) (b0f u 0) [] (by simp)
 refine c3n ?_ h1 fun x=>?_
 ·refine b7M ?_
  exact(List.filter_sublist.map _).nodup hnd
 ·rw[h2 x]
  show x∈d6K _ _↔_
  rw[c2p]
  constructor
  ·rintro⟨b,hb,hc⟩
   rcases b7K _ _ _ _ hb with h | ⟨d,g1,g2,g3⟩
   ·cases h
   ·exact .inr ⟨d,g1,g2,g3,hc⟩
  ·rintro(h | ⟨d,g1,g2,rfl,hc⟩)
   ·cases h
   ·have hg:(b1B (b0D (btU u) (b0f u 0)) d.name).isSome=true:=by
     rw[b1R,Option.isSome_map,List.find?_isSome]
     exact⟨d,g1,by simp[b4u,g2]⟩
    obtain⟨b,hb⟩:=b9F hg
    exact⟨b,hb,hc⟩
theorem d0u(u:List Un)(hu:b2T u)(cls:ByteArray):b0u env 75 [.agg (b1x u (b0f u 0)),.str cls] (sl 9 ((b8S u cls).map b0p)):=by
 have hdl:=b0L u 0 fun y hy=>(hu.2 y hy).1
 have hul:=hu.1
 have hb:=fun c=>d5z u hu c cls
 have hdg:=(@b8y u (b0f u 0)).2
 rw[f3c]
 refine b0i (fn:=Tryz.f75) Tryz.func75 rfl (by rw[Tryz.ntmps75];simp) (by simp -implicitDefEqProofs only[go_sem];exact b2e _ _) (by simp -implicitDefEqProofs only[go_sem]) ?_
 have hsl:=fun q o=>c6H (b0D (btU u) (b0f u 0)) cls q o
 have hclp:=b2e u (b0f u 0)
 generalize hC:b1x u (b0f u 0)=C at hb hclp ⊢
 generalize b0D (btU u) (b0f u 0)=B at hb hsl ⊢
 generalize b0f u 0=dl at hdl hdg hC ⊢
 subst hC
 simp -implicitDefEqProofs only[go_sem,Tryz.f75,b1x]
 refine b0n (β:=Unit) dl (fun pre _=>⟨[(6,.int .i64 pre.length),(5,sl 9 ((pre.foldl (b7J B cls) []).map b0p)),(2,.ptr 0 0),(1,.str cls)],[.cells (b1x u dl)],[]⟩)
  (fun _ _ _=>True) () ?_ trivial ?_ ?_
 ·simp -implicitDefEqProofs only[go_sem,b1x]
  exact⟨rfl,rfl⟩
 ·intro _ _
  simp -implicitDefEqProofs only[go_sem,b1x]
 ·rintro pre d post _ hx _
  have hpl:dl.length=pre.length+1+post.length:=by rw[hx];simp;omega
  have hgx:(dl.map Dl.enc).getD (pre.length:Int).toNat []=d.enc:=by rw[hx];simp[g8Z]
  have hlt:((pre.length:Int)<dl.length)=True:=by simp;omega
  have hw:IntKind.i64.wrap (↑pre.length+1)=↑(pre.length+1):=b0g (by omega)
  have hf:(pre++[d]).foldl (b7J B cls) []=b7J B cls (pre.foldl (b7J B cls) []) d:=by simp
  have hol:=hsl pre []
  simp -implicitDefEqProofs only[go_sem,hgx,hlt,b1x,Dl.enc]
  intro _ _
  refine b0h (cs:=[]) b0v (by kernel_rfl) ?_
  by_cases h2:d.kind=2
  ·simp -implicitDefEqProofs only[go_sem,hgx,hlt,b1x,Dl.enc,h2]
   refine b0B (hb d.name) (by simp -implicitDefEqProofs only[go_sem,b1x]) ?_
   cases hc:((b3D B d.name).1.any fun x=>decide (x=cls))with
   | true =>
    have hs:b7J B cls (pre.foldl (b7J B cls) []) d=c7a (pre.foldl (b7J B cls) []) d.name:=by rw[b7J,if_pos ⟨h2,hc⟩]
    simp -implicitDefEqProofs only[go_sem,hgx,hlt,b1x,Dl.enc]
    refine(b9h (pre.foldl (b7J B cls) []) d.name (by simp only[g9F]at hol;omega)).calls (by simp -implicitDefEqProofs only[go_sem]) ?_
    simp -implicitDefEqProofs only[go_sem,hgx,hlt,b1x,Dl.enc]
    exact⟨(),hw,by rw[hf,hs]⟩
   | false =>
    have hs:b7J B cls (pre.foldl (b7J B cls) []) d=pre.foldl (b7J B cls) []:=by rw[b7J,if_neg (by rw[hc];simp)]
    simp -implicitDefEqProofs only[go_sem,hgx,hlt,b1x,Dl.enc]
    exact⟨(),hw,by rw[hf,hs]⟩
  ·have hs:b7J B cls (pre.foldl (b7J B cls) []) d=pre.foldl (b7J B cls) []:=by rw[b7J,if_neg (fun h=>h2 h.1)]
   simp -implicitDefEqProofs only[go_sem,hgx,hlt,b1x,Dl.enc,h2]
   exact⟨(),hw,by rw[hf,hs]⟩
theorem d9C(u:List Un)(hu:b2T u)(cls:ByteArray):b0u env 116 [.agg (b1x u (b0f u 0)),.str cls] (sl 9 ((cls::b8z u cls).map b0p)):=by
 have hb:=c5c u hu cls
 have hclp:=b2e u (b0f u 0)
 have hpl:=b8F (b0D (btU u) (b0f u 0)) cls
 have h1:=b1i (btU u) (b0f u 0)
 have hdl:=b0L u 0 fun y hy=>(hu.2 y hy).1
 have hul:=hu.1
 have h4:(b8z u cls).length=(b3D (b0D (btU u) (b0f u 0)) cls).1.length:=rfl
 refine b0i (fn:=Tryz.f116) Tryz.func116 rfl (by rw[Tryz.ntmps116];simp) (by simp -implicitDefEqProofs only[go_sem];exact b2e _ _) (by simp -implicitDefEqProofs only[go_sem,b0p]) ?_
 generalize b8z u cls=sp at hb h4 ⊢
 simp -implicitDefEqProofs only[go_sem,Tryz.f116,b1x]
 refine hb.calls (by simp -implicitDefEqProofs only[go_sem,b1x]) ?_
 simp -implicitDefEqProofs only[go_sem]
 exact⟨by omega,rfl⟩
def isM(cls n:ByteArray)(d:Dl):Bool:=decide (d.kind=4) && d5h cls n d
theorem d2i(u:List Un)(hu:b2T u)(cls n:ByteArray):b0u env 117 [.agg (b1x u (b0f u 0)),.str cls,.str n] (b2s ((b0f u 0).find? (isM cls n))):=by
 have hdl:=b0L u 0 fun y hy=>(hu.2 y hy).1
 have hul:=hu.1
 refine b0i (fn:=Tryz.f117) Tryz.func117 rfl (by rw[Tryz.ntmps117];simp) (by simp -implicitDefEqProofs only[go_sem];exact b2e _ _) (by simp -implicitDefEqProofs only[go_sem,b2s]) ?_
 generalize b0f u 0=dl at hdl ⊢
 simp -implicitDefEqProofs only[go_sem,Tryz.f117,b1x]
 refine b0n (β:=Unit) dl (fun pre _=>⟨[(8,.int .i64 pre.length),(7,.bool false),(6,.ptr 1 0),(3,.ptr 0 0),(1,.str cls),(2,.str n)],[.cells (b1x u dl),.cells Dl.zero.enc],[]⟩)
  (fun pre post _=>dl.find? (isM cls n)=post.find? (isM cls n)) () ?_ rfl ?_ ?_
 ·simp -implicitDefEqProofs only[go_sem,b1x,Dl.zero,Dl.enc]
  rfl
 ·intro _ h
  rw[h,List.find?_nil]
  simp -implicitDefEqProofs only[go_sem,b1x,b2s,Dl.zero,Dl.enc]
  try(exact fun _ _=>rfl)
 ·rintro pre d post _ hx h
  have hpl:dl.length=pre.length+1+post.length:=by rw[hx];simp;omega
  have hgx:(dl.map Dl.enc).getD (pre.length:Int).toNat []=d.enc:=by rw[hx];simp[g8Z]
  have hlt:((pre.length:Int)<dl.length)=True:=by simp;omega
  have hw:IntKind.i64.wrap (↑pre.length+1)=↑(pre.length+1):=b0g (by omega)
  rw[g9S]at h
  have hm:isM cls n d=(decide (d.kind=4) && (decide (cls=d.owner) && decide (n=d.name))):=rfl
  rw[hm]at h
  simp -implicitDefEqProofs only[go_sem,hgx,hlt,b1x,Dl.enc,Dl.zero]
  intro _ _
  refine⟨fun h4=>⟨fun ho=>⟨fun hn=>?_,fun hn=>?_⟩,fun ho=>?_⟩,fun h4=>?_⟩
  ·rw[h,g9D h4,g9D ho.symm,g9D hn.symm]
   rfl
  ·rw[g9D h4,g9D ho.symm,g9v (fun e=>hn e.symm)]at h
   exact⟨(),h,hw⟩
  ·rw[g9D h4,g9v (fun e=>ho e.symm)]at h
   exact⟨(),h,hw⟩
  ·rw[g9v h4]at h
   exact⟨(),h,hw⟩
theorem c2u(u:List Un)(cls n:ByteArray):b1D u cls n=(cls::b8z u cls).findSome? fun s=>(b0f u 0).find? (isM s n):=by
 unfold b1D c2z
 congr 1
 funext s
 have:=c1h s n (b0f u 0) []
 rw[List.find?_nil,Option.none_or]at this
 exact this
theorem c4H(u:List Un)(hu:b2T u)(cls n:ByteArray):b0u env 76 [.agg (b1x u (b0f u 0)),.str cls,.str n] (b2s (b1D u cls n)):=by
 have hL:=d9C u hu cls
 have hM:=fun s=>d2i u hu s n
 have hclp:=b2e u (b0f u 0)
 rw[c2u]
 refine b0i (fn:=Tryz.f76) Tryz.func76 rfl (by rw[Tryz.ntmps76];simp) (by simp -implicitDefEqProofs only[go_sem];exact b2e _ _) (by simp -implicitDefEqProofs only[go_sem,b2s]) ?_
 generalize hs:cls::b8z u cls=L at hL ⊢
 simp -implicitDefEqProofs only[go_sem,Tryz.f76,b1x]
 refine hL.calls (by simp -implicitDefEqProofs only[go_sem,b1x]) ?_
 have hLl:(L.length:Int)≤140737488355328∨True := .inr trivial
 simp -implicitDefEqProofs only[go_sem]
 refine b0n (β:=Unit) L (fun pre _=>⟨[(9,.int .i64 pre.length),(8,sl 9 (L.map b0p)),(7,.bool false),(6,.ptr 1 0),(3,.ptr 0 0),(2,.str n)],[.cells (b1x u (b0f u 0)),.cells Dl.zero.enc],[]⟩)
  (fun pre post _=>(L.findSome? fun s=>(b0f u 0).find? (isM s n))=post.findSome? fun s=>(b0f u 0).find? (isM s n)) () ?_ rfl ?_ ?_
 ·simp -implicitDefEqProofs only[go_sem,b1x,Dl.zero,Dl.enc]
  rfl
 ·intro _ h
  rw[h,List.findSome?_nil]
  simp -implicitDefEqProofs only[go_sem,b1x,b2s,Dl.zero,Dl.enc]
  exact fun _ _=>rfl
 ·rintro pre s post _ hx h
  have hpl:L.length=pre.length+1+post.length:=by rw[hx];simp;omega
  have hgx:(L.map b0p).getD (pre.length:Int).toNat []=b0p s:=by rw[hx];simp[g8Z]
  have hlt:((pre.length:Int)<L.length)=True:=by simp;omega
  rw[List.findSome?_cons]at h
  simp -implicitDefEqProofs only[go_sem,hgx,hlt,b1x,b0p,Dl.zero,Dl.enc]
  intro _ hl2
  have hw:IntKind.i64.wrap (↑pre.length+1)=↑(pre.length+1):=b0g (by omega)
  refine b0h (cs:=[]) b0v (by kernel_rfl) ?_
  simp -implicitDefEqProofs only[go_sem,hgx,hlt,b1x,b0p,Dl.zero,Dl.enc]
  refine b0B (hM s) (by simp -implicitDefEqProofs only[go_sem,b1x]) ?_
  cases hf:(b0f u 0).find? (isM s n)with
  | some d =>
   rw[hf]at h
   simp only at h
   rw[h]
   simp -implicitDefEqProofs only[go_sem,b2s,g9w,g9H,Dl.enc,Dl.zero]
  | none =>
   rw[hf]at h
   simp -implicitDefEqProofs only[go_sem,b2s,h0a,g9u,Dl.enc,Dl.zero]
   refine⟨(),h,hw,.inr ?_⟩
   rw[b0m _ _ _ (b0G _),b0m _ _ _ (b6N _),b0m _ _ _ (b6N _)]
   rfl
end Go.Proofs.YtighfcpaplmaiaaGreatDoor
