import Derived.Test.YtighfcpaplmaiaaGreatDoorUeO
import Derived.Test.YtighfcpaplmaiaaGreatDoorVgZ
import Derived.Test.YtighfcpaplmaiaaGreatDoorRows
set_option linter.unusedVariables false
set_option linter.unusedSimpArgs false
set_option maxRecDepth 20000
namespace Go.Proofs.YtighfcpaplmaiaaGreatDoor
open Go Go.Vg Go.Proofs
theorem g7p{n:Nd}{i:Nat}(hi:i<(b0u n (-1) 0).length)(hk:0<(b0h (b0u n (-1) 0) i).kids.length):b1c (b0u n (-1) 0) i 0=i+1:=by
 obtain⟨k,t,g,ks,e1,e2,e3,e4⟩:=b1I hi;have h1:=b3J hk;rw[e4]at h1 hk;cases ks with
 | nil=>simp[b0E]at hk
 | cons x r =>
  have h2:=b3N (x::r) (i+1) 0 (by simp);rw[h2]at h1;simpa[b0k]using h1.symm
theorem f1Y{u:List Un}(hu:b2D u)(h0:(b4H u).1=0){un i:Nat}{l:List Rw}(hl:(b0f u)[un]? = some l)(hi:i<l.length)(h17:17≤(b0h l i).kind):c3D u un i=(tyS u ((un:Int),(i:Int)),0):=by
 have hS:=b3H hu h0;obtain⟨r1,r2⟩:=(hS.gram l (h0j hl)).rng i hi;obtain⟨x,hx,rfl⟩:=b2H hS.br hl;have hlt:=(h0b.1 hx).1;obtain⟨k,t,g,ks,e1,e2,e3,e4⟩:=b1I hi;rw[c3D,if_neg (by simpa using h0),if_neg (by omega),if_pos (by omega),h0n,h0n,hx,h0D,h0A,e1];simp only;rw[if_pos];show b1D k=3;rw[e2]at h17 r2;unfold b1D;rw[if_neg (by omega),if_neg (by omega),if_pos (by omega)]
theorem c9e{u:List Un}(hu:b2D u)(h0:(b4H u).1=0){un i:Nat}{l:List Rw}(hl:(b0f u)[un]? = some l)(hi:i<l.length)(hk:(b0h l i).kind=21) :
  0<(b0h l i).kids.length∧b1c l i 0<l.length∧c3D u un (b1c l i 0:Nat)=(tyS u ((un:Int),((b1c l i 0:Nat):Int)),0) ∧
  ∃ d,b1H u (tyS u ((un:Int),((b1c l i 0:Nat):Int))) (b0h l i).text=some d∧b2z d∈c8H u un i ∧
  ∀ t∈c8H u un i,∃ y∈tyS u ((un:Int),((b1c l i 0:Nat):Int))::(b8W u (tyS u ((un:Int),((b1c l i 0:Nat):Int)))++b9y u (tyS u ((un:Int),((b1c l i 0:Nat):Int)))),t=y++⟨#[46]⟩++(b0h l i).text:=by
 have hS:=b3H hu h0;have hC:=b7k h0;have hg:=hS.gram l (h0j hl);have hle:=hg.least i hi;rw[hk]at hle;have hk1:0<(b0h l i).kids.length:=by simp[b0S]at hle;omega
 have hkd:=hg.kid i hi 0 hk1;have hf:=hg.fit i hi 0 hk1;rw[hk]at hf;have g3:∀ k:Int,b1D k=3→17≤k:=fun k h=>by
  unfold b1D at h
  repeat' split at h
  all_goals omega
 have h17:17≤(b0h l (b1c l i 0)).kind:=by
  simp[b3l]at hf;exact g3 _ hf
 have hne:=f9W hu h0 hl hkd.2.1 h17;have htof:=f1Y hu h0 hl hkd.2.1 h17;have hw:=hC.wrong hl hi;unfold wrS at hw;simp only at hw;rw[if_neg (by omega),if_neg (by omega),if_neg (by omega),if_neg (by omega),if_neg (by omega),if_pos hk,if_neg hne]at hw;have hk0:b1c l i 0=i+1:=by
  obtain⟨x,hx,rfl⟩:=b2H hS.br hl;exact g7p hi hk1
 refine⟨hk1,hkd.2.1,htof,?_⟩;rw[c5X hu h0 hl hi,c0T,if_neg (by omega),if_pos hk,show((i:Int)+1)=((b1c l i 0:Nat):Int)by omega,htof];generalize tyS u ((un:Int),((b1c l i 0:Nat):Int))=c at hw hne;simp only[if_true];have hrc:rcT c=c:=by
  unfold rcT at hw ⊢;split
  ·rename_i hc;rw[if_pos hc]at hw;unfold mtS at hw;simp only at hw;rw[c0y hS]at hw;cases hw
  ·rfl
 rw[hrc]at hw;unfold mtS at hw;simp only at hw;cases hd:b1H u c (b0h l i).text with
 | none=>rw[hd]at hw;cases hw
 | some d =>
  have hm:∀ t,t∈b1E (c2D (tgL u c (b0h l i).text))↔t∈tgL u c (b0h l i).text:=fun t=>by
   rw[(b1N _).mem_iff,c2D,(b7M _ [] (by simp)).2];simp
  refine⟨d,rfl,(hm _).2 (c5w.2 ⟨c,by simp,d,hd,rfl⟩),fun t ht=>?_⟩;obtain⟨y,hy,e,he,rfl⟩:=c5w.1 ((hm _).1 ht);obtain⟨_,_,q3,q4⟩:=b7Q he;refine⟨e.owner,?_,by rw[b2z,q4]⟩;have hsu:∀ z,z∈(b3M (b0C (btU u) (b0e u 0)) c).1→z∈b8W u c:=fun z h=>h
  rcases h0C.1 hy with rfl | hy
  ·rcases q3 with q3 | q3
   ·rw[q3];simp
   ·exact List.mem_cons_of_mem _ (h1e _ q3)
  ·rcases q3 with q3 | q3
   ·rw[q3];exact List.mem_cons_of_mem _ (h1j _ hy)
   ·obtain⟨b,_,hcm⟩:=c2o.1 hy;rcases f3T hcm q3 with h | h | h
    ·rw[h];simp
    ·exact List.mem_cons_of_mem _ (h1e _ h)
    ·exact List.mem_cons_of_mem _ (h1j _ h)
end Go.Proofs.YtighfcpaplmaiaaGreatDoor
namespace Go.Vg
open Go.RowKit
theorem c6f{E:Env}{W:World}(hg:∀ g cs,E.gl g=some cs→b0Y cs=true∧RV E.P (b1O W) [] (.fptr cs) (.pointer (some ⟨g,0,none⟩)))(hi:E.ini W):RelW E (b1O W) [] [] ⟨W,f1f W,[]⟩ W where
 newF:=fun b o v h _=>h
 glob:=hg
 below:=Below.refl _ _
 frz:=fun b o v h=>(c0f h).1
 one:=fun b o v h=>(c0f h).2
 obj:=fun id ob h=>by simp at h
 lenφ:=rfl
 vs:=Vecs.nil
 nod:=fun i j b h=>by simp[b1O]at h
 sep:=fun id b o h=>by simp[b1O]at h
 geφ:=fun id b h=>by simp[b1O]at h
 lenρ:=rfl
 reg:=fun k b lo hi h=>by simp[b1O]at h
 regd:=fun k k' b lo hi lo' hi' _ h=>by simp[b1O]at h
 fre:=fun k b lo hi h=>by simp[b1O]at h
 bld:=fun id t s b h=>by simp at h
 ini:=hi
theorem b9U{E:Env}{f:FuncId}{args:List V}{vals:Array Value}{W:World}(h:b0s E f args (.bool true))(hg:∀ g cs,E.gl g=some cs→b0Y cs=true∧RV E.P (b1O W) [] (.fptr cs) (.pointer (some ⟨g,0,none⟩)))(hi:E.ini W)(ha:b8a E.P (b1O W) [] args vals) :
  Calls E.P f vals W fun e W'=>e = .returned (.bool true)∧Below W.heap.size W W':=by
 have h3:=h.2.2 (b1O W) ⟨W,f1f W,[]⟩ W vals (c6f (E:=E.alive) hg hi) ha;refine h3.mono fun e W' hgo=>?_
 obtain⟨val,rfl,v,heap',arr',G',rfl,hx,hr,hv⟩:=hgo.alive;cases hv
 exact⟨rfl,hr.below⟩
theorem b9a{W:World}(b o:Nat)(v:Value)(hc:W.cell? ⟨b,o,none⟩=some v)(h1:v.oneCell'=true):(b1O W).F b o=some v:=by
 simp only[b1O,f1f,hc,h1,if_true]
theorem c2A{P:Program}{W:World}{name:String}{d:DataW Unit}{g:Nat}{t:TypeId}(ty:Tz)(hcl:ty.closed=true)(hlv:∀ (G:Gh) F,ty.lv (fun _=>()) P W G false F)(hok:ty.ok P (.inl t)=true)
  (hg:P.globalNamed name=some g) (hty:(P.globals[g]?).map (·.type)=some t) (hw:(d.weights P t).all (· ≤ reachBytes)=true)
  (h:Lib.VarReads P W name d):RV P (b1O W) [] (.fptr (ty.val d)) (.pointer (some ⟨g,0,none⟩)):=by
 obtain⟨g',t',cs,fuel,p,hg',ht',hvar,hd⟩:=h;obtain rfl:=Option.some.inj (hg.symm.trans hg');obtain rfl:=Option.some.inj (hty.symm.trans ht');obtain⟨xs,h1,h2,h3,h4⟩:=(Tz.read (G:=b1O W) b9a ty (fuel+1) (hlv _ _)).1 t fuel cs.toList d p (by omega) hok hd hw;have hx:=ty.val_of d xs hcl h1;subst hx;have hcell:∀ j:Nat,W.cell? ⟨g,j,none⟩=cs.toList[j]?:=by
  intro j;unfold World.var? at hvar;rw[hg,Option.bind_some]at hvar;split at hvar
  ·rename_i cs' _ _ hh;cases hvar
   simp only[World.cell?,hh];simp
  ·cases hvar
 refine .fptr _ g 0 (fun j hj=>?_) (fun j c v hc hv=>?_)
 ·have hj':j<cs.toList.length:=by omega
  have hv:=hcell j;rw[h0f hj']at hv;exact⟨_,b9a _ _ _ (by rw[h0w];exact hv) (h4 j _ _ (h0f hj) (h0f hj')).2⟩
 ·have:=(c0f hv).1;rw[h0w,hcell]at this;exact(h4 j c v hc this).1
theorem d3Z{H:Type}{enc:TypeId×Value→H}{P:Program}{W:World}{T e:TypeId}{v:Value}{d:DataW H}{p:List MemPlace}{b:Nat}(ty:Tz)(hlv:∀ F,ty.lv enc P W (b1O W) true F)(ht:P.underlying T=some (.slice e))(hok:(Tz.sl e ty).ok P (.inl T)=true)
  (hval:Value.okWide P W .any b T v) (h:DataW.Trod enc P W 0 (fun _=>true) true T v d p) (hw:(d.weights P T).all (· ≤ reachBytes)=true) :
  ∃ es:List (List V),(∀ el∈es,∃ di:DataW H,ty.sem di el)∧RV P (b1O W) [] (sl e es) v:=by
 obtain⟨a0,len,cap,rfl⟩:=Go.WideShapes.okWide_slice ht hval;obtain⟨fuel,h⟩:=h;obtain⟨xs,⟨es,rfl,he1,he2⟩,h3,h4,h5⟩:=(Tz.read (G:=b1O W) b9a (.sl e ty) (fuel+1) (hlv _)).1 T fuel _ d p (by omega) hok h hw;refine⟨es,fun el hel=>?_,(h5 0 _ _ rfl rfl).1⟩;obtain⟨i,hi,rfl⟩:=h1h hel;exact⟨_,he2 i _ (h0f hi)⟩
end Go.Vg
namespace Go.Proofs.YtighfcpaplmaiaaGreatDoor
open Go Go.Vg Go.Proofs Go.RowKit
def f8S(xs:List V):Prop:=∃ n:Nd,xs=n.enc
def f9k:Tz := .cons 3 (.int .i64) (.cons 9 .str (.cons 28 (.sl 9 .str) (.cons 64 (.sl 66 (.leaf 66 4 f8S)) .unit)))
def g0b:Tz := .cons 9 .str (.cons 9 .str (.cons 66 (.leaf 66 4 f8S) (.cons 4 .bool .unit)))
def g8a:Tz := .cons 3 (.int .i64) (.cons 3 (.int .i64) .unit)
def g0W:Tz := .cons 254 (.sl 256 g8a) (.cons 256 g8a (.cons 3 (.int .i64) (.cons 28 (.sl 9 .str) (.cons 3 (.int .i64) .unit))))
def d3t:Tz := .arr 258 27 g0W
theorem f0b:f9k.ok Tryz.prog (.inl 66)=true:=by kernel_rfl
theorem d6C:(Tz.sl 70 g0b).ok Tryz.prog (.inl 22)=true:=by kernel_rfl
theorem d3P:d3t.ok Tryz.prog (.inl 259)=true:=by kernel_rfl
theorem c6d{α β:Type}{f:α→β}{es:List β}(h:∀ el∈es,∃ a,el=f a):∃ l:List α,es=l.map f:=by
 induction es with
 | nil=>exact⟨[],rfl⟩
 | cons x r ih =>
  obtain⟨a,rfl⟩:=h x (by simp);obtain⟨l,rfl⟩:=ih fun el hel=>h el (by simp[hel])
  exact⟨a::l,rfl⟩
section
variable {H : Type} {d : DataW H} {xs : List V}
theorem f1U{e:TypeId}(h:(Tz.sl e .str).sem d xs):∃ g:List ByteArray,xs=[sl e (g.map b0n)]:=by
 obtain⟨es,rfl,h1,h2⟩:=h;obtain⟨l,rfl⟩:=c6d (f:=b0n) (es:=es) fun el hel=>by
  obtain⟨i,hi,rfl⟩:=h1h hel;obtain⟨s,hs,_⟩:=h2 i _ (h0f hi);exact⟨s,hs⟩
 exact⟨l,rfl⟩
theorem g0T(h:f9k.sem d xs):f8S xs:=by
 obtain⟨_,_,rfl,⟨k,rfl,_⟩,_,_,rfl,⟨t,rfl,_⟩,_,_,rfl,hg,_,_,rfl,⟨es,rfl,h1,h2⟩,rfl⟩:=h;obtain⟨g,rfl⟩:=f1U hg;obtain⟨l,rfl⟩:=c6d (f:=Nd.enc) (es:=es) fun el hel=>by
  obtain⟨i,hi,rfl⟩:=h1h hel;exact h2 i _ (h0f hi)
 exact⟨.mk k t g l,by rw[b8y];rfl⟩
theorem g2K(h:g0b.sem d xs):∃ u:Un,xs=u.enc:=by
 obtain⟨_,_,rfl,⟨p,rfl,_⟩,_,_,rfl,⟨t,rfl,_⟩,_,_,rfl,⟨n,rfl⟩,_,_,rfl,⟨b,rfl,_⟩,rfl⟩:=h;exact⟨⟨p,t,n,b⟩,by simp[Un.enc]⟩
end
theorem d8D{H:Type}{enc:TypeId×Value→H}{w:World}{G:Gh}{held:Bool}(hG:∀ b o v,w.cell? ⟨b,o,none⟩=some v→v.oneCell'=true→G.F b o=some v):∀ F,f6U enc Tryz.prog w G held F 66 4 f8S
 | 0=>fun fuel hF=>absurd hF (Nat.not_lt_zero _)
 | F+1=>fun fuel hF cs d ps ht hw=>by
  have ih:=d8D (enc:=enc) (held:=held) hG F;have hlv:f9k.lv enc Tryz.prog w G held (F+1):=⟨trivial,trivial,trivial,fun f hf=>ih f (by omega),trivial⟩
  obtain⟨xs,h1,h2,h3,h4⟩:=(Tz.read hG f9k (F+1) hlv).1 66 fuel cs d ps hF f0b ht hw;exact⟨xs,g0T h1,h2,h3,h4⟩
theorem c4u{H:Type}{enc:TypeId×Value→H}{W:World}{v:Value}{d:DataW H}{p:List MemPlace}{b:Nat}(ht:Tryz.prog.underlying 22=some (.slice 70))
  (hval:Value.okWide Tryz.prog W .any b 22 v) (h:DataW.Trod enc Tryz.prog W 0 (fun _=>true) true 22 v d p) (hw:(d.weights Tryz.prog 22).all (· ≤ reachBytes)=true) :
  ∃ u:List Un,RV Tryz.prog (b1O W) [] (sl 70 (u.map Un.enc)) v:=by
 obtain⟨es,h1,h2⟩:=d3Z g0b (fun F=>⟨trivial,trivial,d8D b9a _,trivial,trivial⟩) ht d6C hval h hw;obtain⟨l,rfl⟩:=c6d (f:=Un.enc) fun el hel=>by
  obtain⟨di,hdi⟩:=h1 el hel;exact g2K hdi
 exact⟨l,h2⟩
theorem c9p:d3t.val Rows.laid_treemerge_grammar_shapes (H:=Unit)=c0o:=by kernel_rfl
theorem c6c{W:World}(h:Lib.VarReads Tryz.prog W "treemerge/grammar.shapes" Rows.laid_treemerge_grammar_shapes):∀ g cs,env.gl g=some cs→b0Y cs=true∧RV env.P (b1O W) [] (.fptr cs) (.pointer (some ⟨g,0,none⟩)):=by
 intro g cs hg;by_cases e:g=0
 ·subst e;rw[c8X]at hg;cases hg
  refine⟨by kernel_rfl,?_⟩;have:=c2A (g:=0) (t:=259) d3t rfl (fun G F=>⟨⟨trivial,trivial,trivial⟩,⟨trivial,trivial,trivial⟩,trivial,trivial,trivial,trivial⟩) d3P (by kernel_rfl) (by kernel_rfl) (by kernel_rfl) h;rw[c9p]at this;exact this
 ·simp[env,envD,e]at hg
end Go.Proofs.YtighfcpaplmaiaaGreatDoor
namespace Go.Proofs.YtighfcpaplmaiaaGreatDoor
open Go Go.Vg Go.Proofs Go.RowKit
end Go.Proofs.YtighfcpaplmaiaaGreatDoor
namespace Go.Vg
theorem b3K{α:Type}{p q:α→Bool}:∀ {l:List α},(∀ x∈l,p x=q x)→l.find? p=l.find? q
 | [],_=>rfl
 | x::r,h=>by
  rw[h0W,h0W,h x (by simp),b3K fun y hy=>h y (by simp[hy])]
def d5N(s n:ByteArray)(d:Dl):Bool:=decide (s=d.owner) && decide (n=d.name)
theorem c1q(s n:ByteArray):∀ (l M:List Dl),(l.foldl d0z M).find? (d5N s n)=(M.find? (d5N s n)).or (l.find? fun d=>decide (d.kind=4) && d5N s n d)
 | [],M=>by simp
 | d::r,M=>by
  rw[h0K,c1q s n r,h0W];unfold d0z;by_cases h4:d.kind=4
  ·by_cases h:M.any (c0m d)=false
   ·rw[if_pos ⟨h4,h⟩,List.find?_append,h0W,List.find?_nil,Option.or_assoc,h0H h4,h0S];cases d5N s n d <;> simp
   ·rw[if_neg (fun hc=>h hc.2),h0H h4,h0S];cases hk:d5N s n d with
    | false=>rfl
    | true =>
     have h':M.any (c0m d)=true:=by simpa using h
     have e:s=d.owner∧n=d.name:=by simpa[d5N]using hk
     obtain⟨rfl,rfl⟩:=e;have:(M.find? (d5N d.owner d.name)).isSome=true:=by
      rw[List.find?_isSome];obtain⟨x,hx,hp⟩:=h1a.1 h';exact⟨x,hx,hp⟩
     obtain⟨y,hy⟩:=h0I.1 this;rw[hy];rfl
  ·rw[if_neg (fun hc=>h4 hc.1),h0z h4,h0U]
end Go.Vg
namespace Go.Proofs.YtighfcpaplmaiaaGreatDoor
open Go Go.Vg Go.Proofs
end Go.Proofs.YtighfcpaplmaiaaGreatDoor
namespace Go.Vg
def nxB(B:List (ByteArray×ByteArray))(n:ByteArray):ByteArray:=(b1G B n).getD ⟨#[]⟩
def b2L(B:List (ByteArray×ByteArray))(n:ByteArray):Bool:=decide (n=⟨#[]⟩) || !(b1G B n).isSome
def d1v(B:List (ByteArray×ByteArray))(cls sup:ByteArray):Nat→ByteArray→Bool
 | 0,_=>false
 | f+1,n=>if b2L B n=true then false else if n=cls then false else if n=sup then true else d1v B cls sup f (nxB B n)
def c2C(B:List (ByteArray×ByteArray))(cls:ByteArray):Nat→ByteArray→Bool
 | 0,_=>false
 | f+1,n=>if b2L B n=true then false else if n=cls then true else c2C B cls f (nxB B n)
def b4I(B:List (ByteArray×ByteArray)):ByteArray→List ByteArray→ByteArray
 | n,[]=>n
 | _,x::r=>b4I B (nxB B x) r
theorem c8i{B:List (ByteArray×ByteArray)}{s:ByteArray}:∀ (f:Nat) (out:List ByteArray) (n:ByteArray),(s::out).Nodup→(∀ x∈out,(b1G B x).isSome=true)→B.length+1≤out.length+f →
  ∃ p,(b7B B s f out n).1=out++p∧c3z B n p∧(s::(out++p)).Nodup∧(b7B B s f out n).2=b4I B n p∧(b2L B (b4I B n p)=true∨b4I B n p∈s::(out++p))
 | 0,out,n,h,hb,hl=>by
  exfalso;have:=c1x out (B.map (·.1)) (h1t.1 h).2 fun x hx=>b7E (hb x hx)
  rw[h0v]at this;omega
 | f+1,out,n,h,hb,hl=>by
  rw[b7B];split
  ·rename_i hc;refine⟨[],by simp,trivial,by simpa using h,rfl,?_⟩;rw[h1u]at hc;rcases hc with hc | hc
   ·exact .inl hc
   ·right;rw[h1a]at hc;obtain⟨x,hx,he⟩:=hc;have:x=n:=by simpa using he
    subst this;rw[h0F];exact hx
  ·rename_i hc;simp only[h1u,not_or,h0l,Bool.not_eq_true',Bool.not_eq_false,h1a,not_exists,not_and]at hc;obtain⟨⟨h1,h2⟩,h3⟩:=hc;have hn:(s::(out++[n])).Nodup:=by
    have hno:n ∉ s::out:=fun hm=>h3 n hm rfl
    rw[←h0a];refine h1v.2 ⟨h,by simp,fun a ha b hb=>?_⟩;simp only[h0R]at hb;subst hb;rintro rfl;exact hno ha
   obtain⟨p,g1,g2,g3,g4,g5⟩:=c8i f (out++[n]) ((b1G B n).getD ⟨#[]⟩) hn (fun x hx=>by
    rcases h0E.1 hx with hx | hx
    ·exact hb x hx
    ·simp only[h0R]at hx;subst hx;exact h2) (by simp;omega)
   exact⟨n::p,by rw[g1];simp,⟨rfl,h1,h2,g2⟩,by simpa using g3,g4,by simpa[b4I,nxB]using g5⟩
theorem b9i{B:List (ByteArray×ByteArray)}:∀ (p:List ByteArray) {n:ByteArray},c3z B n p→∀ x∈p,nxB B x∈p∨nxB B x=b4I B n p
 | [],_,_,x,h=>by cases h
 | y::r,n,h,x,hx=>by
  obtain⟨_,_,_,h4⟩:=h;rcases h0C.1 hx with rfl | hx
  ·cases r with
   | nil=>exact .inr rfl
   | cons z r' =>
    obtain⟨e,_⟩:=h4;left;show(b1G B x).getD ⟨#[]⟩∈_;rw[←e];simp
  ·rcases b9i r h4 x hx with h | h
   ·exact .inl (by simp[h])
   ·exact .inr h
theorem c1D{B:List (ByteArray×ByteArray)}{n:ByteArray}{p:List ByteArray}(h:c3z B n p):n∈p∨n=b4I B n p:=by
 cases p with
 | nil=>exact .inr rfl
 | cons x r=>exact .inl (by rw[h.1];simp)
theorem c2H{B:List (ByteArray×ByteArray)}:∀ (p:List ByteArray) {n:ByteArray},c3z B n p→∀ x∈p,b2L B x=false
 | [],_,_,x,h=>by cases h
 | y::r,n,h,x,hx=>by
  rcases h0C.1 hx with rfl | hx
  ·simp[b2L,h.2.1,h.2.2.1]
  ·exact c2H r h.2.2.2 x hx
theorem d8h{B:List (ByteArray×ByteArray)}{s sup m:ByteArray}{p:List ByteArray}(hnx:∀ x∈p,nxB B x∈p∨nxB B x=m)(hm:b2L B m=true∨m∈s::p)(hs:sup ∉ p):∀ (f:Nat) (y:ByteArray),y∈p∨y=m→d1v B s sup f y=false
 | 0,_,_=>rfl
 | f+1,y,hy=>by
  rw[d1v];by_cases h0:b2L B y=true
  ·rw[if_pos h0]
  rw[if_neg h0];by_cases h1:y=s
  ·rw[if_pos h1]
  rw[if_neg h1];have hyp:y∈p:=by
   rcases hy with hy | rfl
   ·exact hy
   ·rcases hm with hm | hm
    ·exact absurd hm h0
    ·exact(h0C.1 hm).resolve_left h1
  rw[if_neg (by rintro rfl;exact hs hyp)];exact d8h hnx hm hs f _ (hnx y hyp)
theorem d3y{B:List (ByteArray×ByteArray)}{s sup:ByteArray}:∀ (p:List ByteArray) (f:Nat) (n:ByteArray),c3z B n p→s ∉ p→sup∈p→p.length≤f→d1v B s sup f n=true
 | [],_,_,_,_,h,_=>by cases h
 | x::r,0,_,_,_,_,h=>by simp at h
 | x::r,f+1,n,h,hs,hm,hl=>by
  obtain⟨rfl,h1,h2,h3⟩:=h;rw[d1v,if_neg (by simp[b2L,h1,h2]),if_neg (by rintro rfl;exact hs (by simp))];by_cases he:x=sup
  ·rw[if_pos he]
  ·rw[if_neg he];exact d3y r f _ h3 (fun h=>hs (by simp[h])) ((h0C.1 hm).resolve_left fun e=>he e.symm) (by simpa using hl)
theorem d8P{B:List (ByteArray×ByteArray)}{s m:ByteArray}{p:List ByteArray}(hnx:∀ x∈p,nxB B x∈p∨nxB B x=m)(hm:b2L B m=true∨m∈p)(hs:s ∉ p):∀ (f:Nat) (y:ByteArray),y∈p∨y=m→c2C B s f y=false
 | 0,_,_=>rfl
 | f+1,y,hy=>by
  rw[c2C];by_cases h0:b2L B y=true
  ·rw[if_pos h0]
  rw[if_neg h0];have hyp:y∈p:=by
   rcases hy with hy | rfl
   ·exact hy
   ·exact hm.resolve_left h0
  rw[if_neg (by rintro rfl;exact hs hyp)];exact d8P hnx hm hs f _ (hnx y hyp)
theorem c3n{B:List (ByteArray×ByteArray)}{s:ByteArray}(hs:b2L B s=false):∀ (p:List ByteArray) (f:Nat) (n:ByteArray),c3z B n p→s ∉ p→b4I B n p=s→p.length<f→c2C B s f n=true
 | _,0,_,_,_,_,h=>by omega
 | [],f+1,n,_,_,h,_=>by
  have e:n=s:=h;subst e;rw[c2C,if_neg (by rw[hs];simp),if_pos rfl]
 | x::r,f+1,n,h,hn,he,hl=>by
  obtain⟨rfl,h1,h2,h3⟩:=h;rw[c2C,if_neg (by simp[b2L,h1,h2]),if_neg (by rintro rfl;exact hn (by simp))];exact c3n hs r f _ h3 (fun h=>hn (by simp[h])) he (by simpa using hl)
theorem c3i(B:List (ByteArray×ByteArray))(s:ByteArray):∃ p,(b3M B s).1=p∧c3z B (nxB B s) p∧(s::p).Nodup∧p.length≤B.length∧(b3M B s).2=b4I B (nxB B s) p∧(b2L B (b4I B (nxB B s) p)=true∨b4I B (nxB B s) p∈s::p):=by
 obtain⟨p,h1,h2,h3,h4,h5⟩:=c8i (B:=B) (s:=s) (B.length+1) [] (nxB B s) (by simp) (by simp) (by simp);refine⟨p,by unfold b3M;exact h1,h2,by simpa using h3,?_,h4,by simpa using h5⟩;have hall:∀ x∈p,x∈B.map (·.1):=fun x hx=>by
  have:=c2H p h2 x hx;simp only[b2L,h1B,Bool.not_eq_false']at this;exact b7E this.2
 have:=c1x p (B.map (·.1)) (by simpa using(h1t.1 h3).2) hall
 rwa [h0v]at this
theorem f6g(B:List (ByteArray×ByteArray))(s sup:ByteArray){f:Nat}(hf:B.length≤f):d1v B s sup f (nxB B s)=(b3M B s).1.any fun x=>decide (x=sup):=by
 obtain⟨p,h1,h2,h3,h4,h5,h6⟩:=c3i B s;rw[h1];by_cases hm:sup∈p
 ·rw[d3y p f _ h2 (h1t.1 h3).1 hm (by omega)]
  symm
  rw[h1a];exact⟨sup,hm,by simp⟩
 ·rw[d8h (b9i p h2) h6 hm f _ (c1D h2)]
  symm
  rw[List.any_eq_false];intro x hx;simp only[h0l];rintro rfl;exact hm hx
theorem d7s(B:List (ByteArray×ByteArray)){s:ByteArray}(hs:b2L B s=false){f:Nat}(hf:B.length<f):c2C B s f (nxB B s)=decide ((b3M B s).2=s):=by
 obtain⟨p,h1,h2,h3,h4,h5,h6⟩:=c3i B s;rw[h5];have hnp:=(h1t.1 h3).1;by_cases he:b4I B (nxB B s) p=s
 ·rw[c3n hs p f _ h2 hnp he (by omega),h0H he]
 ·rw[h0z he];refine d8P (b9i p h2) ?_ hnp f _ (c1D h2);rcases h6 with h | h
  ·exact .inl h
  ·exact .inr ((h0C.1 h).resolve_left he)
end Go.Vg
namespace Go.Proofs.YtighfcpaplmaiaaGreatDoor
open Go Go.Vg Go.Proofs
theorem b8P{u:List Un}{dl:List Dl}:(∀ (j:Nat) d,dl[j]? = some d→((dl.map (upD u dl)).map c4a).getD (j:Int).toNat []=[.int .i64 (c4z dl (b2C u d).2)])∧(∀ (j:Nat) d,dl[j]? = some d→(dl.map Dl.enc).getD (j:Int).toNat []=d.enc) :=
 ⟨fun j d h=>by simp[h0c,h,c4a,upD,c4z],fun j d h=>by simp[h0c,h]⟩
theorem d6m(u:List Un)(hu:b2D u)(cls sup:ByteArray):b0s env 115 [.agg (b1A u (b0e u 0)),.str cls,.str sup] (.bool ((b3M (b0C (btU u) (b0e u 0)) cls).1.any fun x=>decide (x=sup))):=by
 have hdl:=b0H u 0 fun y hy=>(hu.2 y hy).1
 have hul:=hu.1;have hbl:=b1i (btU u) (b0e u 0);have hgb:=fun n=>b1X (btU u) n (b0e u 0)
 have hrd:∀ d∈b0e u 0,d.kind=2→(b2C u d).2=btU u d:=fun d h1 h2=>b8S h1 h2
 have hbw:=f6g (b0C (btU u) (b0e u 0)) cls sup (f:=(b0e u 0).length+1) (by omega);rw[←hbw];refine b0i (fn:=Tryz.f115) Tryz.func115 rfl (by rw[Tryz.ntmps115];simp) (by simp -implicitDefEqProofs only[go_sem];exact b2j _ _) rfl ?_;obtain⟨hup,hdg⟩:=@b8P u (b0e u 0);generalize b0C (btU u) (b0e u 0)=B at hbl hgb ⊢;generalize hdd:b0e u 0=dl at hdl hbl hgb hrd hup hdg ⊢;simp -implicitDefEqProofs only[go_sem,Tryz.f115,b1A];refine(b7y dl cls).calls (by simp -implicitDefEqProofs only[go_sem]) ?_;simp -implicitDefEqProofs only[go_sem];generalize hgo:d1v B cls sup (dl.length+1) (nxB B cls)=goal;refine b1u (α:=Nat×Int) (fun s=>⟨[(8,.int .i64 s.1),(7,.int .i64 s.2),(6,.bool false),(3,.ptr 0 0),(1,.str cls),(2,.str sup)],[.cells (b1A u dl)],[]⟩)
  (fun s=>s.1≤dl.length+1∧((s.2 = -1∧goal=false)∨∃ (j:Nat) (d:Dl),s.2=j∧dl[j]? = some d∧d.kind=2∧goal=d1v B cls sup (dl.length+1 - s.1) (btU u d))) (fun s=>dl.length+2 - s.1) (0,Vg.firstD dl cls 0) ?_ ⟨by simp,?_⟩ ?_
 ·simp -implicitDefEqProofs only[go_sem,b1A];try rfl
 ·rcases b2i cls dl 0 with⟨j,d,q1,q2,q3,q4,q5⟩ | ⟨q1,q2⟩
  ·refine .inr ⟨j,d,by simpa using q1,q2,q3,?_⟩;have hgc:nxB B cls=btU u d:=by rw[nxB,hgb,q5];rfl
   rw[←hgo,hgc];rfl
  ·refine .inl ⟨q1,?_⟩;have hgc:nxB B cls=⟨#[]⟩:=by rw[nxB,hgb,q2];rfl
   rw[←hgo,hgc,d1v,if_pos (by simp[b2L])]
 ·rintro⟨n,at'⟩ ⟨hn,hc⟩;simp only at hn hc ⊢;rcases hc with⟨rfl,hgf⟩ | ⟨j,d,rfl,hd,hk,hgl⟩
  ·rw[hgf];simp -implicitDefEqProofs only[go_sem,b1A]
  ·have hjl:j<dl.length:=(h0b.1 hd).1;have hlt:((j:Int)<dl.length)=True:=by simp;omega
   have hj0:(0≤(j:Int))=True:=by simp
   have hbd:(b2C u d).2=btU u d:=hrd d (h0j hd) hk;have hu1:=hup j d hd;rw[hbd]at hu1;generalize btU u d=nb at hgl hu1;rcases h1A dl.length n with hnl | hnl
   ·have e:dl.length+1 - n=0:=by omega
    rw[e]at hgl;have hcn:((n:Int)≤dl.length)=False:=by simp;omega
    rw[hgl,d1v];simp -implicitDefEqProofs only[go_sem,b1A,hcn,hj0]
   ·obtain⟨f,hf⟩:∃ f,dl.length+1 - n=f+1:=⟨dl.length - n,by omega⟩
    have hcn:((n:Int)≤dl.length)=True:=by simp;omega
    have hw:IntKind.i64.wrap (↑n+1)=↑(n+1):=b0g (by omega);rw[hf,d1v]at hgl;simp -implicitDefEqProofs only[go_sem,b1A,hcn,hj0,hlt,hu1];intro _ _;by_cases hnb:nb=⟨#[]⟩
    ·have hi:c4z dl nb = -1:=by rw[c4z,if_pos hnb]
     rw[if_pos (by simp[b2L,hnb])]at hgl;rw[hi,hgl];exact⟨fun h=>absurd (by omega) h,fun _=>rfl⟩
    have hi:c4z dl nb=Vg.firstD dl nb 0:=by rw[c4z,if_neg hnb]
    rcases b2i nb dl 0 with⟨j2,d2,r1,r2,r3,r4,r5⟩ | ⟨r1,r2⟩
    ·rw[h0w]at r1;have hgn:b1G B nb=some (btU u d2):=by rw[hgb,r5];rfl
     have hst:¬ b2L B nb=true:=by simp[b2L,hnb,hgn]
     rw[if_neg hst]at hgl;have hjl2:j2<dl.length:=(h0b.1 r2).1;have hlt2:((j2:Int)<dl.length)=True:=by simp;omega
     have hn2:(0≤(j2:Int))=True:=by simp
     rw[hi,r1];simp -implicitDefEqProofs only[go_sem,hn2,hlt2,hdg j2 d2 r2,Dl.enc,r4];refine⟨fun _=>⟨fun hc=>?_,fun hc=>⟨fun hs=>?_,fun hs=>?_⟩⟩,fun h=>by omega⟩
     ·rw[if_pos hc]at hgl;rw[hgl]
     ·rw[if_neg hc,if_pos hs]at hgl;rw[hgl]
     ·rw[if_neg hc,if_neg hs,nxB,hgn,h0A]at hgl;refine⟨(n+1,(j2:Int)),by simp only;omega,⟨by simp only;omega,.inr ⟨j2,d2,rfl,r2,r3,?_⟩⟩,hw,rfl⟩;simp only;rw[hgl,show dl.length+1 - (n+1)=f by omega]
    ·rw[if_pos (by simp[b2L,hgb,r2])]at hgl;rw[hi,r1,hgl];exact⟨fun h=>absurd (by omega) h,fun _=>rfl⟩
def b7Z(B:List (ByteArray×ByteArray))(cls:ByteArray)(o:List ByteArray)(d:Dl):List ByteArray:=if d.kind=2∧((b3M B d.name).1.any fun x=>decide (x=cls))=true then b9O o d.name else o
theorem c6O(B:List (ByteArray×ByteArray))(cls:ByteArray):∀ (l:List Dl) (o:List ByteArray),(l.foldl (b7Z B cls) o).length≤o.length+l.length
 | [],o=>by simp
 | d::r,o=>by
  have h1:=c6O B cls r (b7Z B cls o d);have h2:(b7Z B cls o d).length≤o.length+1:=by
   unfold b7Z;split
   ·exact b7I _ _
   ·simp
  rw[h0K,h0o];omega
theorem c1I(B:List (ByteArray×ByteArray))(cls:ByteArray):∀ (l:List Dl) (o:List ByteArray),Asc o→Asc (l.foldl (b7Z B cls) o)∧∀ x,x∈l.foldl (b7Z B cls) o↔x∈o∨∃ d∈l,d.kind=2∧d.name=x∧cls∈(b3M B x).1
 | [],o,h=>⟨h,by simp⟩
 | d::r,o,h=>by
  have hw:Asc (b7Z B cls o d)∧∀ x,x∈b7Z B cls o d↔x∈o∨(d.kind=2∧d.name=x∧cls∈(b3M B x).1):=by
   unfold b7Z;split
   ·rename_i hc;refine⟨b8M _ _,fun x=>?_⟩;rw[b5g];obtain⟨h2,h3⟩:=hc;rw[h1a]at h3;obtain⟨z,hz,he⟩:=h3;have:z=cls:=by simpa using he
    subst this;constructor
    ·rintro(h | rfl)
     ·exact .inl h
     ·exact .inr ⟨h2,rfl,hz⟩
    ·rintro(h | ⟨_,rfl,_⟩)
     ·exact .inl h
     ·exact .inr rfl
   ·rename_i hc;refine⟨h,fun x=>⟨.inl,?_⟩⟩;rintro(h | ⟨h2,rfl,h3⟩)
    ·exact h
    ·exact absurd ⟨h2,h1a.2 ⟨cls,h3,by simp⟩⟩ hc
  obtain⟨h1,h2⟩:=c1I B cls r _ hw.1;refine⟨h1,fun x=>?_⟩;rw[h0K,h2 x,hw.2 x];simp only[h0C,exists_eq_or_imp,or_assoc]
theorem b9q(bt:Dl→ByteArray):∀ (l:List Dl) (B:List (ByteArray×ByteArray)),(B.map (·.1)).Nodup→((l.foldl (c1Z bt) B).map (·.1)).Nodup
 | [],B,h=>h
 | d::r,B,h=>by
  rw[h0K];refine b9q bt r _ ?_;unfold c1Z;split
  ·rename_i hc;rw[h0M,h1v];refine⟨h,by simp,fun a ha b hb=>?_⟩;simp only[h0s,h0T,h0R]at hb;subst hb;rintro rfl;obtain⟨p,hp,he⟩:=h1p.1 ha;have:(b1G B d.name).isSome=true:=by
    unfold b1G;rw[Option.isSome_map,List.find?_isSome];exact⟨p,hp,by simpa using he⟩
   rw[this]at hc;cases hc.2
  ·exact h
theorem f5R(u:List Un)(cls:ByteArray):b9y u cls=(b0e u 0).foldl (b7Z (b0C (btU u) (b0e u 0)) cls) []:=by
 obtain⟨h1,h2⟩:=c1I (b0C (btU u) (b0e u 0)) cls (b0e u 0) [] List.Pairwise.nil;have hnd:=b9q (btU u) (b0e u 0) [] (by simp);refine b9x ?_ h1 fun x=>?_
 ·refine b6k ?_;exact(List.filter_sublist.map _).nodup hnd
 ·rw[h2 x];show x∈d8E _ _↔_;rw[c2o];constructor
  ·rintro⟨b,hb,hc⟩;rcases b8m _ _ _ _ hb with h | ⟨d,g1,g2,g3⟩
   ·cases h
   ·exact .inr ⟨d,g1,g2,g3,hc⟩
  ·rintro(h | ⟨d,g1,g2,rfl,hc⟩)
   ·cases h
   ·have hg:(b1G (b0C (btU u) (b0e u 0)) d.name).isSome=true:=by
     rw[b1X,Option.isSome_map,List.find?_isSome];exact⟨d,g1,by simp[b4N,g2]⟩
    obtain⟨b,hb⟩:=b9w hg;exact⟨b,hb,hc⟩
theorem d1x(u:List Un)(hu:b2D u)(cls:ByteArray):b0s env 75 [.agg (b1A u (b0e u 0)),.str cls] (sl 9 ((b9y u cls).map b0n)):=by
 have hdl:=b0H u 0 fun y hy=>(hu.2 y hy).1
 have hul:=hu.1;have hb:=fun c=>d6m u hu c cls
 have hdg:=(@b8P u (b0e u 0)).2;rw[f5R];refine b0i (fn:=Tryz.f75) Tryz.func75 rfl (by rw[Tryz.ntmps75];simp) (by simp -implicitDefEqProofs only[go_sem];exact b2j _ _) (by simp -implicitDefEqProofs only[go_sem]) ?_;have hsl:=fun q o=>c6O (b0C (btU u) (b0e u 0)) cls q o
 have hclp:=b2j u (b0e u 0);generalize hC:b1A u (b0e u 0)=C at hb hclp ⊢;generalize b0C (btU u) (b0e u 0)=B at hb hsl ⊢;generalize b0e u 0=dl at hdl hdg hC ⊢;subst hC;simp -implicitDefEqProofs only[go_sem,Tryz.f75,b1A];refine b0l (β:=Unit) dl (fun pre _=>⟨[(6,.int .i64 pre.length),(5,sl 9 ((pre.foldl (b7Z B cls) []).map b0n)),(2,.ptr 0 0),(1,.str cls)],[.cells (b1A u dl)],[]⟩)
  (fun _ _ _=>True) () ?_ trivial ?_ ?_
 ·simp -implicitDefEqProofs only[go_sem,b1A];exact⟨rfl,rfl⟩
 ·intro _ _;simp -implicitDefEqProofs only[go_sem,b1A]
 ·rintro pre d post _ hx _;have hpl:dl.length=pre.length+1+post.length:=by rw[hx];simp;omega
  have hgx:(dl.map Dl.enc).getD (pre.length:Int).toNat []=d.enc:=by rw[hx];simp[h0c]
  have hlt:((pre.length:Int)<dl.length)=True:=by simp;omega
  have hw:IntKind.i64.wrap (↑pre.length+1)=↑(pre.length+1):=b0g (by omega);have hf:(pre++[d]).foldl (b7Z B cls) []=b7Z B cls (pre.foldl (b7Z B cls) []) d:=by simp
  have hol:=hsl pre [];simp -implicitDefEqProofs only[go_sem,hgx,hlt,b1A,Dl.enc];intro _ _;refine sdq ?_;by_cases h2:d.kind=2
  ·simp -implicitDefEqProofs only[go_sem,hgx,hlt,b1A,Dl.enc,h2];refine b0L (hb d.name) (by simp -implicitDefEqProofs only[go_sem,b1A]) ?_;cases hc:((b3M B d.name).1.any fun x=>decide (x=cls))with
   | true =>
    have hs:b7Z B cls (pre.foldl (b7Z B cls) []) d=b9O (pre.foldl (b7Z B cls) []) d.name:=by rw[b7Z,if_pos ⟨h2,hc⟩]
    simp -implicitDefEqProofs only[go_sem,hgx,hlt,b1A,Dl.enc];refine(b5M (pre.foldl (b7Z B cls) []) d.name (by simp only[h0J]at hol;omega)).calls (by simp -implicitDefEqProofs only[go_sem]) ?_;simp -implicitDefEqProofs only[go_sem,hgx,hlt,b1A,Dl.enc];exact⟨(),hw,by rw[hf,hs]⟩
   | false =>
    have hs:b7Z B cls (pre.foldl (b7Z B cls) []) d=pre.foldl (b7Z B cls) []:=by rw[b7Z,if_neg (by rw[hc];simp)]
    simp -implicitDefEqProofs only[go_sem,hgx,hlt,b1A,Dl.enc];exact⟨(),hw,by rw[hf,hs]⟩
  ·have hs:b7Z B cls (pre.foldl (b7Z B cls) []) d=pre.foldl (b7Z B cls) []:=by rw[b7Z,if_neg (fun h=>h2 h.1)]
   simp -implicitDefEqProofs only[go_sem,hgx,hlt,b1A,Dl.enc,h2];exact⟨(),hw,by rw[hf,hs]⟩
theorem f0Z(u:List Un)(hu:b2D u)(cls:ByteArray):b0s env 116 [.agg (b1A u (b0e u 0)),.str cls] (sl 9 ((cls::b8W u cls).map b0n)):=by
 have hb:=c5S u hu cls;have hclp:=b2j u (b0e u 0);have hpl:=b8X (b0C (btU u) (b0e u 0)) cls;have h1:=b1i (btU u) (b0e u 0);have hdl:=b0H u 0 fun y hy=>(hu.2 y hy).1
 have hul:=hu.1;have h4:(b8W u cls).length=(b3M (b0C (btU u) (b0e u 0)) cls).1.length:=rfl;refine b0i (fn:=Tryz.f116) Tryz.func116 rfl (by rw[Tryz.ntmps116];simp) (by simp -implicitDefEqProofs only[go_sem];exact b2j _ _) (by simp -implicitDefEqProofs only[go_sem,b0n]) ?_;generalize b8W u cls=sp at hb h4 ⊢;simp -implicitDefEqProofs only[go_sem,Tryz.f116,b1A];refine hb.calls (by simp -implicitDefEqProofs only[go_sem,b1A]) ?_;simp -implicitDefEqProofs only[go_sem];exact⟨by omega,rfl⟩
def isM(cls n:ByteArray)(d:Dl):Bool:=decide (d.kind=4) && d5N cls n d
theorem d1M(u:List Un)(hu:b2D u)(cls n:ByteArray):b0s env 117 [.agg (b1A u (b0e u 0)),.str cls,.str n] (b2F ((b0e u 0).find? (isM cls n))):=by
 have hdl:=b0H u 0 fun y hy=>(hu.2 y hy).1
 have hul:=hu.1;refine b0i (fn:=Tryz.f117) Tryz.func117 rfl (by rw[Tryz.ntmps117];simp) (by simp -implicitDefEqProofs only[go_sem];exact b2j _ _) (by simp -implicitDefEqProofs only[go_sem,b2F]) ?_;generalize b0e u 0=dl at hdl ⊢;simp -implicitDefEqProofs only[go_sem,Tryz.f117,b1A];refine b0l (β:=Unit) dl (fun pre _=>⟨[(8,.int .i64 pre.length),(7,.bool false),(6,.ptr 1 0),(3,.ptr 0 0),(1,.str cls),(2,.str n)],[.cells (b1A u dl),.cells Dl.zero.enc],[]⟩)
  (fun pre post _=>dl.find? (isM cls n)=post.find? (isM cls n)) () ?_ rfl ?_ ?_
 ·simp -implicitDefEqProofs only[go_sem,b1A,Dl.zero,Dl.enc];rfl
 ·intro _ h;rw[h,List.find?_nil];simp -implicitDefEqProofs only[go_sem,b1A,b2F,Dl.zero,Dl.enc];try(exact fun _ _=>rfl)
 ·rintro pre d post _ hx h;have hpl:dl.length=pre.length+1+post.length:=by rw[hx];simp;omega
  have hgx:(dl.map Dl.enc).getD (pre.length:Int).toNat []=d.enc:=by rw[hx];simp[h0c]
  have hlt:((pre.length:Int)<dl.length)=True:=by simp;omega
  have hw:IntKind.i64.wrap (↑pre.length+1)=↑(pre.length+1):=b0g (by omega);rw[h0W]at h;have hm:isM cls n d=(decide (d.kind=4) && (decide (cls=d.owner) && decide (n=d.name))):=rfl;rw[hm]at h;simp -implicitDefEqProofs only[go_sem,hgx,hlt,b1A,Dl.enc,Dl.zero];intro _ _;refine⟨fun h4=>⟨fun ho=>⟨fun hn=>?_,fun hn=>?_⟩,fun ho=>?_⟩,fun h4=>?_⟩
  ·rw[h,h0H h4,h0H ho.symm,h0H hn.symm];rfl
  ·rw[h0H h4,h0H ho.symm,h0z (fun e=>hn e.symm)]at h;exact⟨(),h,hw⟩
  ·rw[h0H h4,h0z (fun e=>ho e.symm)]at h;exact⟨(),h,hw⟩
  ·rw[h0z h4]at h;exact⟨(),h,hw⟩
theorem c2N(u:List Un)(cls n:ByteArray):b1H u cls n=(cls::b8W u cls).findSome? fun s=>(b0e u 0).find? (isM s n):=by
 unfold b1H c2j;congr 1;funext s
 have:=c1q s n (b0e u 0) [];rw[List.find?_nil,Option.none_or]at this;exact this
theorem c6u(u:List Un)(hu:b2D u)(cls n:ByteArray):b0s env 76 [.agg (b1A u (b0e u 0)),.str cls,.str n] (b2F (b1H u cls n)):=by
 have hL:=f0Z u hu cls;have hM:=fun s=>d1M u hu s n
 have hclp:=b2j u (b0e u 0);rw[c2N];refine b0i (fn:=Tryz.f76) Tryz.func76 rfl (by rw[Tryz.ntmps76];simp) (by simp -implicitDefEqProofs only[go_sem];exact b2j _ _) (by simp -implicitDefEqProofs only[go_sem,b2F]) ?_;generalize hs:cls::b8W u cls=L at hL ⊢;simp -implicitDefEqProofs only[go_sem,Tryz.f76,b1A];refine hL.calls (by simp -implicitDefEqProofs only[go_sem,b1A]) ?_;have hLl:(L.length:Int)≤140737488355328∨True := .inr trivial;simp -implicitDefEqProofs only[go_sem];refine b0l (β:=Unit) L (fun pre _=>⟨[(9,.int .i64 pre.length),(8,sl 9 (L.map b0n)),(7,.bool false),(6,.ptr 1 0),(3,.ptr 0 0),(2,.str n)],[.cells (b1A u (b0e u 0)),.cells Dl.zero.enc],[]⟩)
  (fun pre post _=>(L.findSome? fun s=>(b0e u 0).find? (isM s n))=post.findSome? fun s=>(b0e u 0).find? (isM s n)) () ?_ rfl ?_ ?_
 ·simp -implicitDefEqProofs only[go_sem,b1A,Dl.zero,Dl.enc];rfl
 ·intro _ h;rw[h,List.findSome?_nil];simp -implicitDefEqProofs only[go_sem,b1A,b2F,Dl.zero,Dl.enc];exact fun _ _=>rfl
 ·rintro pre s post _ hx h;have hpl:L.length=pre.length+1+post.length:=by rw[hx];simp;omega
  have hgx:(L.map b0n).getD (pre.length:Int).toNat []=b0n s:=by rw[hx];simp[h0c]
  have hlt:((pre.length:Int)<L.length)=True:=by simp;omega
  rw[List.findSome?_cons]at h;simp -implicitDefEqProofs only[go_sem,hgx,hlt,b1A,b0n,Dl.zero,Dl.enc];intro _ hl2;have hw:IntKind.i64.wrap (↑pre.length+1)=↑(pre.length+1):=b0g (by omega);refine sdq ?_;simp -implicitDefEqProofs only[go_sem,hgx,hlt,b1A,b0n,Dl.zero,Dl.enc];refine b0L (hM s) (by simp -implicitDefEqProofs only[go_sem,b1A]) ?_;cases hf:(b0e u 0).find? (isM s n)with
  | some d =>
   rw[hf]at h;simp only at h;rw[h];simp -implicitDefEqProofs only[go_sem,b2F,h0A,h0L,Dl.enc,Dl.zero]
  | none =>
   rw[hf]at h;simp -implicitDefEqProofs only[go_sem,b2F,h1f,h0y,Dl.enc,Dl.zero];refine⟨(),h,hw,.inr ?_⟩;rw[b0m _ _ _ (b0D _),b0m _ _ _ (b7f _),b0m _ _ _ (b7f _)];rfl
end Go.Proofs.YtighfcpaplmaiaaGreatDoor
namespace Go.Vg
def f2a(d e:Dl):Bool:=decide (e.kind=d.kind) && (decide (e.name=d.name) && (decide (d.kind=2) || decide (e.owner=d.owner)))
def d8l(p:List Dl)(d:Dl):Bool:=c0Z d && p.any (f2a d)
def d7v:List Dl→List Dl→Option Dl
 | _,[]=>none
 | p,d::r=>if d8l p d=true then some d else d7v (p++[d]) r
theorem d8H(h:Dl→Prop)(hk:∀ d,h d→d.kind=2→d.owner=⟨#[]⟩):∀ (l p:List Dl),(∀ d∈p,h d)→(∀ d∈l,h d)→d7v p l=b2b (p.filter c0Z) l
 | [],p,_,_=>rfl
 | d::r,p,hp,hl=>by
  have hd:=hl d (by simp);rw[d7v,b2b];have ih:=d8H h hk r (p++[d]) (fun x hx=>by
   rcases h0E.1 hx with hx | hx
   ·exact hp x hx
   ·simp only[h0R]at hx;subst hx;exact hd) (fun x hx=>hl x (by simp[hx]))
  rw[List.filter_append]at ih;by_cases hc:c0Z d=true
  ·have hf:[d].filter c0Z=[d]:=by simp[hc]
   rw[hf]at ih;have he:p.any (f2a d)=(p.filter c0Z).any (b5y d):=by
    rw[List.any_filter];rw[h1k,h1a,h1a];constructor
    ·rintro⟨x,hx,hs⟩;refine⟨x,hx,?_⟩;simp only[f2a,h0k,h0l,h1u]at hs;obtain⟨h1,h2,h3⟩:=hs;have ho:d.owner=x.owner:=by
      rcases h3 with h3 | h3
      ·rw[hk d hd h3,hk x (hp x hx) (by omega)]
      ·exact h3.symm
     have hcx:c0Z x=true:=by
      simp only[c0Z,h1u,h0l]at hc ⊢;omega
     simp[hcx,b5y,h1,h2,ho]
    ·rintro⟨x,hx,hs⟩;refine⟨x,hx,?_⟩;simp only[b5y,h0k,h0l]at hs;obtain⟨_,h1,h2,h3⟩:=hs;simp[f2a,h1,h2,h3]
   rw[if_pos hc,d8l,hc,h0S,he];split
   ·rfl
   ·exact ih
  ·have hf:[d].filter c0Z=[]:=by simp[hc]
   rw[hf,h0F]at ih;have hcf:c0Z d=false:=by simpa using hc
   rw[if_neg hc,d8l,hcf,h0U,if_neg (by simp)];exact ih
theorem c5a(B:List (ByteArray×ByteArray)):∀ (f:Nat) (n:ByteArray),c2C B ⟨#[]⟩ f n=false
 | 0,_=>rfl
 | f+1,n=>by
  rw[c2C];split
  ·rfl
  ·rename_i h;rw[if_neg (by rintro rfl;exact h (by simp[b2L]))];exact c5a B f _
end Go.Vg
namespace Go.Proofs.YtighfcpaplmaiaaGreatDoor
open Go Go.Vg Go.Proofs
theorem c8w(dl:List Dl)(i:Nat)(d:Dl)(hd:dl[i]? = some d)(hl:dl.length≤1000000):b0s env 159 [sl 54 (dl.map Dl.enc),.int .i64 i] (.bool (d8l (dl.take i) d)):=by
 have hil:=(h0b.1 hd).1;refine b0i (fn:=Tryz.f159) Tryz.func159 rfl (by rw[Tryz.ntmps159];simp) (by simp -implicitDefEqProofs only[go_sem];exact b0D _) rfl ?_;have hgd:(dl.map Dl.enc).getD ((i:Nat):Int).toNat []=d.enc:=by simp[h0c,hd]
 have hlt:((i:Int)<dl.length)=True:=by simp;omega
 have hi0:(0≤(i:Int))=True:=by simp
 obtain⟨P,hP⟩:∃ P,P=dl.take i:=⟨_,rfl⟩
 have hPl:P.length=i:=by rw[hP,List.length_take];omega
 have hPg:∀ (k:Nat) x,P[k]? = some x→(dl.map Dl.enc).getD ((k:Nat):Int).toNat []=x.enc:=fun k x h=>by
  have hk:=(h0b.1 h).1;rw[hP,List.getElem?_take_of_lt (by omega)]at h;simp[h0c,h]
 rw[←hP];simp -implicitDefEqProofs only[go_sem,Tryz.f159,hgd,hlt,hi0,Dl.enc];refine⟨fun h2=>⟨fun h4=>?_,fun h4=>?_⟩,fun h2=>?_⟩
 ·have:d8l P d=false:=by
   simp at h2 h4;simp[d8l,c0Z,h2,h4]
  rw[this]
 all_goals
  have hcm:c0Z d=true:=by
   simp only[c0Z,h1u,h0l];first | exact .inr (by simpa using h4) | exact .inl (by simpa using h2)
  rw[d8l,hcm,h0S];refine b0l (β:=Unit) P (fun pre _=>⟨[(5,.int .i64 pre.length),(4,.bool false),(0,sl 54 (dl.map Dl.enc)),(1,.int .i64 i)],[],[]⟩)
   (fun pre post _=>P.any (f2a d)=post.any (f2a d)) () ?_ rfl ?_ ?_
  ·simp -implicitDefEqProofs only[go_sem];rfl
  ·intro _ h;have hnl:((P.length:Int)<i)=False:=by simp;omega
   rw[h];simp -implicitDefEqProofs only[go_sem,hnl];try rfl
  ·rintro pre x post _ hx h;have hpl:P.length=pre.length+1+post.length:=by rw[hx];simp;omega
   have hgx:=hPg pre.length x (by rw[hx];simp);have hlk:((pre.length:Int)<i)=True:=by simp;omega
   have hlx:((pre.length:Int)<dl.length)=True:=by simp;omega
   have hw:IntKind.i64.wrap (↑pre.length+1)=↑(pre.length+1):=b0g (by omega);rw[List.any_cons]at h;have hm:f2a d x=(decide (x.kind=d.kind) && (decide (x.name=d.name) && (decide (d.kind=2) || decide (x.owner=d.owner)))):=rfl;simp -implicitDefEqProofs only[go_sem,hgx,hlk,hlx,hgd,hlt,hi0,Dl.enc];refine sdq ?_;simp -implicitDefEqProofs only[go_sem,hgx,hlk,hlx,hgd,hlt,hi0,Dl.enc];rw[hm]at h;refine⟨fun g1=>⟨fun g2=>⟨fun g3=>⟨fun g4=>?_,fun g4=>⟨(),?_,hw⟩⟩,fun g3=>?_⟩,fun g2=>⟨(),?_,hw⟩⟩,fun g1=>⟨(),?_,hw⟩⟩
   ·rw[h];simp[g1,g2,g4]
   ·rw[h];simp[g3,g4]
   ·rw[h];simp[g1,g2,g3]
   ·rw[h];simp[g2]
   ·rw[h];simp[g1]
theorem d4n(u:List Un)(hu:b2D u)(cls:ByteArray):b0s env 160 [.agg (b1A u (b0e u 0)),.str cls] (.bool (c2C (b0C (btU u) (b0e u 0)) cls ((b0e u 0).length+1) (nxB (b0C (btU u) (b0e u 0)) cls))):=by
 have hdl:=b0H u 0 fun y hy=>(hu.2 y hy).1
 have hul:=hu.1;have hbl:=b1i (btU u) (b0e u 0);have hgb:=fun n=>b1X (btU u) n (b0e u 0)
 have hrd:∀ d∈b0e u 0,d.kind=2→(b2C u d).2=btU u d:=fun d h1 h2=>b8S h1 h2
 refine b0i (fn:=Tryz.f160) Tryz.func160 rfl (by rw[Tryz.ntmps160];simp) (by simp -implicitDefEqProofs only[go_sem];exact b2j _ _) rfl ?_;obtain⟨hup,hdg⟩:=@b8P u (b0e u 0);generalize b0C (btU u) (b0e u 0)=B at hbl hgb ⊢;generalize hdd:b0e u 0=dl at hdl hbl hgb hrd hup hdg ⊢;simp -implicitDefEqProofs only[go_sem,Tryz.f160,b1A];refine(b7y dl cls).calls (by simp -implicitDefEqProofs only[go_sem]) ?_;simp -implicitDefEqProofs only[go_sem];generalize hgo:c2C B cls (dl.length+1) (nxB B cls)=goal;refine b1u (α:=Nat×Int) (fun s=>⟨[(6,.int .i64 s.1),(5,.int .i64 s.2),(4,.bool false),(2,.ptr 0 0),(1,.str cls)],[.cells (b1A u dl)],[]⟩)
  (fun s=>s.1≤dl.length+1∧((s.2 = -1∧goal=false)∨∃ (j:Nat) (d:Dl),s.2=j∧dl[j]? = some d∧d.kind=2∧goal=c2C B cls (dl.length+1 - s.1) (btU u d))) (fun s=>dl.length+2 - s.1) (0,Vg.firstD dl cls 0) ?_ ⟨by simp,?_⟩ ?_
 ·simp -implicitDefEqProofs only[go_sem,b1A];try rfl
 ·rcases b2i cls dl 0 with⟨j,d,q1,q2,q3,q4,q5⟩ | ⟨q1,q2⟩
  ·refine .inr ⟨j,d,by simpa using q1,q2,q3,?_⟩;have hgc:nxB B cls=btU u d:=by rw[nxB,hgb,q5];rfl
   rw[←hgo,hgc];rfl
  ·refine .inl ⟨q1,?_⟩;have hgc:nxB B cls=⟨#[]⟩:=by rw[nxB,hgb,q2];rfl
   rw[←hgo,hgc,c2C,if_pos (by simp[b2L])]
 ·rintro⟨n,at'⟩ ⟨hn,hc⟩;simp only at hn hc ⊢;rcases hc with⟨rfl,hgf⟩ | ⟨j,d,rfl,hd,hk,hgl⟩
  ·rw[hgf];simp -implicitDefEqProofs only[go_sem,b1A]
  ·have hjl:j<dl.length:=(h0b.1 hd).1;have hlt:((j:Int)<dl.length)=True:=by simp;omega
   have hj0:(0≤(j:Int))=True:=by simp
   have hbd:(b2C u d).2=btU u d:=hrd d (h0j hd) hk;have hu1:=hup j d hd;rw[hbd]at hu1;generalize btU u d=nb at hgl hu1;rcases h1A dl.length n with hnl | hnl
   ·have e:dl.length+1 - n=0:=by omega
    rw[e]at hgl;have hcn:((n:Int)≤dl.length)=False:=by simp;omega
    rw[hgl,c2C];simp -implicitDefEqProofs only[go_sem,b1A,hcn,hj0]
   ·obtain⟨f,hf⟩:∃ f,dl.length+1 - n=f+1:=⟨dl.length - n,by omega⟩
    have hcn:((n:Int)≤dl.length)=True:=by simp;omega
    have hw:IntKind.i64.wrap (↑n+1)=↑(n+1):=b0g (by omega);rw[hf,c2C]at hgl;simp -implicitDefEqProofs only[go_sem,b1A,hcn,hj0,hlt,hu1];intro _ _;by_cases hnb:nb=⟨#[]⟩
    ·have hi:c4z dl nb = -1:=by rw[c4z,if_pos hnb]
     rw[if_pos (by simp[b2L,hnb])]at hgl;rw[hi];simp -implicitDefEqProofs only[go_sem,b1A];exact⟨(n+1,-1),by simp only;omega,⟨by simp only;omega,.inl ⟨rfl,hgl⟩⟩,hw,rfl⟩
    have hi:c4z dl nb=Vg.firstD dl nb 0:=by rw[c4z,if_neg hnb]
    rcases b2i nb dl 0 with⟨j2,d2,r1,r2,r3,r4,r5⟩ | ⟨r1,r2⟩
    ·rw[h0w]at r1;have hgn:b1G B nb=some (btU u d2):=by rw[hgb,r5];rfl
     have hst:¬ b2L B nb=true:=by simp[b2L,hnb,hgn]
     rw[if_neg hst]at hgl;have hjl2:j2<dl.length:=(h0b.1 r2).1;have hlt2:((j2:Int)<dl.length)=True:=by simp;omega
     have hn2:(0≤(j2:Int))=True:=by simp
     rw[hi,r1];simp -implicitDefEqProofs only[go_sem,hn2,hlt2,hdg j2 d2 r2,Dl.enc,r4];refine⟨fun hc=>?_,fun hc=>?_⟩
     ·rw[if_pos hc]at hgl;rw[hgl]
     ·rw[if_neg hc,nxB,hgn,h0A]at hgl;refine⟨(n+1,(j2:Int)),by simp only;omega,⟨by simp only;omega,.inr ⟨j2,d2,rfl,r2,r3,?_⟩⟩,hw,rfl⟩;simp only;rw[hgl,show dl.length+1 - (n+1)=f by omega]
    ·rw[if_pos (by simp[b2L,hgb,r2])]at hgl;rw[hi,r1];simp -implicitDefEqProofs only[go_sem,b1A];exact⟨(n+1,-1),by simp only;omega,⟨by simp only;omega,.inl ⟨rfl,hgl⟩⟩,hw,rfl⟩
def d8k(u:List Un)(dl:List Dl)(d:Dl):Bool:=decide (d.kind=2) && c2C (b0C (btU u) dl) d.name (dl.length+1) (nxB (b0C (btU u) dl) d.name)
def c6o(u:List Un)(dl:List Dl):Int×Int×Int:=match dl.find? (d8k u dl)with
 | some d=>(10,d.unit,d.node)
 | none=>(0,0,0)
def noB(u:List Un)(dl:List Dl)(d:Dl):Bool := !decide ((b2C u d).2=⟨#[]⟩) && decide (upD u dl d<0)
def c5y(u:List Un)(dl:List Dl):Int×Int×Int:=match dl.find? (noB u dl)with
 | some d=>(9,d.unit,(b2C u d).1)
 | none=>c6o u dl
def b9k(u:List Un)(dl:List Dl):Int×Int×Int:=match d7v [] dl with
 | some d=>(6,d.unit,d.node)
 | none=>c5y u dl
theorem d6Q(u:List Un)(hu:b2D u):b0s env 101 [sl 70 (u.map Un.enc)] (c3E (b9k u (b0e u 0))):=by
 have hRd:=d2n u hu;have hRr:=d4n u hu;have hRp:=fun i d h1 h2=>c8w (b0e u 0) i d h1 h2
 have hdl:=b0H u 0 fun y hy=>(hu.2 y hy).1
 have hul:=hu.1;have hdl2:(b0e u 0).length≤1000000:=by omega
 obtain⟨hup,hdg⟩:=@b8P u (b0e u 0);refine b0i (fn:=Tryz.f101) Tryz.func101 rfl (by rw[Tryz.ntmps101];simp) (by simp -implicitDefEqProofs only[go_sem];exact b0v _) rfl ?_;simp -implicitDefEqProofs only[go_sem,Tryz.f101];refine hRd.cq ?_;generalize b0e u 0=dl at hdl hdl2 hRr hRp hup hdg ⊢;simp -implicitDefEqProofs only[go_sem,b1A];refine b0l (β:=Unit) dl (fun pre _=>⟨[(5,.int .i64 pre.length),(4,.ptr 1 0),(3,.ptr 0 0),(2,.int .i64 0)],[.cells [.int .i64 0,.int .i64 0],.cells (b1A u dl)],[]⟩)
  (fun pre post _=>d7v [] dl=d7v pre post) () ?_ rfl ?_ ?_
 ·simp -implicitDefEqProofs only[go_sem,b1A];rfl
 ·intro _ h;have hr1:b9k u dl=c5y u dl:=by rw[b9k,h];rfl
  rw[hr1];simp -implicitDefEqProofs only[go_sem,b1A];intro _ _;refine b0l (β:=Unit) dl (fun pre _=>⟨[(6,.int .i64 pre.length),(4,.ptr 1 0),(3,.ptr 0 0),(2,.int .i64 0)],[.cells [.int .i64 0,.int .i64 0],.cells (b1A u dl)],[]⟩)
   (fun pre post _=>dl.find? (noB u dl)=post.find? (noB u dl)) () ?_ rfl ?_ ?_
  ·simp -implicitDefEqProofs only[go_sem,b1A];rfl
  ·intro _ h;have hr2:c5y u dl=c6o u dl:=by rw[c5y,h];rfl
   rw[hr2];simp -implicitDefEqProofs only[go_sem,b1A];intro _ _;refine b0l (β:=Unit) dl (fun pre _=>⟨[(7,.int .i64 pre.length),(4,.ptr 1 0),(3,.ptr 0 0),(2,.int .i64 0)],[.cells [.int .i64 0,.int .i64 0],.cells (b1A u dl)],[]⟩)
    (fun pre post _=>dl.find? (d8k u dl)=post.find? (d8k u dl)) () ?_ rfl ?_ ?_
   ·simp -implicitDefEqProofs only[go_sem,b1A];rfl
   ·intro _ h;have hr3:c6o u dl=(0,0,0):=by rw[c6o,h];rfl
    rw[hr3];simp -implicitDefEqProofs only[go_sem,b1A,c3E]
   ·rintro pre d post _ hx h;have hpl:dl.length=pre.length+1+post.length:=by rw[hx];simp;omega
    have hgx:(dl.map Dl.enc).getD (pre.length:Int).toNat []=d.enc:=by rw[hx];simp[h0c]
    have hlt:((pre.length:Int)<dl.length)=True:=by simp;omega
    have hw:IntKind.i64.wrap (↑pre.length+1)=↑(pre.length+1):=b0g (by omega);rw[h0W]at h;have hm:d8k u dl d=(decide (d.kind=2) && c2C (b0C (btU u) dl) d.name (dl.length+1) (nxB (b0C (btU u) dl) d.name)):=rfl;rw[hm]at h;have hrr:=hRr d.name;generalize c2C (b0C (btU u) dl) d.name (dl.length+1) (nxB (b0C (btU u) dl) d.name)=bb at h hrr;simp -implicitDefEqProofs only[go_sem,hgx,hlt,b1A,Dl.enc];intro _ _;refine sdq ?_;by_cases h2:d.kind=2
    ·rw[h0H h2,h0S]at h;simp -implicitDefEqProofs only[go_sem,hgx,hlt,b1A,Dl.enc,h2];refine b0L hrr (by simp -implicitDefEqProofs only[go_sem,b1A]) ?_;cases bb with
     | true =>
      have hr:c6o u dl=(10,d.unit,d.node):=by rw[c6o,h]
      rw[hr];simp -implicitDefEqProofs only[go_sem,hgx,hlt,b1A,Dl.enc];refine sdq ?_;simp -implicitDefEqProofs only[go_sem,hgx,hlt,b1A,Dl.enc,c3E]
     | false =>
      simp -implicitDefEqProofs only[go_sem,hgx,hlt,b1A,Dl.enc];exact⟨(),h,hw⟩
    ·rw[h0z h2,h0U]at h;simp -implicitDefEqProofs only[go_sem,hgx,hlt,b1A,Dl.enc,h2];exact⟨(),h,hw⟩
  ·rintro pre d post _ hx h;have hpl:dl.length=pre.length+1+post.length:=by rw[hx];simp;omega
   have hgx:(dl.map Dl.enc).getD (pre.length:Int).toNat []=d.enc:=by rw[hx];simp[h0c]
   have hg2:((dl.map fun d=>(b2C u d).2).map b0n).getD (pre.length:Int).toNat []=b0n (b2C u d).2:=by rw[hx];simp[h0c]
   have hg1:((dl.map fun d=>(b2C u d).1).map c4a).getD (pre.length:Int).toNat []=c4a (b2C u d).1:=by rw[hx];simp[h0c]
   have hg3:((dl.map (upD u dl)).map c4a).getD (pre.length:Int).toNat []=c4a (upD u dl d):=by
    have hd:dl[pre.length]? = some d:=by rw[hx];simp
    simp[h0c,hd]
   have hlt:((pre.length:Int)<dl.length)=True:=by simp;omega
   have hw:IntKind.i64.wrap (↑pre.length+1)=↑(pre.length+1):=b0g (by omega);rw[h0W]at h;have hm:noB u dl d=(!decide ((b2C u d).2=⟨#[]⟩) && decide (upD u dl d<0)):=rfl;rw[hm]at h;simp -implicitDefEqProofs only[go_sem,hgx,hlt,hg1,hg2,hg3,b1A,b0n,c4a,Dl.enc];intro _ _;refine⟨fun h1=>⟨fun h2=>?_,fun h2=>?_⟩,fun h1=>?_⟩
   ·rw[h1,h0H h2]at h;have hr:c5y u dl=(9,d.unit,(b2C u d).1):=by rw[c5y,h];rfl
    rw[hr];refine sdq ?_;simp -implicitDefEqProofs only[go_sem,hgx,hlt,hg1,hg2,hg3,b1A,b0n,c4a,Dl.enc,c3E]
   ·rw[h0z h2,Bool.and_false]at h;exact⟨(),h,hw⟩
   ·rw[h1,h0U]at h;exact⟨(),h,hw⟩
 ·rintro pre d post _ hx h;have hpl:dl.length=pre.length+1+post.length:=by rw[hx];simp;omega
  have hgx:(dl.map Dl.enc).getD (pre.length:Int).toNat []=d.enc:=by rw[hx];simp[h0c]
  have hlt:((pre.length:Int)<dl.length)=True:=by simp;omega
  have hw:IntKind.i64.wrap (↑pre.length+1)=↑(pre.length+1):=b0g (by omega);have hrp:=hRp pre.length d (by rw[hx];simp) hdl2;have htk:dl.take pre.length=pre:=by rw[hx];simp
  rw[htk]at hrp;rw[d7v]at h;simp -implicitDefEqProofs only[go_sem,hgx,hlt,b1A,Dl.enc];intro _ _;refine hrp.cq ?_;cases hc:d8l pre d with
  | true =>
   rw[hc,if_pos rfl]at h;have hr:b9k u dl=(6,d.unit,d.node):=by rw[b9k,h]
   rw[hr];simp -implicitDefEqProofs only[go_sem,hgx,hlt,b1A,Dl.enc];refine sdq ?_;simp -implicitDefEqProofs only[go_sem,hgx,hlt,b1A,Dl.enc,c3E]
  | false =>
   rw[hc,if_neg (by simp)]at h;simp -implicitDefEqProofs only[go_sem,hgx,hlt,b1A,Dl.enc];exact⟨(),h,hw⟩
theorem d3D{u:List Un}(hu:b2D u):(b9k u (b0e u 0)).1=(b3r u (b0e u 0)).1:=by
 have hbl:=b1i (btU u) (b0e u 0);have hrep:d7v [] (b0e u 0)=b2b [] (b0e u 0):=by
  have:=d8H (fun d=>d∈b0e u 0) (fun d hd hk=>?_) (b0e u 0) [] (by simp) (fun d hd=>hd)
  ·simpa using this
  ·obtain⟨un,x,j,y,a,h1,h2,h3,h4⟩:=b4J u 0 d hd;unfold b2u at h4
   repeat' split at h4
   all_goals first | (cases h4;done) | (cases h4;simp_all)
 have hno:(b0e u 0).find? (noB u (b0e u 0))=(b0e u 0).find? (b4j u (b0C (btU u) (b0e u 0))):=by
  refine b3K fun d hd=>?_
  unfold noB b4j upD;by_cases h2:d.kind=2
  ·rw[b8S hd h2,h0H h2,h0S];by_cases hb:btU u d=⟨#[]⟩
   ·simp[hb]
   ·rw[if_neg hb,b1X,Option.isSome_map];congr 1;rcases b2i (btU u d) (b0e u 0) 0 with⟨j,e,q1,q2,q3,q4,q5⟩ | ⟨q1,q2⟩
    ·rw[q1,q5];simp
    ·rw[q1,q2];simp
  ·have:b2C u d=(-1,⟨#[]⟩):=by rw[b2C,if_neg h2]
   rw[this,h0z h2];simp
 have hrn:(b0e u 0).find? (d8k u (b0e u 0))=(b0e u 0).find? (b3D (b0C (btU u) (b0e u 0))):=by
  refine b3K fun d hd=>?_
  by_cases h2:d.kind=2
  rotate_left
  ·rw[d8k,b3D,h0z h2,h0U,h0U]
  by_cases hn:d.name=⟨#[]⟩
  ·rw[d8k,b3D,hn,c5a];cases decide ((b3M (b0C (btU u) (b0e u 0)) ⟨#[]⟩).2=⟨#[]⟩) <;> simp
  ·have hg:(b1G (b0C (btU u) (b0e u 0)) d.name).isSome=true:=by
    rw[b1X,Option.isSome_map,List.find?_isSome];exact⟨d,hd,by simp[b4N,h2]⟩
   rw[d8k,b3D,d7s _ (by simp[b2L,hn,hg]) (by omega)];congr 1;by_cases he:(b3M (b0C (btU u) (b0e u 0)) d.name).2=d.name
   ·rw[he];simp[hn]
   ·simp[he]
 unfold b9k b3r c5y c6o;rw[hrep];cases b2b [] (b0e u 0)with
 | some d=>rfl
 | none =>
  simp only;rw[hno];cases (b0e u 0).find? (b4j u (b0C (btU u) (b0e u 0)))with
  | some d=>rfl
  | none =>
   simp only;rw[hrn];cases (b0e u 0).find? (b3D (b0C (btU u) (b0e u 0))) <;> rfl
end Go.Proofs.YtighfcpaplmaiaaGreatDoor
namespace Go.Vg
def c0R(k:Int)(t:ByteArray):Int:=if k=19∨k=11 then 6 else if k=20 then 1 else if k=22 then 2 else if k=5 then(if t=⟨#[105,110,116]⟩∨t=⟨#[98,111,111,108]⟩then 0 else 2)else if k=8 then(if t=⟨#[]⟩then 0 else 2)else 0
def c7D(l:List Rw)(k c:Nat):Bool:=decide (c<k) && decide ((b0h l c).kind=10)
def b8q(l:List Rw)(k c q:Nat):Bool:=decide (c<k) && (decide ((b0h l c).kind=3) && decide ((b0h l q).kind=4))
def b6Q(l:List Rw)(p k:Nat):List Nat:=(if(b0h l p).kind=6 then(b0h l p).kids.filter (c7D l k)else [])++(if(b0h l p).kind=2∧(b0h l k).kind=6 then(b0h l p).kids.flatMap fun c=>(b0h l c).kids.filter (b8q l k c)else [])
def c8U(l:List Rw):Nat→Nat→List Nat
 | 0,_=>[]
 | f+1,k=>if(b0h l k).parent<0 then []else b6Q l (b0h l k).parent.toNat k++(if(b0h l (b0h l k).parent.toNat).kind=2 then []else c8U l f (b0h l k).parent.toNat)
theorem c1K{α β:Type}{f:α→List β}{m:Nat}:∀ (l:List α),(∀ x∈l,(f x).length≤m)→(l.flatMap f).length≤l.length * m
 | [],_=>by simp
 | x::r,h=>by
  have h1:=c1K r fun y hy=>h y (by simp[hy])
  have h2:=h x (by simp);rw[List.flatMap_cons,h0h,h0o,Nat.succ_mul];omega
theorem c1s:∀ l:List Nat,b0P (l.map b0J)=true
 | []=>rfl
 | x::r=>by show(b0Y (b0J x) && b0P (r.map b0J))=true;rw[c1s r];rfl
end Go.Vg
namespace Go.Proofs.YtighfcpaplmaiaaGreatDoor
open Go Go.Vg Go.Proofs
theorem c7p(r:Rw):b0s env 169 [.agg r.enc] (.int .i64 (c0R r.kind r.text)):=by
 refine b0i (fn:=Tryz.f169) Tryz.func169 rfl (by rw[Tryz.ntmps169];simp) (by simp -implicitDefEqProofs only[go_sem];exact b8O _) rfl ?_;simp -implicitDefEqProofs only[go_sem,Tryz.f169,Rw.enc]
 repeat' (first | apply And.intro | intro)
 all_goals(simp only[V.int.injEq,true_and])
 all_goals(unfold c0R)
 all_goals simp_all
theorem d4R(r:Rw):b0s env 106 [.agg r.enc] (.bool (!decide (c0R r.kind r.text=0))):=by
 refine b0i (fn:=Tryz.f106) Tryz.func106 rfl (by rw[Tryz.ntmps106];simp) (by simp -implicitDefEqProofs only[go_sem];exact b8O _) rfl ?_;simp -implicitDefEqProofs only[go_sem,Tryz.f106];refine(c7p r).calls (by simp -implicitDefEqProofs only[go_sem,b4y]) ?_;simp -implicitDefEqProofs only[go_sem]
theorem c6h(l:List Rw)(hr:rowsOK l)(p k:Nat)(hp:p<l.length)(hk:k<l.length):b0s env 201 [sl 48 (l.map Rw.enc),.int .i64 p,.int .i64 k] (sl 3 ((b6Q l p k).map b0J)):=by
 have hgp:=b0z hp;have hgk:=b0z hk;have hlp:((p:Int)<l.length)=True:=by simp;omega
 have hlk:((k:Int)<l.length)=True:=by simp;omega
 have hp0:(0≤(p:Int))=True:=by simp
 have hk0:(0≤(k:Int))=True:=by simp
 refine b0i (fn:=Tryz.f201) Tryz.func201 rfl (by rw[Tryz.ntmps201];simp) (by simp -implicitDefEqProofs only[go_sem];exact b0T _) (by simp -implicitDefEqProofs only[go_sem];exact c1s _) ?_;have hkp:=(hr.kids p hp).1;have hkpl:=(hr.kids p hp).2;simp -implicitDefEqProofs only[go_sem,Tryz.f201,hgp,hgk,hlp,hlk,hp0,hk0,Rw.enc];refine⟨fun h6=>?_,fun h6=>⟨fun h2=>⟨fun hk6=>?_,fun hk6=>?_⟩,fun h2=>?_⟩⟩
 ·have hdc:b6Q l p k=(b0h l p).kids.filter (c7D l k):=by rw[b6Q,if_pos h6,if_neg (by omega),h0F]
  rw[hdc];generalize hks:(b0h l p).kids=ks at hgp hkp hkpl ⊢;refine b0l (β:=Unit) ks (fun pre _=>⟨[(8,.int .i64 pre.length),(7,.slice (.arr 0) 3 ((pre.filter (c7D l k)).map b0J)),(0,sl 48 (l.map Rw.enc)),(1,.int .i64 p),(2,.int .i64 k)],[],[(pre.filter (c7D l k)).length]⟩)
   (fun _ _ _=>True) () ?_ trivial ?_ ?_
  ·simp -implicitDefEqProofs only[go_sem];exact⟨rfl,rfl⟩
  ·intro _ _;simp -implicitDefEqProofs only[go_sem,hgp,hgk,hlp,hlk,hp0,hk0,hks,Rw.enc];intro _ _;exact fun h2=>absurd h2 (by omega)
  ·rintro pre c post _ hx _;have hpl:ks.length=pre.length+1+post.length:=by rw[hx];simp;omega
   have hgx:(ks.map b0J).getD (pre.length:Int).toNat []=b0J c:=by rw[hx];simp[h0c]
   have hlt:((pre.length:Int)<ks.length)=True:=by simp;omega
   have hw:IntKind.i64.wrap (↑pre.length+1)=↑(pre.length+1):=b0g (by omega);have hcl:=hkpl c (by rw[hx];simp);have hgc:=b0z hcl;have hlc:((c:Int)<l.length)=True:=by simp;omega
   have hc0:(0≤(c:Int))=True:=by simp
   have hfl:=h1o (c7D l k) pre;have hf:(pre++[c]).filter (c7D l k)=pre.filter (c7D l k)++(if c7D l k c=true then [c]else []):=by
    rw[List.filter_append];congr 1;cases h:c7D l k c <;> simp[h]
   simp -implicitDefEqProofs only[go_sem,hgp,hgk,hlp,hlk,hp0,hk0,hgx,hlt,hgc,hlc,hc0,hks,b0J,Rw.enc];intro _ _;have hm:c7D l k c=(decide (c<k) && decide ((b0h l c).kind=10)):=rfl;refine⟨fun g1=>⟨fun g2=>?_,fun g2=>?_⟩,fun g1=>?_⟩
   ·have:c7D l k c=true:=by rw[hm,h0H (by omega),h0H g2];rfl
    rw[hf,if_pos this];exact⟨by omega,(),⟨hw,by simp[b0J]⟩,by simp⟩
   ·have:c7D l k c=false:=by rw[hm,h0z g2];simp
    rw[hf,if_neg (by rw[this];simp),h0F];exact⟨(),⟨hw,rfl⟩,rfl⟩
   ·have:c7D l k c=false:=by rw[hm,h0z (by omega)];rfl
    rw[hf,if_neg (by rw[this];simp),h0F];exact⟨(),⟨hw,rfl⟩,rfl⟩
 ·have hdc:b6Q l p k=(b0h l p).kids.flatMap fun c=>(b0h l c).kids.filter (b8q l k c):=by rw[b6Q,if_neg h6,if_pos ⟨h2,hk6⟩];rfl
  rw[hdc];generalize hks:(b0h l p).kids=ks at hgp hkp hkpl ⊢;refine b0l (β:=Unit) ks (fun pre _=>⟨[(10,.int .i64 pre.length),(7,.slice (.arr 0) 3 ((pre.flatMap fun c=>(b0h l c).kids.filter (b8q l k c)).map b0J)),(0,sl 48 (l.map Rw.enc)),(1,.int .i64 p),(2,.int .i64 k)],[],[(pre.flatMap fun c=>(b0h l c).kids.filter (b8q l k c)).length]⟩)
   (fun _ _ _=>True) () ?_ trivial ?_ ?_
  ·simp -implicitDefEqProofs only[go_sem];exact⟨rfl,rfl⟩
  ·intro _ _;simp -implicitDefEqProofs only[go_sem,hgp,hgk,hlp,hlk,hp0,hk0,hks,Rw.enc]
  ·rintro pre c post _ hx _;have hpl:ks.length=pre.length+1+post.length:=by rw[hx];simp;omega
   have hgx:(ks.map b0J).getD (pre.length:Int).toNat []=b0J c:=by rw[hx];simp[h0c]
   have hlt:((pre.length:Int)<ks.length)=True:=by simp;omega
   have hw:IntKind.i64.wrap (↑pre.length+1)=↑(pre.length+1):=b0g (by omega);have hcl:=hkpl c (by rw[hx];simp);have hgc:=b0z hcl;have hlc:((c:Int)<l.length)=True:=by simp;omega
   have hc0:(0≤(c:Int))=True:=by simp
   obtain⟨hkc,hkcl⟩:=hr.kids c hcl;have hfl:(pre.flatMap fun c=>(b0h l c).kids.filter (b8q l k c)).length≤1000000000000:=by
    have hmm:∀ c∈pre,((b0h l c).kids.filter (b8q l k c)).length≤1000000:=fun c hc=>by
     have:=(hr.kids c (hkpl c (by rw[hx];simp[hc]))).1;have:=h1o (b8q l k c) (b0h l c).kids;omega
    have:=c1K pre hmm;omega
   simp -implicitDefEqProofs only[go_sem,hgp,hgk,hlp,hlk,hp0,hk0,hgx,hlt,hgc,hlc,hc0,hks,b0J,Rw.enc];intro _ _;generalize hjs:(b0h l c).kids=js at hkc hkcl;generalize hO:(pre.flatMap fun c=>(b0h l c).kids.filter (b8q l k c))=O at hfl ⊢;refine b0l (β:=Unit) js (fun q _=>⟨[(12,.int .i64 q.length),(11,.int .i64 c),(10,.int .i64 pre.length),(7,.slice (.arr 0) 3 ((O++q.filter (b8q l k c)).map b0J)),(0,sl 48 (l.map Rw.enc)),(1,.int .i64 p),(2,.int .i64 k)],[],[(O++q.filter (b8q l k c)).length]⟩)
    (fun _ _ _=>True) () ?_ trivial ?_ ?_
   ·simp -implicitDefEqProofs only[go_sem,List.filter_nil,h0F];rfl
   ·intro _ _;simp -implicitDefEqProofs only[go_sem,hgp,hgk,hlp,hlk,hp0,hk0,hgx,hlt,hgc,hlc,hc0,hks,hjs,b0J,Rw.enc];intro _ _;have hfm:(pre++[c]).flatMap (fun c=>(b0h l c).kids.filter (b8q l k c))=O++js.filter (b8q l k c):=by
     rw[List.flatMap_append,hO,List.flatMap_cons,List.flatMap_nil,h0F,hjs]
    rw[hfm];exact⟨(),⟨hw,rfl⟩,rfl⟩
   ·rintro q e post2 _ hx2 _;have hpl2:js.length=q.length+1+post2.length:=by rw[hx2];simp;omega
    have hgx2:(js.map b0J).getD (q.length:Int).toNat []=b0J e:=by rw[hx2];simp[h0c]
    have hlt2:((q.length:Int)<js.length)=True:=by simp;omega
    have hw2:IntKind.i64.wrap (↑q.length+1)=↑(q.length+1):=b0g (by omega);have hel:=hkcl e (by rw[hx2];simp);have hge:=b0z hel;have hle:((e:Int)<l.length)=True:=by simp;omega
    have he0:(0≤(e:Int))=True:=by simp
    have hf:(q++[e]).filter (b8q l k c)=q.filter (b8q l k c)++(if b8q l k c e=true then [e]else []):=by
     rw[List.filter_append];congr 1;cases h:b8q l k c e <;> simp[h]
    have hfq:=h1o (b8q l k c) q;have hm:b8q l k c e=(decide (c<k) && (decide ((b0h l c).kind=3) && decide ((b0h l e).kind=4))):=rfl;simp -implicitDefEqProofs only[go_sem,hgp,hgk,hlp,hlk,hp0,hk0,hgx,hlt,hgc,hlc,hc0,hks,hjs,hgx2,hlt2,hge,hle,he0,b0J,Rw.enc];intro _ _;refine⟨fun g1=>⟨fun g2=>⟨fun g3=>?_,fun g3=>?_⟩,fun g2=>?_⟩,fun g1=>?_⟩
    ·have:b8q l k c e=true:=by rw[hm,h0H (by omega),h0H g2,h0H g3];rfl
     rw[hf,if_pos this];exact⟨by simp only[h0h];omega,(),⟨hw2,by simp[b0J]⟩,by simp;omega⟩
    ·have:b8q l k c e=false:=by rw[hm,h0z g3];simp
     rw[hf,if_neg (by rw[this];simp),h0F];exact⟨(),⟨hw2,rfl⟩,rfl⟩
    ·have:b8q l k c e=false:=by rw[hm,h0z g2];simp
     rw[hf,if_neg (by rw[this];simp),h0F];exact⟨(),⟨hw2,rfl⟩,rfl⟩
    ·have:b8q l k c e=false:=by rw[hm,h0z (by omega)];rfl
     rw[hf,if_neg (by rw[this];simp),h0F];exact⟨(),⟨hw2,rfl⟩,rfl⟩
 ·have hdc:b6Q l p k=[]:=by rw[b6Q,if_neg h6,if_neg (fun h=>hk6 h.2)];rfl
  rw[hdc];rfl
 ·have hdc:b6Q l p k=[]:=by rw[b6Q,if_neg h6,if_neg (fun h=>h2 h.1)];rfl
  rw[hdc];rfl
theorem d7c{l:List Rw}(hr:rowsOK l){p k:Nat}(hp:p<l.length):∀ c∈b6Q l p k,c<l.length:=by
 intro c hc;have hkp:=(hr.kids p hp).2;unfold b6Q at hc;rcases h0E.1 hc with hc | hc
 ·split at hc
  ·exact hkp c (List.mem_filter.1 hc).1
  ·cases hc
 ·split at hc
  ·obtain⟨e,he,hc⟩:=List.mem_flatMap.1 hc;exact(hr.kids e (hkp e he)).2 c (List.mem_filter.1 hc).1
  ·cases hc
theorem c5p(l:List Rw)(hr:rowsOK l)(i:Nat)(hi:i<l.length)(name:ByteArray):b0s env 170 [sl 48 (l.map Rw.enc),.int .i64 i,.str name] (.int .i64 (b1j l name (c8U l (i+1) i))):=by
 have hgi:=b0z hi;have hli:((i:Int)<l.length)=True:=by simp;omega
 have hi0:(0≤(i:Int))=True:=by simp
 refine b0i (fn:=Tryz.f170) Tryz.func170 rfl (by rw[Tryz.ntmps170];simp) (by simp -implicitDefEqProofs only[go_sem];exact b0T _) rfl ?_;simp -implicitDefEqProofs only[go_sem,Tryz.f170,hgi,hli,hi0,Rw.enc];generalize hgo:b1j l name (c8U l (i+1) i)=goal;refine b1u (α:=Nat×Int×Nat) (fun s=>⟨[(8,.int .i64 s.2.1),(7,.int .i64 s.1),(6,.int .i64 0),(0,sl 48 (l.map Rw.enc)),(2,.str name)],[],[]⟩)
  (fun s=>s.1<l.length∧s.2.1=(b0h l s.1).parent∧s.1<s.2.2∧goal=b1j l name (c8U l s.2.2 s.1)) (fun s=>s.1) (i,(b0h l i).parent,i+1) ?_ ⟨hi,rfl,Nat.lt_succ_self _,hgo.symm⟩ ?_
 ·simp -implicitDefEqProofs only[go_sem];try rfl
 ·rintro⟨k,p,f⟩ ⟨h1,h2,h3,h4⟩;simp only at h1 h2 h3 h4 ⊢;obtain⟨f,rfl⟩:∃ f',f=f'+1:=⟨f - 1,by omega⟩
  rw[c8U,←h2]at h4;have hpk:=hr.par k h1;by_cases hp:p<0
  ·rw[if_pos hp]at h4;have hpf:(0≤p)=False:=by simp;omega
   simp -implicitDefEqProofs only[go_sem,hpf];rw[h4];rfl
  ·rw[if_neg hp]at h4;obtain⟨p,rfl⟩:=h0X (by omega:0≤p);have hpl:p<l.length:=by omega
   have hgp:=b0z hpl;have hlp:((p:Int)<l.length)=True:=by simp;omega
   have hp0:(0≤(p:Int))=True:=by simp
   rw[h0n]at h4;have hdl:=d7c hr hpl (k:=k);have hD:=c6h l hr p k hpl h1;generalize b6Q l p k=D at h4 hdl hD;simp -implicitDefEqProofs only[go_sem,hgp,hlp,hp0,Rw.enc];refine hD.cq ?_;simp -implicitDefEqProofs only[go_sem,hgp,hlp,hp0,Rw.enc];refine b0l (β:=Unit) D (fun q _=>⟨[(10,.int .i64 q.length),(9,sl 3 (D.map b0J)),(8,.int .i64 p),(7,.int .i64 k),(6,.int .i64 0),(0,sl 48 (l.map Rw.enc)),(2,.str name)],[],[]⟩)
    (fun q post _=>∀ R,b1j l name (D++R)=b1j l name (post++R)) () ?_ (fun _=>rfl) ?_ ?_
   ·simp -implicitDefEqProofs only[go_sem];rfl
   ·intro _ hq;rw[hq,h0Q]at h4;simp -implicitDefEqProofs only[go_sem,hgp,hlp,hp0,Rw.enc];refine fun _ _=>⟨fun g2=>?_,fun g2=>?_⟩
    ·rw[if_pos g2]at h4;rw[h4];rfl
    ·rw[if_neg g2]at h4;exact⟨(p,(b0h l p).parent,f),by simp only;omega,⟨hpl,rfl,by simp only;omega,h4⟩,rfl,rfl⟩
   ·rintro q c post _ hx hq;have hpl2:D.length=q.length+1+post.length:=by rw[hx];simp;omega
    have hgx:(D.map b0J).getD (q.length:Int).toNat []=b0J c:=by rw[hx];simp[h0c]
    have hlt:((q.length:Int)<D.length)=True:=by simp;omega
    have hcl:=hdl c (by rw[hx];simp);have hgc:=b0z hcl;have hlc:((c:Int)<l.length)=True:=by simp;omega
    have hc0:(0≤(c:Int))=True:=by simp
    simp -implicitDefEqProofs only[go_sem,hgx,hlt,hgc,hlc,hc0,b0J,Rw.enc];intro _ _;have hw:IntKind.i64.wrap (↑q.length+1)=↑(q.length+1):=b0g (by omega);refine⟨fun g=>?_,fun g=>⟨(),fun R=>?_,hw⟩⟩
    ·rw[h4,hq];unfold b1j;rw[h0a,h0W,h0H g]
    ·rw[hq R];unfold b1j;rw[h0a,h0W,h0z g]
def f6B(s:Int):Int:=if s=6 then 3 else s
def f0C(l:List Rw)(dl:List Dl)(un i:Nat):Option (Int×Int):=if c0R (b0h l i).kind (b0h l i).text=0 then none else if c0R (b0h l i).kind (b0h l i).text=6∧0≤b1j l (b0h l i).text (c8U l (i+1) i)then some (un,b1j l (b0h l i).text (c8U l (i+1) i))else(dl.find? (b5m (f6B (c0R (b0h l i).kind (b0h l i).text)) (b0h l i).text)).map fun d=>(d.unit,d.node)
theorem d6d(dl:List Dl)(hdl:dl.length≤1000000)(l:List Rw)(hr:rowsOK l)(un i:Nat)(hi:i<l.length):b0s env 107 [sl 54 (dl.map Dl.enc),sl 48 (l.map Rw.enc),.int .i64 un,.int .i64 i] (c1i (f0C l dl un i)):=by
 have hgi:=b0z hi;have hli:((i:Int)<l.length)=True:=by simp;omega
 have hi0:(0≤(i:Int))=True:=by simp
 refine b0i (fn:=Tryz.f107) Tryz.func107 rfl (by rw[Tryz.ntmps107];simp) (by simp -implicitDefEqProofs only[go_sem];rw[b0D,b0T];rfl) (by simp -implicitDefEqProofs only[go_sem,c1i]) ?_;have hS:=c7p (b0h l i);have hV:=c5p l hr i hi (b0h l i).text;have hfg : -1≤b1j l (b0h l i).text (c8U l (i+1) i):=c4J ..;have hfd:f0C l dl un i=if c0R (b0h l i).kind (b0h l i).text=0 then none else if c0R (b0h l i).kind (b0h l i).text=6∧0≤b1j l (b0h l i).text (c8U l (i+1) i)then some ((un:Int),b1j l (b0h l i).text (c8U l (i+1) i))else(dl.find? (b5m (f6B (c0R (b0h l i).kind (b0h l i).text)) (b0h l i).text)).map fun d=>(d.unit,d.node):=rfl
 generalize f0C l dl un i=goal at hfd ⊢;generalize c0R (b0h l i).kind (b0h l i).text=s at hS hfd;generalize b1j l (b0h l i).text (c8U l (i+1) i)=v at hV hfd hfg;simp -implicitDefEqProofs only[go_sem,Tryz.f107,hgi,hli,hi0,Rw.enc];refine hS.calls (by simp -implicitDefEqProofs only[go_sem,Rw.enc]) ?_;simp -implicitDefEqProofs only[go_sem,hgi,hli,hi0,Rw.enc];refine⟨fun h0=>?_,fun h0=>?_⟩
 ·rw[if_pos h0]at hfd;rw[hfd];rfl
 rw[if_neg h0]at hfd;by_cases h6:s=6
 ·refine⟨fun _=>?_,fun h=>absurd h6 h⟩;refine hV.cq ?_;simp -implicitDefEqProofs only[go_sem];refine⟨fun hv=>?_,fun hv=>?_⟩
  ·rw[if_pos ⟨h6,hv⟩]at hfd;rw[hfd];rfl
  rw[if_neg (fun h=>hv h.2),h6]at hfd
  replace hfd:goal=(dl.find? (b5m 3 (b0h l i).text)).map fun d=>(d.unit,d.node):=hfd
  generalize(3:Int)=kd at hfd;refine b0l (β:=Unit) dl (fun pre _=>⟨[(13,.int .i64 pre.length),(11,.int .i64 kd),(9,.bool false),(8,.ptr 0 0),(0,sl 54 (dl.map Dl.enc)),(1,sl 48 (l.map Rw.enc)),(3,.int .i64 i)],[VObj.cells [V.int IntKind.i64 0,V.int IntKind.i64 0]],[]⟩)
   (fun pre post _=>goal=(post.find? (b5m kd (b0h l i).text)).map fun d=>(d.unit,d.node)) () ?_ hfd ?_ ?_
  ·simp -implicitDefEqProofs only[go_sem];rfl
  ·intro _ h;have hg:goal=none:=h;rw[hg];simp -implicitDefEqProofs only[go_sem,c1i];exact fun _ _=>rfl
  ·rintro pre d post _ hx h;have hpl:dl.length=pre.length+1+post.length:=by rw[hx];simp;omega
   have hgx:(dl.map Dl.enc).getD (pre.length:Int).toNat []=d.enc:=by rw[hx];simp[h0c]
   have hlt:((pre.length:Int)<dl.length)=True:=by simp;omega
   have hw:IntKind.i64.wrap (↑pre.length+1)=↑(pre.length+1):=b0g (by omega);have hm:b5m kd (b0h l i).text d=(decide (kd=d.kind) && decide ((b0h l i).text=d.name)):=rfl;rw[h0W,hm]at h;simp -implicitDefEqProofs only[go_sem,hgx,hlt,hgi,hli,hi0,Dl.enc,Rw.enc];intro _ _;refine sdq ?_;simp -implicitDefEqProofs only[go_sem,hgx,hlt,hgi,hli,hi0,Dl.enc,Rw.enc];refine⟨fun g1=>⟨fun g2=>?_,fun g2=>?_⟩,fun g1=>?_⟩
   ·rw[h0H g1.symm,h0H g2.symm]at h;have hg:goal=some (d.unit,d.node):=h;rw[hg];rfl
   ·rw[h0z (fun e=>g2 e.symm:¬ (b0h l i).text=d.name),Bool.and_false]at h;exact⟨(),h,hw⟩
   ·rw[h0z (fun e=>g1 e.symm:¬ kd=d.kind),h0U]at h;exact⟨(),h,hw⟩
 ·refine⟨fun h=>absurd h h6,fun _=>?_⟩;rw[if_neg (fun h=>h6 h.1),f6B,if_neg h6]at hfd;clear h0 h6 hS;generalize s=kd at hfd ⊢;refine b0l (β:=Unit) dl (fun pre _=>⟨[(13,.int .i64 pre.length),(11,.int .i64 kd),(9,.bool false),(8,.ptr 0 0),(0,sl 54 (dl.map Dl.enc)),(1,sl 48 (l.map Rw.enc)),(3,.int .i64 i)],[VObj.cells [V.int IntKind.i64 0,V.int IntKind.i64 0]],[]⟩)
   (fun pre post _=>goal=(post.find? (b5m kd (b0h l i).text)).map fun d=>(d.unit,d.node)) () ?_ hfd ?_ ?_
  ·simp -implicitDefEqProofs only[go_sem];rfl
  ·intro _ h;have hg:goal=none:=h;rw[hg];simp -implicitDefEqProofs only[go_sem,c1i];exact fun _ _=>rfl
  ·rintro pre d post _ hx h;have hpl:dl.length=pre.length+1+post.length:=by rw[hx];simp;omega
   have hgx:(dl.map Dl.enc).getD (pre.length:Int).toNat []=d.enc:=by rw[hx];simp[h0c]
   have hlt:((pre.length:Int)<dl.length)=True:=by simp;omega
   have hw:IntKind.i64.wrap (↑pre.length+1)=↑(pre.length+1):=b0g (by omega);have hm:b5m kd (b0h l i).text d=(decide (kd=d.kind) && decide ((b0h l i).text=d.name)):=rfl;rw[h0W,hm]at h;simp -implicitDefEqProofs only[go_sem,hgx,hlt,hgi,hli,hi0,Dl.enc,Rw.enc];intro _ _;refine sdq ?_;simp -implicitDefEqProofs only[go_sem,hgx,hlt,hgi,hli,hi0,Dl.enc,Rw.enc];refine⟨fun g1=>⟨fun g2=>?_,fun g2=>?_⟩,fun g1=>?_⟩
   ·rw[h0H g1.symm,h0H g2.symm]at h;have hg:goal=some (d.unit,d.node):=h;rw[hg];rfl
   ·rw[h0z (fun e=>g2 e.symm:¬ (b0h l i).text=d.name),Bool.and_false]at h;exact⟨(),h,hw⟩
   ·rw[h0z (fun e=>g1 e.symm:¬ kd=d.kind),h0U]at h;exact⟨(),h,hw⟩
def b8B(l:List Rw)(dl:List Dl)(un i:Nat):List Us:=if c0R (b0h l i).kind (b0h l i).text=0 then []else [⟨un,i,f0C l dl un i⟩]
def b4n(l:List Rw)(dl:List Dl)(un:Nat):Nat→List Us
 | 0=>[]
 | i+1=>b4n l dl un i++b8B l dl un i
def b3c(tb:List (List Rw))(dl:List Dl):Nat→List Us
 | 0=>[]
 | n+1=>b3c tb dl n++b4n (tb.getD n []) dl n (tb.getD n []).length
theorem b8n(l:List Rw)(dl:List Dl)(un:Nat):∀ i,(b4n l dl un i).length≤i
 | 0=>by simp[b4n]
 | i+1=>by
  have h1:=b8n l dl un i;have h2:(b8B l dl un i).length≤1:=by unfold b8B;split <;> simp
  rw[b4n,h0h];omega
theorem b8c{tb:List (List Rw)}(dl:List Dl)(hT:∀ l∈tb,l.length≤1000):∀ n,(b3c tb dl n).length≤n * 1000
 | 0=>by simp[b3c]
 | n+1=>by
  have h1:=b8c dl hT n;have h2:=b8n (tb.getD n []) dl n (tb.getD n []).length;have h3:(tb.getD n []).length≤1000:=by
   rw[h0c];cases hx:tb[n]? with
   | none=>simp
   | some x=>exact hT x (h0j hx)
  rw[b3c,h0h];omega
theorem d0c(u:List Un)(hu:b2D u):b0s env 72 [sl 70 (u.map Un.enc)] (sl 163 ((b3c (b0f u) (b0e u 0) (b0f u).length).map Us.enc)):=by
 have hdl:=b0H u 0 fun y hy=>(hu.2 y hy).1
 have hul:=hu.1;have hD:=b7j u hu;have hTb:=c4M u hu;have htl:(b0f u).length≤1000:=by unfold b0f;rw[h0v];exact hul
 have hT:∀ l∈b0f u,l.length≤1000:=fun l hl=>by
  obtain⟨x,hx,rfl⟩:=h1p.1 hl;split
  ·simp
  ·rw[b0K];exact(hu.2 x hx).1
 have htk:=b8e hu;refine b0i (fn:=Tryz.f72) Tryz.func72 rfl (by rw[Tryz.ntmps72];simp) (by simp -implicitDefEqProofs only[go_sem];exact b0v _) (by simp -implicitDefEqProofs only[go_sem];exact b2I _) ?_;simp -implicitDefEqProofs only[go_sem,Tryz.f72];refine hD.cq ?_;simp -implicitDefEqProofs only[go_sem];refine hTb.cq ?_;generalize b0e u 0=dl at hdl ⊢;generalize b0f u=tb at htl hT htk ⊢;simp -implicitDefEqProofs only[go_sem];refine b0l (β:=Unit) tb (fun pre _=>⟨[(6,.int .i64 pre.length),(5,.slice (.arr 0) 163 ((b3c tb dl pre.length).map Us.enc)),(4,sl 45 (tb.map b0p)),(3,sl 54 (dl.map Dl.enc))],[],[(b3c tb dl pre.length).length]⟩)
  (fun _ _ _=>True) () ?_ trivial ?_ ?_
 ·simp -implicitDefEqProofs only[go_sem];exact⟨rfl,rfl⟩
 ·intro _ _;simp -implicitDefEqProofs only[go_sem]
 ·rintro pre l post _ hx _;have hpl:tb.length=pre.length+1+post.length:=by rw[hx];simp;omega
  have hgx:(tb.map b0p).getD (pre.length:Int).toNat []=b0p l:=by rw[hx];simp[h0c]
  have hlt:((pre.length:Int)<tb.length)=True:=by simp;omega
  have hw:IntKind.i64.wrap (↑pre.length+1)=↑(pre.length+1):=b0g (by omega);have hlx:tb[pre.length]? = some l:=by rw[hx];simp
  have hll:=hT l (h0j hlx);have hro:=htk l (h0j hlx);have hA:=b8c dl hT pre.length;have hmid:b3c tb dl (pre.length+1)=b3c tb dl pre.length++b4n l dl pre.length l.length:=by rw[b3c,h0c,hlx];rfl
  simp -implicitDefEqProofs only[go_sem,hgx,hlt,b0p];intro _ _;refine b0l (β:=Unit) l (fun q _=>⟨[(7,.int .i64 q.length),(6,.int .i64 pre.length),(5,.slice (.arr 0) 163 ((b3c tb dl pre.length++b4n l dl pre.length q.length).map Us.enc)),(4,sl 45 (tb.map b0p)),(3,sl 54 (dl.map Dl.enc))],[],[(b3c tb dl pre.length++b4n l dl pre.length q.length).length]⟩)
   (fun _ _ _=>True) () ?_ trivial ?_ ?_
  ·simp -implicitDefEqProofs only[go_sem,b4n,h0F];rfl
  ·intro _ _;simp -implicitDefEqProofs only[go_sem,hgx,hlt,b0p];intro _ _;rw[hmid];exact⟨(),⟨hw,rfl⟩,rfl⟩
  ·rintro q r post2 _ hx2 _;have hpl2:l.length=q.length+1+post2.length:=by rw[hx2];simp;omega
   have hgx2:(l.map Rw.enc).getD (q.length:Int).toNat []=r.enc:=by rw[hx2];simp[h0c]
   have hlt2:((q.length:Int)<l.length)=True:=by simp;omega
   have hw2:IntKind.i64.wrap (↑q.length+1)=↑(q.length+1):=b0g (by omega);have hrq:b0h l q.length=r:=by rw[hx2];simp[b0h,h0c]
   have hmid2:b4n l dl pre.length (q.length+1)=b4n l dl pre.length q.length++b8B l dl pre.length q.length:=rfl;have hu2:b8B l dl pre.length q.length=if c0R r.kind r.text=0 then []else [⟨pre.length,q.length,f0C l dl pre.length q.length⟩]:=by rw[b8B,hrq]
   have hR:=b8n l dl pre.length q.length;have hIs:=d4R r;have hFn:=d6d dl (by omega) l hro pre.length q.length (by omega);simp -implicitDefEqProofs only[go_sem,hgx,hlt,hgx2,hlt2,b0p,Rw.enc];intro _ _;refine hIs.calls (by simp -implicitDefEqProofs only[go_sem,Rw.enc]) ?_;by_cases hs:c0R r.kind r.text=0
   ·rw[if_pos hs]at hu2;rw[h0H hs];simp -implicitDefEqProofs only[go_sem,hgx,hlt,hgx2,hlt2,b0p,Rw.enc];rw[hmid2,hu2,h0F];exact⟨(),⟨hw2,rfl⟩,rfl⟩
   ·rw[if_neg hs]at hu2;rw[h0z hs];simp -implicitDefEqProofs only[go_sem,hgx,hlt,hgx2,hlt2,b0p,Rw.enc];refine hFn.cq ?_;generalize f0C l dl pre.length q.length=fo at hu2;simp -implicitDefEqProofs only[go_sem,c1i,hgx,hlt,hgx2,hlt2,b0p,Rw.enc];rw[hmid2,hu2];refine⟨by simp only[h0h];omega,(),⟨hw2,by simp[Us.enc]⟩,by simp;omega,.inr ?_⟩;rw[b0m _ _ _ (b2I _),b0m _ _ _ (b1g _),b0m _ _ _ (b0D _)];rfl
theorem c9S(u:List Un)(hu:b2D u):b0s env 103 [sl 70 (u.map Un.enc)] (sl 24 ((b6I (b3c (b0f u) (b0e u 0) (b0f u).length)).map atE)):=by
 have hU:=d0c u hu;have hul:=hu.1;have htl:(b0f u).length≤1000:=by unfold b0f;rw[h0v];exact hul
 have hT:∀ l∈b0f u,l.length≤1000:=fun l hl=>by
  obtain⟨x,hx,rfl⟩:=h1p.1 hl;split
  ·simp
  ·rw[b0K];exact(hu.2 x hx).1
 have hL:=b8c (b0e u 0) hT (b0f u).length;refine b0i (fn:=Tryz.f103) Tryz.func103 rfl (by rw[Tryz.ntmps103];simp) (by simp -implicitDefEqProofs only[go_sem];exact b0v _) (by simp -implicitDefEqProofs only[go_sem];exact b6g _) ?_;generalize b3c (b0f u) (b0e u 0) (b0f u).length=L at hU hL ⊢;simp -implicitDefEqProofs only[go_sem,Tryz.f103];refine hU.cq ?_;simp -implicitDefEqProofs only[go_sem];refine b0l (β:=Unit) L (fun pre _=>⟨[(5,.int .i64 pre.length),(4,.slice (.arr 0) 24 ((b6I pre).map atE)),(3,sl 163 (L.map Us.enc))],[],[(b6I pre).length]⟩)
  (fun _ _ _=>True) () ?_ trivial ?_ ?_
 ·simp -implicitDefEqProofs only[go_sem];exact⟨rfl,rfl⟩
 ·intro _ _;simp -implicitDefEqProofs only[go_sem]
 ·rintro pre x post _ hx _;have hpl:L.length=pre.length+1+post.length:=by rw[hx];simp;omega
  have hgx:(L.map Us.enc).getD (pre.length:Int).toNat []=x.enc:=by rw[hx];simp[h0c]
  have hlt:((pre.length:Int)<L.length)=True:=by simp;omega
  have hw:IntKind.i64.wrap (↑pre.length+1)=↑(pre.length+1):=b0g (by omega);have hfl:(b6I pre).length≤pre.length:=h1o ..;have hsn:b6I (pre++[x])=b6I pre++(if x.to.isNone=true then [x]else []):=by
   unfold b6I;rw[List.filter_append];congr 1;cases h:x.to.isNone <;> simp[h]
  simp -implicitDefEqProofs only[go_sem,hgx,hlt,Us.enc];rw[hsn];refine fun _ _=>⟨fun h=>?_,fun h=>?_⟩
  ·have hn:x.to.isNone=true:=by cases hx:x.to <;> simp_all
   rw[if_pos hn];exact⟨by omega,(),⟨hw,by simp[atE]⟩,by simp⟩
  ·have hn:¬ x.to.isNone=true:=by cases hx:x.to <;> simp_all
   rw[if_neg hn,h0F];exact⟨(),⟨hw,rfl⟩,rfl⟩
end Go.Proofs.YtighfcpaplmaiaaGreatDoor
namespace Go.Vg
def d4t(tb:List (List Rw))(d:Dl):Int:=(b0h (tb.getD d.unit.toNat []) d.node.toNat).parent
def c6x(tb:List (List Rw))(a b:Dl):Bool:=decide (a.kind=b.kind) && (decide (a.name=b.name) && (decide (b.kind=1∨b.kind=2∨b.kind=3) || (decide (a.unit=b.unit) && decide (d4t tb a=d4t tb b))))
def b5h(tb:List (List Rw)):List Dl→List Dl→List Dl
 | _,[]=>[]
 | p,d::r=>(if(p.any fun e=>c6x tb e d)=true then [d]else [])++b5h tb (p++[d]) r
theorem c2e(tb:List (List Rw))(x:Dl):∀ (l p:List Dl),b5h tb p (l++[x])=b5h tb p l++(if((p++l).any fun e=>c6x tb e x)=true then [x]else [])
 | [],p=>by simp[b5h]
 | d::r,p=>by
  rw[h0a,b5h,b5h,c2e tb x r,h0x];simp
theorem c4q(tb:List (List Rw)):∀ (l p:List Dl),(b5h tb p l).length≤l.length
 | [],p=>by simp[b5h]
 | d::r,p=>by
  have:=c4q tb r (p++[d]);rw[b5h,h0h,h0o];split
  ·simp;omega
  ·simp;omega
def d8p(d:Dl):List V:=[.int .i64 d.unit,.int .i64 d.node]
theorem c4e:∀ l:List Dl,b0P (l.map d8p)=true
 | []=>rfl
 | x::r=>by show(b0Y (d8p x) && b0P (r.map d8p))=true;rw[c4e r];rfl
theorem f1E{tb:List (List Rw)}{a b:Dl}(ha:1≤a.kind∧a.kind≤6)(hb:1≤b.kind∧b.kind≤6):(a.kind=b.kind∧a.name=b.name∧((b.kind=1∨b.kind=2∨b.kind=3)∨(a.unit=b.unit∧d4t tb a=d4t tb b)))↔c1a tb a=c1a tb b:=by
 have e1:∀ d:Dl,(d.kind=5∨d.kind=6∨d.kind=4)→c1a tb d=⟨d.kind,d.unit,d4t tb d,d.name⟩:=fun d h=>if_pos h
 have e2:∀ d:Dl,¬ (d.kind=5∨d.kind=6∨d.kind=4)→c1a tb d=⟨d.kind,0,0,d.name⟩:=fun d h=>if_neg h
 by_cases h1:a.kind=5∨a.kind=6∨a.kind=4
 ·rw[e1 a h1];by_cases h2:b.kind=5∨b.kind=6∨b.kind=4
  ·rw[e1 b h2];constructor
   ·rintro⟨g1,g2,g3 | ⟨g3,g4⟩⟩
    ·omega
    ·rw[g1,g2,g3,g4]
   ·intro h
    injection h with g1 g2 g3 g4
    exact⟨g1,g4,.inr ⟨g2,g3⟩⟩
  ·rw[e2 b h2];constructor
   ·rintro⟨g1,_⟩;omega
   ·intro h
    injection h with g1 g2 g3 g4
    omega
 ·rw[e2 a h1];by_cases h2:b.kind=5∨b.kind=6∨b.kind=4
  ·rw[e1 b h2];constructor
   ·rintro⟨g1,_⟩;omega
   ·intro h
    injection h with g1 g2 g3 g4
    omega
  ·rw[e2 b h2];constructor
   ·rintro⟨g1,g2,_⟩;rw[g1,g2]
   ·intro h
    injection h with g1 g2 g3 g4
    exact⟨g1,g4,.inl (by omega)⟩
theorem d1a{tb:List (List Rw)}{a b:Dl}(ha:1≤a.kind∧a.kind≤6)(hb:1≤b.kind∧b.kind≤6):c6x tb a b=decide (c1a tb a=c1a tb b):=by
 rw[h1k];simp only[c6x,h0k,h1u,h0l];exact f1E ha hb
theorem d3S{tb:List (List Rw)}:∀ (l p:List Dl) (q:List Pk×List Dl),(∀ d∈l,1≤d.kind∧d.kind≤6)→(∀ d∈p,1≤d.kind∧d.kind≤6)→(∀ k,k∈q.1↔∃ d∈p,c1a tb d=k)→(l.foldl (b7K tb) q).2=q.2++b5h tb p l
 | [],p,q,_,_,_=>by simp[b5h]
 | d::r,p,q,hl,hp,hq=>by
  have hd:=hl d (by simp);have hany:(p.any fun e=>c6x tb e d)=(q.1.any fun x=>decide (x=c1a tb d)):=by
   rw[h1k,h1a,h1a];constructor
   ·rintro⟨e,he,h⟩;rw[d1a (hp e he) hd]at h;exact⟨c1a tb e,(hq _).2 ⟨e,he,rfl⟩,h⟩
   ·rintro⟨k,hk,h⟩;obtain⟨e,he,rfl⟩:=(hq k).1 hk;exact⟨e,he,by rw[d1a (hp e he) hd];exact h⟩
  rw[h0K,b5h,hany];have hp':∀ e∈p++[d],1≤e.kind∧e.kind≤6:=fun e he=>by
   rcases h0E.1 he with he | he
   ·exact hp e he
   ·simp only[h0R]at he;subst he;exact hd
  have hl':∀ e∈r,1≤e.kind∧e.kind≤6:=fun e he=>hl e (by simp[he])
  by_cases hc:(q.1.any fun x=>decide (x=c1a tb d))=true
  ·have ha:b7K tb q d=(q.1,q.2++[d]):=by rw[b7K,if_pos hc]
   rw[ha,if_pos hc,d3S r (p++[d]) _ hl' hp' ?_]
   ·simp
   ·intro k;rw[hq k];constructor
    ·rintro⟨e,he,h⟩;exact⟨e,by simp[he],h⟩
    ·rintro⟨e,he,h⟩;rcases h0E.1 he with he | he
     ·exact⟨e,he,h⟩
     ·simp only[h0R]at he;subst he;rw[h1a]at hc;obtain⟨k',hk',h'⟩:=hc;have:k'=k:=by rw[←h];simpa using h'
      subst this;exact(hq _).1 hk'
  ·have ha:b7K tb q d=(q.1++[c1a tb d],q.2):=by rw[b7K,if_neg hc]
   rw[ha,if_neg hc,d3S r (p++[d]) _ hl' hp' ?_]
   ·simp
   ·intro k;simp only[h0E,h0R,hq k];constructor
    ·rintro(⟨e,he,h⟩ | rfl)
     ·exact⟨e,.inl he,h⟩
     ·exact⟨d,.inr rfl,rfl⟩
    ·rintro⟨e,he | rfl,h⟩
     ·exact .inl ⟨e,he,h⟩
     ·exact .inr h.symm
end Go.Vg
namespace Go.Proofs.YtighfcpaplmaiaaGreatDoor
open Go Go.Vg Go.Proofs
theorem c1F{u:List Un}{d:Dl}(hd:d∈b0e u 0):∃ (un nd:Nat) (l:List Rw),d.unit=(un:Int)∧d.node=(nd:Int)∧(b0f u)[un]? = some l∧nd<l.length∧1≤d.kind∧d.kind≤6:=by
 obtain⟨un,x,j,y,a,h1,h2,h3,h4⟩:=b4J u 0 d hd;obtain⟨g1,g2,g3,g4⟩:=c2i h4;have hlen:(b0u x.tree (-1) 0).length=(b0o x.tree).length:=b0K ..;have hj:=(h0b.1 h3).1;refine⟨un,j,b0u x.tree (-1) 0,by simpa using g1,g2,?_,by omega,by omega,by omega⟩;unfold b0f;rw[h0u,h1,h0D,if_neg (by rw[h2];simp)]
theorem d1Y(tb:List (List Rw))(a b:Dl)(ha:∃ (un nd:Nat) (l:List Rw),a.unit=(un:Int)∧a.node=(nd:Int)∧tb[un]? = some l∧nd<l.length)(hb:∃ (un nd:Nat) (l:List Rw),b.unit=(un:Int)∧b.node=(nd:Int)∧tb[un]? = some l∧nd<l.length) :
  b0s env 161 [sl 45 (tb.map b0p),.agg a.enc,.agg b.enc] (.bool (c6x tb a b)):=by
 obtain⟨un,nd,l,a1,a2,a3,a4⟩:=ha;obtain⟨un',nd',l',b1,b2,b3,b4⟩:=hb;obtain⟨ak,ao,an,au,ad⟩:=a;obtain⟨bk,bo,bn,bu,bd⟩:=b;simp only at a1 a2 b1 b2;subst a1 a2 b1 b2;have hg1:(tb.map b0p).getD ((un:Int)).toNat []=b0p l:=by rw[h0c,h0u,h0n,a3];rfl
 have hg2:(tb.map b0p).getD ((un':Int)).toNat []=b0p l':=by rw[h0c,h0u,h0n,b3];rfl
 have hl1:((un:Int)<tb.length)=True:=by have:=(h0b.1 a3).1;simp;omega
 have hl2:((un':Int)<tb.length)=True:=by have:=(h0b.1 b3).1;simp;omega
 have h01:(0≤(un:Int))=True:=by simp
 have h02:(0≤(un':Int))=True:=by simp
 have hr1:=b0z a4;have hr2:=b0z b4;have hn1:((nd:Int)<l.length)=True:=by simp;omega
 have hn2:((nd':Int)<l'.length)=True:=by simp;omega
 have h03:(0≤(nd:Int))=True:=by simp
 have h04:(0≤(nd':Int))=True:=by simp
 refine b0i (fn:=Tryz.f161) Tryz.func161 rfl (by rw[Tryz.ntmps161];simp) (by simp -implicitDefEqProofs only[go_sem,Dl.enc];exact b1g _) rfl ?_;have hp1:d4t tb ⟨ak,ao,an,un,nd⟩=(b0h l nd).parent:=by unfold d4t;rw[h0n,h0n,h0c,a3];rfl
 have hp2:d4t tb ⟨bk,bo,bn,un',nd'⟩=(b0h l' nd').parent:=by unfold d4t;rw[h0n,h0n,h0c,b3];rfl
 have hd:c6x tb ⟨ak,ao,an,un,nd⟩ ⟨bk,bo,bn,un',nd'⟩=(decide (ak=bk) && (decide (an=bn) && (decide (bk=1∨bk=2∨bk=3) || (decide ((un:Int)=un') && decide ((b0h l nd).parent=(b0h l' nd').parent))))):=by rw[c6x,hp1,hp2]
 rw[hd];simp -implicitDefEqProofs only[go_sem,Tryz.f161,Dl.enc];refine⟨fun g1=>⟨fun g2=>?_,fun g2=>⟨fun k1=>⟨fun k2=>⟨fun k3=>?_,fun k3=>?_⟩,fun k2=>?_⟩,fun k1=>?_⟩⟩,fun g1=>?_⟩
 ·have e2:¬ an=bn:=by simpa using g2
  rw[h0z e2];simp
 ·have e1:ak=bk:=by simpa using g1
  have e2:an=bn:=by simpa using g2
  simp[e1,e2,k3]
 ·have e1:ak=bk:=by simpa using g1
  have e2:an=bn:=by simpa using g2
  have hk:¬ (bk=1∨bk=2∨bk=3):=by omega
  rw[h0H e1,h0H e2,h0z hk,h0S,h0S,h0Y];refine sdq ?_;by_cases hu:un=un'
  ·have hui:((un:Int)=un')=True:=by simp[hu]
   simp -implicitDefEqProofs only[go_sem,hg1,hg2,hl1,hl2,h01,h02,hr1,hr2,hn1,hn2,h03,h04,b0p,Rw.enc,Dl.enc,hui]
  ·have hui:((un:Int)=un')=False:=by simp;omega
   simp -implicitDefEqProofs only[go_sem,hg1,hg2,hl1,hl2,h01,h02,hr1,hr2,hn1,hn2,h03,h04,b0p,Rw.enc,Dl.enc,hui]
 ·have e1:ak=bk:=by simpa using g1
  have e2:an=bn:=by simpa using g2
  simp[e1,e2,k2]
 ·have e1:ak=bk:=by simpa using g1
  have e2:an=bn:=by simpa using g2
  simp[e1,e2,k1]
 ·have e1:¬ ak=bk:=by simpa using g1
  rw[h0z e1];simp
theorem c8R(u:List Un)(hu:b2D u):b0s env 102 [sl 70 (u.map Un.enc)] (sl 24 ((b5h (b0f u) [] (b0e u 0)).map d8p)):=by
 have hdl:=b0H u 0 fun y hy=>(hu.2 y hy).1
 have hul:=hu.1;have hD:=b7j u hu;have hTb:=c4M u hu;have hpl:=fun d=>@c1F u d
 have hdb:=fun(a b:Dl) (ha:a∈b0e u 0) (hb:b∈b0e u 0)=>d1Y (b0f u) a b (by obtain⟨x,y,z,a1,a2,a3,a4,_⟩:=hpl a ha;exact⟨x,y,z,a1,a2,a3,a4⟩) (by obtain⟨x,y,z,a1,a2,a3,a4,_⟩:=hpl b hb;exact⟨x,y,z,a1,a2,a3,a4⟩)
 have hdl2:=fun p=>c4q (b0f u) p []
 have hsn:=fun x p=>c2e (b0f u) x p []
 refine b0i (fn:=Tryz.f102) Tryz.func102 rfl (by rw[Tryz.ntmps102];simp) (by simp -implicitDefEqProofs only[go_sem];exact b0v _) (by simp -implicitDefEqProofs only[go_sem];exact c4e _) ?_;simp -implicitDefEqProofs only[go_sem,Tryz.f102];refine hTb.cq ?_;simp -implicitDefEqProofs only[go_sem];refine hD.cq ?_;clear hpl hD hTb;generalize b0e u 0=dl at hdl hdb ⊢;generalize b0f u=tb at hdb hdl2 hsn ⊢;simp -implicitDefEqProofs only[go_sem];refine b0l (β:=Unit) dl (fun pre _=>⟨[(6,.int .i64 pre.length),(5,.slice (.arr 0) 24 ((b5h tb [] pre).map d8p)),(4,sl 54 (dl.map Dl.enc)),(3,sl 45 (tb.map b0p))],[],[(b5h tb [] pre).length]⟩)
  (fun _ _ _=>True) () ?_ trivial ?_ ?_
 ·simp -implicitDefEqProofs only[go_sem];exact⟨rfl,rfl⟩
 ·intro _ _;simp -implicitDefEqProofs only[go_sem]
 ·rintro pre d post _ hx _;have hpl:dl.length=pre.length+1+post.length:=by rw[hx];simp;omega
  have hgx:(dl.map Dl.enc).getD (pre.length:Int).toNat []=d.enc:=by rw[hx];simp[h0c]
  have hlt:((pre.length:Int)<dl.length)=True:=by simp;omega
  have hw:IntKind.i64.wrap (↑pre.length+1)=↑(pre.length+1):=b0g (by omega);have hs:=hsn d pre;rw[h0Q]at hs;have hol:=hdl2 pre;simp -implicitDefEqProofs only[go_sem,hgx,hlt,Dl.enc];intro _ _;have hpm:∀ e∈pre,b0s env 161 [sl 45 (tb.map b0p),.agg e.enc,.agg d.enc] (.bool (c6x tb e d)):=fun e he=>hdb e d (by rw[hx];simp[he]) (by rw[hx];simp)
  have hPg:∀ (k:Nat) e,pre[k]? = some e→(dl.map Dl.enc).getD ((k:Nat):Int).toNat []=e.enc:=fun k e h=>by
   have hk:=(h0b.1 h).1;rw[hx];simp only[h0n,h0M,h0c];rw[h0e (by simpa using hk),h0u,h];rfl
  refine b0l (β:=Unit) pre (fun q _=>⟨[(8,.int .i64 q.length),(7,.bool (q.any fun e=>c6x tb e d)),(6,.int .i64 pre.length),(5,.slice (.arr 0) 24 ((b5h tb [] pre).map d8p)),(4,sl 54 (dl.map Dl.enc)),(3,sl 45 (tb.map b0p))],[],[(b5h tb [] pre).length]⟩)
   (fun _ _ _=>True) () ?_ trivial ?_ ?_
  ·simp -implicitDefEqProofs only[go_sem,List.any_nil];rfl
  ·intro _ _;have hno:((pre.length:Int)<pre.length)=False:=by simp
   simp -implicitDefEqProofs only[go_sem,hgx,hlt,hno,Dl.enc];rw[hs];refine⟨fun h=>?_,fun h=>?_⟩
   ·rw[if_pos h];exact⟨by omega,(),⟨hw,by simp[d8p]⟩,by simp⟩
   ·rw[if_neg (by rw[h];simp),h0F];exact⟨(),⟨hw,rfl⟩,rfl⟩
  ·rintro q e post2 _ hx2 _;have hpl2:pre.length=q.length+1+post2.length:=by rw[hx2];simp;omega
   have hge:=hPg q.length e (by rw[hx2];simp);have hle:((q.length:Int)<dl.length)=True:=by simp;omega
   have hlp:((q.length:Int)<pre.length)=True:=by simp;omega
   have hw2:IntKind.i64.wrap (↑q.length+1)=↑(q.length+1):=b0g (by omega);have hany:((q++[e]).any fun e=>c6x tb e d)=((q.any fun e=>c6x tb e d) || c6x tb e d):=by simp
   have hpe:=hpm e (by rw[hx2];simp);generalize c6x tb e d=dd at hpe hany;generalize(q.any fun e=>c6x tb e d)=aa at hany ⊢;obtain⟨ek,eo,en,eu,ed⟩:=e;obtain⟨dk,do',dn,du,dd'⟩:=d;simp only[Dl.enc]at hge hgx hpe;simp -implicitDefEqProofs only[go_sem,hgx,hlt,hge,hle,hlp];refine sdq ?_;cases aa with
   | true =>
    simp -implicitDefEqProofs only[go_sem,hgx,hlt,hge,hle,hlp];exact⟨(),hw2,by rw[hany];rfl⟩
   | false =>
    simp -implicitDefEqProofs only[go_sem,hgx,hlt,hge,hle,hlp];refine vPd hpe ?_;simp -implicitDefEqProofs only[go_sem];exact⟨(),hw2,by rw[hany];rfl⟩
theorem f0U(u:List Un):(b8A (b0f u) (b0e u 0)).2=b5h (b0f u) [] (b0e u 0):=by
 have:=d3S (tb:=b0f u) (b0e u 0) [] ([],[]) (fun d hd=>by obtain⟨_,_,_,_,_,_,_,h⟩:=c1F hd;exact h) (by simp) (by simp);simpa[b8A]using this
end Go.Proofs.YtighfcpaplmaiaaGreatDoor
namespace Go.Vg
theorem c5f:∀ (ks:List Nd) (b:Nat),∀ c∈b0E ks b,b≤c
 | [],_,c,h=>by cases h
 | x::r,b,c,h=>by
  rw[b0E]at h;rcases h0C.1 h with rfl | h
  ·exact h0q _
  ·have:=c5f r _ c h;omega
theorem c1f:∀ (ks:List Nd) (b:Nat),(b0E ks b).Pairwise (· < ·)
 | [],_ => .nil
 | x::r,b=>by
  rw[b0E];refine .cons (fun c hc=>?_) (c1f r _);have:=c5f r _ c hc;have:=c4b x;omega
theorem c4i{k:Nat}:∀ (ks:List Nat),ks.Pairwise (· < ·)→k∈ks→b2q k ks=ks.filter fun c=>decide (c<k)
 | [],_,h=>by cases h
 | x::r,hp,h=>by
  obtain⟨h1,h2⟩:=h1x.1 hp;unfold b2q;rw[List.takeWhile_cons];by_cases hx:x=k
  ·subst hx;have hr:r.filter (fun c=>decide (c<x))=[]:=by
    rw[List.filter_eq_nil_iff];intro c hc;have:=h1 c hc;simp;omega
   simp[hr]
  ·have hk:k∈r:=(h0C.1 h).resolve_left fun e=>hx e.symm
   have hlt:=h1 k hk;have:=c4i r h2 hk;unfold b2q at this;rw[if_pos (by simp[hx]),this,List.filter_cons,if_pos (by simpa using hlt)]
theorem d0S{α:Type}{p:α→Bool}:∀ (l:List α),(l.flatMap fun c=>if p c=true then [c]else [])=l.filter p
 | []=>rfl
 | x::r=>by
  rw[List.flatMap_cons,d0S r,List.filter_cons];cases p x <;> simp
theorem c8G{l:List Rw}{p k:Nat}(ha:(b0h l p).kids.Pairwise (· < ·))(hk:k∈(b0h l p).kids):b6Q l p k=c4L l p k:=by
 unfold b6Q c4L;rw[c4i _ ha hk];generalize(b0h l p).kids=ks;by_cases h6:(b0h l p).kind=6
 ·rw[if_pos h6,if_neg (by omega),h0F];have:∀ c,b2h l p k c=if decide ((b0h l c).kind=10)=true then [c]else []:=fun c=>by
   unfold b2h;have e2:(if(b0h l p).kind=2∧(b0h l k).kind=6∧(b0h l c).kind=3 then(b0h l c).kids.filter fun q=>decide ((b0h l q).kind=4)else [])=[]:=if_neg (by omega);rw[e2,h0F];by_cases h:(b0h l c).kind=10
   ·rw[if_pos ⟨h6,h⟩,if_pos (by simpa using h)]
   ·rw[if_neg (fun g=>h g.2),if_neg (by simpa using h)]
  rw[show b2h l p k=fun c=>if decide ((b0h l c).kind=10)=true then [c]else []from funext this,d0S,List.filter_filter];congr 1;funext c
  unfold c7D;rw[Bool.and_comm]
 ·rw[if_neg h6,h0Q];by_cases h2:(b0h l p).kind=2∧(b0h l k).kind=6
  ·rw[if_pos h2];induction ks with
   | nil=>rfl
   | cons c r ih =>
    rw[List.flatMap_cons,ih,List.filter_cons];by_cases hc:c<k
    ·rw[if_pos (by simpa using hc),List.flatMap_cons];congr 1;unfold b2h;rw[if_neg (fun g=>h6 g.1),h0Q];by_cases h3:(b0h l c).kind=3
     ·rw[if_pos ⟨h2.1,h2.2,h3⟩];congr 1;funext q
      unfold b8q;simp[hc,h3]
     ·rw[if_neg (fun g=>h3 g.2.2)];rw[List.filter_eq_nil_iff];intro q _;simp[b8q,h3]
    ·rw[if_neg (by simpa using hc)];have:(b0h l c).kids.filter (b8q l k c)=[]:=by
      rw[List.filter_eq_nil_iff];intro q _;simp[b8q,hc]
     rw[this,h0Q]
  ·rw[if_neg h2]
   symm
   rw[List.flatMap_eq_nil_iff];intro c _;unfold b2h;rw[if_neg (fun g=>h6 g.1),if_neg (fun g=>h2 ⟨g.1,g.2.1⟩)];rfl
theorem d8v{l:List Rw}(hg:gramL l)(ha:∀ p<l.length,(b0h l p).kids.Pairwise (· < ·)):∀ (f k:Nat),k<l.length→c8U l f k=b7J l f k
 | 0,_,_=>rfl
 | f+1,k,hk=>by
  rw[c8U,b7J];by_cases h0:(b0h l k).parent<0
  ·rw[if_pos h0,if_pos h0]
  ·rw[if_neg h0,if_neg h0];have hp1:=(hg.ok.par k hk).1;obtain⟨p,hp,hpk,j,hj,hkk⟩:=hg.par k hk (by omega);rw[hp,h0n,d8v hg ha f p (by omega)];have hm:k∈(b0h l p).kids:=by
    have:=b3J hj;rw[hkk]at this;exact h0j this
   rw[c8G (ha p (by omega)) hm]
theorem d9n(k:Int)(t:ByteArray):(b6Y k t).2 = !decide (c0R k t=0)∧(c0R k t≠0→(b6Y k t).1=(if c0R k t=6 then 3 else c0R k t)):=by
 unfold b6Y c0R;by_cases h1:k=19∨k=11
 ·simp[h1]
 rw[if_neg h1,if_neg h1];by_cases h2:k=20
 ·simp[h2]
 rw[if_neg h2,if_neg h2];by_cases h3:k=22
 ·simp[h3]
 rw[if_neg h3,if_neg h3];by_cases h4:k=5
 ·rw[if_pos h4,if_pos h4];by_cases h:t=⟨#[105,110,116]⟩
  ·simp[h]
  ·by_cases h':t=⟨#[98,111,111,108]⟩
   ·simp[h']
   ·simp[h,h']
 rw[if_neg h4,if_neg h4];by_cases h5:k=8
 ·rw[if_pos h5,if_pos h5];by_cases h:t=⟨#[]⟩
  ·simp[h]
  ·simp[h]
 rw[if_neg h5,if_neg h5];simp
end Go.Vg
namespace Go.Proofs.YtighfcpaplmaiaaGreatDoor
open Go Go.Vg Go.Proofs
theorem SndU.asc{u:List Un}(h:SndU u){un:Nat}{l:List Rw}(hl:(b0f u)[un]? = some l):∀ p<l.length,(b0h l p).kids.Pairwise (· < ·):=by
 obtain⟨x,hx,rfl⟩:=b2H h.br hl;intro p hp;obtain⟨k,t,g,ks,e1,e2,e3,e4⟩:=b1I hp;rw[e4];exact c1f ks _
theorem d4k{u:List Un}(h:SndU u){un i:Nat}{l:List Rw}(hl:(b0f u)[un]? = some l)(hi:i<l.length):b8B l (b0e u 0) un i=b5I l (b2c (b0e u 0)) un i:=by
 obtain⟨g1,g2⟩:=d9n (b0h l i).kind (b0h l i).text;unfold b8B b5I;rw[g1];by_cases h0:c0R (b0h l i).kind (b0h l i).text=0
 ·rw[if_pos h0,h0H h0,if_neg (by simp)]
 ·rw[if_neg h0,h0z h0,if_pos (by simp)];congr 2
  have hv:=d8v (h.gram l (h0j hl)) (h.asc hl) (i+1) i hi;unfold f0C c3B;rw[if_neg h0,hv,g2 h0,b9m];by_cases h6:c0R (b0h l i).kind (b0h l i).text=6
  ·rw[if_pos h6,f6B,if_pos h6];simp[h6]
  ·rw[if_neg h6,if_neg (fun g=>h6 g.1),f6B,if_neg h6,if_neg];rintro⟨h3,_⟩;have:∀ k t,c0R k t≠3:=fun k t=>by
    unfold c0R
    repeat' split
    all_goals omega
   exact this _ _ h3
theorem c6Z{u:List Un}(h:SndU u){un:Nat}{l:List Rw}(hl:(b0f u)[un]? = some l):∀ n,n≤l.length→b4n l (b0e u 0) un n=(List.range n).flatMap (b5I l (b2c (b0e u 0)) un)
 | 0,_=>by simp[b4n]
 | n+1,hn=>by rw[b4n,c6Z h hl n (by omega),d4k h hl (by omega),List.range_succ,List.flatMap_append];simp
theorem c7o{u:List Un}(h:SndU u):b3c (b0f u) (b0e u 0) (b0f u).length=b4r u:=by
 have key:∀ n,n≤(b0f u).length→b3c (b0f u) (b0e u 0) n=b2O (b2c (b0e u 0)) ((b0f u).take n) 0:=by
  intro n;induction n with
  | zero=>intro _;simp[b3c,b2O]
  | succ n ih =>
   intro hn;have hl:(b0f u)[n]? = some (b0f u)[n]:=h0f (by omega);have hg:(b0f u).getD n []=(b0f u)[n]:=by rw[h0c,hl];rfl
   rw[b3c,ih (by omega),hg,c6Z h hl _ (h0q _),List.take_add_one,hl];show _=b2O _ (_++[_]) 0;rw[b8o,List.length_take,h0w,Nat.min_eq_left (by omega)];rfl
 have:=key _ (h0q _);rw[List.take_length]at this;exact this
end Go.Proofs.YtighfcpaplmaiaaGreatDoor
