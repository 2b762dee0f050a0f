import Derived.Test.YtighfcpaplmaiaaGreatDoorToB
import Derived.Test.YtighfcpaplmaiaaGreatDoorTmG
import Derived.Lib.Join
import Derived.Shelf.GgSortFunc.Tiny
import Derived.Test.YtighfcpaplmaiaaGreatDoorVgL
import Derived.Test.YtighfcpaplmaiaaGreatDoorTnF
import GoSem.ClaimJoined
import Derived.DataReads
import Derived.Handed
import Derived.Lib.LaidU8
import Derived.Shelf.Vars
import Derived.Carry
import Derived.ChangeMaps5
set_option linter.unusedVariables false
set_option linter.unusedSimpArgs false
set_option maxRecDepth 20000
namespace Go.Vg
def c1Z(bt:Dl→ByteArray)(B:List (ByteArray×ByteArray))(d:Dl):List (ByteArray×ByteArray):=if d.kind=2∧(b1G B d.name).isSome=false then B++[(d.name,bt d)]else B
def c0m(d e:Dl):Bool:=decide (d.owner=e.owner) && decide (d.name=e.name)
def d0z(M:List Dl)(d:Dl):List Dl:=if d.kind=4∧(M.any (c0m d))=false then M++[d]else M
def b0C(bt:Dl→ByteArray)(l:List Dl):List (ByteArray×ByteArray):=l.foldl (c1Z bt) []
def b3x(l:List Dl):List Dl:=l.foldl d0z []
def mapM(M:List Dl):List (V×V):=M.map fun d=>(.agg [.str d.owner,.str d.name],.agg d.enc)
theorem b4V{bt:Dl→ByteArray}{l:List Dl}{d:Dl}:b0C bt (l++[d])=c1Z bt (b0C bt l) d:=by simp[b0C]
theorem b4A{l:List Dl}{d:Dl}:b3x (l++[d])=d0z (b3x l) d:=by simp[b3x]
theorem b1i(bt:Dl→ByteArray)(l:List Dl):(b0C bt l).length≤l.length:=by
 have key:∀ (l:List Dl) (B:List (ByteArray×ByteArray)),(l.foldl (c1Z bt) B).length≤B.length+l.length:=by
  intro l;induction l with
  | nil=>intro B;simp
  | cons x r ih =>
   intro B;have:=ih (c1Z bt B x);have h2:(c1Z bt B x).length≤B.length+1:=by unfold c1Z;split <;> simp
   simp only[h0K,h0o];omega
 simpa[b0C]using key l []
theorem d9P(d:Dl):∀ (M:List Dl) (i:Nat),(∃ j e,b1e [0,0] [.str d.owner,.str d.name] (mapM M) i=some (some (j,.agg (Dl.enc e)))∧(M.any (c0m d))=true)∨(b1e [0,0] [.str d.owner,.str d.name] (mapM M) i=some none∧(M.any (c0m d))=false)
 | [],i => .inr ⟨rfl,rfl⟩
 | e::r,i=>by
  have heq:eqL [V.str d.owner,V.str d.name] [V.str e.owner,V.str e.name]=some (c0m d e):=by
   simp only[eqL,eq1,h1g];rfl
  have h1:b1e [0,0] [.str d.owner,.str d.name] (mapM (e::r)) i=if c0m d e=true then some (some (i,.agg e.enc))else b1e [0,0] [.str d.owner,.str d.name] (mapM r) (i+1):=by
   simp only[mapM,h0s,b1e,heq];have hf:b3F [0,0] [V.str d.owner,V.str d.name] [V.str e.owner,V.str e.name]=true:=rfl;rw[if_pos hf];cases c0m d e <;> rfl
  rw[h1,List.any_cons];by_cases h:c0m d e=true
  ·exact .inl ⟨i,_,by rw[if_pos h],by rw[h];rfl⟩
  ·rw[if_neg h];have:c0m d e=false:=by simpa using h
   rw[this,h0Y];exact d9P d r (i+1)
def b8W(u:List Un)(cls:ByteArray):List ByteArray:=(b7B (b0C (btU u) (b0e u 0)) cls ((b0C (btU u) (b0e u 0)).length+1) [] ((b1G (b0C (btU u) (b0e u 0)) cls).getD ⟨#[]⟩)).1
end Go.Vg
namespace Go.Proofs.YtighfcpaplmaiaaGreatDoor
open Go Go.Vg Go.Proofs
theorem f0j{B:List (ByteArray×ByteArray)}{n b:ByteArray}{h:List VObj}{id:Nat}{L:List VObj→Prop}(hn:(b1G B n).isSome=false):b3Z h id (b6y B) (.str n) (.str b) (b1v .string (.str n) (b6y B) 0) L=L (h.set id (.map (b6y (B++[(n,b)])))):=by
 rcases d6q n B 0 with⟨j,v,h1,h2⟩ | ⟨h1,h2⟩
 ·rw[h2]at hn;cases hn
 ·rw[h1];simp -implicitDefEqProofs only[go_sem];simp[b6y]
theorem f9S{M:List Dl}{d:Dl}{h:List VObj}{id:Nat}{L:List VObj→Prop}(hn:(M.any (c0m d))=false):b3Z h id (mapM M) (.agg [.str d.owner,.str d.name]) (.agg d.enc) (b1e [0,0] [.str d.owner,.str d.name] (mapM M) 0) L=L (h.set id (.map (mapM (M++[d])))):=by
 rcases d9P d M 0 with⟨j,v,h1,h2⟩ | ⟨h1,h2⟩
 ·rw[h2]at hn;cases hn
 ·rw[h1];simp -implicitDefEqProofs only[go_sem];simp[mapM]
theorem b7R(k ka:Nat):∀ B:List (ByteArray×ByteArray),ltP k ka (b6y B)=true
 | []=>rfl
 | x::r=>by
  have:=b7R k ka r;simp -implicitDefEqProofs only[b6y,h0s,ltP,go_sem]at this ⊢;simp[this,V.lt]
theorem b7U(k ka:Nat):∀ M:List Dl,ltP k ka (mapM M)=true
 | []=>rfl
 | x::r=>by
  have:=b7U k ka r;have hx:(V.agg x.enc).lt k ka=true:=by simp[V.lt,Dl.enc,ltL]
  simp only[mapM,h0s,ltP]at this ⊢;rw[hx,this];simp[V.lt,ltL]
theorem b2m(k ka:Nat):∀ B:List (ByteArray×ByteArray),b6K k ka (B.map fun p=>[V.str p.1])=true
 | []=>rfl
 | x::r=>by simp only[h0s,b6K,b2m k ka r];rfl
theorem d1S:b2S Tryz.prog 54 = .agg Dl.zero.enc:=by kernel_rfl
theorem b5a:flatK Tryz.prog 157=some [0,0]:=by kernel_rfl
theorem g5f(u:List Un)(hu:b2D u):b0q env 61 [sl 70 (u.map Un.enc)] [] [] fun v h a =>
  v = .ptr 2 0∧h=[.map (b6y (b0C (btU u) (b0e u 0))),.map (mapM (b3x (b0e u 0))),.cells [.slice (.arr 0) 9 ((b0C (btU u) (b0e u 0)).map fun p=>[.str p.1]),.map 0,.map 1,sl 54 ((b0e u 0).map Dl.enc)]]∧a=[(b0C (btU u) (b0e u 0)).length]:=by
 have hD:=d3g u hu;rw[b6r]at hD;have hdl:=b0H u 0 fun y hy=>(hu.2 y hy).1
 have hul:=hu.1;have hat:∀ d∈b0e u 0,_:=fun d hd=>b4w u 0 d hd
 refine b0y (fn:=Tryz.f61) Tryz.func61 rfl (by rw[Tryz.ntmps61];simp) ?_;simp -implicitDefEqProofs only[go_sem,Tryz.f61];refine hD.cq ?_;simp -implicitDefEqProofs only[go_sem];intro _ _;generalize hdd:b0e u 0=dl at hat hdl ⊢;have hdl2:dl.length≤1000000:=by omega
 refine b0l (β:=Unit) dl (fun pre _=>⟨[(24,.int .i64 pre.length),(23,.int .i64 dl.length),(22,sl 54 (dl.map Dl.enc)),(3,.ptr 2 0),(0,sl 70 (u.map Un.enc))],
   [.map (b6y (b0C (btU u) pre)),.map (mapM (b3x pre)),.cells [.slice (.arr 0) 9 ((b0C (btU u) pre).map fun p=>[.str p.1]),.map 0,.map 1,sl 54 (dl.map Dl.enc)]],[(b0C (btU u) pre).length]⟩)
  (fun _ _ _=>True) () ?_ trivial ?_ ?_
 ·simp -implicitDefEqProofs only[go_sem];exact⟨rfl,rfl,rfl,rfl⟩
 ·intro _ _;simp -implicitDefEqProofs only[go_sem]
 ·rintro pre d post _ hx _;have hpl:dl.length=pre.length+1+post.length:=by rw[hx];simp;omega
  have hgx:(dl.map Dl.enc).getD (pre.length:Int).toNat []=d.enc:=by rw[hx];simp[h0c]
  have hlt:((pre.length:Int)<dl.length)=True:=by simp;omega
  have hbl:=b1i (btU u) pre;have hw:IntKind.i64.wrap (↑pre.length+1)=↑(pre.length+1):=b0g (by omega);obtain⟨un,x,e1,e2,e3,nd,n,e4,e5,e6,e7,e8⟩:=hat d (by rw[hx];simp);simp -implicitDefEqProofs only[go_sem,hgx,hlt];refine⟨fun h2=>?_,fun h2=>⟨fun h4=>?_,fun h4=>?_⟩⟩
  ·refine sdq ?_;simp -implicitDefEqProofs only[go_sem,b9p];refine⟨fun hn=>?_,fun hn=>?_⟩
   ·have hn':(b1G (b0C (btU u) pre) d.name).isSome=false:=by simpa using hn
    have hxm:x∈u:=h0j e2;have hnm:n∈b0o x.tree:=h0j e5;have hnl:=b6m x.tree n hnm;have hxl:=(hu.2 x hxm).1;have hbs:=f4f u hu un nd x n e2 e5 (fun kk hk=>by
     obtain⟨k,t,g,ks⟩:=n;have:=c4x (k:=k) (t:=t) (g:=g) (ks:=ks) (x:=kk) hk;omega) (by
     obtain⟨k,t,g,ks⟩:=n;have:=b3L ks;rw[b0Z]at hnl;simp only[Nd.kids];omega)
    have hb:(b4u n.kids (nd+1)).1.text=btU u d:=by
     unfold btU;rw[e1,e4];simp only[h0w,h0n,e2,e5];rw[c0d n.kids (nd+1) 0]
    have hpa:b0C (btU u) (pre++[d])=b0C (btU u) pre++[(d.name,btU u d)]:=by
     rw[b4V,c1Z,if_pos ⟨h2,hn'⟩]
    have hpm:b3x (pre++[d])=b3x pre:=by
     rw[b4A,d0z,if_neg (by omega)]
    rw[e1,e4,h0w,h0w];refine hbs.cq ?_;generalize b4u n.kids (nd+1)=bb at hb ⊢;obtain⟨⟨bk,bx,bg,bks⟩,bi⟩:=bb
    replace hb:bx=btU u d:=hb
    simp -implicitDefEqProofs only[go_sem,hb,f0j hn'];refine sdq ?_;simp -implicitDefEqProofs only[go_sem,hb,f0j hn'];refine sdq ?_;simp -implicitDefEqProofs only[go_sem,hb,f0j hn'];rw[b7R,b7U,b2m,b0m _ _ _ (b0D _),b0m _ _ _ (b0v _)];exact⟨by omega,(),hw,⟨by rw[hpa],by rw[hpm],by rw[hpa];simp⟩,by rw[hpa];simp,.inr ⟨rfl,rfl⟩⟩
   ·have hn':(b1G (b0C (btU u) pre) d.name).isSome=true:=by simpa using hn
    have hpa:b0C (btU u) (pre++[d])=b0C (btU u) pre:=by
     rw[b4V,c1Z,if_neg (by rw[hn'];simp)]
    have hpm:b3x (pre++[d])=b3x pre:=by
     rw[b4A,d0z,if_neg (by omega)]
    rw[hpa,hpm,b7R,b7U,b2m,b0m _ _ _ (b0D _),b0m _ _ _ (b0v _)];exact⟨(),hw,⟨rfl,rfl,rfl⟩,rfl,.inr ⟨rfl,rfl⟩⟩
  ·refine sdq ?_;simp -implicitDefEqProofs only[go_sem,b5a];have hpa:b0C (btU u) (pre++[d])=b0C (btU u) pre:=by
    rw[b4V,c1Z,if_neg (by omega)]
   rcases d9P d (b3x pre) 0 with⟨j,v,q1,q2⟩ | ⟨q1,q2⟩
   ·have hpm:b3x (pre++[d])=b3x pre:=by
     rw[b4A,d0z,if_neg (by rw[q2];simp)]
    rw[q1];simp -implicitDefEqProofs only[go_sem];rw[hpa,hpm,b7R,b7U,b2m,b0m _ _ _ (b0D _),b0m _ _ _ (b0v _)];exact⟨(),hw,⟨rfl,rfl,rfl⟩,rfl,.inr ⟨rfl,rfl⟩⟩
   ·have hpm:b3x (pre++[d])=b3x pre++[d]:=by
     rw[b4A,d0z,if_pos ⟨h4,q2⟩]
    rw[q1];simp -implicitDefEqProofs only[go_sem,d1S];refine sdq ?_;simp -implicitDefEqProofs only[go_sem,b5a,f9S q2];rw[b7R,b7U,b2m,b0m _ _ _ (b0D _),b0m _ _ _ (b0v _)];exact⟨(),hw,⟨by rw[hpa],by rw[hpm],by rw[hpa]⟩,by rw[hpa],.inr ⟨rfl,rfl⟩⟩
  ·have hpa:b0C (btU u) (pre++[d])=b0C (btU u) pre:=by
    rw[b4V,c1Z,if_neg (by omega)]
   have hpm:b3x (pre++[d])=b3x pre:=by
    rw[b4A,d0z,if_neg (by omega)]
   rw[hpa,hpm,b7R,b7U,b2m,b0m _ _ _ (b0D _),b0m _ _ _ (b0v _)];exact⟨(),hw,⟨rfl,rfl,rfl⟩,rfl,.inr ⟨rfl,rfl⟩⟩
theorem f0w(u:List Un)(hu:b2D u)(cls:ByteArray):b0s env 33 [sl 70 (u.map Un.enc),.str cls] (sl 9 ((b8W u cls).map b0n)):=by
 have hdl:=b0H u 0 fun y hy=>(hu.2 y hy).1
 have hul:=hu.1;have hbl:=b1i (btU u) (b0e u 0);refine b0i (fn:=Tryz.f33) Tryz.func33 rfl (by rw[Tryz.ntmps33];simp) (by simp -implicitDefEqProofs only[go_sem];exact b0v _) (by simp -implicitDefEqProofs only[go_sem]) ?_;simp -implicitDefEqProofs only[go_sem,Tryz.f33];refine b0q.mono (g5f u hu) ?_;rintro v h a ⟨rfl,rfl,rfl⟩;simp -implicitDefEqProofs only[go_sem];refine b0q.mono (f0x (b0C (btU u) (b0e u 0)) _ _ _ _ cls (by omega) rfl rfl) ?_;rintro v h a ⟨n,z,rfl,rfl,rfl⟩;simp -implicitDefEqProofs only[go_sem];rfl
end Go.Proofs.YtighfcpaplmaiaaGreatDoor
namespace Go.Vg
theorem b7z{k:Int}{t g}{ks:List Nd}{p:Int}{a:Nat}:b0u (.mk k t g ks) p a=⟨p,k,t,g,b0E ks (a+1)⟩::b0X ks a (a+1):=by rw[b0u]
theorem c3e:∀ (n:Nd) (i:Nat) (y:Nd),(b0o n)[i]? = some y→∃ A B,b0o n=A++b0o y++B∧A.length=i∧∀ p a,∃ q A' B',b0u n p a=A'++b0u y q (a+i)++B'∧A'.length=i:=by
 refine Nd.all fun k t g ks ih i y hy=>?_
 have hs:∀ (l:List Nd),(∀ z∈l,∀ (i:Nat) (y:Nd),(b0o z)[i]? = some y→∃ A B,b0o z=A++b0o y++B∧A.length=i∧∀ p a,∃ q A' B',b0u z p a=A'++b0u y q (a+i)++B'∧A'.length=i)→∀ (i:Nat) (y:Nd),(b0k l)[i]? = some y →
   ∃ A B,b0k l=A++b0o y++B∧A.length=i∧∀ (p:Nat) a,∃ q A' B',b0X l p a=A'++b0u y q (a+i)++B'∧A'.length=i:=by
  intro l;induction l with
  | nil=>intro _ i y hy;simp[b0k]at hy
  | cons z r ihr =>
   intro h i y hy;rw[b0k]at hy;by_cases hi:i<(b0o z).length
   ·rw[h0e hi]at hy;obtain⟨A,B,h1,h2,h3⟩:=h z (by simp) i y hy;refine⟨A,B++b0k r,by rw[b0k,h1];simp,h2,fun p a=>?_⟩;obtain⟨q,A',B',g1,g2⟩:=h3 p a;exact⟨q,A',B'++b0X r p (a+(b0o z).length),by rw[b0X,g1];simp,g2⟩
   ·rw[h0g (by omega)]at hy;obtain⟨A,B,h1,h2,h3⟩:=ihr (fun w hw=>h w (by simp[hw])) _ y hy;refine⟨b0o z++A,B,by rw[b0k,h1];simp,by rw[h0h];omega,fun p a=>?_⟩;obtain⟨q,A',B',g1,g2⟩:=h3 p (a+(b0o z).length);refine⟨q,b0u z p a++A',B',?_,by rw[h0h,b0K];omega⟩;rw[b0X,g1,show a+(b0o z).length+(i - (b0o z).length)=a+i by omega];simp
 rw[b0o]at hy;cases i with
 | zero =>
  simp at hy;subst hy;exact⟨[],[],by simp,rfl,fun p a=>⟨p,[],[],by simp,rfl⟩⟩
 | succ i =>
  rw[g9Y]at hy;obtain⟨A,B,h1,h2,h3⟩:=hs ks ih i y hy;refine⟨.mk k t g ks::A,B,by rw[b0o,h1];simp,by simp[h2],fun p a=>?_⟩;obtain⟨q,A',B',g1,g2⟩:=h3 a (a+1);refine⟨q,⟨p,k,t,g,b0E ks (a+1)⟩::A',B',?_,by simp[g2]⟩;rw[b7z,g1,show a+1+i=a+(i+1)by omega];simp
theorem f6u{n:Nd}{i:Nat}{k:Int}{t g}{ks:List Nd}(h:(b0o n)[i]? = some (.mk k t g ks)):∃ q,(b0u n (-1) 0)[i]? = some ⟨q,k,t,g,b0E ks (i+1)⟩:=by
 obtain⟨A,B,h1,h2,h3⟩:=c3e n i _ h;obtain⟨q,A',B',g1,g2⟩:=h3 (-1) 0;refine⟨q,?_⟩;rw[g1,b7z,h0x,h0g (by omega),g2,h0w];simp
theorem b4d{n:Nd}{i:Nat}{k:Int}{t g}{ks:List Nd}(h:(b0o n)[i]? = some (.mk k t g ks)):(b0h (b0u n (-1) 0) i).kind=k∧(b0h (b0u n (-1) 0) i).text=t∧(b0h (b0u n (-1) 0) i).kids=b0E ks (i+1):=by
 obtain⟨q,hq⟩:=f6u h;simp[b0h,h0c,hq]
theorem c7J:∀ (ks:List Nd) (b j:Nat) (z:Nd),ks[j]? = some z→∃ o,(b0E ks b)[j]? = some (b+o)∧(b0k ks)[o]? = some z
 | [],b,j,z,h=>by simp at h
 | x::r,b,j,z,h=>by
  cases j with
  | zero =>
   simp at h;subst h;refine⟨0,by simp[b0E],?_⟩;obtain⟨a1,a2,a3,a4⟩:=x;simp[b0k,b0o]
  | succ j =>
   obtain⟨o,h1,h2⟩:=c7J r (b+(b0o x).length) j z (by simpa using h);refine⟨(b0o x).length+o,by rw[b0E,g9Y,h1,h1s],?_⟩;rw[b0k,h0g (by omega)];simpa using h2
theorem b8C{n:Nd}{i j:Nat}{k:Int}{t g}{ks:List Nd}{z:Nd}(h:(b0o n)[i]? = some (.mk k t g ks))(hz:ks[j]? = some z):∃ c,(b0E ks (i+1))[j]? = some c∧(b0o n)[c]? = some z:=by
 obtain⟨A,B,h1,h2,h3⟩:=c3e n i _ h;obtain⟨o,g1,g2⟩:=c7J ks (i+1) j z hz;refine⟨i+1+o,g1,?_⟩;have hol:=(h0b.1 g2).1;rw[h1,h0x,h0g (by omega),b0o];rw[h0e (by simp;omega),h2,show i+1+o - i=o+1 by omega,g9Y];exact g2
def bR(l:List Rw):List Nat→Int×ByteArray
 | []=>(-1,⟨#[]⟩)
 | k::r=>if(b0h l k).kind=8 then(k,(b0h l k).text)else bR l r
theorem f1H{n:Nd}{i:Nat}{k:Int}{t g}{ks:List Nd}(h:(b0o n)[i]? = some (.mk k t g ks)):(bR (b0u n (-1) 0) (b0E ks (i+1))).2=(b4u ks 0).1.text:=by
 have key:∀ (l:List Nd) (cs:List Nat) (b:Int),cs.length=l.length→(∀ (j:Nat) z,l[j]? = some z→∃ c,cs[j]? = some c∧(b0o n)[c]? = some z)→(bR (b0u n (-1) 0) cs).2=(b4u l b).1.text:=by
  intro l;induction l with
  | nil=>intro cs b hl _;rw[h0G hl];rfl
  | cons z r ihr =>
   intro cs b hl hc;cases cs with
   | nil=>simp at hl
   | cons c cs =>
    obtain⟨c',h1,h2⟩:=hc 0 z rfl;simp at h1;subst h1;obtain⟨zk,zt,zg,zks⟩:=z;obtain⟨q1,q2,q3⟩:=b4d h2;rw[bR,b4u,q1,q2];by_cases h8:zk=8
    ·rw[if_pos h8,if_pos (show(Nd.mk zk zt zg zks).kind=8 from h8)];rfl
    ·rw[if_neg h8,if_neg (show ¬ (Nd.mk zk zt zg zks).kind=8 from h8)];exact ihr cs _ (by simpa using hl) fun j z hz=>by
      obtain⟨c'',g1,g2⟩:=hc (j+1) z (by simpa using hz);exact⟨c'',by simpa using g1,g2⟩
 exact key ks _ 0 (b0U _ _) fun j z hz=>b8C h hz
def b7G(x:Un):List Rw:=if x.broken=true then []else b0u x.tree (-1) 0
def f1T(x:Un):List V:=[sl 48 ((b7G x).map Rw.enc)]
def b2C(u:List Un)(d:Dl):Int×ByteArray:=if d.kind=2 then match u[d.unit.toNat]? with
 | some x=>bR (b7G x) (b0h (b7G x) d.node.toNat).kids
 | none=>(-1,⟨#[]⟩)else(-1,⟨#[]⟩)
def upD(u:List Un)(dl:List Dl)(d:Dl):Int:=if(b2C u d).2=⟨#[]⟩then -1 else firstD dl (b2C u d).2 0
def c4a(n:Int):List V:=[.int .i64 n]
def b1A(u:List Un)(dl:List Dl):List V:=[sl 54 (dl.map Dl.enc),sl 3 ((dl.map fun d=>(b2C u d).1).map c4a),sl 9 ((dl.map fun d=>(b2C u d).2).map b0n),sl 3 ((dl.map (upD u dl)).map c4a)]
theorem b7f:∀ l:List Int,b0P (l.map c4a)=true
 | []=>rfl
 | x::r=>by simp only[h0s,b0P,b7f r];rfl
theorem b2j(u:List Un)(dl:List Dl):b0Y (b1A u dl)=true:=by
 simp -implicitDefEqProofs only[b1A,go_sem,b7f,b0D,c3O]
end Go.Vg
namespace Go.Proofs.YtighfcpaplmaiaaGreatDoor
open Go Go.Vg Go.Proofs
theorem d2n(u:List Un)(hu:b2D u):b0s env 74 [sl 70 (u.map Un.enc)] (.agg (b1A u (b0e u 0))):=by
 have hD:=b7j u hu;have hdl:=b0H u 0 fun y hy=>(hu.2 y hy).1
 have hul:=hu.1;have hat:∀ d∈b0e u 0,_:=fun d hd=>b4w u 0 d hd
 refine b0i (fn:=Tryz.f74) Tryz.func74 rfl (by rw[Tryz.ntmps74];simp) (by simp -implicitDefEqProofs only[go_sem];exact b0v _) (by simp -implicitDefEqProofs only[go_sem];exact b2j _ _) ?_;simp -implicitDefEqProofs only[go_sem,Tryz.f74];refine hD.cq ?_;simp -implicitDefEqProofs only[go_sem];generalize hdd:b0e u 0=dl at hat hdl ⊢;have hdl2:dl.length≤1000000:=by omega
 refine b0l (β:=Unit) u (fun pre _=>⟨[(5,.int .i64 pre.length),(4,.slice (.arr 0) 45 (pre.map f1T)),(3,.ptr 1 0),(2,.ptr 0 0),(0,sl 70 (u.map Un.enc))],
   [.cells [.slice .nil 0 [],.slice .nil 0 [],.slice .nil 0 [],.slice .nil 0 []],.cells [sl 54 (dl.map Dl.enc),.slice .nil 0 [],.slice .nil 0 [],.slice .nil 0 []]],[pre.length]⟩) (fun _ _ _=>True) () ?_ trivial ?_ ?_
 ·simp -implicitDefEqProofs only[go_sem];try rfl
 ·intro _ _;simp -implicitDefEqProofs only[go_sem];intro _ _;refine b0l (β:=Unit) dl (fun pre _=>⟨[(7,.int .i64 pre.length),(4,.slice (.arr 0) 45 (u.map f1T)),(3,.ptr 1 0),(2,.ptr 0 0),(0,sl 70 (u.map Un.enc))],
   [.cells [.slice .nil 0 [],.slice .nil 0 [],.slice .nil 0 [],.slice .nil 0 []],.cells [sl 54 (dl.map Dl.enc),.slice (.arr 1) 3 ((pre.map fun d=>(b2C u d).1).map c4a),.slice (.arr 2) 9 ((pre.map fun d=>(b2C u d).2).map b0n),.slice (.arr 3) 3 ((pre.map (upD u dl)).map c4a)]],[u.length,pre.length,pre.length,pre.length]⟩) (fun _ _ _=>True) () ?_ trivial ?_ ?_
  ·simp -implicitDefEqProofs only[go_sem];rfl
  ·intro _ _;simp -implicitDefEqProofs only[go_sem];intro _ _;rfl
  ·rintro pre d post _ hx _;have hpl:dl.length=pre.length+1+post.length:=by rw[hx];simp;omega
   have hgx:(dl.map Dl.enc).getD (pre.length:Int).toNat []=d.enc:=by rw[hx];simp[h0c]
   have hw:IntKind.i64.wrap (↑pre.length+1)=↑(pre.length+1):=b0g (by omega);have hlt:((pre.length:Int)<dl.length)=True:=by simp;omega
   obtain⟨un,x,e1,e2,e3,nd,n,e4,e5,e6,e7,e8⟩:=hat d (by rw[hx];simp);have hul2:un<u.length:=(h0b.1 e2).1;have hxm:x∈u:=h0j e2;have hxl:=(hu.2 x hxm).1;have hndl:nd<(b0o x.tree).length:=(h0b.1 e5).1;have htab:b7G x=b0u x.tree (-1) 0:=by rw[b7G,if_neg (by rw[e3];simp)]
   obtain⟨dk,dow,dn,du,dd⟩:=d;simp only at e1 e4 e6 e7 e8;rw[h0w]at e1 e4;subst e1 e4;have hel:(u.map f1T).getD (un:Int).toNat []=[sl 48 ((b7G x).map Rw.enc)]:=by simp[h0c,e2,f1T]
   have hlu:((un:Int)<(u.length:Int))=True:=by simp;omega
   have hrl:(b7G x).length=(b0o x.tree).length:=by rw[htab,b0K]
   have hnl:((nd:Int)<((b7G x).length:Int))=True:=by rw[hrl];simp;omega
   have hrd:∀ k,b2C u ⟨k,dow,dn,(un:Nat),(nd:Nat)⟩=if k=2 then bR (b7G x) (b0h (b7G x) nd).kids else(-1,⟨#[]⟩):=fun k=>by
    simp only[b2C,h0n,e2]
   have hneg:dk≠2→b2C u ⟨dk,dow,dn,(un:Nat),(nd:Nat)⟩=(-1,⟨#[]⟩):=fun h=>by rw[hrd,if_neg h]
   simp -implicitDefEqProofs only[go_sem,hgx,hlt,Dl.enc];intro _ _;refine⟨fun h2=>⟨by omega,?_⟩,fun h2=>⟨by omega,by omega,by omega,(),hw,by rw[hneg h2];rfl,by rw[hneg h2];rfl,by rw[upD,hneg h2];rfl⟩⟩;rw[hel];simp -implicitDefEqProofs only[go_sem,hgx,hlt,Dl.enc,hnl,b0z (show nd<(b7G x).length by omega)];obtain⟨nk,nt,ng,nks⟩:=n;have hkd:(b0h (b7G x) nd).kids=b0E nks (nd+1):=by rw[htab];exact(b4d e5).2.2
   have hkl:∀ k∈(b0h (b7G x) nd).kids,k<(b7G x).length:=fun k hk=>by
    rw[hkd]at hk;obtain⟨j,hj,hje⟩:=h1h hk;have hjl:j<nks.length:=by rw[b0U]at hj;exact hj
    obtain⟨c,g1,g2⟩:=b8C e5 (h0f hjl);have:c=k:=by rw[h0f hj]at g1;simp at g1;omega
    subst this;rw[hrl];exact(h0b.1 g2).1
   have hksz:(b0h (b7G x) nd).kids.length≤1000:=by
    rw[hkd,b0U];have h1:=b3L nks;have h2:=b6m _ _ (h0j e5);rw[b0Z]at h2;omega
   have hR:=hrd dk;rw[if_pos h2]at hR;generalize hks:(b0h (b7G x) nd).kids=ks at hkl hksz hR ⊢;refine b0l (β:=Int×ByteArray) ks (fun p b=>⟨[(13,.int .i64 p.length),(12,sl 3 (ks.map b0J)),(11,sl 48 ((b7G x).map Rw.enc)),(10,.int .i64 (-1)),(9,.str b.2),(8,.int .i64 b.1),(7,.int .i64 pre.length),(4,.slice (.arr 0) 45 (u.map f1T)),(3,.ptr 1 0),(2,.ptr 0 0),(0,sl 70 (u.map Un.enc))],
    [.cells [.slice .nil 0 [],.slice .nil 0 [],.slice .nil 0 [],.slice .nil 0 []],.cells [sl 54 (dl.map Dl.enc),.slice (.arr 1) 3 ((pre.map fun d=>(b2C u d).1).map c4a),.slice (.arr 2) 9 ((pre.map fun d=>(b2C u d).2).map b0n),.slice (.arr 3) 3 ((pre.map (upD u dl)).map c4a)]],[u.length,pre.length,pre.length,pre.length]⟩)
    (fun p q b=>(b.1 = -1∧b.2=⟨#[]⟩∧bR (b7G x) ks=bR (b7G x) q)∨(0≤b.1∧bR (b7G x) ks=b)) (-1,⟨#[]⟩) ?_ (.inl ⟨rfl,rfl,rfl⟩) ?_ ?_
   ·simp -implicitDefEqProofs only[go_sem];try rfl
   ·rintro⟨bt,bm⟩ hi;have hb:bR (b7G x) ks=(bt,bm):=by
     rcases hi with⟨h1,h2,h3⟩ | ⟨h1,h2⟩
     ·rw[h3];simp only at h1 h2;rw[h1,h2];rfl
     ·exact h2
    rw[hb]at hR;have hup0:bm=⟨#[]⟩→upD u dl ⟨dk,dow,dn,(un:Nat),(nd:Nat)⟩ = -1:=fun h=>by rw[upD,hR,if_pos h]
    have hup1:bm≠⟨#[]⟩→upD u dl ⟨dk,dow,dn,(un:Nat),(nd:Nat)⟩=firstD dl bm 0:=fun h=>by rw[upD,hR,if_neg h]
    simp -implicitDefEqProofs only[go_sem];intro _ _;refine⟨fun hm=>?_,fun hm=>⟨by omega,by omega,by omega,(),hw,by rw[hR];rfl,by rw[hR];rfl,by rw[hup0 (by simpa using hm)];rfl⟩⟩;refine(b7y dl bm).calls (by simp -implicitDefEqProofs only[go_sem]) ?_;simp -implicitDefEqProofs only[go_sem];exact⟨by omega,by omega,by omega,(),hw,by rw[hR];rfl,by rw[hR];rfl,by rw[hup1 (by simpa using hm)];rfl⟩
   ·rintro p k q ⟨bt,bm⟩ hk hi;have hpl2:ks.length=p.length+1+q.length:=by rw[hk];simp;omega
    have hgk:(ks.map b0J).getD (p.length:Int).toNat []=[.int .i64 k]:=by rw[hk];simp[h0c,b0J]
    have hltk:((p.length:Int)<ks.length)=True:=by simp;omega
    have hkr:=hkl k (by rw[hk];simp);simp -implicitDefEqProofs only[go_sem,hgk,hltk,b0z hkr];intro _ _;refine⟨fun hneg=>⟨by omega,?_⟩,fun hpos=>?_⟩
    ·have hi':bt = -1∧bm=⟨#[]⟩∧bR (b7G x) ks=bR (b7G x) (k::q):=by
      rcases hi with h | ⟨h1,h2⟩
      ·exact h
      ·simp only at h1;omega
     obtain⟨j1,j2,j3⟩:=hi';rw[bR]at j3;refine⟨fun h8=>⟨by omega,(k,(b0h (b7G x) k).text),.inr ⟨by simp,by rw[j3,if_pos h8]⟩,b0g (by omega),rfl,rfl⟩,fun h8=>⟨(bt,bm),.inl ⟨j1,j2,by rw[j3,if_neg h8]⟩,b0g (by omega),rfl,rfl⟩⟩
    ·have hb:bR (b7G x) ks=(bt,bm):=by
      rcases hi with⟨h1,h2,h3⟩ | ⟨h1,h2⟩
      ·simp only at h1;omega
      ·exact h2
     rw[hb]at hR;have hup0:bm=⟨#[]⟩→upD u dl ⟨dk,dow,dn,(un:Nat),(nd:Nat)⟩ = -1:=fun h=>by rw[upD,hR,if_pos h]
     have hup1:bm≠⟨#[]⟩→upD u dl ⟨dk,dow,dn,(un:Nat),(nd:Nat)⟩=firstD dl bm 0:=fun h=>by rw[upD,hR,if_neg h]
     refine⟨fun hm=>?_,fun hm=>⟨by omega,by omega,by omega,(),hw,by rw[hR];rfl,by rw[hR];rfl,by rw[hup0 (by simpa using hm)];rfl⟩⟩;refine(b7y dl bm).calls (by simp -implicitDefEqProofs only[go_sem]) ?_;simp -implicitDefEqProofs only[go_sem];exact⟨by omega,by omega,by omega,(),hw,by rw[hR];rfl,by rw[hR];rfl,by rw[hup1 (by simpa using hm)];rfl⟩
 ·rintro pre x post _ hx _;have hpl:u.length=pre.length+1+post.length:=by rw[hx];simp;omega
  have hgx:(u.map Un.enc).getD (pre.length:Int).toNat []=x.enc:=by rw[hx];simp[h0c]
  have hw:IntKind.i64.wrap (↑pre.length+1)=↑(pre.length+1):=b0g (by omega);have hlt:((pre.length:Int)<u.length)=True:=by simp;omega
  have hxn:(b0o x.tree).length≤1000:=(hu.2 x (by rw[hx];simp)).1;simp -implicitDefEqProofs only[go_sem,hgx,hlt];intro _ _;refine⟨fun hb=>?_,fun hb=>⟨by omega,(),hw,?_⟩⟩
  ·refine(c5G x.tree (by omega)).calls (by simp -implicitDefEqProofs only[go_sem]) ?_;simp -implicitDefEqProofs only[go_sem];refine⟨by omega,(),hw,?_⟩;rw[f1T,b7G,if_neg (by simpa using hb)]
  ·rw[f1T,b7G,if_pos (by simpa using hb)];rfl
end Go.Proofs.YtighfcpaplmaiaaGreatDoor
namespace Go.Vg
def b4N(n:ByteArray)(d:Dl):Bool:=decide (d.kind=2) && decide (d.name=n)
theorem b2i(n:ByteArray):∀ (dl:List Dl) (i:Nat),(∃ j d,firstD dl n i=((i+j:Nat):Int)∧dl[j]? = some d∧d.kind=2∧d.name=n∧dl.find? (b4N n)=some d)∨(firstD dl n i = -1∧dl.find? (b4N n)=none)
 | [],i => .inr ⟨rfl,rfl⟩
 | d::r,i=>by
  by_cases h:d.kind=2∧d.name=n
  ·refine .inl ⟨0,d,by rw[firstD,if_pos h];rfl,rfl,h.1,h.2,?_⟩;rw[List.find?_cons_of_pos (by simp[b4N,h])]
  ·rw[firstD,if_neg h,List.find?_cons_of_neg (by simpa[b4N]using h)];rcases b2i n r (i+1)with⟨j,e,h1,h2,h3⟩ | h1
   ·exact .inl ⟨j+1,e,by rw[h1];congr 1;omega,by simpa using h2,h3⟩
   ·exact .inr h1
theorem d4A{B:List (ByteArray×ByteArray)}{p:ByteArray×ByteArray}{n:ByteArray}:b1G (B++[p]) n=match b1G B n with | some b=>some b | none=>if p.1=n then some p.2 else none:=by
 simp only[b1G,List.find?_append];cases B.find? fun p=>decide (p.1=n)with
 | some q=>rfl
 | none =>
  by_cases h:p.1=n
  ·simp[h]
  ·simp[h]
theorem b1X(bt:Dl→ByteArray)(n:ByteArray):∀ (dl:List Dl),b1G (b0C bt dl) n=(dl.find? (b4N n)).map bt:=by
 have key:∀ (dl:List Dl) (B:List (ByteArray×ByteArray)),b1G (dl.foldl (c1Z bt) B) n=match b1G B n with | some b=>some b | none=>(dl.find? (b4N n)).map bt:=by
  intro dl;induction dl with
  | nil=>intro B;simp;cases b1G B n <;> rfl
  | cons d r ih =>
   intro B;rw[h0K,ih];by_cases h2:d.kind=2
   ·by_cases hs:(b1G B d.name).isSome=false
    ·rw[c1Z,if_pos ⟨h2,hs⟩,d4A];cases hb:b1G B n with
     | some b=>rfl
     | none =>
      by_cases hn:d.name=n
      ·rw[if_pos hn,List.find?_cons_of_pos (by simp[b4N,h2,hn])];rfl
      ·rw[if_neg hn,List.find?_cons_of_neg (by simp[b4N,hn])]
    ·rw[c1Z,if_neg (by rintro⟨_,h⟩;exact hs h)];cases hb:b1G B n with
     | some b=>rfl
     | none =>
      have hn:d.name≠n:=by rintro rfl;rw[hb]at hs;simp at hs
      rw[List.find?_cons_of_neg (by simp[b4N,hn])]
   ·rw[c1Z,if_neg (by omega),List.find?_cons_of_neg (by simp[b4N,h2])]
 intro dl;have:=key dl [];simpa[b0C,b1G]using this
theorem b8S{u:List Un}{d:Dl}(hd:d∈b0e u 0)(h2:d.kind=2):(b2C u d).2=btU u d:=by
 obtain⟨un,x,e1,e2,e3,nd,n,e4,e5,e6,e7,e8⟩:=b4w u 0 d hd;obtain⟨nk,nt,ng,nks⟩:=n;have htab:b7G x=b0u x.tree (-1) 0:=by rw[b7G,if_neg (by rw[e3];simp)]
 rw[h0w]at e1 e4;rw[b2C,if_pos h2,btU,e1,e4];simp only[h0n,e2,e5,htab,(b4d e5).2.2,Nd.kids];exact f1H e5
def c4z(dl:List Dl)(n:ByteArray):Int:=if n=⟨#[]⟩then -1 else firstD dl n 0
end Go.Vg
namespace Go.Proofs.YtighfcpaplmaiaaGreatDoor
open Go Go.Vg Go.Proofs
theorem c5S(u:List Un)(hu:b2D u)(cls:ByteArray):b0s env 174 [.agg (b1A u (b0e u 0)),.str cls] (sl 9 ((b8W u cls).map b0n)):=by
 have hdl:=b0H u 0 fun y hy=>(hu.2 y hy).1
 have hul:=hu.1;have hbl:=b1i (btU u) (b0e u 0);have hgb:=fun n=>b1X (btU u) n (b0e u 0)
 have hrd:∀ d∈b0e u 0,d.kind=2→(b2C u d).2=btU u d:=fun d h1 h2=>b8S h1 h2
 refine b0i (fn:=Tryz.f174) Tryz.func174 rfl (by rw[Tryz.ntmps174];simp) (by simp -implicitDefEqProofs only[go_sem];exact b2j _ _) (by simp -implicitDefEqProofs only[go_sem]) ?_;unfold b8W;generalize b0C (btU u) (b0e u 0)=B at hbl hgb ⊢;generalize hdd:b0e u 0=dl at hdl hbl hgb hrd ⊢;simp -implicitDefEqProofs only[go_sem,Tryz.f174,b1A];refine(b7y dl cls).calls (by simp -implicitDefEqProofs only[go_sem]) ?_;simp -implicitDefEqProofs only[go_sem];rcases b2i cls dl 0 with⟨j,d,q1,q2,q3,q4,q5⟩ | ⟨q1,q2⟩
 ·rw[h0w]at q1;have hup:∀ (j:Nat) d,dl[j]? = some d→((dl.map (upD u dl)).map c4a).getD (j:Int).toNat []=[.int .i64 (c4z dl (b2C u d).2)]:=fun j d h=>by
   simp[h0c,h,c4a,upD,c4z]
  have hdg:∀ (j:Nat) d,dl[j]? = some d→(dl.map Dl.enc).getD (j:Int).toNat []=d.enc:=fun j d h=>by
   simp[h0c,h]
  have hjl:j<dl.length:=(h0b.1 q2).1;have hlt:((j:Int)<dl.length)=True:=by simp;omega
  have hn0:((j:Int)<0)=False:=by simp
  have hgc:b1G B cls=some (btU u d):=by rw[hgb,q5];rfl
  have hbd:(b2C u d).2=btU u d:=hrd d (h0j q2) q3;rw[q1,hgc];simp -implicitDefEqProofs only[go_sem,hn0,hlt,hup j d q2,hbd,h0A];generalize hgo:b7B B cls (B.length+1) [] (btU u d)=goal;refine b1u (α:=List ByteArray×ByteArray) (fun s=>⟨[(7,.int .i64 (c4z dl s.2)),(5,.slice (.arr 0) 9 (s.1.map b0n)),(4,.slice .nil 0 []),(2,.ptr 0 0),(1,.str cls)],
   [.cells (b1A u dl)],[s.1.length]⟩)
   (fun s=>b7B B cls (B.length+1 - s.1.length) s.1 s.2=goal∧s.1.Nodup∧∀ x∈s.1,(b1G B x).isSome=true) (fun s=>B.length+1 - s.1.length) ([],btU u d) ?_ ⟨by simpa using hgo,by simp,by simp⟩ ?_
  ·simp -implicitDefEqProofs only[go_sem,b1A]
  ·rintro⟨out,next⟩ ⟨i1,i2,i3⟩;simp only at i1 i2 i3;have hle:out.length≤B.length:=by
    have:=c1x out (B.map (·.1)) i2 fun x hx=>b7E (i3 x hx)
    simpa using this
   obtain⟨f,hf⟩:∃ f,B.length+1 - out.length=f+1:=⟨B.length - out.length,by omega⟩
   rw[hf,b7B]at i1;have hstop:(decide (next=⟨#[]⟩) || !(b1G B next).isSome || (cls::out).any fun x=>decide (x=next))=true→sl 9 (out.map b0n)=sl 9 (goal.1.map b0n):=fun h=>by
    rw[if_pos h]at i1;rw[←i1]
   by_cases hnx:next=⟨#[]⟩
   ·have hi:c4z dl next = -1:=by rw[c4z,if_pos hnx]
    rw[hi];simp -implicitDefEqProofs only[go_sem,b1A];exact hstop (by simp[hnx])
   have hi:c4z dl next=firstD dl next 0:=by rw[c4z,if_neg hnx]
   rcases b2i next dl 0 with⟨j2,d2,r1,r2,r3,r4,r5⟩ | ⟨r1,r2⟩
   rotate_left
   ·rw[hi,r1];simp -implicitDefEqProofs only[go_sem,b1A];exact hstop (by rw[hgb,r2];simp)
   rw[h0w]at r1;rw[hi,r1];have hjl2:j2<dl.length:=(h0b.1 r2).1;have hlt2:((j2:Int)<dl.length)=True:=by simp;omega
   have hn2:(0≤(j2:Int))=True:=by simp
   have hbd2:(b2C u d2).2=btU u d2:=hrd d2 (h0j r2) r3;have hgn:b1G B next=some (btU u d2):=by rw[hgb,r5];rfl
   rw[hgn]at i1 hstop;simp only[h0L,Bool.not_true,Bool.or_false,h0A]at i1 hstop;simp -implicitDefEqProofs only[go_sem,b1A,hn2,hlt2,hdg j2 d2 r2,hup j2 d2 r2,hbd2,r4];refine⟨fun hc=>?_,fun hc=>hstop (by
    have hc:next=cls:=by simpa using hc
    subst hc;simp)⟩
   have hnc:¬ next=cls:=by simpa using hc
   refine(c7L out next).calls (by simp -implicitDefEqProofs only[go_sem]) ?_;cases hh:out.any fun x=>decide (x=next)
   rotate_left
   ·simp -implicitDefEqProofs only[go_sem,b1A,hn2,hlt2,hdg j2 d2 r2,hup j2 d2 r2,hbd2,r4];exact hstop (by simp only[List.any_cons,hh,Bool.or_true])
   have hany:((cls::out).any fun x=>decide (x=next))=false:=by
    rw[List.any_cons,hh,Bool.or_false];simp;exact fun h=>hnc h.symm
   have hc2:¬ (decide (next=⟨#[]⟩) || (cls::out).any fun x=>decide (x=next))=true:=by
    rw[hany];simp[hnx]
   rw[if_neg hc2]at i1;have hno:next ∉ out:=fun hm=>by
    have:(out.any fun x=>decide (x=next))=true:=by simp;exact hm
    rw[hh]at this;cases this
   simp -implicitDefEqProofs only[go_sem,b1A,hn2,hlt2,hdg j2 d2 r2,hup j2 d2 r2,hbd2,r4];refine⟨by omega,(out++[next],btU u d2),by simp;omega,⟨?_,?_,?_⟩,⟨rfl,by simp[b0n]⟩,by simp⟩
   ·have:B.length+1 - (out++[next]).length=f:=by simp;omega
    simp only[this];exact i1
   ·simp only[];rw[h1v];exact⟨i2,by simp,fun x hx y hy=>by simp at hy;subst hy;rintro rfl;exact hno hx⟩
   ·intro x hx;rcases h0E.1 hx with h | h
    ·exact i3 x h
    ·simp at h;subst h;rw[hgn];rfl
 ·rw[q1];simp -implicitDefEqProofs only[go_sem];have hgc:b1G B cls=none:=by rw[hgb,q2];rfl
  rw[hgc,b7B,if_pos (by simp)];rfl
end Go.Proofs.YtighfcpaplmaiaaGreatDoor
namespace Go.Vg
open Go
def d9c(u:List Un)(a b:ByteArray):Bool:=decide (a=b) || (b8W u a).any fun x=>decide (x=b)
def g2D(n:Nd):Prop:=∀ x∈b0o n,x.kind=24→0<b9P x.text
theorem d1E{a b:ByteArray}:(a++b).data.toList=a.data.toList++b.data.toList:=by simp
open Lib in
theorem f4n(n:Nat):f8g n=f4T n:=by
 have:∀ n:Nat,(f8g n).data.toList=decDigits n:=by
  intro n;induction n using Nat.strongRecOn with
  | _ n ih =>
  have hs:∀ k:Nat,k<10→(b9L [48+(k:Int)]).data.toList=[UInt8.ofNat (48+k)]:=by
   intro k hk;simp only[b9L,h0s,h0T];congr 1
  rw[f8g,decDigits];split
  ·rename_i h;rw[Nat.mod_eq_of_lt h];exact hs n h
  ·rw[d1E,ih (n / 10) (by omega),hs (n % 10) (by omega)]
 apply d2V;rw[this];simp[f4T,itoa]
end Go.Vg
namespace Go.Proofs.YtighfcpaplmaiaaGreatDoor
open Go Go.Vg Go.Proofs
structure sgOK(u:List Un):Prop where
 fit:b2D u
 gaps:b7O u
 ok:∀ o n d,c6E (b0e (u.map Un.sound) 0) (d8f o) o n=some d→f4d (u.map Un.sound) d
end Go.Proofs.YtighfcpaplmaiaaGreatDoor
namespace Go.Vg
mutual
def g9r:Nd→Nd
 | .mk k t _ ks => .mk k t [] (f4N ks)
def f4N:List Nd→List Nd
 | []=>[]
 | n::r=>g9r n::f4N r
end
end Go.Vg
namespace Go.Proofs.YtighfcpaplmaiaaGreatDoor
open Go Go.Vg Go.Proofs
structure ndOK(n:Nd):Prop where
 sh:b9u n
 par:g0A n
 bin:g2D n
 len:n.kids.length≤1000000
 send:n.kind=21→1≤n.kids.length
theorem b3n{α:Type}{l:List α}{i:Nat}{x:α}(h:l[i]? = some x):l.set i x=l:=by
 apply List.ext_getElem?;intro j;by_cases hj:i=j
 ·subst hj;rw[h0i (h0b.1 h).1,h]
 ·rw[h0m hj]
end Go.Proofs.YtighfcpaplmaiaaGreatDoor
namespace Go.Vg
theorem c8N:∀ (n:Nd) (a l:Int),0≤left n a l→left n a l+(b0o n).length≤a:=by
 refine Nd.all fun k t g ks ih a l h=>?_
 have hs:∀ r:List Nd,(∀ x∈r,∀ a l:Int,0≤left x a l→left x a l+(b0o x).length≤a)→∀ a l:Int,0≤b7n r a l→b7n r a l+(b0k r).length≤a:=by
  intro r;induction r with
  | nil=>intro _ a l _;simp[b7n,b0k]
  | cons x r ihr =>
   intro hx a l h;rw[b7n]at h ⊢;split at h
   ·omega
   ·rename_i hn;rw[if_neg hn];have h1:=hx x (by simp) a l (by omega);have h2:=ihr (fun y hy=>hx y (by simp[hy])) _ l h;rw[b0k,h0h];omega
 rw[left]at h ⊢;split at h
 ·omega
 ·rename_i hn;rw[if_neg hn];have:=hs ks ih _ _ h;rw[b0Z];omega
theorem c2b:∀ (g:List ByteArray) (b:Int),0≤b3S g b→∀ s∈g,(s.size:Int)≤b
 | [],b,h,s,hs=>by cases hs
 | x::r,b,h,s,hs=>by
  rw[b3S]at h;split at h
  ·omega
  ·rcases h0C.1 hs with rfl | hs
   ·omega
   ·have:=c2b r _ h s hs;omega
def c6y(y:Nd)(b:Int):Prop:=(y.text.size:Int)≤b∧∀ s∈y.gaps,(s.size:Int)≤b
theorem c4Y:∀ (n:Nd) (b:Int),0≤b3u n b→∀ y∈b0o n,c6y y b:=by
 refine Nd.all fun k t g ks ih b h y hy=>?_
 have hs:∀ r:List Nd,(∀ x∈r,∀ b:Int,0≤b3u x b→∀ y∈b0o x,c6y y b)→∀ b:Int,0≤b5t r b→∀ y∈b0k r,c6y y b:=by
  intro r;induction r with
  | nil=>intro _ b _ y hy;simp[b0k]at hy
  | cons x r ihr =>
   intro hx b h y hy;rw[b5t]at h;split at h
   ·omega
   ·rename_i hn;rw[b0k,h0E]at hy;rcases hy with hy | hy
    ·exact hx x (by simp) b (by omega) y hy
    ·have h2:=ihr (fun z hz=>hx z (by simp[hz])) _ h y hy;have h3:=c8p x b;exact⟨by have:=h2.1;omega,fun s hs=>by have:=h2.2 s hs;omega⟩
 rw[b3u]at h;split at h
 ·omega
 ·rename_i h1;split at h
  ·omega
  ·rename_i h2;have h3:=c4B g (b - t.size);rw[b0o]at hy;rcases h0C.1 hy with rfl | hy
   ·refine⟨by show(t.size:Int)≤b;omega,fun s hs=>?_⟩;have:=c2b g (b - t.size) (by omega) s hs;omega
   ·have h4:=hs ks ih _ h y hy;exact⟨by have:=h4.1;omega,fun s hs=>by have:=h4.2 s hs;omega⟩
theorem c1G{n:Nd}{b:Int}(hb:b≤1000000)(h:0≤b3u n b):b9u n∧b5D n :=
 ⟨fun y hy=>by have:=(c4Y n b h y hy).1;omega,fun y hy s hs=>by have:=(c4Y n b h y hy).2 s hs;omega⟩
theorem c6K(n:Nd):n∈b0o n:=by obtain⟨k,t,g,ks⟩:=n;rw[b0o];simp
theorem b6N:∀ (n:Nd),b5n n=0→∀ y∈b0o n,y.node=0:=by
 refine Nd.all fun k t g ks ih h y hy=>?_
 rw[b5n]at h;split at h
 ·rename_i h0;rw[b0o]at hy;rcases h0C.1 hy with rfl | hy
  ·exact h0
  ·have hs:∀ r:List Nd,(∀ x∈r,b5n x=0→∀ y∈b0o x,y.node=0)→b5k r=0→∀ y∈b0k r,y.node=0:=by
    intro r;induction r with
    | nil=>intro _ _ y hy;simp[b0k]at hy
    | cons x r ihr =>
     intro hx h y hy;rw[b5k]at h;split at h
     ·rename_i hx0;rw[b0k,h0E]at hy;rcases hy with hy | hy
      ·exact hx x (by simp) hx0 y hy
      ·exact ihr (fun z hz=>hx z (by simp[hz])) h y hy
     ·rename_i hx0;exact absurd h hx0
   exact hs ks ih h y hy
 ·rename_i h0;exact absurd h h0
theorem c9V{y:Nd}(h:y.node=0):y.shape=true:=by
 cases hs:y.shape with
 | true=>rfl
 | false =>
  unfold Nd.node at h;rw[hs]at h;simp at h
theorem c0B{n:Nd}(h:b3T n=0):∀ y∈b0o n,y.shape=true:=by
 unfold b3T at h;split at h
 ·cases h
 ·exact fun y hy=>c9V (b6N n h y hy)
theorem b3d{k:Int}{t g}{ks:List Nd}(h:(Nd.mk k t g ks).shape=true):b0S k≤ks.length∧b1C k ks 0=true∧(b2s k t || b5X k t)=true:=by
 unfold Nd.shape at h;simp only[h0k]at h;obtain⟨⟨⟨⟨⟨h1,h2⟩,h3⟩,h4⟩,h5⟩,h6⟩:=h;rw[Bool.not_eq_true',h1q]at h3;exact⟨Int.not_lt.1 h3,h4,h5⟩
theorem c1T{ks:List Nd}{b c:Nat}(h:c∈b0E ks b):∃ (j:Nat) (z:Nd),(b0E ks b)[j]? = some c∧ks[j]? = some z:=by
 obtain⟨j,hj,e⟩:=h1h h;have hl:j<ks.length:=by rw[b0U]at hj;exact hj
 exact⟨j,ks[j],by rw[h0f hj,e],h0f hl⟩
theorem f1m{n:Nd}(hc:b3T n=0)(hl:(b0o n).length≤1000){i:Nat}{y:Nd}(hy:(b0o n)[i]? = some y)(h2:y.kind=2):c2c (b0u n (-1) 0) i:=by
 have hsh:=c0B hc;have hyl:=(h0b.1 hy).1;have hrl:(b0u n (-1) 0).length=(b0o n).length:=b0K ..;obtain⟨k,t,g,ks⟩:=y
 replace h2:k=2:=h2
 subst h2;obtain⟨s1,s2,_⟩:=b3d (hsh _ (h0j hy));have s1':3≤ks.length:=by simp[b0S]at s1;omega
 obtain⟨a1,a2,a3⟩:=b4d hy;have hk0:ks[0]? = some ks[0]:=h0f (by omega);have hk1:ks[1]? = some ks[1]:=h0f (by omega);obtain⟨c0,b1,b2⟩:=b8C hy hk0;obtain⟨c1,b3,b4⟩:=b8C hy hk1;have e0:b1c (b0u n (-1) 0) i 0=c0:=by
  show(b0h (b0u n (-1) 0) i).kids.getD 0 0=c0;rw[a3,h0c,b1];rfl
 have e1:b1c (b0u n (-1) 0) i 1=c1:=by
  show(b0h (b0u n (-1) 0) i).kids.getD 1 0=c1;rw[a3,h0c,b3];rfl
 have f0:=b3t s2 0 _ hk0;generalize hp:ks[0]=p at b2 f0;obtain⟨pk,pt,pg,pks⟩:=p;have hpk:pk=3:=by
  have:b3l 2 (0+((0:Nat):Int)) pk=true:=f0;simpa[b3l]using this
 subst hpk;obtain⟨p1,p2,p3⟩:=b4d b2;have hpm:=h0j b2;obtain⟨_,q2,_⟩:=b3d (hsh _ hpm);have hpl:pks.length≤1000:=by
  have h1:=b3L pks;have h2:=b6m _ _ hpm;rw[b0Z]at h2;omega
 refine⟨by omega,by omega,by rw[a3,b0U];omega,?_,?_,?_,?_⟩
 ·rw[e0,hrl];exact(h0b.1 b2).1
 ·rw[e1,hrl];exact(h0b.1 b4).1
 ·rw[e0,p3,b0U];omega
 ·rw[e0,p3];intro c hcm;obtain⟨j,z,j1,j2⟩:=c1T hcm;obtain⟨c',j3,j4⟩:=b8C b2 j2;have:c'=c:=by rw[j1]at j3;simpa using j3.symm
  subst this;have fz:=b3t q2 j z j2;obtain⟨zk,zt,zg,zks⟩:=z;have hzk:zk=4:=by
   have:b3l 3 (0+(j:Int)) zk=true:=fz;unfold b3l at this;rw[if_neg (by omega)]at this;simpa using this
  subst hzk;obtain⟨r1,_⟩:=b3d (hsh _ (h0j j4));have r1':1≤zks.length:=by simp[b0S]at r1;omega
  obtain⟨z1,z2,z3⟩:=b4d j4;obtain⟨d,w1,w2⟩:=b8C j4 (h0f (show 0<zks.length by omega));refine⟨by rw[hrl];exact(h0b.1 j4).1,by rw[z3,b0U];omega,?_⟩;have:b1c (b0u n (-1) 0) c' 0=d:=by
   show(b0h (b0u n (-1) 0) c').kids.getD 0 0=d;rw[z3,h0c,w1];rfl
  rw[this,hrl];exact(h0b.1 w2).1
def Dl.off(d:Dl)(u:Int):Dl:={ d with unit:=u }
theorem d0A(k:Int)(t:ByteArray)(u m:Int)(x:Ar):b2u k t u m x=(b2u k t 0 m x).map (Dl.off · u):=by
 unfold b2u
 repeat' split
 all_goals rfl
theorem d4a:∀ (n:Nd) (u:Int) (m:Nat) (x:Ar),b1z n u m x=(b1z n 0 m x).map (Dl.off · u):=by
 refine Nd.all fun k t g ks ih u m x=>?_
 have hs:∀ l:List Nd,(∀ y∈l,∀ (u:Int) (m:Nat) (x:Ar),b1z y u m x=(b1z y 0 m x).map (Dl.off · u))→∀ (m:Nat) (x:Ar),b0V l u m x=(b0V l 0 m x).map (Dl.off · u):=by
  intro l;induction l with
  | nil=>intro _ m x;rfl
  | cons y r ihr =>
   intro h m x;rw[b0V,b0V,h0M,h y (by simp),ihr fun z hz=>h z (by simp[hz])]
 rw[b1z,b1z,h0M,hs ks ih,d0A];congr 1;cases b2u k t 0 (↑m) x <;> rfl
def b5s:List Un→Nat→List (Dl×Un)
 | [],_=>[]
 | x::r,i=>(if x.broken=true then []else(b1z x.tree i 0 Ar.none).map fun d=>(d,x))++b5s r (i+1)
def b4D:List Un→List (Dl×Un)
 | []=>[]
 | x::r=>(if x.broken=true then []else(b1z x.tree 0 0 Ar.none).map fun d=>(d,x))++b4D r
theorem c2q:∀ (u:List Un) (i:Nat),b0e u i=(b5s u i).map (·.1)
 | [],_=>rfl
 | x::r,i=>by
  rw[b0e,b5s,h0M,←c2q r];congr 1;split
  ·rfl
  ·rw[List.map_map];exact(List.map_id _).symm
theorem c3b:∀ (u:List Un) (i:Nat),b4D u=(b5s u i).map fun p=>(p.1.off 0,p.2)
 | [],_=>rfl
 | x::r,i=>by
  rw[b4D,b5s,h0M,←c3b r];congr 1;split
  ·rfl
  ·rw[d4a x.tree i,List.map_map,List.map_map];have:∀ d∈b1z x.tree 0 0 Ar.none,d.off 0=d:=fun d hd=>by
    have:=(c2u x.tree 0 0 Ar.none d hd).1;unfold Dl.off;rw[←this]
   apply List.map_congr_left;intro d hd;show((d,x):Dl×Un)=((d.off (i:Int)).off 0,x)
   rw[show(d.off (i:Int)).off 0=d.off 0 from rfl,this d hd]
theorem b7Y:∀ (u:List Un) (i:Nat) (p:Dl×Un),p∈b5s u i→∃ j,p.1.unit=((i+j:Nat):Int)∧u[j]? = some p.2
 | [],i,p,h=>by simp[b5s]at h
 | x::r,i,p,h=>by
  rw[b5s,h0E]at h;rcases h with h | h
  ·split at h
   ·cases h
   ·obtain⟨d,hd,rfl⟩:=h1p.1 h;exact⟨0,(c2u x.tree i 0 Ar.none d hd).1,rfl⟩
  ·obtain⟨j,h1,h2⟩:=b7Y r (i+1) p h;exact⟨j+1,by rw[h1];congr 1;omega,by simpa using h2⟩
def isD(kind:Int)(owner name:ByteArray)(d:Dl):Bool:=decide (d.kind=kind) && decide (d.owner=owner) && decide (d.name=name)
theorem c0g{α β:Type}(f:α→β)(p:β→Bool):∀ l:List α,(l.map f).find? p=(l.find? fun a=>p (f a)).map f
 | []=>rfl
 | a::r=>by
  rw[h0s,h0W,h0W];cases p (f a)with
  | true=>rfl
  | false=>exact c0g f p r
def btX(p:Dl×Un):ByteArray:=match(b0o p.2.tree)[p.1.node.toNat]? with
 | some n=>(b4u n.kids 0).1.text
 | none=>⟨#[]⟩
def g0a(B:List (ByteArray×ByteArray))(p:Dl×Un):List (ByteArray×ByteArray):=if p.1.kind=2∧(b1G B p.1.name).isSome=false then B++[(p.1.name,btX p)]else B
theorem d0y(u:List Un):b0C (btU u) (b0e u 0)=(b4D u).foldl g0a []:=by
 have key:∀ (l:List (Dl×Un)),(∀ p∈l,p∈b5s u 0)→∀ B,(l.map (·.1)).foldl (c1Z (btU u)) B=(l.map fun p=>((p.1.off 0,p.2):Dl×Un)).foldl g0a B:=by
  intro l;induction l with
  | nil=>intro _ B;rfl
  | cons p r ih =>
   intro h B;rw[h0s,h0s,h0K,h0K,ih fun q hq=>h q (by simp[hq])];congr 1;obtain⟨j,h1,h2⟩:=b7Y u 0 p (h p (by simp));have hb:btU u p.1=btX (p.1.off 0,p.2):=by
    unfold btU;rw[h1,h0w,h0n,h2];rfl
   unfold c1Z g0a;rw[hb];rfl
 rw[b0C,c2q,c3b u 0];exact key _ (fun p hp=>hp) []
theorem f5Q{u v:List Un}(h:b4D u=b4D v)(c:ByteArray):b8W u c=b8W v c:=by
 unfold b8W;rw[d0y,d0y,h]
theorem c6k(x:Un):x.sound.sound=x.sound:=by
 unfold Un.sound;by_cases h:b1q x=true
 ·rw[if_pos h,if_pos h]
 ·rw[if_neg h,if_neg (by simp[b1q])]
theorem d3v:∀ u:List Un,b4D (u.map Un.sound)=b4D (u.filter b1q)
 | []=>rfl
 | x::r=>by
  rw[h0s,b4D,d3v r];by_cases h:b1q x=true
  ·have e:x.sound=x:=by rw[Un.sound,if_pos h]
   rw[e,List.filter_cons_of_pos h,b4D]
  ·have e:x.sound.broken=true:=by rw[Un.sound,if_neg h]
   rw[if_pos e,List.filter_cons_of_neg h,h0Q]
theorem d3z{x:Un}(h:b1q x=true):x.sound=x:=by rw[Un.sound,if_pos h]
end Go.Vg
namespace Go.Proofs.YtighfcpaplmaiaaGreatDoor
open Go Go.Vg Go.Proofs
theorem f5I(u:List Un)(kind:Int)(owner name:ByteArray):ofU u kind owner name=((b4D u).find? fun p=>isD kind owner name p.1).map fun p=>b2W (b0u p.2.tree (-1) 0) p.1.node.toNat:=by
 unfold ofU c6E;rw[c2q,c3b u 0,c0g,c0g];have e:((b5s u 0).find? fun a=>isD kind owner name (a.1.off 0,a.2).1)=(b5s u 0).find? fun a=>decide (a.1.kind=kind) && decide (a.1.owner=owner) && decide (a.1.name=name):=rfl
 rw[e];cases hf:(b5s u 0).find? fun a=>decide (a.1.kind=kind) && decide (a.1.owner=owner) && decide (a.1.name=name)with
 | none=>rfl
 | some p =>
  obtain⟨j,h1,h2⟩:=b7Y u 0 p (h0Z hf);simp only[h0D,Option.bind_some,h1,h0w,h0n,h2];rfl
theorem f6a{u v:List Un}(h:b4D (u.map Un.sound)=b4D (v.map Un.sound))(o n:ByteArray):f4g u o n=f4g v o n:=by
 unfold f4g;rw[f5I,f5I,h]
theorem c9j(u:List Un):(u.map Un.sound).map Un.sound=u.map Un.sound:=by
 rw[List.map_map];exact List.map_congr_left fun x _=>c6k x
theorem c9x(u:List Un):(u.filter b1q).map Un.sound=u.filter b1q:=by
 have:∀ x∈u.filter b1q,x.sound=x:=fun x hx=>d3z (List.mem_filter.1 hx).2
 calc (u.filter b1q).map Un.sound=(u.filter b1q).map id:=List.map_congr_left this
  _=_:=List.map_id _
theorem g9R(u:List Un):(∀ o n,f4g (u.map Un.sound) o n=f4g (u.filter b1q) o n)∧(∀ a b,d9c (u.map Un.sound) a b=d9c (u.filter b1q) a b):=by
 refine⟨fun o n=>f6a ?_ o n,fun a b=>?_⟩
 ·rw[c9j,c9x,d3v]
 ·unfold d9c;rw[f5Q (d3v u)]
open Go Go.Vg Go.Proofs Go.Shelf Go.RowKit
end Go.Proofs.YtighfcpaplmaiaaGreatDoor
namespace Go.Vg
def f5i(l:List ByteArray):ByteArray:=⟨(Lib.join (l.map fun x=>x.data.toList) [44,32]).toArray⟩
end Go.Vg
namespace Go.Proofs.YtighfcpaplmaiaaGreatDoor
open Go Go.Vg Go.Proofs Go.Shelf Go.RowKit
theorem hjl{xs:List ByteArray}(hs:(f5i xs).size≤2000000000000):(Lib.join (xs.map fun x=>x.data.toList) (⟨#[44,32]⟩:ByteArray).data.toList).length≤140737488355328:=by
 have h:=hs;unfold f5i at h;have h2:(Lib.join (xs.map fun x=>x.data.toList) [44,32]).length≤2000000000000:=by simpa[ByteArray.size]using h
 show(Lib.join (xs.map fun x=>x.data.toList) [44,32]).length≤_;omega
structure Cb where
 name:ByteArray
 sign:ByteArray
 path:ByteArray
def Cb.enc(x:Cb):List V:=[.str x.name,.str x.sign,.str x.path]
theorem c8c:∀ l:List Cb,b0P (l.map Cb.enc)=true
 | []=>rfl
 | n::r=>by show(b0Y _ && b0P (r.map Cb.enc))=true;rw[c8c r];rfl
attribute [go_sem] c8c
@[go_sem] theorem g1p{e t:TypeId}{u:V}{M:V→Prop}:g6X (some (.slice e)) t u M=M (.iface t u):=rfl
structure Ch where
 name:ByteArray
 path:ByteArray
 was:ByteArray
 now:ByteArray
def Ch.enc(x:Ch):List V:=[.str x.name,.str x.path,.str x.was,.str x.now]
theorem c7E:∀ l:List Ch,b0P (l.map Ch.enc)=true
 | []=>rfl
 | n::r=>by show(b0Y _ && b0P (r.map Ch.enc))=true;rw[c7E r];rfl
attribute [go_sem] c7E
end Go.Proofs.YtighfcpaplmaiaaGreatDoor
namespace Go.Vg
theorem c2y(a b:UInt8)(x y:List UInt8):Op.bytesLess (a::x) (b::y)=(decide (a.toNat<b.toNat) || (decide (a.toNat=b.toNat) && Op.bytesLess x y)):=by
 have e:(a == b)=decide (a.toNat=b.toNat):=by rw[h1k];simp[UInt8.toNat_inj]
 rw[Op.bytesLess,e];simp[UInt8.lt_iff_toNat_lt]
theorem c4o:∀ l:List UInt8,Op.bytesLess l l=false
 | []=>rfl
 | a::x=>by rw[c2y,c4o x];simp
theorem c7i:∀ x y z:List UInt8,Op.bytesLess x y=true→Op.bytesLess y z=true→Op.bytesLess x z=true
 | [],[],_,h,_=>by cases h
 | _::_,[],_,h,_=>by cases h
 | [],_::_,[],_,h=>by cases h
 | [],_::_,_::_,_,_=>rfl
 | _::_,_::_,[],_,h=>by cases h
 | a::x,b::y,c::z,h1,h2=>by
  have ih:=c7i x y z;rw[c2y]at h1 h2 ⊢;simp only[h1u,h0k,h0l]at h1 h2 ⊢;rcases h1 with h1 | ⟨h1,h1'⟩ <;> rcases h2 with h2 | ⟨h2,h2'⟩
  ·exact .inl (by omega)
  ·exact .inl (by omega)
  ·exact .inl (by omega)
  ·exact .inr ⟨by omega,ih h1' h2'⟩
theorem d8C:∀ x y:List UInt8,Op.bytesLess x y=false→Op.bytesLess y x=false→x=y
 | [],[],_,_=>rfl
 | [],_::_,h,_=>by cases h
 | _::_,[],_,h=>by cases h
 | a::x,b::y,h1,h2=>by
  rw[c2y]at h1 h2;simp only[h1B,Bool.and_eq_false_iff,h1q]at h1 h2;obtain⟨h1,h1'⟩:=h1;obtain⟨h2,h2'⟩:=h2;have e:a.toNat=b.toNat:=by omega
  have e1:a=b:=UInt8.toNat_inj.1 e;have e2:x=y:=d8C x y (by rcases h1' with h | h;omega;exact h) (by rcases h2' with h | h;omega;exact h);rw[e1,e2]
def ltB(a b:ByteArray):Bool:=Op.bytesLess a.toList b.toList
theorem b3f(a:ByteArray):ltB a a=false:=c4o _
theorem b5E{a b c:ByteArray}(h1:ltB a b=true)(h2:ltB b c=true):ltB a c=true:=c7i _ _ _ h1 h2
theorem c2f{a b:ByteArray}(h:a.toList=b.toList):a=b:=by
 have e:(a.toList == b.toList)=true:=by rw[h];simp
 rw[b6f]at e;simpa using e
theorem b7W{a b:ByteArray}(h1:ltB a b=false)(h2:ltB b a=false):a=b:=c2f (d8C _ _ h1 h2)
open Go.RowKit
theorem RelW.vecStep2{E:Env}{G:Gh}{heap:List VObj}{arr:List Nat}{w0:Base}{w w':World}(h:RelW E G heap arr w0 w){id k gen gen' b hi:Nat}{e:TypeId}{cs cs':List V}{c c':Array Value}{t:TypeId}
  (hid:heap[id]? = some (.vec k gen e cs)) (hρ:G.ρ[k]? = some (b,0,hi)) (hhi:0<hi) (hg:gen≤gen') (hc:w.heap[b]? = some (.cells c t (0,0))) (hch:cs'.length≤hi)
  (hr:∀ (j:Nat) x,cs'[j]? = some x→∃ v,c'[j]? = some v∧RV E.P G arr x v∧v.oneCell'=true)
  (hos:w'.os=w.os) (ht:w'.tape=w.tape) (ho:w'.output=w.output) (hsz:w'.heap.size=w.heap.size) (hk:∀ k,k≠b→w'.heap[k]? = w.heap[k]?) (hc':w'.heap[b]? = some (.cells c' t (0,0))) (hcs:c'.size=c.size)
  (hget:∀ j,hi≤j→c'[j]? = c[j]?):Ext G arr G (arr.set k gen')∧RelW E G (heap.set id (.vec k gen' e cs')) (arr.set k gen') w0 w':=by
 have hidl:id<heap.length:=(h0b.1 hid).1;obtain⟨hak,hgg,b0,hi0,hρ0,_,_⟩:=h.vs.at_ id k gen e cs hid;rw[hρ]at hρ0;cases hρ0
 have hkl:=(h0b.1 hak).1;have hx:Ext G arr G (arr.set k gen'):=by
  refine⟨fun _ _ _ h=>h,fun _ _ h=>h,fun j n hj=>?_⟩;by_cases ej:j=k
  ·subst ej;rw[hak]at hj;cases hj
   exact⟨gen',h0i hkl,by omega,fun e=>rfl⟩
  ·exact⟨n,by rw[h0m (Ne.symm ej)];exact hj,h0q _,fun _=>rfl⟩
 obtain⟨⟨c0,e0,r1,r2⟩,r3,r4,r5⟩:=h.reg k b 0 hi hρ hhi;rw[hc]at r1;cases r1
 have hcell:∀ b' o,(b'≠b∨hi≤o)→w'.cell? ⟨b',o,none⟩=w.cell? ⟨b',o,none⟩:=fun b' o hor=>by
  by_cases e:b'=b
  ·subst e;have hn:hi≤o:=by rcases hor with h | h;exact absurd rfl h;exact h
   unfold World.cell?;rw[hc',hc];simp only[h0y,h0r,if_false];exact hget o hn
  ·exact b2y (hk b' e)
 have hne:∀ (i c:Nat),G.φ[i]? = some c→∀ o,heap[i]? = some o→o.loose=false→c≠b:=fun i c hi' o ho hlo e=>by
  subst e;rw[VObj.loose_of (r3 i hi' o ho)]at hlo;cases hlo
 have hset:∀ (i:Nat) o,(heap.set id (.vec k gen' e cs'))[i]? = some o→i≠id→heap[i]? = some o:=fun i o hi' hn=>by rwa [h0m (Ne.symm hn)]at hi'
 refine⟨hx,⟨h.newF,fun g cs hg=>⟨(h.glob g cs hg).1,(h.glob g cs hg).2.mono hx⟩,h.below.trans ⟨hos,ht,ho,by omega,fun k' hk'=>hk k' (by omega)⟩,fun b' o v hv=>?_,h.one,fun i ob hi'=>?_,by simp[h.lenφ],h.nod,fun i c1 o hc1 hd=>?_,fun i c1 hc1=>by rw[hsz];exact h.geφ i c1 hc1,by simp[h.lenρ],
  fun k' b' lo hi' hk' hlt=>?_,h.regd,h.fre,fun i t' s c1 hi' hc1=>?_,h.ini,?_⟩⟩
 ·rw[hcell b' o]
  ·exact h.frz _ _ _ hv
  ·by_cases e:b'=b
   ·subst e;refine .inr (Nat.le_of_not_lt fun hh=>?_);rw[r4 o (Nat.zero_le _) hh]at hv;cases hv
   ·exact .inl e
 ·by_cases e1:i=id
  ·subst e1;rw[h0i hidl]at hi';cases hi'
   obtain⟨c1,hc1,_⟩:=h.obj i _ hid;exact⟨c1,hc1,trivial⟩
  ·have hi2:=hset i ob hi' e1;obtain⟨c1,hc1,hr1⟩:=h.obj i ob hi2;refine⟨c1,hc1,?_⟩;cases hlo:ob.loose with
   | false=>exact hr1.keep hx (hk c1 (hne i c1 hc1 ob hi2 hlo))
   | true =>
    cases ob <;> simp only[VObj.loose,h0r]at hlo
    ·trivial
    ·trivial
 ·by_cases e1:i=id
  ·subst e1;exact h.sep i c1 o hc1 (by rw[hid];intro hh;cases hh)
  ·rw[h0m (Ne.symm e1)]at hd;exact h.sep i c1 o hc1 hd
 ·obtain⟨⟨c1,e1,q1,q2⟩,q3,q4,q5⟩:=h.reg k' b' lo hi' hk' hlt;refine⟨?_,fun i hi2 o ho2=>?_,q4,q5⟩
  ·by_cases eb:b'=b
   ·subst eb;rw[hc]at q1;cases q1
    exact⟨c',t,hc',by omega⟩
   ·exact⟨c1,e1,by rw[hk b' eb];exact q1,q2⟩
  ·by_cases e1:i=id
   ·subst e1;rw[h0i hidl]at ho2;cases ho2
    have:=q3 i hi2 _ hid;exact this
   ·exact q3 i hi2 o (hset i o ho2 e1)
 ·have e1:i≠id:=fun e1=>by subst e1;rw[h0i hidl]at hi';cases hi'
  have hi2:=hset i _ hi' e1;refine(h.bld i t' s c1 hi2 hc1).keep (hk c1 (hne i c1 hc1 _ hi2 rfl)) fun g hg hs=>⟨hk g fun eg=>?_,hs⟩
  subst eg;have:=hs.2.2 k 0 hi hρ;omega
 ·refine⟨fun i k1 g1 e1 cs1 hi1=>?_,fun i i' k1 g1 g1' e1 e1' cs1 cs1' hi1 hi1'=>?_⟩
  ·by_cases ei:i=id
   ·subst ei;rw[h0i hidl]at hi1;cases hi1
    refine⟨h0i hkl,by omega,b,hi,hρ,hch,fun j x hj=>?_⟩;obtain⟨v,hv,hrv,hov⟩:=hr j x hj;refine⟨v,?_,hrv.mono hx,hov⟩;unfold World.cell?;rw[hc'];simpa only[h0y,h0r,if_false]using hv
   ·have hi2:=hset i _ hi1 ei;obtain⟨q1,q2,b1,hi3,q3,q4,q5⟩:=h.vs.at_ i k1 g1 e1 cs1 hi2;have hkk:k1≠k:=fun ek=>by subst ek;exact ei (h.vs.uni _ _ _ _ _ _ _ _ _ hi2 hid)
    refine⟨by rw[h0m (Ne.symm hkk)];exact q1,q2,b1,hi3,q3,q4,fun j x hj=>?_⟩;obtain⟨v,hv,hrv,hov⟩:=q5 j x hj;refine⟨v,?_,hrv.mono hx,hov⟩;rw[hcell b1 j (.inl fun eb=>?_)]
    ·exact hv
    ·subst eb;have:=h.regd k1 k b1 0 hi3 0 hi hkk q3 hρ (by have:=(h0b.1 hj).1;omega) hhi;have:=(h0b.1 hj).1;omega
  ·have key:∀ (i k1 g1:Nat) e1 cs1,(heap.set id (.vec k gen' e cs'))[i]? = some (.vec k1 g1 e1 cs1)→∃ g e2 cs2,heap[i]? = some (.vec k1 g e2 cs2):=fun i k1 g1 e1 cs1 hq=>by
    by_cases ei:i=id
    ·subst ei;rw[h0i hidl]at hq;cases hq
     exact⟨_,_,_,hid⟩
    ·exact⟨_,_,_,hset i _ hq ei⟩
   obtain⟨_,_,_,a1⟩:=key _ _ _ _ _ hi1;obtain⟨_,_,_,a2⟩:=key _ _ _ _ _ hi1';exact h.vs.uni _ _ _ _ _ _ _ _ _ a1 a2
end Go.Vg
namespace Go.Vg
open Go.RowKit
inductive Ty where
 | int (k:IntKind) | str | bool
 | sl (e:TypeId) (t:Ty)
 | unit
 | cons (t:TypeId) (f r:Ty)
def Ty.cells:Ty→Nat
 | .int _ | .str | .bool | .sl _ _=>1
 | .unit=>0
 | .cons _ f r=>f.cells+r.cells
def d7d(k:IntKind):Option TypeDesc→Bool | some (.int k')=>decide (k'=k) | _=>false
def d3L:Option TypeDesc→Bool | some .string=>true | _=>false
def c8o:Option TypeDesc→Bool | some .bool=>true | _=>false
def c3p(e:TypeId):Option TypeDesc→Bool | some (.slice e')=>decide (e'=e) | _=>false
def b6o:Option TypeDesc→Option (List Field) | some (.struct fs)=>some fs.toList | _=>none
def Ty.ok(P:Program):Ty→TypeId ⊕ (Nat×List Field)→Bool
 | .int k,.inl T=>d7d k (P.underlying T)
 | .str,.inl T=>d3L (P.underlying T)
 | .bool,.inl T=>c8o (P.underlying T)
 | .sl e t,.inl T=>c3p e (P.underlying T) && decide (P.cellsOf e=t.cells) && decide (1≤t.cells) && decide (1≤P.bytesOf e) && t.ok P (.inl e)
 | .unit,.inl T=>match b6o (P.underlying T)with
  | some []=>decide (P.cellsOf T=0)
  | _=>false
 | .unit,.inr (_,[])=>true
 | .cons t f r,.inl T=>match b6o (P.underlying T)with
  | some (fd::fs)=>decide (P.cellsOf T=f.cells+r.cells) && decide (fd.type=t) && decide (fd.offset=0) && decide (P.cellsOf t=f.cells) && f.ok P (.inl t) && r.ok P (.inr (f.cells,fs))
  | _=>false
 | .cons t f r,.inr (o,fd::fs)=>decide (fd.type=t) && decide (fd.offset=o) && decide (P.cellsOf t=f.cells) && f.ok P (.inl t) && r.ok P (.inr (o+f.cells,fs))
 | _,_=>false
def Ty.sem:Ty→List V→Prop
 | .int k,xs=>∃ n,xs=[.int k n]∧k.min≤n∧n≤k.max
 | .str,xs=>∃ s,xs=[.str s]
 | .bool,xs=>∃ b,xs=[.bool b]
 | .sl e t,xs=>∃ es:List (List V),xs=[Vg.sl e es]∧∀ el∈es,t.sem el
 | .unit,xs=>xs=[]
 | .cons _ f r,xs=>∃ a b,xs=a++b∧f.sem a∧r.sem b
def f1f(w:World)(b o:Nat):Option Value:=match w.cell? ⟨b,o,none⟩with
 | some v=>if v.oneCell' then some v else none
 | none=>none
theorem b7b{α β:Type}{f:α→Option β}:∀ {l:List α} {r:List β},l.mapM f=some r→r.length=l.length∧∀ (i:Nat) a,l[i]? = some a→∃ b,r[i]? = some b∧f a=some b
 | [],r,h=>by
  simp only[List.mapM_nil,Option.pure_def,Option.some.injEq]at h;subst h;simp
 | a::l,r,h=>by
  simp only[List.mapM_cons,Option.bind_eq_bind,Option.bind_eq_some_iff,Option.pure_def,Option.some.injEq]at h;obtain⟨b,hb,r',hr',rfl⟩:=h;obtain⟨h1,h2⟩:=b7b hr';refine⟨by simp[h1],fun i x hx=>?_⟩;cases i with
  | zero=>simp at hx;subst hx;exact⟨b,rfl,hb⟩
  | succ i=>simpa using h2 i x (by simpa using hx)
theorem c3Y{w:World}{base:Nat}{a:Addr}{n:Nat}{cs:List Value}(h:w.cells? base a n=some cs):cs.length=n∧∀ i,i<n→w.cell? (a.add i)=cs[i]?:=by
 unfold World.cells? at h;split at h
 ·obtain⟨h1,h2⟩:=b7b h;refine⟨by simpa using h1,fun i hi=>?_⟩;obtain⟨b,hb,he⟩:=h2 i i (List.getElem?_range hi);rw[hb,he]
 ·cases h
theorem b3p{H:Type}{P:Program}{e:TypeId}:∀ {l:List (DataW H)},(DataW.weightsAll P e l).all (· ≤ reachBytes)=true→∀ d∈l,(d.weights P e).all (· ≤ reachBytes)=true
 | [],_,d,hd=>by cases hd
 | x::l,h,d,hd=>by
  simp only[DataW.weightsAll,List.all_append,h0k]at h;rcases h0C.1 hd with rfl | hd
  ·exact h.1
  ·exact b3p h.2 d hd
theorem cell_one{w:World}{a:Addr}{v:Value}(h:w.cell? a=some v)(hs:a.spot=none→False):False:=by
 unfold World.cell? at h;split at h
 ·split at h
  ·cases h
  ·rename_i h';exact hs (by simpa using h')
 ·cases h
theorem c3F{w:World}{a:Addr}{v:Value}(h:w.cell? a=some v):a=⟨a.block,a.off,none⟩:=by
 have:a.spot=none:=Classical.byContradiction fun hn=>cell_one h (fun e=>hn e)
 obtain⟨b,o,s⟩:=a;simp only at this;subst this;rfl
theorem c3c{α:Type}{Q:Nat→α→Prop}:∀ (n:Nat),(∀ i,i<n→∃ a,Q i a)→∃ l:List α,l.length=n∧∀ (i:Nat) a,l[i]? = some a→Q i a
 | 0,_=>⟨[],rfl,by simp⟩
 | n+1,h=>by
  obtain⟨l,h1,h2⟩:=c3c n fun i hi=>h i (by omega)
  obtain⟨a,ha⟩:=h n (by omega);refine⟨l++[a],by simp[h1],fun i x hx=>?_⟩;rcases h1A i l.length with hi | hi
  ·rw[h0e hi]at hx;exact h2 i x hx
  ·rw[h0g hi]at hx;have:i - l.length=0:=by
    have:=(h0b.1 hx).1;simp at this;omega
   rw[this]at hx;simp at hx;subst hx;have:i=n:=by omega
   rw[this];exact ha
section
variable {H : Type} {enc : TypeId × Value → H} {P : Program} {w : World} {G : Gh}
def d7W(P:Program)(G:Gh)(xs:List V)(cs:Nat→Option Value):Prop:=∀ (j:Nat) x v,xs[j]? = some x→cs j=some v→RV P G [] x v∧v.oneCell'=true
def g3a(enc:TypeId×Value→H)(P:Program)(w:World)(G:Gh)(ty:Ty):Prop:=∀ (T:TypeId) (fuel:Nat) (cs:List Value) (d:DataW H) (ps:List MemPlace),ty.ok P (.inl T)=true→DataW.trod enc P w 0 (fun _=>true) true fuel T cs=some (d,ps) →
 (d.weights P T).all (· ≤ reachBytes)=true→∃ xs,ty.sem xs∧xs.length=ty.cells∧cs.length=ty.cells∧d7W P G xs (cs[·]?)
def g4z(enc:TypeId×Value→H)(P:Program)(w:World)(G:Gh)(ty:Ty):Prop:=∀ (o:Nat) (fs:List Field) (fuel:Nat) (cs:List Value) (ys:List (DataW H×List MemPlace)),ty.ok P (.inr (o,fs))=true →
 fs.mapM (fun f=>DataW.trod enc P w 0 (fun _=>true) true fuel f.type ((cs.drop f.offset).take (P.cellsOf f.type)))=some ys →
 (DataW.weightsEach P (fs.map (·.type)) (ys.map (·.1))).all (· ≤ reachBytes)=true→∃ xs,ty.sem xs∧xs.length=ty.cells∧d7W P G xs fun j=>cs[o+j]?
theorem c7t{k:IntKind}{d:Option TypeDesc}(h:d7d k d=true):d=some (.int k):=by
 unfold d7d at h;split at h
 ·rw[of_decide_eq_true h]
 ·cases h
theorem c7f{d:Option TypeDesc}(h:d3L d=true):d=some .string:=by
 unfold d3L at h;split at h
 ·rfl
 ·cases h
theorem c4C{d:Option TypeDesc}(h:c8o d=true):d=some .bool:=by
 unfold c8o at h;split at h
 ·rfl
 ·cases h
theorem c2g{e:TypeId}{d:Option TypeDesc}(h:c3p e d=true):d=some (.slice e):=by
 unfold c3p at h;split at h
 ·rw[of_decide_eq_true h]
 ·cases h
theorem b4W{fs:List Field}{d:Option TypeDesc}(h:b6o d=some fs):∃ a:Array Field,d=some (.struct a)∧a.toList=fs:=by
 unfold b6o at h;split at h
 ·rename_i a;exact⟨a,rfl,Option.some.inj h⟩
 ·cases h
theorem b3o{x:V}{v:Value}(h:RV P G [] x v)(h1:v.oneCell'=true):d7W P G [x] ([v][·]?):=by
 intro j y u hj hu;cases j with
 | zero=>simp at hj hu;subst hj hu;exact⟨h,h1⟩
 | succ j=>simp at hj
theorem d6I{T:TypeId}{k:IntKind}{f:Nat}{cs:List Value}{d:DataW H}{ps:List MemPlace}(hd:P.underlying T=some (.int k))
  (h:DataW.trod enc P w 0 (fun _=>true) true (f+1) T cs=some (d,ps)):∃ n,cs=[.int k n]∧k.min≤n∧n≤k.max:=by
 unfold DataW.trod at h;rw[hd]at h;rcases cs with _ | ⟨c,_ | ⟨c',r⟩⟩ <;> (try cases c) <;> simp only[reduceCtorEq]at h
 rename_i k' n;split at h
 ·rename_i hk;obtain⟨rfl,hw⟩:=hk;simp only[Lit.wf,h0k,h0l]at hw;exact⟨n,rfl,hw.1,hw.2⟩
 ·cases h
theorem d7h{T:TypeId}{f:Nat}{cs:List Value}{d:DataW H}{ps:List MemPlace}(hd:P.underlying T=some .string)
  (h:DataW.trod enc P w 0 (fun _=>true) true (f+1) T cs=some (d,ps)):∃ s:ByteArray,cs=[.string s]∧d = .lit (.string s.data.toList):=by
 unfold DataW.trod at h;rw[hd]at h;rcases cs with _ | ⟨c,_ | ⟨c',r⟩⟩ <;> (try cases c) <;> simp only[reduceCtorEq]at h
 rename_i s;split at h
 ·simp only[Option.some.injEq,Prod.mk.injEq]at h;exact⟨s,rfl,h.1.symm⟩
 ·cases h
theorem d3H{T:TypeId}{f:Nat}{cs:List Value}{d:DataW H}{ps:List MemPlace}(hd:P.underlying T=some .bool)
  (h:DataW.trod enc P w 0 (fun _=>true) true (f+1) T cs=some (d,ps)):∃ b:Bool,cs=[.bool b]:=by
 unfold DataW.trod at h;rw[hd]at h;rcases cs with _ | ⟨c,_ | ⟨c',r⟩⟩ <;> (try cases c) <;> simp only[reduceCtorEq]at h
 exact⟨_,rfl⟩
theorem c8y{T e:TypeId}{f:Nat}{cs:List Value}{d:DataW H}{ps:List MemPlace}(hd:P.underlying T=some (.slice e))
  (h:DataW.trod enc P w 0 (fun _=>true) true (f+1) T cs=some (d,ps)):cs=[.slice none 0 0]∨∃ a len cap b6O rest,cs=[.slice (some a) len cap]∧len≤cap ∧
   (List.range len).mapM (fun i=>(w.cells? 0 (a.add (i * P.cellsOf e)) (P.cellsOf e)).bind (DataW.trod enc P w 0 (fun _=>true) true f e))=some b6O∧d = .slice (b6O.map (·.1)) rest:=by
 unfold DataW.trod at h;rw[hd]at h;rcases cs with _ | ⟨c,_ | ⟨c',r⟩⟩ <;> (try cases c) <;> simp only[reduceCtorEq]at h
 rename_i a len cap;cases a with
 | none =>
  rcases len with _ | len <;> rcases cap with _ | cap <;> simp only[reduceCtorEq]at h
  exact .inl rfl
 | some a =>
  right;simp only at h;split at h
  ·rename_i hc;simp only[Option.bind_eq_some_iff,h0p,Prod.mk.injEq]at h;obtain⟨b6O,he,rest,hr,hd',_⟩:=h;exact⟨a,len,cap,b6O,_,rfl,hc.2.1,he,hd'.symm⟩
  ·cases h
theorem c0l{T:TypeId}{fs:Array Field}{f:Nat}{cs:List Value}{d:DataW H}{ps:List MemPlace}(hd:P.underlying T=some (.struct fs))
  (h:DataW.trod enc P w 0 (fun _=>true) true (f+1) T cs=some (d,ps)):cs.length=P.cellsOf T∧∃ xs,
   fs.toList.mapM (fun fd=>DataW.trod enc P w 0 (fun _=>true) true f fd.type ((cs.drop fd.offset).take (P.cellsOf fd.type)))=some xs∧d = .agg (xs.map (·.1)):=by
 unfold DataW.trod at h;rw[hd]at h;simp only at h;split at h
 ·rename_i hc;simp only[h0p,Prod.mk.injEq]at h;obtain⟨xs,hx,hd',_⟩:=h;exact⟨hc,xs,hx,hd'.symm⟩
 ·cases h
theorem Ty.read(hG:∀ b o v,w.cell? ⟨b,o,none⟩=some v→v.oneCell'=true→G.F b o=some v):∀ ty:Ty,g3a enc P w G ty∧g4z enc P w G ty:=by
 intro ty;induction ty with
 | int k =>
  refine⟨fun T fuel cs d ps hok ht hw=>?_,fun o fs fuel cs ys hok=>by simp[Ty.ok]at hok⟩;have hd:=c7t (by simpa[Ty.ok]using hok);cases fuel with
  | zero=>cases ht
  | succ fuel =>
   obtain⟨n,rfl,h1,h2⟩:=d6I hd ht;exact⟨[.int k n],⟨n,rfl,h1,h2⟩,rfl,rfl,b3o (.int _ _) rfl⟩
 | str =>
  refine⟨fun T fuel cs d ps hok ht hw=>?_,fun o fs fuel cs ys hok=>by simp[Ty.ok]at hok⟩;have hd:=c7f (by simpa[Ty.ok]using hok);cases fuel with
  | zero=>cases ht
  | succ fuel =>
   obtain⟨s,rfl,rfl⟩:=d7h hd ht;refine⟨[.str s],⟨s,rfl⟩,rfl,rfl,b3o (.str _ ?_) rfl⟩;simp only[DataW.weights,List.all_cons,List.all_nil,h1g,h0l]at hw;have:s.size=s.data.toList.length:=by simp
   unfold reachBytes at hw;omega
 | bool =>
  refine⟨fun T fuel cs d ps hok ht hw=>?_,fun o fs fuel cs ys hok=>by simp[Ty.ok]at hok⟩;have hd:=c4C (by simpa[Ty.ok]using hok);cases fuel with
  | zero=>cases ht
  | succ fuel =>
   obtain⟨b,rfl⟩:=d3H hd ht;exact⟨[.bool b],⟨b,rfl⟩,rfl,rfl,b3o (.bool _) rfl⟩
 | sl e t ih =>
  refine⟨fun T fuel cs d ps hok ht hw=>?_,fun o fs fuel cs ys hok=>by simp[Ty.ok]at hok⟩;simp only[Ty.ok,h0k,h0l]at hok;obtain⟨⟨⟨⟨h1,hsz⟩,hpos⟩,hb⟩,hok⟩:=hok;have hd:=c2g h1;cases fuel with
  | zero=>cases ht
  | succ fuel =>
   rcases c8y hd ht with rfl | ⟨a,len,cap,b6O,rest,rfl,hlc,hm,rfl⟩
   ·exact⟨[Vg.sl e []],⟨[],rfl,by simp⟩,rfl,rfl,b3o (RV.sl (.snil .shared e trivial)) rfl⟩
   ·obtain⟨hl,hget⟩:=b7b hm;simp only[List.length_range]at hl;simp only[DataW.weights,hd,List.all_cons,List.all_append,h0k,h0l,h0v,hl]at hw;obtain⟨hw1,hw2,_⟩:=hw;obtain⟨es,hes1,hes2⟩:=c3c (Q:=fun i el=>t.sem el∧el.length=P.cellsOf e∧∀ (j:Nat) x,el[j]? = some x→∃ v,w.cell? ((a.add (i * P.cellsOf e)).add j)=some v∧RV P G [] x v∧v.oneCell'=true) len (fun i hi=>by
     obtain⟨⟨di,pi⟩,hdi,he⟩:=hget i i (List.getElem?_range hi);simp only[Option.bind_eq_some_iff]at he;obtain⟨csi,hc1,hc2⟩:=he;have hwi:=b3p hw2 di (by
      obtain⟨hlt,hx⟩:=h0b.1 hdi;exact h1p.2 ⟨(di,pi),hx ▸ List.getElem_mem hlt,rfl⟩)
     obtain⟨xs,g1,g2,g3,g4⟩:=ih.1 e fuel csi di pi hok hc2 hwi;obtain⟨c1,c2⟩:=c3Y hc1;refine⟨xs,g1,by omega,fun j x hx=>?_⟩;have hj:j<P.cellsOf e:=by have:=(h0b.1 hx).1;omega
     have hcj:=c2 j hj;have hlt:j<csi.length:=by omega
     rw[h0f hlt]at hcj;exact⟨_,hcj,g4 j x _ hx (h0f hlt)⟩)
    refine⟨[Vg.sl e es],⟨es,rfl,fun el hel=>?_⟩,rfl,rfl,b3o ?_ rfl⟩
    ·obtain⟨i,hi,rfl⟩:=h1h hel;exact(hes2 i _ (h0f hi)).1
    ·cases es with
     | nil =>
      have:len=0:=by simpa using hes1.symm
      subst this;exact .sodd _ _ _
     | cons el0 er =>
      have h0:=hes2 0 el0 rfl;obtain⟨v0,hv0,_⟩:=h0.2.2 0 _ (h0f (by omega));have hsp:=c3F hv0;have hspot:a.spot=none:=by
       have:=congrArg Addr.spot hsp;simpa[Addr.add]using this
      obtain⟨b,o,sp⟩:=a;simp only at hspot;subst hspot;rw[←hes1];refine RV.sl (RV.ofCells (o := .shared) trivial (fun i el hi=>(hes2 i el hi).2.1) ?_ hb (by omega) fun i el j c hi hj=>?_)
      ·rw[hes1];unfold reachBytes at hw1;have:len * P.bytesOf e≤(len+rest.length) * P.bytesOf e:=h0P _ (by omega);omega
      ·obtain⟨v,hv,hrv,h1c⟩:=(hes2 i el hi).2.2 j c hj;refine⟨v,hG _ _ _ ?_ h1c,hrv⟩;rw[Addr.add_mk,Addr.add_mk,h1s]at hv;exact hv
 | unit =>
  constructor
  ·intro T fuel cs d ps hok ht hw;simp only[Ty.ok]at hok;split at hok
   ·rename_i hf;obtain⟨a,hd,ha⟩:=b4W hf;have hz:=of_decide_eq_true hok;cases fuel with
    | zero=>cases ht
    | succ fuel =>
     obtain⟨hl,_⟩:=c0l hd ht;have:cs=[]:=h0G (by omega);subst this;exact⟨[],rfl,rfl,rfl,fun j x v hx=>by simp at hx⟩
   ·cases hok
  ·intro o fs fuel cs ys hok hm hw;exact⟨[],rfl,rfl,fun j x v hx=>by simp at hx⟩
 | cons t f r ihf ihr =>
  have step:∀ (o:Nat) (fd:Field) (fs:List Field) (fuel:Nat) (cs:List Value) (ys:List (DataW H×List MemPlace)),decide (fd.type=t)=true→decide (fd.offset=o)=true→decide (P.cellsOf t=f.cells)=true→f.ok P (.inl t)=true→r.ok P (.inr (o+f.cells,fs))=true →
    (fd::fs).mapM (fun g=>DataW.trod enc P w 0 (fun _=>true) true fuel g.type ((cs.drop g.offset).take (P.cellsOf g.type)))=some ys →
    (DataW.weightsEach P ((fd::fs).map (·.type)) (ys.map (·.1))).all (· ≤ reachBytes)=true→∃ xs,(Ty.cons t f r).sem xs∧xs.length=(Ty.cons t f r).cells∧d7W P G xs fun j=>cs[o+j]?:=by
   intro o fd fs fuel cs ys h1 h2 h3 h4 h5 hm hw;have h1:=of_decide_eq_true h1;have h2:=of_decide_eq_true h2;have h3:=of_decide_eq_true h3;subst h1 h2;simp only[List.mapM_cons,Option.bind_eq_bind,Option.bind_eq_some_iff,Option.pure_def,Option.some.injEq]at hm;obtain⟨⟨d1,p1⟩,hy,ys',hys,rfl⟩:=hm;simp only[h0s,DataW.weightsEach,List.all_append,h0k]at hw;obtain⟨xf,f1,f2,f3,f4⟩:=ihf.1 _ _ _ _ _ h4 hy hw.1;obtain⟨xr,r1,r2,r3⟩:=ihr.2 _ _ _ _ _ h5 hys hw.2;refine⟨xf++xr,⟨xf,xr,rfl,f1,r1⟩,by simp[Ty.cells,f2,r2],fun j x v hx hv=>?_⟩;rcases h1A j xf.length with hj | hj
   ·rw[h0e hj]at hx;refine f4 j x v hx ?_;show((cs.drop fd.offset).take (P.cellsOf fd.type))[j]? = some v;rw[List.getElem?_take,if_pos (by omega),h1d];exact hv
   ·rw[h0g hj]at hx;refine r3 _ x v hx ?_;simp only at hv ⊢;rw[←hv];congr 1;omega
  constructor
  ·intro T fuel cs d ps hok ht hw;simp only[Ty.ok]at hok;split at hok
   ·rename_i fd fs hf;obtain⟨a,hd,ha⟩:=b4W hf;simp only[h0k]at hok;obtain⟨⟨⟨⟨⟨h0,h1⟩,h2⟩,h3⟩,h4⟩,h5⟩:=hok;have h0:=of_decide_eq_true h0;cases fuel with
    | zero=>cases ht
    | succ fuel =>
     obtain⟨hl,ys,hm,rfl⟩:=c0l hd ht;rw[ha]at hm;simp only[DataW.weights,hd,ha]at hw;obtain⟨xs,g1,g2,g3⟩:=step 0 fd fs fuel cs ys h1 h2 h3 h4 (by simpa using h5) hm hw;exact⟨xs,g1,g2,by simp only[Ty.cells];omega,fun j x v hx hv=>g3 j x v hx (by simpa using hv)⟩
   ·cases hok
  ·intro o fs fuel cs ys hok hm hw;cases fs with
   | nil=>simp[Ty.ok]at hok
   | cons fd fs =>
    simp only[Ty.ok,h0k]at hok;obtain⟨⟨⟨⟨h1,h2⟩,h3⟩,h4⟩,h5⟩:=hok;exact step o fd fs fuel cs ys h1 h2 h3 h4 h5 hm hw
end
end Go.Vg
namespace Go.Vg
open Go.RowKit
theorem b3E{H:Type}{enc:TypeId×Value→H}{a:Assume}{C:Checked}{os:Os}{f:FuncId}{fn:Func}{s:ChangeSpec}{conds:List PathCond}{apart fresh handsOn again:Bool}{X:World→Array Value→Prop}
  (hX:∀ (w w':World) (args:Array Value),w.heap=w'.heap→X w args→X w' args)
  (own:ownKnob C.prog.godebug=none) (started:os.Started) (noInit:C.prog.inits.idxOf? f=none) (hfn:C.prog.funcs[f]? = some fn)
  (b9s:∃ (w:World) (tape:Tape) (i:Input),w.os=os∧(w.forCall tape i).Shaped C.prog∧i.vars=[]∧Input.okWide C.prog (w.forCall tape i) .any w.heap.size f i ∧
   ((s.pre enc C.prog fn conds apart (w.forCall tape i).memory i.args∧X (w.forCall tape i).memory i.args)∧sizedMet enc C.prog fn (OpenSpec.ofChange s) apart (w.forCall tape i).memory i.args)∧a.holds C.prog (lone (Frame.enter C.prog f i.args .normal) [] (w.forCall tape i)))
  (contract:∀ (W:World) (args:Array Value) (ds gs:List (DataW H)) (b2q:List MemPlace),
   DataW.Whole enc C.prog fn.params.toList s.vars apart W args.toList ds gs b2q →
   (DataW.weightsEach C.prog (fn.params.toList++s.plain.varTypes C.prog) (ds++gs)).all (· ≤ reachBytes)=true→X W args→W.ShapedOpen C.prog →
   (∃ b:Nat,∀ (j:Nat) t v,fn.params[j]? = some t→args[j]? = some v→Value.okWide C.prog W .any b t v) →
   Calls C.prog f args W fun e W'=>∃ v,e = .returned v∧s.post enc C.prog fn apart fresh handsOn again W args v W') :
  ReturnsInHanded a C os f .any (fun w args=>(s.pre enc C.prog fn conds apart w args∧X w args)∧sizedMet enc C.prog fn (OpenSpec.ofChange s) apart w args) (s.post enc C.prog fn apart fresh handsOn again):=by
 refine returnsInHanded_of_calls own started noInit b9s fun w tape i _ hsh _ hok hpre hh=>?_
 obtain⟨⟨⟨ds,gs,b2q,hw,hc⟩,hx⟩,hz⟩:=hpre;have hin:∃ b:Nat,∀ (j:Nat) t v,fn.params[j]? = some t→i.args[j]? = some v→Value.okWide C.prog (w.forCall tape i) .any b t v:=by
  obtain⟨_,_,_,fn',hf',_,_,_,_,hv⟩:=hok;rw[hfn]at hf';cases hf'
  exact⟨_,hv⟩
 refine(contract (w.forCall tape i) i.args ds gs b2q (DataW.Whole.of_heap (w':=w.forCall tape i) (by rfl) hw) (hz.weights hw) (hX _ _ _ (by rfl) hx) hsh hin).mono fun e W' ⟨v,he,hp⟩=>?_
 subst he;exact ChangeSpec.post_blind hp
def b1O(W:World):Gh:=⟨f1f W,[],[]⟩
theorem c0f{W:World}{b o:Nat}{v:Value}(h:f1f W b o=some v):W.cell? ⟨b,o,none⟩=some v∧v.oneCell'=true:=by
 unfold f1f at h;split at h
 ·rename_i u hu;split at h
  ·rename_i h1;cases h
   exact⟨hu,h1⟩
  ·cases h
 ·cases h
theorem f0v{H:Type}{enc:TypeId×Value→H}{P:Program}{W:World}{T:TypeId}{v:Value}{d:DataW H}{p:List MemPlace}(ty:Ty)(h2:ty.cells=1)(hn:∀ t f r,ty ≠ .cons t f r)(hok:ty.ok P (.inl T)=true)
  (h:DataW.Trod enc P W 0 (fun _=>true) true T v d p) (hw:(d.weights P T).all (· ≤ reachBytes)=true) (hagg:∀ vs,v ≠ .agg vs):∃ x,ty.sem [x]∧RV P (b1O W) [] x v:=by
 obtain⟨fuel,h⟩:=h;obtain⟨xs,h1,h3,h4,h5⟩:=(Ty.read (G:=b1O W) (fun b o v hc h1=>by simp only[b1O,f1f,hc,h1,if_true]) ty).1 T fuel v.cells.toList d p hok h hw;rw[h2]at h3;obtain⟨x,rfl⟩:=List.length_eq_one_iff.1 h3;refine⟨x,h1,?_⟩;have hv:v.cells.toList=[v]:=by
  cases v with
  | agg vs=>exact absurd rfl (hagg vs)
  | _=>rfl
 rw[hv]at h5;exact(h5 0 x v rfl rfl).1
theorem d8X{H:Type}{enc:TypeId×Value→H}{P:Program}{W:World}{T:TypeId}{v:Value}{d:DataW H}{p:List MemPlace}{b:Nat}(ht:P.underlying T=some .string)(hval:Value.okWide P W .any b T v)
  (h:DataW.Trod enc P W 0 (fun _=>true) true T v d p) (hw:(d.weights P T).all (· ≤ reachBytes)=true):∃ s,RV P (b1O W) [] (.str s) v:=by
 obtain⟨s,rfl,_,_,hs⟩:=Go.ChangeMaps.open_string ht hval h;obtain⟨x,⟨s',hx⟩,hr⟩:=f0v .str rfl (fun _ _ _=>Ty.noConfusion) (by simp[Ty.ok,ht,d3L]) h hw (fun _=>Value.noConfusion);cases hx
 exact⟨s',hr⟩
end Go.Vg
namespace Go.Vg
open Go.RowKit
inductive Tz where
 | int (k:IntKind) | str | bool
 | sl (e:TypeId) (t:Tz)
 | arr (e:TypeId) (n:Nat) (t:Tz)
 | unit
 | cons (t:TypeId) (f r:Tz)
 | leaf (T:TypeId) (n:Nat) (S:List V→Prop)
def Tz.cells:Tz→Nat
 | .int _ | .str | .bool | .sl _ _=>1
 | .arr _ n t=>n * t.cells
 | .unit=>0
 | .cons _ f r=>f.cells+r.cells
 | .leaf _ n _=>n
def f1D(e:TypeId)(n:Nat):Option TypeDesc→Bool | some (.array n' e')=>decide (e'=e) && decide (n'=n) | _=>false
def Tz.ok(P:Program):Tz→TypeId ⊕ (Nat×List Field)→Bool
 | .int k,.inl T=>d7d k (P.underlying T)
 | .str,.inl T=>d3L (P.underlying T)
 | .bool,.inl T=>c8o (P.underlying T)
 | .sl e t,.inl T=>c3p e (P.underlying T) && decide (P.cellsOf e=t.cells) && decide (1≤t.cells) && decide (1≤P.bytesOf e) && t.ok P (.inl e)
 | .arr e n t,.inl T=>f1D e n (P.underlying T) && decide (P.cellsOf e=t.cells) && decide (P.cellsOf T=n * t.cells) && t.ok P (.inl e)
 | .unit,.inl T=>match b6o (P.underlying T)with
  | some []=>decide (P.cellsOf T=0)
  | _=>false
 | .unit,.inr (_,[])=>true
 | .cons t f r,.inl T=>match b6o (P.underlying T)with
  | some (fd::fs)=>decide (P.cellsOf T=f.cells+r.cells) && decide (fd.type=t) && decide (fd.offset=0) && decide (P.cellsOf t=f.cells) && f.ok P (.inl t) && r.ok P (.inr (f.cells,fs))
  | _=>false
 | .cons t f r,.inr (o,fd::fs)=>decide (fd.type=t) && decide (fd.offset=o) && decide (P.cellsOf t=f.cells) && f.ok P (.inl t) && r.ok P (.inr (o+f.cells,fs))
 | .leaf R _ _,.inl T=>decide (T=R)
 | _,_=>false
def b3y{H:Type}:DataW H→List (DataW H)
 | .slice es _=>es
 | .agg es=>es
 | _=>[]
def Tz.sem{H:Type}:Tz→DataW H→List V→Prop
 | .int k,d,xs=>∃ n,xs=[.int k n]∧d = .lit (.int k n)
 | .str,d,xs=>∃ s:ByteArray,xs=[.str s]∧d = .lit (.string s.data.toList)
 | .bool,d,xs=>∃ b,xs=[.bool b]∧d = .lit (.bool b)
 | .sl e t,d,xs=>∃ es:List (List V),xs=[Vg.sl e es]∧es.length=(b3y d).length∧∀ (i:Nat) el,es[i]? = some el→t.sem ((b3y d).getD i .nil) el
 | .arr _ n t,d,xs=>∃ es:List (List V),xs=es.flatten∧es.length=n∧(b3y d).length=n∧∀ (i:Nat) el,es[i]? = some el→t.sem ((b3y d).getD i .nil) el
 | .unit,_,xs=>xs=[]
 | .cons _ f r,d,xs=>∃ a b,xs=a++b∧f.sem ((b3y d).headD .nil) a∧r.sem (.agg (b3y d).tail) b
 | .leaf _ _ S,_,xs=>S xs
def Tz.val{H:Type}:Tz→DataW H→List V
 | .int k,.lit (.int _ n)=>[.int k n]
 | .str,.lit (.string s)=>[.str ⟨⟨s⟩⟩]
 | .bool,.lit (.bool b)=>[.bool b]
 | .sl e t,d=>[Vg.sl e ((b3y d).map t.val)]
 | .arr _ _ t,d=>((b3y d).map t.val).flatten
 | .cons _ f r,d=>f.val ((b3y d).headD .nil)++r.val (.agg (b3y d).tail)
 | _,_=>[]
def Tz.closed:Tz→Bool
 | .sl _ t=>t.closed
 | .arr _ _ t=>t.closed
 | .cons _ f r=>f.closed && r.closed
 | .leaf .. => false
 | _=>true
theorem d7N{α β:Type}{f:α→β}{dflt:α}{ls:List α}{bs:List β}(h1:bs.length=ls.length)(h2:∀ (i:Nat) b,bs[i]? = some b→b=f (ls.getD i dflt)):bs=ls.map f:=by
 apply List.ext_getElem (by simpa using h1);intro i hi hj;rw[h2 i _ (h0f hi)];have:i<ls.length:=by omega
 simp[h0c,h0f this]
theorem Tz.val_of{H:Type}:∀ (t:Tz) (d:DataW H) (xs:List V),t.closed=true→t.sem d xs→xs=t.val d
 | .int k,d,xs,_,h=>by obtain⟨n,rfl,rfl⟩:=h;rfl
 | .str,d,xs,_,h=>by obtain⟨n,rfl,rfl⟩:=h;rfl
 | .bool,d,xs,_,h=>by obtain⟨n,rfl,rfl⟩:=h;rfl
 | .sl e t,d,xs,hc,h=>by
  obtain⟨es,rfl,h1,h2⟩:=h;rw[d7N (dflt := .nil) h1 fun i b hb=>t.val_of _ _ hc (h2 i b hb)];rfl
 | .arr e n t,d,xs,hc,h=>by
  obtain⟨es,rfl,h1,h1',h2⟩:=h;rw[d7N (dflt := .nil) (h1.trans h1'.symm) fun i b hb=>t.val_of _ _ hc (h2 i b hb)];rfl
 | .unit,d,xs,_,h=>h
 | .cons t f r,d,xs,hc,h=>by
  obtain⟨a,b,rfl,h1,h2⟩:=h;simp only[Tz.closed,h0k]at hc;rw[f.val_of _ _ hc.1 h1,r.val_of _ _ hc.2 h2];rfl
theorem b9z{α:Type}{c:Nat}:∀ {es:List (List α)} {j:Nat} {x:α},(∀ (i:Nat) el,es[i]? = some el→el.length=c)→es.flatten[j]? = some x→∃ i el k,es[i]? = some el∧el[k]? = some x∧j=i * c+k∧k<c
 | [],j,x,h,hx=>by simp at hx
 | e::es,j,x,h,hx=>by
  have he:=h 0 e rfl;rw[h1b]at hx;rcases h1A j e.length with hj | hj
  ·rw[h0e hj]at hx;exact⟨0,e,j,rfl,hx,by omega,by omega⟩
  ·rw[h0g hj]at hx;obtain⟨i,el,k,h1,h2,h3,h4⟩:=b9z (fun i el hi=>h (i+1) el (by simpa using hi)) hx;exact⟨i+1,el,k,by simpa using h1,h2,by rw[Nat.add_one_mul];omega,h4⟩
theorem b5l{α:Type}{c:Nat}:∀ {es:List (List α)},(∀ (i:Nat) el,es[i]? = some el→el.length=c)→es.flatten.length=es.length * c
 | [],h=>by simp
 | e::es,h=>by
  rw[h1b,h0h,h 0 e rfl,b5l fun i el hi=>h (i+1) el (by simpa using hi),h0o,Nat.add_one_mul];omega
section
variable {H : Type} {enc : TypeId × Value → H} {P : Program} {w : World} {G : Gh} {held : Bool}
def f6U(enc:TypeId×Value→H)(P:Program)(w:World)(G:Gh)(held:Bool)(F:Nat)(T:TypeId)(n:Nat)(S:List V→Prop):Prop:=∀ fuel,fuel<F→∀ (cs:List Value) (d:DataW H) (ps:List MemPlace),
 DataW.trod enc P w 0 (fun _=>true) held fuel T cs=some (d,ps)→(d.weights P T).all (· ≤ reachBytes)=true→∃ xs,S xs∧xs.length=n∧cs.length=n∧d7W P G xs (cs[·]?)
def Tz.lv(enc:TypeId×Value→H)(P:Program)(w:World)(G:Gh)(held:Bool):Nat→Tz→Prop
 | F,.sl _ t=>t.lv enc P w G held (F - 1)
 | F,.arr _ _ t=>t.lv enc P w G held (F - 1)
 | F,.cons _ f r=>f.lv enc P w G held (F - 1)∧r.lv enc P w G held F
 | F,.leaf T n S=>f6U enc P w G held F T n S
 | _,_=>True
def g3L(enc:TypeId×Value→H)(P:Program)(w:World)(G:Gh)(held:Bool)(F:Nat)(ty:Tz):Prop:=∀ (T:TypeId) (fuel:Nat) (cs:List Value) (d:DataW H) (ps:List MemPlace),fuel<F→ty.ok P (.inl T)=true→DataW.trod enc P w 0 (fun _=>true) held fuel T cs=some (d,ps) →
 (d.weights P T).all (· ≤ reachBytes)=true→∃ xs,ty.sem d xs∧xs.length=ty.cells∧cs.length=ty.cells∧d7W P G xs (cs[·]?)
def f6i(enc:TypeId×Value→H)(P:Program)(w:World)(G:Gh)(held:Bool)(F:Nat)(ty:Tz):Prop:=∀ (o:Nat) (fs:List Field) (fuel:Nat) (cs:List Value) (ys:List (DataW H×List MemPlace)),fuel+1<F→ty.ok P (.inr (o,fs))=true →
 fs.mapM (fun f=>DataW.trod enc P w 0 (fun _=>true) held fuel f.type ((cs.drop f.offset).take (P.cellsOf f.type)))=some ys →
 (DataW.weightsEach P (fs.map (·.type)) (ys.map (·.1))).all (· ≤ reachBytes)=true→∃ xs,ty.sem (.agg (ys.map (·.1))) xs∧xs.length=ty.cells∧d7W P G xs fun j=>cs[o+j]?
theorem d5r{e:TypeId}{n:Nat}{d:Option TypeDesc}(h:f1D e n d=true):d=some (.array n e):=by
 unfold f1D at h;split at h
 ·simp only[h0k,h0l]at h;obtain⟨rfl,rfl⟩:=h;rfl
 ·cases h
theorem d2j{T:TypeId}{k:IntKind}{f:Nat}{cs:List Value}{d:DataW H}{ps:List MemPlace}(hd:P.underlying T=some (.int k))
  (h:DataW.trod enc P w 0 (fun _=>true) held (f+1) T cs=some (d,ps)):∃ n,cs=[.int k n]∧d = .lit (.int k n):=by
 unfold DataW.trod at h;rw[hd]at h;rcases cs with _ | ⟨c,_ | ⟨c',r⟩⟩ <;> (try cases c) <;> simp only[reduceCtorEq]at h
 rename_i k' n;split at h
 ·rename_i hk;obtain⟨rfl,hw⟩:=hk;simp only[Option.some.injEq,Prod.mk.injEq]at h;exact⟨n,rfl,h.1.symm⟩
 ·cases h
theorem d0o{T:TypeId}{f:Nat}{cs:List Value}{d:DataW H}{ps:List MemPlace}(hd:P.underlying T=some .string)
  (h:DataW.trod enc P w 0 (fun _=>true) held (f+1) T cs=some (d,ps)):∃ s:ByteArray,cs=[.string s]∧d = .lit (.string s.data.toList):=by
 unfold DataW.trod at h;rw[hd]at h;rcases cs with _ | ⟨c,_ | ⟨c',r⟩⟩ <;> (try cases c) <;> simp only[reduceCtorEq]at h
 rename_i s;split at h
 ·simp only[Option.some.injEq,Prod.mk.injEq]at h;exact⟨s,rfl,h.1.symm⟩
 ·cases h
theorem c8S{T:TypeId}{f:Nat}{cs:List Value}{d:DataW H}{ps:List MemPlace}(hd:P.underlying T=some .bool)
  (h:DataW.trod enc P w 0 (fun _=>true) held (f+1) T cs=some (d,ps)):∃ b:Bool,cs=[.bool b]∧d = .lit (.bool b):=by
 unfold DataW.trod at h;rw[hd]at h;rcases cs with _ | ⟨c,_ | ⟨c',r⟩⟩ <;> (try cases c) <;> simp only[reduceCtorEq]at h
 simp only[Option.some.injEq,Prod.mk.injEq]at h;exact⟨_,rfl,h.1.symm⟩
theorem c5F{T e:TypeId}{f:Nat}{cs:List Value}{d:DataW H}{ps:List MemPlace}(hd:P.underlying T=some (.slice e))
  (h:DataW.trod enc P w 0 (fun _=>true) held (f+1) T cs=some (d,ps)):(cs=[.slice none 0 0]∧d = .nil)∨∃ a len cap b6O rest,cs=[.slice (some a) len cap]∧len≤cap ∧
   (List.range len).mapM (fun i=>(w.cells? 0 (a.add (i * P.cellsOf e)) (P.cellsOf e)).bind (DataW.trod enc P w 0 (fun _=>true) held f e))=some b6O∧d = .slice (b6O.map (·.1)) rest:=by
 unfold DataW.trod at h;rw[hd]at h;rcases cs with _ | ⟨c,_ | ⟨c',r⟩⟩ <;> (try cases c) <;> simp only[reduceCtorEq]at h
 rename_i a len cap;cases a with
 | none =>
  rcases len with _ | len <;> rcases cap with _ | cap <;> simp only[reduceCtorEq]at h
  simp only[Option.some.injEq,Prod.mk.injEq]at h;exact .inl ⟨rfl,h.1.symm⟩
 | some a =>
  right;simp only at h;split at h
  ·rename_i hc;simp only[Option.bind_eq_some_iff,h0p,Prod.mk.injEq]at h;obtain⟨b6O,he,rest,hr,hd',_⟩:=h;exact⟨a,len,cap,b6O,_,rfl,hc.2.1,he,hd'.symm⟩
  ·cases h
theorem b8v{T:TypeId}{fs:Array Field}{f:Nat}{cs:List Value}{d:DataW H}{ps:List MemPlace}(hd:P.underlying T=some (.struct fs))
  (h:DataW.trod enc P w 0 (fun _=>true) held (f+1) T cs=some (d,ps)):cs.length=P.cellsOf T∧∃ xs,
   fs.toList.mapM (fun fd=>DataW.trod enc P w 0 (fun _=>true) held f fd.type ((cs.drop fd.offset).take (P.cellsOf fd.type)))=some xs∧d = .agg (xs.map (·.1)):=by
 unfold DataW.trod at h;rw[hd]at h;simp only at h;split at h
 ·rename_i hc;simp only[h0p,Prod.mk.injEq]at h;obtain⟨xs,hx,hd',_⟩:=h;exact⟨hc,xs,hx,hd'.symm⟩
 ·cases h
theorem c6g{T e:TypeId}{n:Nat}{f:Nat}{cs:List Value}{d:DataW H}{ps:List MemPlace}(hd:P.underlying T=some (.array n e))
  (h:DataW.trod enc P w 0 (fun _=>true) held (f+1) T cs=some (d,ps)):cs.length=P.cellsOf T∧∃ xs,
   (List.range n).mapM (fun i=>DataW.trod enc P w 0 (fun _=>true) held f e ((cs.drop (i * P.cellsOf e)).take (P.cellsOf e)))=some xs∧d = .agg (xs.map (·.1)):=by
 unfold DataW.trod at h;rw[hd]at h;simp only at h;split at h
 ·rename_i hc;simp only[h0p,Prod.mk.injEq]at h;obtain⟨xs,hx,hd',_⟩:=h;exact⟨hc,xs,hx,hd'.symm⟩
 ·cases h
theorem c7j{α β:Type}{f:α→β}{l:List α}{i:Nat}{a:α}{b:β}(h:l[i]? = some a):(l.map f).getD i b=f a:=by
 simp[h0c,h]
theorem Tz.read(hG:∀ b o v,w.cell? ⟨b,o,none⟩=some v→v.oneCell'=true→G.F b o=some v):∀ (ty:Tz) (F:Nat),ty.lv enc P w G held F→g3L enc P w G held F ty∧f6i enc P w G held F ty:=by
 intro ty;induction ty with
 | int k =>
  intro F _;refine⟨fun T fuel cs d ps hF hok ht hw=>?_,fun o fs fuel cs ys _ hok=>by simp[Tz.ok]at hok⟩;have hd:=c7t (by simpa[Tz.ok]using hok);cases fuel with
  | zero=>cases ht
  | succ fuel =>
   obtain⟨n,rfl,rfl⟩:=d2j hd ht;exact⟨[.int k n],⟨n,rfl,rfl⟩,rfl,rfl,b3o (.int _ _) rfl⟩
 | str =>
  intro F _;refine⟨fun T fuel cs d ps hF hok ht hw=>?_,fun o fs fuel cs ys _ hok=>by simp[Tz.ok]at hok⟩;have hd:=c7f (by simpa[Tz.ok]using hok);cases fuel with
  | zero=>cases ht
  | succ fuel =>
   obtain⟨s,rfl,rfl⟩:=d0o hd ht;refine⟨[.str s],⟨s,rfl,rfl⟩,rfl,rfl,b3o (.str _ ?_) rfl⟩;simp only[DataW.weights,List.all_cons,List.all_nil,h1g,h0l]at hw;have:s.size=s.data.toList.length:=by simp
   unfold reachBytes at hw;omega
 | bool =>
  intro F _;refine⟨fun T fuel cs d ps hF hok ht hw=>?_,fun o fs fuel cs ys _ hok=>by simp[Tz.ok]at hok⟩;have hd:=c4C (by simpa[Tz.ok]using hok);cases fuel with
  | zero=>cases ht
  | succ fuel =>
   obtain⟨b,rfl,rfl⟩:=c8S hd ht;exact⟨[.bool b],⟨b,rfl,rfl⟩,rfl,rfl,b3o (.bool _) rfl⟩
 | sl e t ih =>
  intro F hlv;refine⟨fun T fuel cs d ps hF hok ht hw=>?_,fun o fs fuel cs ys _ hok=>by simp[Tz.ok]at hok⟩;simp only[Tz.ok,h0k,h0l]at hok;obtain⟨⟨⟨⟨h1,hsz⟩,hpos⟩,hb⟩,hok⟩:=hok;have hd:=c2g h1;cases fuel with
  | zero=>cases ht
  | succ fuel =>
   rcases c5F hd ht with⟨rfl,rfl⟩ | ⟨a,len,cap,b6O,rest,rfl,hlc,hm,rfl⟩
   ·exact⟨[Vg.sl e []],⟨[],rfl,rfl,by simp⟩,rfl,rfl,b3o (RV.sl (.snil .shared e trivial)) rfl⟩
   ·obtain⟨hl,hget⟩:=b7b hm;simp only[List.length_range]at hl;simp only[DataW.weights,hd,List.all_cons,List.all_append,h0k,h0l,h0v,hl]at hw;obtain⟨hw1,hw2,_⟩:=hw;obtain⟨es,hes1,hes2⟩:=c3c (Q:=fun i el=>t.sem ((b6O.map (·.1)).getD i .nil) el∧el.length=P.cellsOf e∧∀ (j:Nat) x,el[j]? = some x→∃ v,w.cell? ((a.add (i * P.cellsOf e)).add j)=some v∧RV P G [] x v∧v.oneCell'=true) len (fun i hi=>by
     obtain⟨⟨di,pi⟩,hdi,he⟩:=hget i i (List.getElem?_range hi);simp only[Option.bind_eq_some_iff]at he;obtain⟨csi,hc1,hc2⟩:=he;have hwi:=b3p hw2 di (by
      obtain⟨hlt,hx⟩:=h0b.1 hdi;exact h1p.2 ⟨(di,pi),hx ▸ List.getElem_mem hlt,rfl⟩)
     obtain⟨xs,g1,g2,g3,g4⟩:=(ih (F - 1) hlv).1 e fuel csi di pi (by omega) hok hc2 hwi;obtain⟨c1,c2⟩:=c3Y hc1;refine⟨xs,by rw[c7j hdi];exact g1,by omega,fun j x hx=>?_⟩;have hj:j<P.cellsOf e:=by have:=(h0b.1 hx).1;omega
     have hcj:=c2 j hj;have hlt:j<csi.length:=by omega
     rw[h0f hlt]at hcj;exact⟨_,hcj,g4 j x _ hx (h0f hlt)⟩)
    refine⟨[Vg.sl e es],⟨es,rfl,by simp only[b3y,h0v];omega,fun i el hel=>(hes2 i el hel).1⟩,rfl,rfl,b3o ?_ rfl⟩;cases es with
    | nil =>
     have:len=0:=by simpa using hes1.symm
     subst this;exact .sodd _ _ _
    | cons el0 er =>
     have h0:=hes2 0 el0 rfl;obtain⟨v0,hv0,_⟩:=h0.2.2 0 _ (h0f (by omega));have hsp:=c3F hv0;have hspot:a.spot=none:=by
      have:=congrArg Addr.spot hsp;simpa[Addr.add]using this
     obtain⟨b,o,sp⟩:=a;simp only at hspot;subst hspot;rw[←hes1];refine RV.sl (RV.ofCells (o := .shared) trivial (fun i el hi=>(hes2 i el hi).2.1) ?_ hb (by omega) fun i el j c hi hj=>?_)
     ·rw[hes1];unfold reachBytes at hw1;have:len * P.bytesOf e≤(len+rest.length) * P.bytesOf e:=h0P _ (by omega);omega
     ·obtain⟨v,hv,hrv,h1c⟩:=(hes2 i el hi).2.2 j c hj;refine⟨v,hG _ _ _ ?_ h1c,hrv⟩;rw[Addr.add_mk,Addr.add_mk,h1s]at hv;exact hv
 | arr e n t ih =>
  intro F hlv;refine⟨fun T fuel cs d ps hF hok ht hw=>?_,fun o fs fuel cs ys _ hok=>by simp[Tz.ok]at hok⟩;simp only[Tz.ok,h0k,h0l]at hok;obtain⟨⟨⟨h1,hsz⟩,hsT⟩,hok⟩:=hok;have hd:=d5r h1;cases fuel with
  | zero=>cases ht
  | succ fuel =>
   obtain⟨hlen,b6O,hm,rfl⟩:=c6g hd ht;obtain⟨hl,hget⟩:=b7b hm;simp only[List.length_range]at hl;simp only[DataW.weights,hd]at hw;obtain⟨es,hes1,hes2⟩:=c3c (Q:=fun i el=>t.sem ((b6O.map (·.1)).getD i .nil) el∧el.length=t.cells∧∀ (j:Nat) x v,el[j]? = some x→cs[i * t.cells+j]? = some v→RV P G [] x v∧v.oneCell'=true) n (fun i hi=>by
    obtain⟨⟨di,pi⟩,hdi,he⟩:=hget i i (List.getElem?_range hi);have hwi:=b3p hw di (by
     obtain⟨hlt,hx⟩:=h0b.1 hdi;exact h1p.2 ⟨(di,pi),hx ▸ List.getElem_mem hlt,rfl⟩)
    obtain⟨xs,g1,g2,g3,g4⟩:=(ih (F - 1) hlv).1 e fuel _ di pi (by omega) hok he hwi;refine⟨xs,by rw[c7j hdi];exact g1,g2,fun j x v hx hv=>?_⟩;have hj:j<t.cells:=by have:=(h0b.1 hx).1;omega
    refine g4 j x v hx ?_;show((cs.drop (i * P.cellsOf e)).take (P.cellsOf e))[j]? = some v;rw[List.getElem?_take,if_pos (by omega),h1d,hsz];exact hv)
   have hc:∀ (i:Nat) el,es[i]? = some el→el.length=t.cells:=fun i el hi=>(hes2 i el hi).2.1
   refine⟨es.flatten,⟨es,rfl,hes1,by simp only[b3y,h0v];omega,fun i el hel=>(hes2 i el hel).1⟩,by rw[b5l hc,hes1];rfl,by rw[hlen,hsT];rfl,fun j x v hx hv=>?_⟩;obtain⟨i,el,k,k1,k2,rfl,k4⟩:=b9z hc hx;exact(hes2 i el k1).2.2 k x v k2 hv
 | unit =>
  intro F _;constructor
  ·intro T fuel cs d ps hF hok ht hw;simp only[Tz.ok]at hok;split at hok
   ·rename_i hf;obtain⟨a,hd,ha⟩:=b4W hf;have hz:=of_decide_eq_true hok;cases fuel with
    | zero=>cases ht
    | succ fuel =>
     obtain⟨hl,_⟩:=b8v hd ht;have:cs=[]:=h0G (by omega);subst this;exact⟨[],rfl,rfl,rfl,fun j x v hx=>by simp at hx⟩
   ·cases hok
  ·intro o fs fuel cs ys _ hok hm hw;exact⟨[],rfl,rfl,fun j x v hx=>by simp at hx⟩
 | leaf R n S =>
  intro F hlv;refine⟨fun T fuel cs d ps hF hok ht hw=>?_,fun o fs fuel cs ys _ hok=>by simp[Tz.ok]at hok⟩;have:T=R:=by simpa[Tz.ok]using hok
  subst this;exact hlv fuel hF cs d ps ht hw
 | cons t f r ihf ihr =>
  intro F hlv;have step:∀ (o:Nat) (fd:Field) (fs:List Field) (fuel:Nat) (cs:List Value) (ys:List (DataW H×List MemPlace)),fuel+1<F→decide (fd.type=t)=true→decide (fd.offset=o)=true→decide (P.cellsOf t=f.cells)=true→f.ok P (.inl t)=true→r.ok P (.inr (o+f.cells,fs))=true →
    (fd::fs).mapM (fun g=>DataW.trod enc P w 0 (fun _=>true) held fuel g.type ((cs.drop g.offset).take (P.cellsOf g.type)))=some ys →
    (DataW.weightsEach P ((fd::fs).map (·.type)) (ys.map (·.1))).all (· ≤ reachBytes)=true→∃ xs,(Tz.cons t f r).sem (.agg (ys.map (·.1))) xs∧xs.length=(Tz.cons t f r).cells∧d7W P G xs fun j=>cs[o+j]?:=by
   intro o fd fs fuel cs ys hF h1 h2 h3 h4 h5 hm hw;have h1:=of_decide_eq_true h1;have h2:=of_decide_eq_true h2;have h3:=of_decide_eq_true h3;subst h1 h2;simp only[List.mapM_cons,Option.bind_eq_bind,Option.bind_eq_some_iff,Option.pure_def,Option.some.injEq]at hm;obtain⟨⟨d1,p1⟩,hy,ys',hys,rfl⟩:=hm;simp only[h0s,DataW.weightsEach,List.all_append,h0k]at hw;obtain⟨xf,f1,f2,f3,f4⟩:=(ihf (F - 1) hlv.1).1 _ _ _ _ _ (by omega) h4 hy hw.1;obtain⟨xr,r1,r2,r3⟩:=(ihr F hlv.2).2 _ _ _ _ _ hF h5 hys hw.2;refine⟨xf++xr,⟨xf,xr,rfl,f1,r1⟩,by simp[Tz.cells,f2,r2],fun j x v hx hv=>?_⟩;rcases h1A j xf.length with hj | hj
   ·rw[h0e hj]at hx;refine f4 j x v hx ?_;show((cs.drop fd.offset).take (P.cellsOf fd.type))[j]? = some v;rw[List.getElem?_take,if_pos (by omega),h1d];exact hv
   ·rw[h0g hj]at hx;refine r3 _ x v hx ?_;simp only at hv ⊢;rw[←hv];congr 1;omega
  constructor
  ·intro T fuel cs d ps hF hok ht hw;simp only[Tz.ok]at hok;split at hok
   ·rename_i fd fs hf;obtain⟨a,hd,ha⟩:=b4W hf;simp only[h0k]at hok;obtain⟨⟨⟨⟨⟨h0,h1⟩,h2⟩,h3⟩,h4⟩,h5⟩:=hok;have h0:=of_decide_eq_true h0;cases fuel with
    | zero=>cases ht
    | succ fuel =>
     obtain⟨hl,ys,hm,rfl⟩:=b8v hd ht;rw[ha]at hm;simp only[DataW.weights,hd,ha]at hw;obtain⟨xs,g1,g2,g3⟩:=step 0 fd fs fuel cs ys hF h1 h2 h3 h4 (by simpa using h5) hm hw;exact⟨xs,g1,g2,by simp only[Tz.cells];omega,fun j x v hx hv=>g3 j x v hx (by simpa using hv)⟩
   ·cases hok
  ·intro o fs fuel cs ys hF hok hm hw;cases fs with
   | nil=>simp[Tz.ok]at hok
   | cons fd fs =>
    simp only[Tz.ok,h0k]at hok;obtain⟨⟨⟨⟨h1,h2⟩,h3⟩,h4⟩,h5⟩:=hok;exact step o fd fs fuel cs ys hF h1 h2 h3 h4 h5 hm hw
end
end Go.Vg
