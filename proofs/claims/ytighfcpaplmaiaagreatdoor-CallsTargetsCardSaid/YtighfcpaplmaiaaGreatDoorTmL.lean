import Derived.Test.YtighfcpaplmaiaaGreatDoorVgQ
import Derived.Below
import Derived.Test.YtighfcpaplmaiaaGreatDoorVgT
import Derived.KernelRfl
import Derived.Lib.LaidTab
import Derived.Lib.ItoaNum
set_option linter.unusedVariables false
set_option linter.unusedSimpArgs false
namespace Go.Vg
open Go.RowKit
theorem RelW.belowW{E:Env}{G:Gh}{heap:List VObj}{arr:List Nat}{w0:Base}{w w':World}(h:RelW E G heap arr w0 w)(hb:Below w.heap.size w w'):RelW E G heap arr w0 w':=by
 have hs:=hb.size
 refine⟨h.newF,h.glob,h.below.trans (hb.mono h.below.size),fun b o v hv=>?_,h.one,fun id ob hi=>?_,h.lenφ,h.nod,h.sep,fun id b hb'=>?_,h.lenρ,fun k b lo hi hk hlt=>?_,h.regd,h.fre,h.bldA hb.block (fun _ _ hs=>hs),h.ini,h.vsK (Ext.refl _ _) (fun _ _ _ _ _ h=>h) (fun _ _ h _=>h) hb.block⟩
 ·have hc:=h.frz b o v hv
  have hlt:b<w.heap.size:=by
   rcases h0v b w.heap.size with h' | h'
   ·exact h'
   ·simp[World.cell?,h0x h']at hc
  rw[hb.cell (p:=⟨b,o,none⟩) hlt];exact hc
 ·obtain⟨b,hb',hr⟩:=h.obj id ob hi
  exact⟨b,hb',hr.keep (Ext.refl _ _) (hb.block b (h.geφ id b hb').2)⟩
 ·obtain⟨g1,g2⟩:=h.geφ id b hb'
  exact⟨g1,by omega⟩
 ·obtain⟨⟨c,e,r0,r1⟩,r2,r3,r4⟩:=h.reg k b lo hi hk hlt
  have hb':b<w.heap.size:=by
   rcases h0v b w.heap.size with h' | h'
   ·exact h'
   ·simp[h0x h']at r0
  exact⟨⟨c,e,by rw[hb.block b hb'];exact r0,r1⟩,r2,r3,r4⟩
theorem RelW.iniW{E:Env}{G:Gh}{heap:List VObj}{arr:List Nat}{w0:Base}{w:World}(h:RelW E G heap arr w0 w):E.ini w:=E.iniM _ _ h.ini h.below
def b6E(E:Env)(lo hi:Option Int)(n:Nat)(C:Prop)(R:Nat→Nat→V)(K:V→Prop):Prop:=match lo,hi with
 | some l,some h=>(0≤l∧l≤h∧h≤n)∧C∧K (R l.toNat h.toNat)
 | _,_=>False
@[go_sem] theorem d6s{E:Env}{l h:Int}{n:Nat}{C:Prop}{R:Nat→Nat→V}{K:V→Prop}:b6E E (some l) (some h) n C R K=((0≤l∧l≤h∧h≤n)∧C∧K (R l.toNat h.toNat)):=rfl
def b7s(E:Env)(d:Option TypeDesc)(x:V)(lo hi mx:Option V)(K:V→Prop):Prop:=match d,x,mx with
 | some .string,.str s,none=>b6E E (b2v 0 lo) (b2v s.size hi) s.size True (fun l h => .str (s.extract l h)) K
 | some (.slice e),.slice _ e' es,none=>b6E E (b2v 0 lo) (b2v es.length hi) es.length ((es=[]∨e'=e)∧b0C E.P e=true) (fun l h=>sl e ((es.take h).drop l)) K
 | _,_,_=>False
@[go_sem] theorem f8y{E:Env}{t:TypeId}{x:V}{lo hi mx:Option V}{K:V→Prop}:vSlice E t x lo hi mx K=b7s E (E.P.underlying t) x lo hi mx K:=by
 unfold vSlice
 generalize E.P.underlying t=d
 split
 ·simp only[b7s]
  cases b2v 0 lo <;> cases b2v _ hi <;> simp[b6E]
 ·rename_i e e' es
  simp only[b7s]
  cases b2v 0 lo <;> cases b2v (es.length:Int) hi <;> simp only[b6E]
  apply propext;constructor
  ·rintro⟨⟨a,b,c⟩,d⟩;exact⟨c,⟨a,b⟩,d⟩
  ·rintro⟨c,⟨a,b⟩,d⟩;exact⟨⟨a,b,c⟩,d⟩
 ·rename_i h1 h2
  unfold b7s
  split
  ·exact(h1 _ rfl rfl rfl).elim
  ·exact(h2 _ _ _ _ rfl rfl rfl).elim
  ·rfl
@[go_sem] theorem d9J{E:Env}{s:ByteArray}{lo hi:Option V}{K:V→Prop}:b7s E (some .string) (.str s) lo hi none K=b6E E (b2v 0 lo) (b2v s.size hi) s.size True (fun l h => .str (s.extract l h)) K:=rfl
@[go_sem] theorem d6a{E:Env}{o:Own}{e e':TypeId}{es:List (List V)}{lo hi:Option V}{K:V→Prop}:b7s E (some (.slice e)) (.slice o e' es) lo hi none K=b6E E (b2v 0 lo) (b2v es.length hi) es.length ((es=[]∨e'=e)∧b0C E.P e=true) (fun l h=>sl e ((es.take h).drop l)) K:=rfl
@[go_sem] theorem d8T{d:Int}:b2v d none=some d:=rfl
@[go_sem] theorem f1B{d:Int}{k:IntKind}{i:Int}:b2v d (some (.int k i))=some i:=rfl
@[go_sem] theorem f4e{α:Type}{a:α}{l m:List α}:List.append (a::l) m=a::List.append l m:=rfl
@[go_sem] theorem f7J{α:Type}{m:List α}:List.append [] m=m:=rfl
@[go_sem] theorem g8Q{α:Type}{a b:α}:(if False then a else b)=b:=if_neg id
@[go_sem] theorem g8R{α:Type}{a b:α}:(if True then a else b)=a:=if_pos trivial
@[go_sem] theorem f3Z{f:FuncId}{cs:List V}:(V.func f cs).pure=b1a cs:=by simp[V.pure]
theorem b8d.cons{P:Program}{G:Gh}{arr:List Nat}{x:V}{l:List V}{vals:Array Value}(h:b8d P G arr (x::l) vals) :
  ∃ v vs,vals = #[v]++vs∧RV P G arr x v∧b8d P G arr l vs:=by
 obtain⟨h1,h2⟩:=h
 simp only[g9k]at h1
 have h0:0<vals.size:=by omega
 refine⟨vals[0],vals.extract 1 vals.size,?_,h2 0 x _ rfl (g9p h0),by simp;omega,fun j y v hy hv=>h2 (j+1) y v (by simpa using hy) ?_⟩
 ·apply Array.ext_getElem?
  intro i
  rw[Array.getElem?_append]
  split
  ·rename_i hi
   have:i=0:=by simpa using hi
   subst this
   simp[h0]
  ·rename_i hi
   simp only[Array.size_singleton]at hi ⊢
   rw[Array.getElem?_extract]
   split
   ·congr 1;omega
   ·rw[h0x (by omega)]
 ·rw[Array.getElem?_extract]at hv
  split at hv
  ·rw[←hv];congr 1;omega
  ·cases hv
theorem b8d.nil{P:Program}{G:Gh}{arr:List Nat}{vals:Array Value}(h:b8d P G arr [] vals):vals = #[]:=Array.eq_empty_of_size_eq_zero h.1.symm
theorem b8M{E:Env}{f:FuncId}{args:List V}{r:V}{val:Value}(hp:b1a args=true)(hr:r.pure=true)(hrv:∀ G arr,RV E.P G arr r val)
  (h:∀ G w0 w vals,RelW E.alive G [] [] w0 w→b8d E.P G [] args vals→Calls E.P f vals w fun e w'=>e = .returned val∧Below w.heap.size w w'):b0u E f args r:=by
 refine⟨hp,hr,fun G w0 w vals hrel ha=>(h G w0 w vals hrel ha).mono fun e w' ⟨he,hb⟩=>?_⟩
 exact .inl ⟨val,he,r,[],[],G,rfl,Ext.refl _ _,hrel.belowW hb,hrv _ _⟩
open Go
inductive Nd where
 | mk (kind:Int) (text:ByteArray) (gaps:List ByteArray) (kids:List Nd)
def Nd.kind:Nd→Int | .mk k _ _ _=>k
def Nd.text:Nd→ByteArray | .mk _ t _ _=>t
def Nd.gaps:Nd→List ByteArray | .mk _ _ g _=>g
def Nd.kids:Nd→List Nd | .mk _ _ _ ks=>ks
def b0p(s:ByteArray):List V:=[.str s]
mutual
def Nd.enc:Nd→List V
 | .mk k t g ks=>[.int .i64 k,.str t,sl 9 (g.map b0p),sl 66 (Nd.encs ks)]
def Nd.encs:List Nd→List (List V)
 | []=>[]
 | n::r=>n.enc::Nd.encs r
end
@[go_sem] theorem c6g:∀ l,Nd.encs l=l.map Nd.enc
 | []=>rfl
 | n::r=>by rw[Nd.encs,c6g r];rfl
@[go_sem] theorem b8i{k t g ks}:(Nd.mk k t g ks).enc=[.int .i64 k,.str t,sl 9 (g.map b0p),sl 66 (ks.map Nd.enc)]:=by
 rw[Nd.enc,c6g]
@[go_sem] theorem b3s(n:Nd):n.enc.length=4:=by cases n;rfl
@[go_sem] theorem f6k(n:Nd):List.take 4 n.enc=n.enc:=by cases n;rfl
@[go_sem] theorem d0L(n:Nd):List.map share1 n.enc=n.enc:=by cases n;simp -implicitDefEqProofs only[go_sem]
@[go_sem] theorem d5y(n:Nd):n.enc.all V.cell=true:=by cases n;rfl
@[go_sem] theorem c3f:∀ l:List ByteArray,b0R (l.map b0p)=true
 | []=>rfl
 | n::r=>by show(b1a _ && b0R (r.map b0p))=true;rw[c3f r];rfl
mutual
theorem c6v:∀ n:Nd,b1a n.enc=true
 | .mk _ _ _ ks=>by simp -implicitDefEqProofs only[Nd.enc,go_sem];exact b8u ks
theorem b8u:∀ l:List Nd,b0R (l.map Nd.enc)=true
 | []=>rfl
 | n::r=>by simp only[g9o,b0R,c6v n,b8u r,Bool.and_self]
end
attribute [go_sem] c6v b8u
theorem Nd.all{P:Nd→Prop}(h:∀ k t g (ks:List Nd),(∀ x∈ks,P x)→P (.mk k t g ks)):∀ n,P n :=
 Nd.rec (motive_1:=P) (motive_2:=fun l=>∀ x∈l,P x) (fun k t g ks ih=>h k t g ks ih) (by simp) fun n r hn hr x hx=>by
  rcases g9y.1 hx with e | e
  ·exact e ▸ hn
  ·exact hr x e
theorem b1w{α:Type}{pre post:List α}{x:α}:x∈pre++x::post:=by simp
theorem b1Q{s:ByteArray}{pre post:List UInt8}{x:UInt8}(h:s.data.toList=pre++x::post):b5b s (pre.length:Int)=x.toNat:=by
 have h1:s.data.toList[pre.length]? = some x:=by rw[h];simp
 have h2:s.data[pre.length]? = some x:=by simpa using h1
 unfold b5b
 have h3:s[(Int.toNat (pre.length:Int))]? = some x:=by
  have:Int.toNat (pre.length:Int)=pre.length:=by simp
  rw[this]
  obtain⟨hl,hx⟩:=g9x.1 h2
  have hl':pre.length<s.size:=hl
  rw[getElem?_pos s pre.length hl']
  exact congrArg some hx
 rw[h3]
theorem b3O{s:ByteArray}:s.size=s.data.toList.length:=by simp
structure Shp where
 first:List (Int×Int)
 rk:Int
 rg:Int
 text:Int
 words:List ByteArray
 own:Int
def d4u(p:Int×Int):List V:=[.int .i64 p.1,.int .i64 p.2]
def Shp.enc(s:Shp):List V:=[sl 256 (s.first.map d4u),.int .i64 s.rk,.int .i64 s.rg,.int .i64 s.text,sl 9 (s.words.map b0p),.int .i64 s.own]
def c5s:List Shp:=[
 ⟨[],0,0,0,[],0⟩,
 ⟨[],0,1,0,[],1⟩,
 ⟨[(3,0),(5,0),(6,0)],0,0,1,[],2⟩,
 ⟨[],4,0,0,[],2⟩,
 ⟨[(5,0)],0,0,1,[],1⟩,
 ⟨[],0,0,1,[],1⟩,
 ⟨[],0,2,0,[],2⟩,
 ⟨[(8,0)],2,0,1,[],4⟩,
 ⟨[],0,0,2,[],2⟩,
 ⟨[(0,3)],0,0,1,[],4⟩,
 ⟨[(0,3)],0,0,1,[],4⟩,
 ⟨[(0,3)],0,0,1,[],3⟩,
 ⟨[(0,3)],0,0,0,[],2⟩,
 ⟨[(0,3),(6,0),(14,0)],0,0,0,[],1⟩,
 ⟨[(6,0)],0,0,0,[],1⟩,
 ⟨[(0,3),(6,0)],0,0,0,[],1⟩,
 ⟨[(0,3)],0,0,0,[],1⟩,
 ⟨[],0,0,3,[],1⟩,
 ⟨[],0,0,4,[⟨#[116,114,117,101]⟩,⟨#[102,97,108,115,101]⟩],1⟩,
 ⟨[],0,0,1,[],1⟩,
 ⟨[],0,3,1,[],3⟩,
 ⟨[(0,3)],0,3,1,[],4⟩,
 ⟨[],0,0,1,[],4⟩,
 ⟨[],0,0,4,[⟨#[115,101,108,102]⟩],1⟩,
 ⟨[(0,3),(0,3)],0,0,4,[⟨#[124]⟩,⟨#[38]⟩,⟨#[61,61]⟩,⟨#[60]⟩,⟨#[43]⟩,⟨#[45]⟩,⟨#[42]⟩,⟨#[47]⟩],1⟩,
 ⟨[(0,3)],0,0,4,[⟨#[45]⟩,⟨#[33]⟩],1⟩,
 ⟨[(0,3)],0,0,0,[],2⟩]
def b9o:List V:=(c5s.map Shp.enc).flatten
def Shp.zero:Shp:=⟨[],0,0,0,[],0⟩
def shp(k:Int):Shp:=c5s.getD k.toNat Shp.zero
theorem b3Q{k:Int}(h:0≤k)(h':k<27):List.drop (k.toNat * 6) b9o=(shp k).enc++List.drop (k.toNat * 6+6) b9o:=by
 obtain⟨n,rfl⟩:=g9T h
 have hn:n<27:=by omega
 simp only[Int.ofNat_eq_natCast,g9j,shp]
 have key:∀ (l:List Shp) (n:Nat),n<l.length→List.drop (n * 6) (l.map Shp.enc).flatten=(l.getD n Shp.zero).enc++List.drop (n * 6+6) (l.map Shp.enc).flatten:=by
  intro l
  induction l with
  | nil=>intro n hn;simp at hn
  | cons x r ih =>
   intro n hn
   have hx:x.enc.length=6:=rfl
   cases n with
   | zero =>
    simp only[g9o,g9X,Nat.zero_mul,List.drop_zero,g9s]
    rw[←hx,List.drop_left]
    rfl
   | succ n =>
    have:=ih n (by simpa using hn)
    have e1:∀ m,List.drop (6+m) (x.enc++(List.map Shp.enc r).flatten)=List.drop m (List.map Shp.enc r).flatten:=fun m=>by
     rw[←hx,←h0t,List.drop_left]
    rw[g9o,g9X,show(n+1) * 6=6+n * 6 by omega,e1,this,show 6+n * 6+6=6+(n * 6+6)by omega,e1]
    rfl
 exact key c5s n hn
theorem b2M{s:ByteArray}{l:List UInt8}(h:s.data.toList=l):s.size=l.length:=by rw[b3O,h]
end Go.Vg
namespace Go.Proofs.YtighfcpaplmaiaaGreatDoor
open Go Go.Vg Go.Proofs
def iniW(w:World):Prop:=True
theorem d0s(w w':World)(h:iniW w)(hb:Go.RowKit.Below w.heap.size w w'):iniW w':=h
noncomputable def envD(D:List VObj→List Nat→Prop):Env:={ P:=Tryz.prog,gl:=fun g=>if g=0 then some b9o else none,tag:=fun t=>decide (t=999999),byteT:=5,ini:=iniW,iniM:=d0s,die:=D }
noncomputable def env:Env:=envD fun _ _=>False
@[go_sem] theorem g2G{t:TypeId}:env.tag t=decide (t=999999):=rfl
@[go_sem] theorem c9h:env.gl 0=some b9o:=rfl
@[go_sem] theorem f5Z{t:TypeId}:env.vecT t=false:=rfl
@[go_sem] theorem f9g:env.P=Tryz.prog:=rfl
noncomputable def envV(tv:TypeId):Env:={ env with vecT:=fun t=>decide (t=tv) }
@[go_sem] theorem g6S{tv:TypeId}:(envV tv).P=Tryz.prog:=rfl
@[go_sem] theorem f7R{tv t:TypeId}:(envV tv).tag t=decide (t=999999):=rfl
@[go_sem] theorem f4r{tv t:TypeId}:(envV tv).vecT t=decide (t=tv):=rfl
theorem b0r.toE{E E':Env}(hP:E.P=E'.P)(hg:E.gl=E'.gl)(hB:E.byteT=E'.byteT)(hI:∀ w,E.ini w↔E'.ini w)(hd:∀ h a,E.die h a→E'.die h a){f:FuncId}{args:List V}{h:List VObj}{a:List Nat}{K:b1z}(hc:b0r E f args h a K) :
  b0r E' f args h a K:=by
 intro G w0 w vals hr ha
 have h2:=(hc G w0 w vals (hr.env (E:=E') (E':=E) hP.symm hg.symm hB.symm (hI _).2) (hP ▸ ha)).mono fun e w' hgo=>show d9G E' G a w0 K e w' by
  rcases hgo with⟨val,he,v,heap',arr',G',h1,h2,h3,h4⟩ | ⟨ch,he,h0,heap',arr',G',h1,h2,h3⟩
  ·exact .inl ⟨val,he,v,heap',arr',G',h1,h2,h3.env (E:=E) (E':=E') hP hg hB (hI _).1,hP ▸ h4⟩
  ·exact .inr ⟨ch,he,h0,heap',arr',G',hd _ _ h1,h2,h3.env (E:=E) (E':=E') hP hg hB (hI _).1⟩
 exact hP ▸ h2
theorem b0r.toV{tv:TypeId}{f:FuncId}{args:List V}{h:List VObj}{a:List Nat}{K:b1z}(hc:b0r env f args h a K):b0r (envV tv) f args h a K :=
 b0r.toE (E:=env) (E':=envV tv) rfl rfl rfl (fun _=>Iff.rfl) (fun _ _ h=>h) hc
theorem b0r.ofV{tv:TypeId}{f:FuncId}{args:List V}{h:List VObj}{a:List Nat}{K:b1z}(hc:b0r (envV tv) f args h a K):b0r env f args h a K :=
 b0r.toE (E:=envV tv) (E':=env) rfl rfl rfl (fun _=>Iff.rfl) (fun _ _ h=>h) hc
theorem b0u.toV{tv:TypeId}{f:FuncId}{args:List V}{r:V}(h:b0u env f args r):b0u (envV tv) f args r :=
 ⟨h.1,h.2.1,b0r.toE (E:=env.alive) (E':=(envV tv).alive) rfl rfl rfl (fun _=>Iff.rfl) (fun _ _ h=>h) h.2.2⟩
theorem b0u.ofV{tv:TypeId}{f:FuncId}{args:List V}{r:V}(h:b0u (envV tv) f args r):b0u env f args r :=
 ⟨h.1,h.2.1,b0r.toE (E:=(envV tv).alive) (E':=env.alive) rfl rfl rfl (fun _=>Iff.rfl) (fun _ _ h=>h) h.2.2⟩
theorem b0v:env.P.follows .mixedOrders=true:=by
 rw[f9g];kernel_rfl
end Go.Proofs.YtighfcpaplmaiaaGreatDoor
namespace Go.Vg
def b1F(c:Int):Bool:=decide (48≤c) && decide (c≤57)
def b3L(c:Int):Bool:=decide (97≤c) && decide (c≤122) || decide (65≤c) && decide (c≤90) || decide (c=95)
def b9z(s:ByteArray):Bool:=decide (s=⟨#[102,110]⟩) || decide (s=⟨#[99,108,97,115,115]⟩) || decide (s=⟨#[99,111,110,115,116]⟩) || decide (s=⟨#[108,101,116]⟩) || decide (s=⟨#[114,101,116,117,114,110]⟩) || decide (s=⟨#[105,102]⟩) || decide (s=⟨#[101,108,115,101]⟩) || decide (s=⟨#[119,104,105,108,101]⟩)
 || decide (s=⟨#[110,101,119]⟩) || decide (s=⟨#[115,101,108,102]⟩) || decide (s=⟨#[116,114,117,101]⟩) || decide (s=⟨#[102,97,108,115,101]⟩)
def b6l(c:Int):Bool:=b3L c || b1F c
def b0I(s:ByteArray):Bool := !decide ((s.size:Int)<1) && !decide (32<(s.size:Int)) && !b1F (b5b s 0) && !b9z s && s.data.toList.all fun c=>b6l c.toNat
theorem c0g{s:ByteArray}{x:UInt8}{r:List UInt8}(h:s.data.toList=x::r):b5b s 0=x.toNat:=b1Q (pre:=[]) h
end Go.Vg
namespace Go.Proofs.YtighfcpaplmaiaaGreatDoor
open Go Go.Vg Go.Proofs
theorem c6B(c:Int):b0u env 242 [.int .u8 c] (.bool (b1F c)):=by
 refine b0i (fn:=Tryz.f242) Tryz.func242 rfl (by rw[Tryz.ntmps242];simp) rfl rfl ?_
 simp -implicitDefEqProofs only[go_sem,Tryz.f242,b1F]
 grind
theorem d0U(c:Int):b0u env 244 [.int .u8 c] (.bool (b3L c)):=by
 refine b0i (fn:=Tryz.f244) Tryz.func244 rfl (by rw[Tryz.ntmps244];simp) rfl rfl ?_
 simp -implicitDefEqProofs only[go_sem,Tryz.f244,b3L]
 grind
theorem c8y(s:ByteArray):b0u env 243 [.str s] (.bool (b9z s)):=by
 refine b0i (fn:=Tryz.f243) Tryz.func243 rfl (by rw[Tryz.ntmps243];simp) rfl rfl ?_
 simp -implicitDefEqProofs only[go_sem,Tryz.f243,b9z]
 simp +contextual
theorem d4r(s:ByteArray):b0u env 231 [.str s] (.bool (b0I s)):=by
 refine b0i (fn:=Tryz.f231) Tryz.func231 rfl (by rw[Tryz.ntmps231];simp) rfl rfl ?_
 simp -implicitDefEqProofs only[go_sem,Tryz.f231]
 intro hs
 refine⟨fun a1 _=>⟨fun a2=>⟨by omega,?_⟩,fun a2=>?_⟩,fun a1=>?_⟩
 ·refine(c6B _).calls rfl ?_
  simp -implicitDefEqProofs only[go_sem]
  refine⟨fun a3=>?_,fun a3=>?_⟩
  ·refine(c8y _).calls rfl ?_
   simp -implicitDefEqProofs only[go_sem]
   refine⟨fun a4=>?_,fun a4=>?_⟩
   ·simp[b0I,a4]
   ·refine b0n (β:=Unit) s.data.toList (fun pre _=>⟨[(3,.int .i64 pre.length),(0,.str s)],[],[]⟩) (fun pre _ _=>pre.all fun c=>b6l c.toNat) () ?_ ?_ ?_ ?_
    ·simp -implicitDefEqProofs only[go_sem]
     trivial
    ·rfl
    ·intro _ i1
     simp -implicitDefEqProofs only[go_sem,←b3O]
     intro _
     simp[b0I,a1,a2,a3,a4]
     simpa using i1
    ·rintro pre x post _ hx i1
     have hz:=b2M hx
     simp -implicitDefEqProofs only[go_sem,hz,b1Q hx]
     intro hl
     refine(d0U _).calls rfl ?_
     simp -implicitDefEqProofs only[go_sem,hz,b1Q hx]
     have hnext:=b0g (b2p hl)
     refine⟨fun c=>(c6B _).calls rfl ?_,fun c=>⟨(),?_,hnext⟩⟩
     ·simp -implicitDefEqProofs only[go_sem]
      refine⟨fun d=>?_,fun d=>⟨(),?_,hnext⟩⟩
      ·have:(s.data.toList.all fun c=>b6l c.toNat)=false:=by rw[hx];simp_all [b6l]
       unfold b0I
       rw[this];simp
      ·simp_all [b6l]
     ·simp_all [b6l]
  ·simp[b0I,a3]
 ·simp[b0I,a2]
 ·simp[b0I,a1]
theorem f3J(l:List ByteArray)(s:ByteArray):b0u env 22 [sl 9 (l.map b0p),.str s] (.bool (l.any fun x=>decide (x=s))):=by
 refine b0i (fn:=Tryz.f22) Tryz.func22 rfl (by rw[Tryz.ntmps22];simp) (by simp -implicitDefEqProofs only[go_sem]) rfl ?_
 simp -implicitDefEqProofs only[go_sem,Tryz.f22]
 refine b0n (β:=Unit) l (fun pre _=>⟨[(5,.int .i64 pre.length),(0,sl 9 (l.map b0p)),(1,.str s)],[],[]⟩) (fun pre _ _=>(pre.any fun x=>decide (x=s))=false) () ?_ ?_ ?_ ?_
 ·simp -implicitDefEqProofs only[go_sem]
  trivial
 ·rfl
 ·intro _ i1
  simp -implicitDefEqProofs only[go_sem,i1]
 ·rintro pre x post _ rfl i1
  simp -implicitDefEqProofs only[go_sem,b0p]
  intro _ hl
  refine⟨fun c=>?_,fun c=>⟨(),?_,b0g (c2t hl (by decide))⟩⟩
  ·simp[c]
  ·simp_all
end Go.Proofs.YtighfcpaplmaiaaGreatDoor
namespace Go.Vg
def f8u(n:Nat):ByteArray:=if h:n<10 then b9e [48+(n % 10:Nat)]else f8u (n / 10)++b9e [48+(n % 10:Nat)]
 termination_by n
 decreasing_by omega
end Go.Vg
namespace Go.Proofs.YtighfcpaplmaiaaGreatDoor
open Go Go.Vg Go.Proofs
theorem f4k{x:Int}(h:0≤x)(h':x≤255):IntKind.u8.wrap x=x:=by
 simp only[IntKind.wrap,IntKind.signed,IntKind.bits];simp;omega
theorem b6a(a b:List ByteArray):b0u env 11 [sl 9 (a.map b0p),sl 9 (b.map b0p)] (.bool (decide (a=b))):=by
 refine b0i (fn:=Tryz.f11) Tryz.func11 rfl (by rw[Tryz.ntmps11];simp) (by simp -implicitDefEqProofs only[go_sem]) rfl ?_
 simp -implicitDefEqProofs only[go_sem,Tryz.f11]
 intro _ h1 _ h2
 refine⟨fun c=>?_,fun c=>?_⟩
 ·have:a≠b:=by rintro rfl;simp at c
  simp[this]
 ·have hl:a.length=b.length:=by simp at c;omega
  refine b0n (β:=Unit) a (fun pre _=>⟨[(5,.int .i64 pre.length),(0,sl 9 (a.map b0p)),(1,sl 9 (b.map b0p))],[],[]⟩) (fun pre _ _=>∃ r,b=pre++r) () ?_ ⟨b,rfl⟩ ?_ ?_
  ·simp -implicitDefEqProofs only[go_sem]
   trivial
  ·rintro _ ⟨r,hr⟩
   simp -implicitDefEqProofs only[go_sem]
   have:r=[]:=g9C (by have:=congrArg List.length hr;simp at this;omega)
   subst this
   simp[hr]
  ·rintro pre x post _ rfl ⟨r,rfl⟩
   rcases r with _ | ⟨y,r⟩
   ·simp at hl
   ·simp -implicitDefEqProofs only[go_sem]
    intro _ hl
    refine b0h (cs:=[]) b0v (by kernel_rfl) ?_
    have hl2:((pre.length:Int)<((pre++y::r).length:Int))=True:=d6B
    simp -implicitDefEqProofs only[go_sem,b0p,hl2]
    refine⟨fun c=>?_,fun c=>⟨(),⟨r,?_⟩,b0g (c2t hl (by decide))⟩⟩
    ·simp_all
    ·simp_all
end Go.Proofs.YtighfcpaplmaiaaGreatDoor
namespace Go.Vg
mutual
def left:Nd→Int→Int→Int
 | .mk k t g ks,b0o,levels=>if b0o<1∨levels<1∨b0o<(ks.length:Int)then -1 else b7l ks (b0o - 1) (levels - 1)
def b7l:List Nd→Int→Int→Int
 | [],rest,_=>rest
 | n::r,rest,levels=>if left n rest levels<0 then -1 else b7l r (left n rest levels) levels
end
theorem d9L:∀ nd n l,left nd n l≤n∨left nd n l = -1:=by
 refine Nd.all fun k t g ks ih n l=>?_
 have key:∀ (ks:List Nd),(∀ x∈ks,∀ n l,left x n l≤n∨left x n l = -1)→∀ n l,b7l ks n l≤n∨b7l ks n l = -1:=by
  intro ks
  induction ks with
  | nil=>intro _ n l;exact .inl (by rw[b7l];exact Int.le_refl _)
  | cons x r ihr =>
   intro h n l
   rw[b7l]
   split
   ·exact .inr rfl
   ·have h1:=h x (by simp) n l
    have h2:=ihr (fun y hy=>h y (by simp[hy])) (left x n l) l
    omega
 rw[left]
 split
 ·exact .inr rfl
 ·have:=key ks ih (n - 1) (l - 1)
  omega
def b3S:List ByteArray→Int→Int
 | [],rest=>rest
 | g::r,rest=>if rest≤(g.size:Int)then -1 else b3S r (rest - g.size - 1)
mutual
def b3r:Nd→Int→Int
 | .mk k t g ks,bytes=>if bytes<(t.size:Int)∨bytes<(g.length:Int)then -1 else if b3S g (bytes - t.size)<0 then -1 else b5j ks (b3S g (bytes - t.size))
def b5j:List Nd→Int→Int
 | [],rest=>rest
 | n::r,rest=>if b3r n rest<0 then -1 else b5j r (b3r n rest)
end
theorem c3R:∀ g n,b3S g n≤n∨b3S g n = -1:=by
 intro g
 induction g with
 | nil=>intro n;exact .inl (by rw[b3S];exact Int.le_refl _)
 | cons x r ih =>
  intro n
  rw[b3S]
  split
  ·exact .inr rfl
  ·have:=ih (n - x.size - 1);omega
theorem c7J:∀ nd n,b3r nd n≤n∨b3r nd n = -1:=by
 refine Nd.all fun k t g ks ih n=>?_
 have key:∀ (ks:List Nd),(∀ x∈ks,∀ n,b3r x n≤n∨b3r x n = -1)→∀ n,b5j ks n≤n∨b5j ks n = -1:=by
  intro ks
  induction ks with
  | nil=>intro _ n;exact .inl (by rw[b5j];exact Int.le_refl _)
  | cons x r ihr =>
   intro h n
   rw[b5j]
   split
   ·exact .inr rfl
   ·have h1:=h x (by simp) n
    have h2:=ihr (fun y hy=>h y (by simp[hy])) (b3r x n)
    omega
 rw[b3r]
 split
 ·exact .inr rfl
 ·split
  ·exact .inr rfl
  ·have h1:=c3R g (n - t.size)
   have h2:=key ks ih (b3S g (n - t.size))
   omega
end Go.Vg
namespace Go.Proofs.YtighfcpaplmaiaaGreatDoor
open Go Go.Vg Go.Proofs
theorem d9s:(nd:Nd)→∀ (b0o levels:Int) (h1:b0o≤1000000) (h2:levels≤1000000),b0u env 137 [.agg nd.enc,.int .i64 b0o,.int .i64 levels] (.int .i64 (left nd b0o levels)):=by
  refine Nd.all fun k t g ks ih b0o levels h1 h2=>?_
  refine b0i (fn:=Tryz.f137) Tryz.func137 rfl (by rw[Tryz.ntmps137];simp) (by simp -implicitDefEqProofs only[go_sem]) rfl ?_
  simp -implicitDefEqProofs only[go_sem,Tryz.f137]
  refine⟨fun a1=>⟨fun a2 a3' a3=>⟨fun a4=>?_,fun a4=>?_⟩,fun a2=>?_⟩,fun a1=>?_⟩
  · rw[left,if_pos (by omega)]
  · refine b0n (β:=Int) ks (fun pre r=>⟨[(8,.int .i64 pre.length),(7,.int .i64 r),(3,.ptr 0 0),(2,.int .i64 levels)],[VObj.cells (Nd.mk k t g ks).enc],[]⟩)
       (fun _ post r=>b7l post r (levels - 1)=left (.mk k t g ks) b0o levels∧r≤1000000) (b0o - 1) ?_ ?_ ?_ ?_
    · simp -implicitDefEqProofs only[go_sem]
      exact⟨rfl,Vg.wrap_small (by omega) (by omega)⟩
    · exact⟨by rw[left,if_neg (by omega)],by omega⟩
    · rintro r ⟨i1,i2⟩
      simp -implicitDefEqProofs only[go_sem,←i1,b7l]
    · rintro pre x post r rfl ⟨i1,i2⟩
      have hl:=b2p a3
      simp -implicitDefEqProofs only[go_sem]
      rw[Vg.wrap_small (by omega) (by omega)]
      intro _ _
      refine(ih x b1w r (levels - 1) i2 (by omega)).calls (by simp -implicitDefEqProofs only[go_sem]) ?_
      simp -implicitDefEqProofs only[go_sem]
      refine⟨fun c=>?_,fun c=>⟨left x r (levels - 1),⟨?_,?_⟩,b0g (by omega),rfl⟩⟩
      · rw[←i1,b7l,if_pos c]
      · rw[←i1,b7l,if_neg c]
      · have:=d9L x r (levels - 1);omega
  · rw[left,if_pos (by omega)]
  · rw[left,if_pos (by omega)]
theorem d8g(nd:Nd)(b0o levels:Int)(h1:b0o≤1000000)(h2:levels≤1000000):b0u env 83 [.agg nd.enc,.int .i64 b0o,.int .i64 levels] (.bool (decide (0≤left nd b0o levels))):=by
 refine b0i (fn:=Tryz.f83) Tryz.func83 rfl (by rw[Tryz.ntmps83];simp) (by simp -implicitDefEqProofs only[go_sem]) rfl ?_
 simp -implicitDefEqProofs only[go_sem,Tryz.f83]
 refine(d9s nd b0o levels h1 h2).calls (by simp -implicitDefEqProofs only[go_sem]) ?_
 simp -implicitDefEqProofs only[go_sem]
theorem d4d:(nd:Nd)→∀ (bytes:Int) (h1:bytes≤1000000),b0u env 84 [.agg nd.enc,.int .i64 bytes] (.int .i64 (b3r nd bytes)):=by
 refine Nd.all fun k t g ks ih bytes h1=>?_
 refine b0i (fn:=Tryz.f84) Tryz.func84 rfl (by rw[Tryz.ntmps84];simp) (by simp -implicitDefEqProofs only[go_sem]) rfl ?_
 simp -implicitDefEqProofs only[go_sem,Tryz.f84]
 intro ht
 refine⟨fun a1 _ hg=>⟨fun a2=>?_,fun a2 _=>?_⟩,fun a1=>?_⟩
 ·rw[b3r,if_pos (by omega)]
 ·refine b0n (β:=Int) g (fun pre r=>⟨[(6,.int .i64 pre.length),(5,.int .i64 r),(2,.ptr 0 0)],[VObj.cells (Nd.mk k t g ks).enc],[]⟩)
   (fun _ post r=>b3S post r=b3S g (bytes - t.size)∧r≤1000000∧0≤r) (bytes - t.size) ?_ ?_ ?_ ?_
  ·simp -implicitDefEqProofs only[go_sem]
   exact⟨rfl,Vg.wrap_small (by omega) (by omega)⟩
  ·exact⟨rfl,by omega,by omega⟩
  ·rintro r ⟨i1,i2,i3⟩
   simp -implicitDefEqProofs only[go_sem]
   intro _ _
   refine b0n (β:=Int) ks (fun pre r=>⟨[(7,.int .i64 pre.length),(5,.int .i64 r),(2,.ptr 0 0)],[VObj.cells (Nd.mk k t g ks).enc],[]⟩)
    (fun _ post r=>b5j post r=b3r (.mk k t g ks) bytes∧r≤1000000∧0≤r) r ?_ ?_ ?_ ?_
   ·simp -implicitDefEqProofs only[go_sem]
    trivial
   ·refine⟨?_,i2,i3⟩
    rw[b3r,if_neg (by omega),←i1,b3S,if_neg (by omega)]
   ·rintro r' ⟨j1,j2,j3⟩
    simp -implicitDefEqProofs only[go_sem,←j1,b5j]
   ·rintro pre x post r' rfl ⟨j1,j2,j3⟩
    simp -implicitDefEqProofs only[go_sem]
    intro _ hl
    refine(ih x b1w r' j2).calls (by simp -implicitDefEqProofs only[go_sem]) ?_
    simp -implicitDefEqProofs only[go_sem]
    have hw:b3r x r'≤1000000:=by have:=c7J x r';omega
    refine⟨fun c=>?_,fun c=>⟨b3r x r',⟨?_,?_,?_⟩,b0g (by have:=b2p hl;omega),rfl⟩⟩
    ·rw[←j1,b5j,if_pos c]
    ·rw[←j1,b5j,if_neg c]
    ·exact hw
    ·omega
  ·rintro pre x post r rfl ⟨i1,i2,i3⟩
   simp -implicitDefEqProofs only[go_sem,b0p]
   intro _ hl hx
   refine⟨fun c=>?_,fun c _=>⟨r - x.size - 1,⟨?_,by omega,by omega⟩,b0g (by have:=b2p hl;omega),?_⟩⟩
   ·rw[b3r,if_neg (by omega),if_pos]
    rw[←i1,b3S,if_pos c];decide
   ·rw[←i1,b3S,if_neg (by omega)]
   ·rw[Vg.wrap_small (x:=r - x.size) (by omega) (by omega),Vg.wrap_small (by omega) (by omega)]
 ·rw[b3r,if_pos (by omega)]
theorem d3r(nd:Nd)(b0o levels bytes:Int)(h1:b0o≤1000000)(h2:levels≤1000000)(h3:bytes≤1000000) :
  b0u env 51 [.agg nd.enc,.int .i64 b0o,.int .i64 levels,.int .i64 bytes] (.bool (decide (0≤left nd b0o levels) && decide (0≤b3r nd bytes))):=by
 refine b0i (fn:=Tryz.f51) Tryz.func51 rfl (by rw[Tryz.ntmps51];simp) (by simp -implicitDefEqProofs only[go_sem]) rfl ?_
 simp -implicitDefEqProofs only[go_sem,Tryz.f51]
 refine(d8g nd b0o levels h1 h2).calls (by simp -implicitDefEqProofs only[go_sem]) ?_
 simp -implicitDefEqProofs only[go_sem]
 refine⟨fun c=>(d4d nd bytes h3).calls (by simp -implicitDefEqProofs only[go_sem]) ?_,fun c=>?_⟩
 ·simp -implicitDefEqProofs only[go_sem]
  simp[c]
 ·simp[c]
end Go.Proofs.YtighfcpaplmaiaaGreatDoor
namespace Go.Vg
mutual
def b0o:Nd→List Nd
 | .mk k t g ks => .mk k t g ks::b0l ks
def b0l:List Nd→List Nd
 | []=>[]
 | n::r=>b0o n++b0l r
end
theorem b1u(x:Nd):∀ pre,b0l (pre++[x])=b0l pre++b0o x
 | []=>by simp[b0l]
 | y::r=>by simp[b0l,b1u x r]
theorem b1n:∀ a b,b0l (a++b)=b0l a++b0l b
 | [],b=>rfl
 | y::r,b=>by simp[b0l,b1n r b]
end Go.Vg
namespace Go.Proofs.YtighfcpaplmaiaaGreatDoor
open Go Go.Vg Go.Proofs
end Go.Proofs.YtighfcpaplmaiaaGreatDoor
namespace Go.Vg
def b1C(k:Int):Int:=if k=2∨k=7∨k=9 then 1 else if(10≤k∧k≤13)∨k=15∨k=16 then 2 else if 17≤k∧k≤26 then 3 else 0
def b0U(k:Int):Int:=if k=2∨k=13 then 3 else if k=15∨k=24 then 2 else if k=4∨k=7∨k=9∨k=10∨k=11∨k=12∨k=16∨k=21∨k=25∨k=26 then 1 else 0
def b9H(k:Int):Int:=if k=3∨k=20 then 16 else if k=21 then 17 else 200
end Go.Vg
namespace Go.Proofs.YtighfcpaplmaiaaGreatDoor
open Go Go.Vg Go.Proofs
theorem c6y(k:Int):b0u env 248 [.int .i64 k] (.int .i64 (b1C k)):=by
 refine b0i (fn:=Tryz.f248) Tryz.func248 rfl (by rw[Tryz.ntmps248];simp) rfl rfl ?_
 simp -implicitDefEqProofs only[go_sem,Tryz.f248,b1C]
 repeat' (first | apply And.intro | intro)
 all_goals(congr 1;repeat' split)
 all_goals omega
theorem d4W(k:Int):b0u env 238 [.int .i64 k] (.int .i64 (b0U k)):=by
 refine b0i (fn:=Tryz.f238) Tryz.func238 rfl (by rw[Tryz.ntmps238];simp) rfl rfl ?_
 simp -implicitDefEqProofs only[go_sem,Tryz.f238,b0U]
 repeat' (first | apply And.intro | intro)
 all_goals(congr 1;repeat' split)
 all_goals omega
theorem d9j(k:Int):b0u env 219 [.int .i64 k] (.int .i64 (b9H k)):=by
 refine b0i (fn:=Tryz.f219) Tryz.func219 rfl (by rw[Tryz.ntmps219];simp) rfl rfl ?_
 simp -implicitDefEqProofs only[go_sem,Tryz.f219,b9H]
 repeat' (first | apply And.intro | intro)
 all_goals(congr 1;repeat' split)
 all_goals omega
end Go.Proofs.YtighfcpaplmaiaaGreatDoor
namespace Go.Vg
def b8Z(t:ByteArray):Int:=if t=⟨#[124]⟩then 1 else if t=⟨#[38]⟩then 2 else if t=⟨#[61,61]⟩∨t=⟨#[60]⟩then 3 else if t=⟨#[43]⟩∨t=⟨#[45]⟩then 4 else if t=⟨#[42]⟩∨t=⟨#[47]⟩then 5 else 0
def b3n(k:Int)(t:ByteArray):Int:=if k=24 then b8Z t else if k=25 then 6 else if b1C k=3 then 7 else 0
def Nd.level(n:Nd):Int:=b3n n.kind n.text
def b2n(k:Int)(t:ByteArray):Bool:=if k=8 then !decide (t=⟨#[]⟩)else decide (k=2∨k=4∨k=5∨k=7∨k=9∨k=10∨k=11∨k=17∨k=19∨k=20∨k=21∨k=22)
end Go.Vg
namespace Go.Proofs.YtighfcpaplmaiaaGreatDoor
open Go Go.Vg Go.Proofs
theorem b4h(n:Nd):b0u env 249 [.agg n.enc] (.int .i64 n.level):=by
 obtain⟨k,t,g,ks⟩:=n
 refine b0i (fn:=Tryz.f249) Tryz.func249 rfl (by rw[Tryz.ntmps249];simp) (by simp -implicitDefEqProofs only[go_sem]) rfl ?_
 simp -implicitDefEqProofs only[go_sem,Tryz.f249,Nd.level,Nd.kind,Nd.text,b3n]
 refine⟨fun h=>?_,fun h=>?_⟩
 ·simp +contextual [h,b8Z]
 ·simp only[h,if_false]
  refine⟨fun h2=>by simp[h2],fun h2=>?_⟩
  simp only[h2,if_false]
  refine(c6y k).calls rfl ?_
  simp -implicitDefEqProofs only[go_sem]
  refine⟨fun c=>by simp[c],fun c=>by simp[c]⟩
theorem c6R(n:Nd):b0u env 230 [.agg n.enc] (.bool (b2n n.kind n.text)):=by
 obtain⟨k,t,g,ks⟩:=n
 refine b0i (fn:=Tryz.f230) Tryz.func230 rfl (by rw[Tryz.ntmps230];simp) (by simp -implicitDefEqProofs only[go_sem]) rfl ?_
 simp -implicitDefEqProofs only[go_sem,Tryz.f230,Nd.kind,Nd.text,b2n]
 refine⟨fun h=>by simp[h];rfl,fun h=>?_⟩
 simp only[h,if_false]
 simp +contextual
end Go.Proofs.YtighfcpaplmaiaaGreatDoor
set_option maxRecDepth 20000
set_option maxHeartbeats 8000000
namespace Go.Vg
def b5t(k:Int)(t:ByteArray):Bool:=if k=18 then decide (t=⟨#[116,114,117,101]⟩) || decide (t=⟨#[102,97,108,115,101]⟩)else if k=23 then decide (t=⟨#[115,101,108,102]⟩)else if k=24 then decide (0<b3n k t)else if k=25 then decide (t=⟨#[45]⟩) || decide (t=⟨#[33]⟩)else decide (t=⟨#[]⟩)
def f7V(k:Int)(t:ByteArray)(n:Nat):Int:=if k=8 then(if t=⟨#[]⟩then 0 else 2)else if k=14 then min n 1 else if k=3 then 2+max ((n:Int) - 1) 0 else if k=20 then 3+max ((n:Int) - 1) 0 else if k=21 then 4+max ((n:Int) - 2) 0
 else if k=7∨k=9∨k=10∨k=22 then 4 else if k=11 then 3 else if k=2∨k=6∨k=12∨k=26 then 2 else if 1≤k∧k≤26 then 1 else 0
def Nd.own(n:Nd):Int:=f7V n.kind n.text n.kids.length
end Go.Vg
namespace Go.Proofs.YtighfcpaplmaiaaGreatDoor
open Go Go.Vg Go.Proofs
theorem f0i(n:Nd):b0u env 240 [.agg n.enc] (.bool (b5t n.kind n.text)):=by
 obtain⟨k,t,g,ks⟩:=n
 refine b0i (fn:=Tryz.f240) Tryz.func240 rfl (by rw[Tryz.ntmps240];simp) (by simp -implicitDefEqProofs only[go_sem]) rfl ?_
 simp -implicitDefEqProofs only[go_sem,Tryz.f240,Nd.kind,Nd.text]
 refine⟨fun h=>⟨fun c=>?_,fun c=>?_⟩,fun h=>⟨fun h2=>?_,fun h2=>⟨fun h3=>?_,fun h3=>⟨fun h4=>⟨fun c=>?_,fun c=>?_⟩,fun h4=>?_⟩⟩⟩⟩
 ·simp[b5t,h,c]
 ·simp[b5t,h,c]
 ·simp[b5t,h2]
 ·refine(b4h (.mk k t g ks)).calls (by simp -implicitDefEqProofs only[go_sem]) ?_
  simp -implicitDefEqProofs only[go_sem]
  simp[b5t,h3,Nd.level,Nd.kind,Nd.text]
 ·simp[b5t,h4,c]
 ·simp[b5t,h4,c]
 ·simp[b5t,h,h2,h3,h4]
theorem f5t(n:Nd):b0u env 232 [.agg n.enc] (.int .i64 n.own):=by
 obtain⟨k,t,g,ks⟩:=n
 refine b0i (fn:=Tryz.f232) Tryz.func232 rfl (by rw[Tryz.ntmps232];simp) (by simp -implicitDefEqProofs only[go_sem]) rfl ?_
 simp -implicitDefEqProofs only[go_sem,Tryz.f232,Nd.kind,Nd.text,Nd.kids,Nd.own]
 intro _ hl
 rw[Vg.wrap_small (x:=(ks.length:Int) - 1) (by omega) (by omega),Vg.wrap_small (x:=(ks.length:Int) - 2) (by omega) (by omega),
  Vg.wrap_small (x:=2+if(ks.length:Int) - 1<0 then 0 else(ks.length:Int) - 1) (by split <;> omega) (by split <;> omega),
  Vg.wrap_small (x:=3+if(ks.length:Int) - 1<0 then 0 else(ks.length:Int) - 1) (by split <;> omega) (by split <;> omega),
  Vg.wrap_small (x:=4+if(ks.length:Int) - 2<0 then 0 else(ks.length:Int) - 2) (by split <;> omega) (by split <;> omega)]
 repeat' (first | apply And.intro | intro)
 all_goals(unfold f7V;congr 1;repeat' split)
 all_goals first | omega | contradiction
end Go.Proofs.YtighfcpaplmaiaaGreatDoor
set_option maxHeartbeats 8000000
namespace Go.Vg
def b3P(p pos k:Int):Bool :=
 if pos<0 then false else if p=1 then decide (b1C k=1)else if p=2 then decide (pos=0∧k=3∨pos=1∧k=5∨pos=2∧k=6)else if p=3 then decide (k=4)else if p=4 then decide (pos=0∧k=5)
 else if p=6 then decide (b1C k=2)else if p=7 then decide (pos=0∧k=8∨0<pos∧k=2)else if p=13 then decide (pos=0∧b1C k=3∨pos=1∧k=6∨pos=2∧k=14)else if p=14 then decide (pos=0∧k=6)
 else if p=15 then decide (pos=0∧b1C k=3∨pos=1∧k=6)else if p=20∨p=21 then decide (b1C k=3)else if p=24 then decide (pos<2∧b1C k=3)
 else if p=9∨p=10∨p=11∨p=12∨p=16∨p=25∨p=26 then decide (pos=0∧b1C k=3)else false
def b2E:Int→ByteArray→List Nd→Bool
 | k,t,a::b::_=>if k=24 then(if b3n k t=3∧a.level=3 then false else decide (b3n k t≤a.level∧b3n k t<b.level))else if k=25 then decide (6≤a.level)else if k=21 then decide (a.level=7)else true
 | k,t,[a]=>if k=25 then decide (6≤a.level)else if k=21 then decide (a.level=7)else true
 | k,t,[]=>true
end Go.Vg
namespace Go.Proofs.YtighfcpaplmaiaaGreatDoor
open Go Go.Vg Go.Proofs
theorem d9Q(p pos k:Int):b0u env 239 [.int .i64 p,.int .i64 pos,.int .i64 k] (.bool (b3P p pos k)):=by
 refine b0i (fn:=Tryz.f239) Tryz.func239 rfl (by rw[Tryz.ntmps239];simp) rfl rfl ?_
 simp -implicitDefEqProofs only[go_sem,Tryz.f239]
 repeat' (first | apply And.intro | (refine(c6y k).calls rfl ?_;simp -implicitDefEqProofs only[go_sem]) | intro)
 all_goals(try(simp_all [b3P];done))
 all_goals(congr 1;unfold b3P;grind)
end Go.Proofs.YtighfcpaplmaiaaGreatDoor
set_option maxHeartbeats 8000000
namespace Go.Vg
def Nd.levels(n:Nd):Bool:=b2E n.kind n.text n.kids
def b5p:List UInt8→Int→Int
 | [],n=>n
 | c::r,n=>b5p r (10 * n+((c.toNat:Int) - 48))
def c1X(s:ByteArray):Bool := !decide ((s.size:Int)=0) && !decide (13<(s.size:Int)) && !(decide (1<(s.size:Int)) && decide (b5b s 0=48)) && (s.data.toList.all fun c=>b1F c.toNat) && decide (b5p s.data.toList 0≤1000000000000)
end Go.Vg
namespace Go.Proofs.YtighfcpaplmaiaaGreatDoor
open Go Go.Vg Go.Proofs
theorem d1F(n:Nd)(h0:n.kind=24→2≤n.kids.length)(h1:n.kind=25∨n.kind=21→1≤n.kids.length):b0u env 241 [.agg n.enc] (.bool n.levels):=by
 obtain⟨k,t,g,ks⟩:=n
 simp only[Nd.kind,Nd.kids]at h0 h1
 refine b0i (fn:=Tryz.f241) Tryz.func241 rfl (by rw[Tryz.ntmps241];simp) (by simp -implicitDefEqProofs only[go_sem]) rfl ?_
 rcases ks with _ | ⟨a,_ | ⟨b,r⟩⟩
 ·have hk:¬ k=24∧¬ k=25∧¬ k=21:=⟨fun h=>by simp at h0;omega,fun h=>by simp at h1;omega,fun h=>by simp at h1;omega⟩
  simp -implicitDefEqProofs only[go_sem,Tryz.f241,hk.1,hk.2.1,hk.2.2]
  rfl
 ·have hk:¬ k=24:=fun h=>by simp at h0;omega
  simp -implicitDefEqProofs only[go_sem,Tryz.f241,hk]
  refine⟨fun h=>⟨by omega,?_⟩,fun h=>⟨fun h2=>⟨by omega,?_⟩,fun h2=>?_⟩⟩
  ·refine(b4h a).calls (by simp -implicitDefEqProofs only[go_sem]) ?_
   simp -implicitDefEqProofs only[go_sem]
   simp[Nd.levels,b2E,Nd.kind,Nd.text,Nd.kids,h]
  ·refine(b4h a).calls (by simp -implicitDefEqProofs only[go_sem]) ?_
   simp -implicitDefEqProofs only[go_sem]
   simp[Nd.levels,b2E,Nd.kind,Nd.text,Nd.kids,h2]
  ·simp[Nd.levels,b2E,Nd.kind,Nd.text,Nd.kids,h,h2]
 ·simp -implicitDefEqProofs only[go_sem,Tryz.f241]
  refine⟨fun h=>?_,fun h=>⟨fun h2=>⟨by omega,?_⟩,fun h2=>⟨fun h3=>⟨by omega,?_⟩,fun h3=>?_⟩⟩⟩
  ·refine(b4h (.mk k t g (a::b::r))).calls (by simp -implicitDefEqProofs only[go_sem]) ?_
   simp -implicitDefEqProofs only[go_sem]
   have hlv:(Nd.mk k t g (a::b::r)).level=b3n 24 t:=by simp[Nd.level,Nd.kind,Nd.text,h]
   rw[hlv]
   have hm:(Nd.mk k t g (a::b::r)).levels=(if b3n 24 t=3∧a.level=3 then false else decide (b3n 24 t≤a.level∧b3n 24 t<b.level)):=by simp[Nd.levels,b2E,Nd.kind,Nd.text,Nd.kids,h]
   rw[hm]
   have e:∀ x:Nd,List.map share [V.agg x.enc]=[V.agg x.enc]:=fun x=>by simp -implicitDefEqProofs only[go_sem]
   repeat' (first | apply And.intro | (refine(b4h a).calls (e a) ?_;simp -implicitDefEqProofs only[go_sem]) | (refine(b4h b).calls (e b) ?_;simp -implicitDefEqProofs only[go_sem]) | omega | intro)
   all_goals(try simp_all)
   all_goals omega
  ·refine(b4h a).calls (by simp -implicitDefEqProofs only[go_sem]) ?_
   simp -implicitDefEqProofs only[go_sem]
   simp[Nd.levels,b2E,Nd.kind,Nd.text,Nd.kids,h2]
  ·refine(b4h a).calls (by simp -implicitDefEqProofs only[go_sem]) ?_
   simp -implicitDefEqProofs only[go_sem]
   simp[Nd.levels,b2E,Nd.kind,Nd.text,Nd.kids,h3]
  ·simp[Nd.levels,b2E,Nd.kind,Nd.text,Nd.kids,h,h2,h3]
theorem c7N(s:ByteArray):b0u env 229 [.str s] (.bool (c1X s)):=by
 refine b0i (fn:=Tryz.f229) Tryz.func229 rfl (by rw[Tryz.ntmps229];simp) rfl rfl ?_
 simp -implicitDefEqProofs only[go_sem,Tryz.f229]
 intro hs
 refine⟨fun a1 _=>⟨fun a2 _=>⟨fun a3=>⟨by omega,fun a4=>?_,fun a4=>?_⟩,fun a3=>?_⟩,fun a2=>?_⟩,fun a1=>?_⟩
 ·simp[c1X,a3,a4]
 all_goals try(simp[c1X,a1];done)
 all_goals try(simp[c1X,a2];done)
 all_goals
  refine b0n (β:=Int) s.data.toList (fun pre n=>⟨[(4,.int .i64 pre.length),(3,.int .i64 n),(0,.str s)],[],[]⟩)
   (fun pre post n=>(pre.all fun c=>b1F c.toNat)=true∧b5p post n=b5p s.data.toList 0∧0≤n∧n.toNat<10 ^ pre.length) 0 ?_ ?_ ?_ ?_
  ·simp -implicitDefEqProofs only[go_sem]
   trivial
  ·simp
  ·rintro n ⟨i1,i2,i3,i4⟩
   simp -implicitDefEqProofs only[go_sem,←b3O]
   intro _
   have hd:b5p s.data.toList 0=n:=by rw[←i2];rfl
   unfold c1X
   rw[i1,hd]
   simp_all
  ·rintro pre x post n hx ⟨i1,i2,i3,i4⟩
   have hz:=b2M hx
   simp -implicitDefEqProofs only[go_sem,hz,b1Q hx]
   intro hl
   have hno:b1F (x.toNat:Int)=false→V.bool false=V.bool (c1X s):=by
    intro hf
    have:(s.data.toList.all fun c=>b1F c.toNat)=false:=by rw[hx];simp[hf]
    unfold c1X
    rw[this];simp
   refine⟨fun c=>⟨fun d=>hno (by unfold b1F;simp;omega),fun d=>?_⟩,fun c=>hno (by unfold b1F;simp;omega)⟩
   have hp:pre.length≤12:=by rw[hz]at a2;simp at a2;omega
   have h10:(10:Nat) ^ pre.length≤10 ^ 12:=Nat.pow_le_pow_right (by decide) hp
   have h12:(10:Nat) ^ 12=1000000000000:=by decide
   rw[h12]at h10
   have hdig:b1F (x.toNat:Int)=true:=by unfold b1F;simp;omega
   refine⟨10 * n+((x.toNat:Int) - 48),⟨by simp[i1,hdig],by rw[←i2];rfl,by omega,?_⟩,b0g (by omega),?_⟩
   ·rw[Nat.pow_succ];omega
   ·rw[f4k (by omega) (by omega),Vg.wrap_small (x:=10 * n) (by omega) (by omega),Vg.wrap_small (x:=(x.toNat:Int) - 48) (by omega) (by omega),Vg.wrap_small (by omega) (by omega)]
end Go.Proofs.YtighfcpaplmaiaaGreatDoor
namespace Go.Vg
mutual
def b5H:Nd→Int→Int
 | .mk k t g ks,l=>if 60<l∨b9H k<(ks.length:Int)then 4001 else min (b4r ks 1 (l+1)) 4001
def b4r:List Nd→Int→Int→Int
 | [],k,_=>k
 | x::r,k,l=>if 4000<k then k else b4r r (k+b5H x l) l
end
theorem d4J(n:Nd)(l:Int):b5H n l≤4001:=by
 obtain⟨k,t,g,ks⟩:=n
 rw[b5H]
 split <;> omega
theorem d0F:∀ (ks:List Nd),(∀ x∈ks,∀ l,1≤b5H x l)→∀ k l,k≤b4r ks k l:=by
 intro ks
 induction ks with
 | nil=>intro _ k l;rw[b4r];exact Int.le_refl _
 | cons x r ih =>
  intro h k l
  rw[b4r]
  split
  ·exact Int.le_refl _
  ·have:=ih (fun y hy=>h y (by simp[hy])) (k+b5H x l) l
   have:=h x (by simp) l
   omega
theorem d6f:∀ (n:Nd) (l:Int),1≤b5H n l:=by
 refine Nd.all fun k t g ks ih l=>?_
 rw[b5H]
 split
 ·omega
 ·have:=d0F ks ih 1 (l+1)
  omega
end Go.Vg
namespace Go.Proofs.YtighfcpaplmaiaaGreatDoor
open Go Go.Vg Go.Proofs
theorem d8V:(n:Nd)→∀ (l:Int),0≤l→l≤1000→b0u env 198 [.agg n.enc,.int .i64 l] (.int .i64 (b5H n l)):=by
 refine Nd.all fun k t g ks ih l h0 h1=>?_
 refine b0i (fn:=Tryz.f198) Tryz.func198 rfl (by rw[Tryz.ntmps198];simp) (by simp -implicitDefEqProofs only[go_sem]) rfl ?_
 simp -implicitDefEqProofs only[go_sem,Tryz.f198]
 refine b0h (cs:=[]) b0v (by kernel_rfl) ?_
 simp -implicitDefEqProofs only[go_sem]
 refine⟨fun a1=>b0B (d9j k) rfl ?_,fun a1=>?_⟩
 ·simp -implicitDefEqProofs only[go_sem]
  refine⟨fun a2=>?_,fun a2=>?_⟩
  ·rw[b5H,if_pos (by omega)]
  ·refine b0n (β:=Int) ks (fun pre n=>⟨[(6,.int .i64 pre.length),(5,.int .i64 n),(2,.ptr 0 0),(1,.int .i64 l)],[VObj.cells (Nd.mk k t g ks).enc],[]⟩)
    (fun _ post n=>min (b4r post n (l+1)) 4001=b5H (.mk k t g ks) l∧1≤n∧n≤100000) 1 ?_ ?_ ?_ ?_
   ·simp -implicitDefEqProofs only[go_sem]
    rfl
   ·refine⟨?_,by omega,by omega⟩
    rw[b5H,if_neg (by omega)]
   ·rintro n ⟨i1,i2,i3⟩
    simp -implicitDefEqProofs only[go_sem]
    intro _ _
    rw[←i1,b4r]
    congr 1
    split <;> omega
   ·rintro pre x post n rfl ⟨i1,i2,i3⟩
    simp -implicitDefEqProofs only[go_sem]
    intro _ hl
    have hx:=d4J x (l+1)
    have hx':=d6f x (l+1)
    refine⟨fun c=>?_,fun c=>?_⟩
    ·rw[Vg.wrap_small (by omega) (by omega)]
     refine(ih x b1w (l+1) (by omega) (by omega)).calls (by simp -implicitDefEqProofs only[go_sem]) ?_
     simp -implicitDefEqProofs only[go_sem]
     refine⟨n+b5H x (l+1),⟨?_,by omega,by omega⟩,b0g (by have:=b2p hl;omega),Vg.wrap_small (by omega) (by omega)⟩
     rw[←i1,b4r,if_neg (by omega)]
    ·have e:b4r (x::post) n (l+1)=n:=by rw[b4r,if_pos (by omega)]
     rw[←i1,e]
     congr 1
     split <;> omega
 ·rw[b5H,if_pos (by omega)]
end Go.Proofs.YtighfcpaplmaiaaGreatDoor
namespace Go.Vg
def b1y(k:Int):List Nd→Int→Bool
 | [],_=>true
 | x::r,i=>b3P k i x.kind && b1y k r (i+1)
def Nd.shape(n:Nd):Bool := !decide (n.kind<1) && !decide (26<n.kind) && !decide ((n.kids.length:Int)<b0U n.kind) && b1y n.kind n.kids 0 && (b2n n.kind n.text || b5t n.kind n.text) && n.levels
end Go.Vg
namespace Go.Proofs.YtighfcpaplmaiaaGreatDoor
open Go Go.Vg Go.Proofs
theorem c7u(n:Nd):b0u env 228 [.agg n.enc] (.bool n.shape):=by
 obtain⟨k,t,g,ks⟩:=n
 refine b0i (fn:=Tryz.f228) Tryz.func228 rfl (by rw[Tryz.ntmps228];simp) (by simp -implicitDefEqProofs only[go_sem]) rfl ?_
 simp -implicitDefEqProofs only[go_sem,Tryz.f228]
 refine b0h (cs:=[]) b0v (by kernel_rfl) ?_
 simp -implicitDefEqProofs only[go_sem]
 refine⟨fun a1=>⟨fun a2=>b0B (d4W k) rfl ?_,fun a2=>?_⟩,fun a1=>?_⟩
 ·simp -implicitDefEqProofs only[go_sem]
  refine⟨fun a3=>?_,fun a3=>?_⟩
  ·simp[Nd.shape,Nd.kind,Nd.kids,a3]
  ·refine b0n (β:=Unit) ks (fun pre _=>⟨[(3,.int .i64 pre.length),(1,.ptr 0 0)],[VObj.cells (Nd.mk k t g ks).enc],[]⟩)
    (fun pre post _=>b1y k post pre.length=b1y k ks 0) () ?_ ?_ ?_ ?_
   ·simp -implicitDefEqProofs only[go_sem]
    rfl
   ·rfl
   ·intro _ i1
    simp -implicitDefEqProofs only[go_sem]
    intro _ _
    have hlv:=d1F (.mk k t g ks) (fun h=>by simp only[Nd.kind]at h;subst h;simp[b0U]at a3;simp only[Nd.kids];omega)
     (fun h=>by simp only[Nd.kind]at h;rcases h with h | h <;> subst h <;> simp[b0U]at a3 <;> simp only[Nd.kids] <;> omega)
    refine(c6R (.mk k t g ks)).calls (by simp -implicitDefEqProofs only[go_sem]) ?_
    simp -implicitDefEqProofs only[go_sem]
    have hf:b1y k ks 0=true:=by rw[←i1];rfl
    have hs:(Nd.mk k t g ks).shape=((b2n k t || b5t k t) && (Nd.mk k t g ks).levels):=by simp[Nd.shape,Nd.kind,Nd.text,Nd.kids,a1,a2,a3,hf]
    rw[hs]
    simp only[Nd.kind,Nd.text]
    refine⟨fun c=>?_,fun c=>?_⟩
    ·refine(f0i (.mk k t g ks)).calls (by simp -implicitDefEqProofs only[go_sem]) ?_
     simp -implicitDefEqProofs only[go_sem,Nd.kind,Nd.text]
     refine⟨fun d=>hlv.calls (by simp -implicitDefEqProofs only[go_sem]) ?_,fun d=>?_⟩
     ·simp -implicitDefEqProofs only[go_sem]
      simp[c,d]
     ·simp[c,d]
    ·refine hlv.calls (by simp -implicitDefEqProofs only[go_sem]) ?_
     simp -implicitDefEqProofs only[go_sem]
     simp[c]
   ·rintro pre x post _ rfl i1
    obtain⟨xk,xt,xg,xks⟩:=x
    simp -implicitDefEqProofs only[go_sem]
    intro _ hl
    refine b0h (cs:=[]) b0v (by kernel_rfl) ?_
    simp -implicitDefEqProofs only[go_sem]
    refine b0B (d9Q k pre.length xk) rfl ?_
    simp -implicitDefEqProofs only[go_sem]
    have hcast:((pre.length+1:Nat):Int)=(pre.length:Int)+1:=by omega
    refine⟨fun c=>?_,fun c=>⟨(),?_,b0g (by have:=b2p hl;omega)⟩⟩
    ·have hf:b1y k (pre++Nd.mk xk xt xg xks::post) 0=false:=by rw[←i1,b1y];simp only[Nd.kind];simp at c;simp[c]
     simp[Nd.shape,Nd.kind,Nd.text,Nd.kids,hf]
    ·rw[←i1,b1y,hcast];simp only[Nd.kind];simp at c;simp[c]
 ·simp[Nd.shape,Nd.kind,a2]
 ·simp[Nd.shape,Nd.kind,a1]
end Go.Proofs.YtighfcpaplmaiaaGreatDoor
