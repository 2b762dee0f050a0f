import Derived.Test.YtighfcpaplmaiaaGreatDoorVgSh
import Derived.Test.YtighfcpaplmaiaaGreatDoorVgY
import Derived.Shelf.Sort.Plain
import Derived.Shelf.Slices.In.SortNone2
import Derived.Test.YtighfcpaplmaiaaGreatDoorVgFr
set_option linter.unusedVariables false
set_option linter.unusedSimpArgs false
set_option maxRecDepth 20000
namespace Go.Vg
def b3D(B:List (ByteArray×ByteArray))(cls:ByteArray):List ByteArray×ByteArray:=b7p B cls (B.length+1) [] ((b1B B cls).getD ⟨#[]⟩)
theorem c6S(B:List (ByteArray×ByteArray))(cls:ByteArray):∀ (f:Nat) (out:List ByteArray) (next:ByteArray),(b7p B cls f out next).1.length≤out.length+f
 | 0,out,next=>by simp[b7p]
 | f+1,out,next=>by
  rw[b7p]
  split
  ·simp
  ·have:=c6S B cls f (out++[next]) ((b1B B next).getD ⟨#[]⟩)
   simp only[g9d,List.length_singleton]at this
   omega
theorem b8F(B:List (ByteArray×ByteArray))(cls:ByteArray):(b3D B cls).1.length≤B.length+1:=by
 have:=c6S B cls (B.length+1) [] ((b1B B cls).getD ⟨#[]⟩)
 simpa[b3D]using this
theorem b7q:∀ {a y:List Nat},b8q a (a++y)
 | [],[]=>trivial
 | [],_::_=>trivial
 | x::r,y=>⟨rfl,b7q⟩
theorem b7t{α:Type}{l:List α}{x:α}{y:List α}:(l++x::y)[l.length]? = some x:=by simp
theorem c2x{α:Type}{l:List α}{x z:α}{y:List α}:(l++x::y).set l.length z=l++z::y:=by simp
end Go.Vg
namespace Go.Proofs.YtighfcpaplmaiaaGreatDoor
open Go Go.Vg Go.Proofs
theorem c1V(B:List (ByteArray×ByteArray))(nm ds:V)(p b m:Nat)(h:List VObj)(a:List Nat)(cls:ByteArray)(hp:h[p]? = some (.cells [nm,.map b,.map m,ds]))(hb:h[b]? = some (.map (b6k B)))(hB:B.length≤1000000)(hnm:nm.some? = true)(hds:ds.some? = true){K:b1z}
  (hK:K (.tuple [sl 9 ((b3D B cls).1.map b0p),.str (b3D B cls).2]) h a):b0r env 63 [.ptr p 0,.str cls] h a K:=by
 refine b0r.tidy0 ?_
 have hbl:=b0w hb
 have hpl:=b0w hp
 refine b0A (fn:=Tryz.f63) Tryz.func63 rfl (by rw[Tryz.ntmps63];simp) ?_
 simp -implicitDefEqProofs only[go_sem,Tryz.f63,c1g,b0K hp,b0K hb,hp,hb]
 generalize hgo:b3D B cls=goal at hK
 have hfin:∀ out next n z,b3D B cls=(out,next)→(∃ z',h++z=h++z')∧(∃ y,a++[n]=a++y)∧K (.tuple [sl 9 (out.map b0p),.str next]) h a:=by
  intro out next n z e
  rw[hgo]at e
  subst e
  exact⟨⟨_,rfl⟩,⟨_,rfl⟩,hK⟩
 refine b1A (α:=List ByteArray×ByteArray) (fun s=>⟨[(8,.str s.2),(7,.map h.length),(6,.slice (.arr a.length) 9 (s.1.map b0p)),(5,.str ⟨#[]⟩),(4,.slice .nil 0 []),(0,.ptr p 0),(1,.str cls)],
   h++[.map (b2N (cls::s.1))],a++[s.1.length]⟩)
  (fun s=>b7p B cls (B.length+1 - s.1.length) s.1 s.2=goal∧s.1.Nodup∧∀ x∈s.1,(b1B B x).isSome=true) (fun s=>B.length+1 - s.1.length) ([],(b1B B cls).getD ⟨#[]⟩) ?_ ⟨by simpa[b3D]using hgo,by simp,by simp⟩ ?_
 ·simp -implicitDefEqProofs only[go_sem]
  exact⟨by omega,rfl,b7q⟩
 ·rintro⟨out,next⟩ ⟨i1,i2,i3⟩
  simp only at i1 i2 i3
  have hle:out.length≤B.length:=by
   have:=c0S out (B.map (·.1)) i2 fun x hx=>b6X (i3 x hx)
   simpa using this
  obtain⟨f,hf⟩:∃ f,B.length+1 - out.length=f+1:=⟨B.length - out.length,by omega⟩
  rw[hf,b7p]at i1
  simp -implicitDefEqProofs only[go_sem,c1g,c0p,c9t,b0K hp,b0K hb,hp,hb,b7t,c2x]
  have hstop:(decide (next=⟨#[]⟩) || !(b1B B next).isSome || (cls::out).any fun x=>decide (x=next))=true→b3D B cls=(out,next):=fun h=>by
   rw[if_pos h]at i1;rw[hgo,←i1]
  refine⟨fun h1=>⟨fun h2=>⟨fun h3=>hfin _ _ _ _ (hstop (by simp[h3])),fun h3=>?_⟩,fun h2=>hfin _ _ _ _ (hstop (by simp[h2]))⟩,fun h1=>hfin _ _ _ _ (hstop (by simp[h1]))⟩
  have hsm:(b1B B next).isSome=true:=by simpa using h2
  have hc:¬ (decide (next=⟨#[]⟩) || !(b1B B next).isSome || (cls::out).any fun x=>decide (x=next))=true:=by
   rw[h3,h2];simp[h1]
  rw[if_neg hc]at i1
  rw[d0o h3]
  simp -implicitDefEqProofs only[go_sem,c1g,b0K hp,b0K hb,hp,hb,b7t,c2x]
  have hno:next ∉ out:=fun hm=>by
   have:((cls::out).any fun x=>decide (x=next))=true:=by simp;exact .inr hm
   rw[h3]at this;cases this
  refine⟨by omega,(out++[next],(b1B B next).getD ⟨#[]⟩),by simp;omega,⟨?_,?_,?_⟩,⟨rfl,by simp[b0p]⟩,rfl,by simp only[g9d,List.length_singleton];simp -implicitDefEqProofs only[go_sem]⟩
  ·have:B.length+1 - (out++[next]).length=f:=by simp;omega
   simp only[this];exact i1
  ·simp only[]
   rw[h0q]
   exact⟨i2,by simp,fun x hx y hy=>by simp at hy;subst hy;rintro rfl;exact hno hx⟩
  ·intro x hx
   rcases g9A.1 hx with h | h
   ·exact i3 x h
   ·simp at h;subst h;exact hsm
def c2z(B:List (ByteArray×ByteArray))(M:List Dl)(cls name:ByteArray):Option Dl:=(cls::(b3D B cls).1).findSome? fun s=>M.find? fun d=>decide (s=d.owner) && decide (name=d.name)
theorem d7x{M:List Dl}{o n:ByteArray}{K:V→Prop}:b1G env 54 (b1f [0,0] [.str o,.str n] (mapM M) 0) true K=K (b2s (M.find? fun d=>decide (o=d.owner) && decide (n=d.name))):=by
 have key:∀ (M:List Dl) (i:Nat),(∃ j e,b1f [0,0] [.str o,.str n] (mapM M) i=some (some (j,.agg (Dl.enc e)))∧(M.find? fun d=>decide (o=d.owner) && decide (n=d.name))=some e)∨(b1f [0,0] [.str o,.str n] (mapM M) i=some none∧(M.find? fun d=>decide (o=d.owner) && decide (n=d.name))=none):=by
  intro M
  induction M with
  | nil=>exact fun i => .inr ⟨rfl,rfl⟩
  | cons e r ih =>
   intro i
   have heq:Vg.eqL [V.str o,V.str n] [V.str e.owner,V.str e.name]=some (decide (o=e.owner) && decide (n=e.name)):=by
    simp only[Vg.eqL,eq1,h0b]
   have h1:b1f [0,0] [.str o,.str n] (mapM (e::r)) i=if(decide (o=e.owner) && decide (n=e.name))=true then some (some (i,.agg e.enc))else b1f [0,0] [.str o,.str n] (mapM r) (i+1):=by
    simp only[mapM,g9o,b1f,heq]
    have hf:b3A [0,0] [V.str o,V.str n] [V.str e.owner,V.str e.name]=true:=rfl
    rw[if_pos hf]
    cases (decide (o=e.owner) && decide (n=e.name)) <;> rfl
   rw[h1,g9S]
   by_cases h:(decide (o=e.owner) && decide (n=e.name))=true
   ·exact .inl ⟨i,_,by rw[if_pos h],by rw[h]⟩
   ·rw[if_neg h]
    have:(decide (o=e.owner) && decide (n=e.name))=false:=by simpa using h
    rw[this]
    exact ih (i+1)
 rcases key M 0 with⟨j,e,h1,h2⟩ | ⟨h1,h2⟩
 ·rw[h1,h2];simp -implicitDefEqProofs only[go_sem,b2s];rfl
 ·rw[h1,h2];simp -implicitDefEqProofs only[go_sem,b2s,d1W];rfl
theorem d4U(B:List (ByteArray×ByteArray))(M:List Dl)(nm ds:V)(p b m:Nat)(h:List VObj)(a:List Nat)(cls name:ByteArray)(hp:h[p]? = some (.cells [nm,.map b,.map m,ds]))(hb:h[b]? = some (.map (b6k B)))(hm:h[m]? = some (.map (mapM M)))
  (hB:B.length≤1000000) (hnm:nm.some? = true) (hds:ds.some? = true) {K:b1z} (hK:K (b2s (c2z B M cls name)) h a) :
  b0r env 62 [.ptr p 0,.str cls,.str name] h a K:=by
 refine b0r.tidy0 ?_
 refine b0A (fn:=Tryz.f62) Tryz.func62 rfl (by rw[Tryz.ntmps62];simp) ?_
 simp -implicitDefEqProofs only[go_sem,Tryz.f62]
 refine c1V B nm ds p b m _ _ cls (b0K hp) (b0K hb) hB hnm hds ?_
 simp -implicitDefEqProofs only[go_sem]
 have hlook:c2z B M cls name=(cls::(b3D B cls).1).findSome? fun s=>M.find? fun d=>decide (s=d.owner) && decide (name=d.name):=rfl
 have hll:(cls::(b3D B cls).1).length≤B.length+2:=by have:=b8F B cls;simp only[g9k];omega
 generalize(b3D B cls).1=ch at hlook hll ⊢
 obtain⟨L,hL⟩:∃ L,L=cls::ch:=⟨_,rfl⟩
 rw[←hL]at hlook hll
 refine⟨by rw[hL,g9k]at hll;omega,fun h0=>?_,fun h0 _=>?_⟩
 ·have hch:ch=[]:=by simpa using h0
  subst hch
  obtain⟨y,hy⟩:∃ y:List Nat,y=[]:=⟨_,rfl⟩
  refine b0n (β:=List VObj) L (fun pre zz=>⟨[(25,.int .i64 pre.length),(24,.int .i64 L.length),(23,sl 9 (L.map b0p)),(7,.bool false),(6,.ptr h.length 0),(0,.ptr p 0),(2,.str name)],
   h ++ .cells [.int .i64 0,.str ⟨#[]⟩,.str ⟨#[]⟩,.int .i64 0,.int .i64 0]::zz,a++y⟩)
   (fun pre post _=>c2z B M cls name=post.findSome? fun s=>M.find? fun d=>decide (s=d.owner) && decide (name=d.name)) [] ?_ hlook ?_ ?_
  ·rw[hL]
   simp -implicitDefEqProofs only[go_sem]
   rw[hy]
   exact⟨⟨rfl,rfl⟩,b7q,by simp,.inl (by simp)⟩
  ·intro zz he
   simp -implicitDefEqProofs only[go_sem,b7t]
   rw[he]at hK
   exact⟨⟨_,rfl⟩,⟨_,rfl⟩,hK⟩
  ·rintro pre s post zz hx he
   have hpl:L.length=pre.length+1+post.length:=by rw[hx];simp;omega
   have hgx:(L.map b0p).getD (pre.length:Int).toNat []=b0p s:=by rw[hx];simp[g8Z]
   have hlt:((pre.length:Int)<L.length)=True:=by simp;omega
   have hw:IntKind.i64.wrap (↑pre.length+1)=↑(pre.length+1):=b0g (by omega)
   rw[List.findSome?_cons]at he
   simp -implicitDefEqProofs only[go_sem,hgx,hlt,b0p,b4J,d7x,b2s,b0K hp,b0K hm,hp,hm,b7t,c2x,g9t,g8V,List.getElem?_concat_length,g8W,g8X]
   cases hf:M.find? (fun d=>decide (s=d.owner) && decide (name=d.name))with
   | some e =>
    rw[hf]at he
    rw[he]at hK
    exact⟨fun _=>⟨⟨_,rfl⟩,⟨_,rfl⟩,hK⟩,fun h=>(by cases h)⟩
   | none =>
    rw[hf]at he
    exact⟨fun h=>(by cases h),fun _=>⟨_,he,hw,b0s,by simp,.inl (by simp)⟩⟩
 ·refine fun _=>?_
  obtain⟨y,hy⟩:∃ y:List Nat,y=[1+ch.length]:=⟨_,rfl⟩
  refine b0n (β:=List VObj) L (fun pre zz=>⟨[(25,.int .i64 pre.length),(24,.int .i64 L.length),(23,sl 9 (L.map b0p)),(7,.bool false),(6,.ptr h.length 0),(0,.ptr p 0),(2,.str name)],
   h ++ .cells [.int .i64 0,.str ⟨#[]⟩,.str ⟨#[]⟩,.int .i64 0,.int .i64 0]::zz,a++y⟩)
   (fun pre post _=>c2z B M cls name=post.findSome? fun s=>M.find? fun d=>decide (s=d.owner) && decide (name=d.name)) [] ?_ hlook ?_ ?_
  ·rw[hL]
   simp -implicitDefEqProofs only[go_sem]
   rw[hy]
   exact⟨⟨rfl,rfl⟩,by simp -implicitDefEqProofs only[go_sem],by simp,.inl (by simp)⟩
  ·intro zz he
   simp -implicitDefEqProofs only[go_sem,b7t]
   rw[he]at hK
   exact⟨⟨_,rfl⟩,⟨_,rfl⟩,hK⟩
  ·rintro pre s post zz hx he
   have hpl:L.length=pre.length+1+post.length:=by rw[hx];simp;omega
   have hgx:(L.map b0p).getD (pre.length:Int).toNat []=b0p s:=by rw[hx];simp[g8Z]
   have hlt:((pre.length:Int)<L.length)=True:=by simp;omega
   have hw:IntKind.i64.wrap (↑pre.length+1)=↑(pre.length+1):=b0g (by omega)
   rw[List.findSome?_cons]at he
   simp -implicitDefEqProofs only[go_sem,hgx,hlt,b0p,b4J,d7x,b2s,b0K hp,b0K hm,hp,hm,b7t,c2x,g9t,g8V,List.getElem?_concat_length,g8W,g8X]
   cases hf:M.find? (fun d=>decide (s=d.owner) && decide (name=d.name))with
   | some e =>
    rw[hf]at he
    rw[he]at hK
    exact⟨fun _=>⟨⟨_,rfl⟩,⟨_,rfl⟩,hK⟩,fun h=>(by cases h)⟩
   | none =>
    rw[hf]at he
    exact⟨fun h=>(by cases h),fun _=>⟨_,he,hw,b0s,by simp,.inl (by simp)⟩⟩
def b1D(u:List Un)(cls name:ByteArray):Option Dl:=c2z (b0D (btU u) (b0f u 0)) (b3w (b0f u 0)) cls name
theorem f4E(k ka:Nat):∀ B:List (ByteArray×ByteArray),(b6k B).map (fun p=>(p.1.sh k ka,p.2.sh k ka))=b6k B
 | []=>rfl
 | x::r=>by
  have:=f4E k ka r
  simp only[b6k,g9o]at this ⊢
  rw[this];rfl
theorem f4Z(k ka:Nat):∀ M:List Dl,(mapM M).map (fun p=>(p.1.sh k ka,p.2.sh k ka))=mapM M
 | []=>rfl
 | x::r=>by
  have:=f4Z k ka r
  simp only[mapM,g9o]at this ⊢
  rw[this];rfl
theorem c0Q:∀ B:List (ByteArray×ByteArray),b0R (B.map fun p=>[V.str p.1])=true
 | []=>rfl
 | x::r=>by show(b1a _ && b0R _)=true;rw[c0Q r];rfl
theorem d8Y(u:List Un)(hu:b2T u){h:List VObj}{a:List Nat}{K:b1z}
  (hK:K (.ptr (h.length+2) 0) (h++[.map (b6k (b0D (btU u) (b0f u 0))),.map (mapM (b3w (b0f u 0))),.cells [.slice (.arr a.length) 9 ((b0D (btU u) (b0f u 0)).map fun p=>[.str p.1]),.map h.length,.map (h.length+1),sl 54 ((b0f u 0).map Dl.enc)]]) (a++[(b0D (btU u) (b0f u 0)).length])) :
  b0r env 61 [sl 70 (u.map Un.enc)] h a K:=by
 refine b0r.shift (cargs:=[sl 70 (u.map Un.enc)]) (by simp -implicitDefEqProofs only[go_sem];exact b0x _) (b0r.toE (E:=env) (E':=env.alive) rfl rfl rfl (fun _=>Iff.rfl) (fun _ _ h=>h) (g4P u hu)) (by simp -implicitDefEqProofs only[go_sem]) ?_
 rintro v h0 a0 ⟨rfl,rfl,rfl⟩
 refine⟨by simp[VObj.whole],?_⟩
 simp only[g9o,g9P,VObj.sh,f4E,f4Z,V.sh,shL]
 rw[b5x _ _ _ (c0Q _),V.sh_pure _ _ (sl 54 ((b0f u 0).map Dl.enc)) (by simp -implicitDefEqProofs only[go_sem];exact b0G _)]
 exact hK
theorem c5p(u:List Un)(hu:b2T u)(cls name:ByteArray):b0u env 32 [sl 70 (u.map Un.enc),.str cls,.str name] (b2s (b1D u cls name)):=by
 have hdl:=b0L u 0 fun y hy=>(hu.2 y hy).1
 have hul:=hu.1
 have hbl:=b1i (btU u) (b0f u 0)
 refine b0i (fn:=Tryz.f32) Tryz.func32 rfl (by rw[Tryz.ntmps32];simp) (by simp -implicitDefEqProofs only[go_sem];exact b0x _) (by simp -implicitDefEqProofs only[go_sem,b2s]) ?_
 simp -implicitDefEqProofs only[go_sem,Tryz.f32]
 refine d8Y u hu ?_
 simp -implicitDefEqProofs only[go_sem]
 refine d4U _ (b3w (b0f u 0)) _ _ _ _ _ _ _ cls name rfl rfl rfl (by omega) (by rfl) (by rfl) ?_
 simp -implicitDefEqProofs only[go_sem,b2s]
 rfl
end Go.Proofs.YtighfcpaplmaiaaGreatDoor
namespace Go.Vg
def VObj.isVec:VObj→Bool
 | .vec .. => true
 | _=>false
def b3X(e:TypeId)(n0 m0:Nat)(z:List VObj)(y:List Nat)(v:V)(l:List (List V)):Prop :=
 (l=[]∧∃ e0,v = .slice .nil e0 [])∨(l≠[]∧∃ j k gen,v = .vec (n0+j) (m0+k) gen l.length e∧z[j]? = some (.vec (m0+k) gen e l.flatten)∧y[k]? = some gen)
theorem b3X.nil{e n0 m0 e0:Nat}{z:List VObj}{y:List Nat}:b3X e n0 m0 z y (.slice .nil e0 []) [] := .inl ⟨rfl,e0,rfl⟩
theorem b3X.asl{e n0 m0:Nat}{z:List VObj}{y:List Nat}{v:V}{l:List (List V)}(h:b3X e n0 m0 z y v l):b8j v=false:=by
 rcases h with⟨_,e0,rfl⟩ | ⟨_,j,k,gen,rfl,_⟩ <;> rfl
theorem b3X.app{e n0 m0:Nat}{z:List VObj}{y:List Nat}{v:V}{l:List (List V)}(h:b3X e n0 m0 z y v l)(z2:List VObj)(y2:List Nat):b3X e n0 m0 (z++z2) (y++y2) v l:=by
 rcases h with h | ⟨h1,j,k,gen,h2,h3,h4⟩
 ·exact .inl h
 ·exact .inr ⟨h1,j,k,gen,h2,by rw[g9a (b0w h3)];exact h3,by rw[g9a (b0w h4)];exact h4⟩
def f3q(z z':List VObj):Prop:=∀ (i:Nat) ob,z[i]? = some ob→ob.isVec=false→z'[i]? = some ob
theorem f3q.refl{z:List VObj}:f3q z z:=fun _ _ h _=>h
theorem b7a{c:Nat}:∀ {l:List (List V)},(∀ el∈l,el.length=c)→l.flatten.length=l.length * c
 | [],_=>by simp
 | x::r,h=>by
  rw[g9X,g9d,b7a fun el he=>h el (by simp[he]),h x (by simp),g9k,g9R];omega
theorem b4F{E:Env}{e e':Nat}{o:Own}{h0 z:List VObj}{a0 y:List Nat}{v:V}{l:List (List V)}{x:List V}{K:b1z}(hv:b3X e h0.length a0.length z y v l)
  (hlen:∀ el∈l,el.length=E.P.cellsOf e) (hok:b0W E.P e=true) (hb:(l.length+1) * E.P.bytesOf e≤140737488355328)
  (hK:∀ v' z' y',b3X e h0.length a0.length z' y' v' (l++[x])→z.length≤z'.length→f3q z z'→y.length≤y'.length→K v' (h0++z') (a0++y')) :
  c3J E (h0++z) (a0++y) (some (.slice e)) (some (.slice e')) v (.slice o e [x]) K:=by
 rcases hv with⟨rfl,e0,rfl⟩ | ⟨h1,j,k,gen,rfl,h3,h4⟩
 ·rw[b8h]
  refine⟨⟨by simp,rfl,hok⟩,⟨rfl,.inl rfl,by simpa using hb⟩,?_⟩
  rw[g9t,g9t,g9d,g9d]
  refine hK _ _ _ (.inr ⟨by simp,z.length,y.length,b8w,by simp,?_,by simp⟩) (by simp) (fun i ob hi _=>by rw[g9a (b0w hi)];exact hi) (by simp)
  simp
 ·have hj:=b0w h3
  have hk:=b0w h4
  have hg:(h0++z)[h0.length+j]? = some (.vec (a0.length+k) gen e l.flatten):=by rw[b3g];exact h3
  rw[c0G,hg,b9i]
  refine⟨⟨by simp,rfl,hok⟩,⟨rfl,rfl,b7a hlen,by simpa using hb⟩,?_⟩
  have e1:(h0++z).set (h0.length+j) (.vec (a0.length+k) (gen+1) e (l.flatten++[x].flatten))=h0++z.set j (.vec (a0.length+k) (gen+1) e (l.flatten++[x].flatten)):=by
   rw[g9J _ _ (by omega)];congr 2;omega
  have e2:(a0++y).set (a0.length+k) (gen+1)=a0++y.set k (gen+1):=by
   rw[g9J _ _ (by omega)];congr 2;omega
  rw[e1,e2]
  refine hK _ _ _ (.inr ⟨by simp,j,k,gen+1,by simp,?_,g9e hk⟩) (by simp) (fun i ob hi hiv=>?_) (by simp)
  ·rw[g9e hj];simp
  ·by_cases ei:i=j
   ·subst ei;rw[h3]at hi;cases hi;cases hiv
   ·rw[g9i (Ne.symm ei)];exact hi
theorem c0O{c:Nat}:∀ {l:List (List V)},(∀ el∈l,el.length=c)→b2X c l.length l.flatten=l
 | [],_=>rfl
 | x::r,h=>by
  have hx:=h x (by simp)
  rw[g9k,b2X,g9X,List.take_left' hx,List.drop_left' hx,c0O fun el he=>h el (by simp[he])]
theorem b0r.accR{E:Env}{f:FuncId}{args:List V}{h:List VObj}{a:List Nat}{K:b1z}
  (hc:b0r E f args h a fun v h' a'=>∃ z y e l,h'=h++z∧a'=a++y∧b3X e h.length a.length z y v l∧b0W E.P e=true∧(∀ el∈l,el.length=E.P.cellsOf e)∧b0R l=true∧K (sl e l) h a) :
  b0r E f args h a K:=by
 refine b0r.tidy0 fun G w0 w vals hrel ha=>?_
 refine(hc G w0 w vals hrel ha).mono fun e' w' hg=>?_
 rcases hg with⟨val,he,v,heap',arr',G',hv,hx,hr,hrv⟩ | hd
 ·obtain⟨z,y,e,l,rfl,rfl,hacc,hok,hlen,hpl,hK⟩:=hv
  have hps:(share (sl e l)).pure=true:=by
   unfold sl
   cases l with
   | nil=>rfl
   | cons b r=>simpa[share,shareA,share1,sl,V.pure,Own.plain]using hpl
  have hss:share (sl e l)=sl e l:=by cases l <;> rfl
  rcases hacc with⟨rfl,e0,rfl⟩ | ⟨h1,j,k,gen,rfl,h3,h4⟩
  ·refine .inl ⟨val,he,_,_,_,G',⟨⟨z,rfl⟩,⟨y,rfl⟩,hps,?_⟩,hx,hr,hrv.share1⟩
   rw[hss];exact hK
  ·have hg:(h++z)[h.length+j]? = some (.vec (a.length+k) gen e l.flatten):=by rw[b3g];exact h3
   obtain⟨i,zz,hi',hz,hz1,hzs,his,hib,hs1,hb1,hb2⟩:=b2F hok
   have hlp:0<l.length:=List.length_pos_iff.2 h1
   have hfl:=b7a hlen
   have hpos:0<l.flatten.length:=by rw[hfl];exact Nat.mul_pos hlp hs1
   obtain⟨G'',b,hi,g1,g2,g3,g4,g5⟩:=hr.freezeV hg hpos
   have hth:=hrv.thawV g2 g1 hok (by rw[hfl];exact g9m _) g5
   rw[c0O hlen]at hth
   have hj:=b0w h3
   have hk:=b0w h4
   refine .inl ⟨val,he,_,_,_,G'',⟨⟨z.set j .dead,?_⟩,⟨y.set k (gen+1),?_⟩,hps,?_⟩,hx.trans g3,g4,hth⟩
   ·rw[g9J _ _ (by omega)];congr 2;omega
   ·rw[g9J _ _ (by omega)];congr 2;omega
   ·rw[hss];exact hK
 ·exact .inr hd
theorem c4e{E:Env}{f:FuncId}{args:List V}{e:TypeId}{l:List (List V)}(hp:b1a args=true)(hpl:b0R l=true)(hok:b0W E.P e=true)(hlen:∀ el∈l,el.length=E.P.cellsOf e)
  (h:b0r E f args [] [] fun v h' a'=>b3X e 0 0 h' a' v l) (hal:E.alive=E:=by exact rfl):b0u E f args (sl e l):=by
 refine⟨hp,?_,?_⟩
 ·unfold sl
  cases l with
  | nil=>rfl
  | cons b r=>simpa[V.pure,Own.plain]using hpl
 ·rw[hal]
  refine b0r.accR (h.mono fun v h' a' hv=>⟨h',a',e,l,rfl,rfl,hv,hok,hlen,hpl,rfl⟩)
def b2j(l:List ByteArray):List ByteArray:=l.mergeSort fun a b=>decide (a.data.toList≤b.data.toList)
theorem b2H(l:List ByteArray):(b2j l).Perm l:=List.mergeSort_perm l _
theorem b4C(l:List ByteArray):(b2j l).length=l.length:=(b2H l).length_eq
end Go.Vg
namespace Go.Proofs.YtighfcpaplmaiaaGreatDoor
open Go Go.Vg Go.Proofs Go.Shelf Go.RowKit Go.Sort
theorem c8x(l:List ByteArray):(b2j l).map (·.data.toList)=(l.map (·.data.toList)).mergeSort fun x y=>decide (x≤y):=by
 unfold b2j
 rw[List.map_mergeSort]
 intro a _ b _
 rfl
theorem b9j:∀ l:List ByteArray,(l.map b0p).flatten=l.map V.str
 | []=>rfl
 | x::r=>by simp only[g9o,g9X,b9j r];rfl
theorem b6u{h0 z:List VObj}{a0 y:List Nat}{v:V}{l:List ByteArray}{K:b1z}(hv:b3X 9 h0.length a0.length z y v (l.map b0p))
  (hK:∀ z',b3X 9 h0.length a0.length z' y v ((b2j l).map b0p)→z'.length=z.length→f3q z z'→K (.tuple []) (h0++z') (a0++y)) :
  b0r (envV 28) 70 [v] (h0++z) (a0++y) K:=by
 intro G w0 w vals hr ha
 obtain⟨u,vs,rfl,hu,ha⟩:=ha.cons
 rw[ha.nil]
 rcases hv with⟨hl,e0,rfl⟩ | ⟨h1,j,k,gen,rfl,h3,h4⟩
 ·have hl':l=[]:=by simpa using hl
  subst hl'
  have hu2:=hu.nil_is.1
  subst hu2
  refine(Any.sort_Strings_none Tryz.lays192 none 0 w).mono ?_
  rintro e w' ⟨rfl,rfl⟩
  exact .inl ⟨_,rfl,_,_,_,G,hK z (.inl ⟨by simp[b2j],e0,rfl⟩) rfl f3q.refl,Ext.refl _ _,hr,.tuple _ _ rfl (by simp)⟩
 ·rw[g9r]at hu hK
  rw[b9j]at h3
  have hg:(h0++z)[h0.length+j]? = some (.vec (a0.length+k) gen 9 (l.map V.str)):=by rw[b3g];exact h3
  obtain⟨hak,hgg,b,hi,hρ,hch,hcells⟩:=hr.vs.at_ _ _ _ _ _ hg
  cases hu with
  | vec _ _ _ _ _ b' off cap hvv g1 g2 =>
  obtain⟨n,q1,q2,q3⟩:=hvv
  rw[hak]at q1
  cases q1
  obtain⟨b1,hi1,q4,q5,q6,q7,q8⟩:=q3 rfl
  rw[hρ]at q4
  cases q4
  subst q7 q8
  have hce:Tryz.prog.cellsOf 9=1:=by kernel_rfl
  rw[show(envV 28).P=Tryz.prog from rfl,hce,Nat.mul_one]at q5
  subst q5
  have hlp:0<l.length:=by
   rcases Nat.eq_zero_or_pos l.length with h | h
   ·exact absurd (by rw[List.length_eq_zero_iff.1 h];rfl) h1
   ·exact h
  have hhi:0<hi:=by omega
  obtain⟨⟨c,t,hb,hcz⟩,hloose,hFn,hw0⟩:=hr.reg _ b 0 hi hρ hhi
  have hblk:b<w.heap.size:=(g9x.1 hb).1
  have hget:∀ (m:Nat) x,l[m]? = some x→w.cell? ⟨b,m,none⟩=some (.string x)∧x.size≤1152921504606846976:=fun m x hm=>by
   obtain⟨v,r1,r2,r3⟩:=hcells m (.str x) (by rw[g9q,hm];rfl)
   cases r2 with
   | str _ hs=>exact⟨r1,hs⟩
  have hH:Holds encStr w b 0 (l.map (·.data.toList)).toArray:=by
   intro m hm
   have hml:m<l.length:=by simpa using hm
   have:=hget m l[m] (g9b hml)
   rw[g9s]
   refine⟨?_,by simp[World.frozen?,hb]⟩
   rw[this.1,getElem!_pos _ m hm]
   simp[encStr]
  have hcall:=Any.sort_Strings Tryz.lays192 b 0 hi (l.map (·.data.toList)) w hH hblk (by rw[g9r];omega)
  rw[g9r]at hcall
  refine hcall.mono ?_
  rintro e w' ⟨rfl,n,os,rfl⟩
  rw[←c8x]
  have hsl:=b4C l
  have hmem:∀ x∈b2j l,x.size≤1152921504606846976:=fun x hx=>by
   obtain⟨m,hm,rfl⟩:=h0c ((b2H l).mem_iff.1 hx)
   exact(hget m _ (g9b hm)).2
  have hsz2:((b2j l).map (·.data.toList)).toArray.size=l.length:=by simp[hsl]
  obtain⟨hx,hr'⟩:=hr.vecStep2 (gen':=gen) (cs':=(b2j l).map V.str) (w':=putRow encStr (Sort.ahead w n) b 0 ((b2j l).map (·.data.toList)).toArray) (c':=putCells encStr 0 ((b2j l).map (·.data.toList)).toArray c) hg hρ hhi (g9m _) hb (by rw[g9r,hsl];exact q6) (fun m x hm=>by
    rw[g9q]at hm
    obtain⟨s,hs,rfl⟩:=g9l.1 hm
    have hml:=b0w hs
    have hmc:m<c.size:=by omega
    refine⟨.string s,?_,.str _ (hmem s (g9f hs)),rfl⟩
    simp only[putCells,Array.getElem?_mapIdx,g9p hmc,g9z]
    rw[if_pos ⟨Nat.zero_le _,by rw[hsz2];omega⟩,Nat.sub_zero,getElem!_pos _ m (by rw[hsz2];omega)]
    obtain⟨hm2,rfl⟩:=g8Y.1 hs
    simp[encStr]) rfl rfl rfl (by simp[putRow,mapBlock,Sort.ahead]) (fun k' hk'=>by
    simp only[putRow,mapBlock,Array.getElem?_modify]
    rw[if_neg (Ne.symm hk')];rfl) (by
    simp only[putRow,mapBlock,Array.getElem?_modify]
    rw[if_pos trivial,show(Sort.ahead w n).heap=w.heap from rfl,hb];rfl) (by simp[putCells]) (fun m hm=>by
    simp only[putCells,Array.getElem?_mapIdx]
    cases hcj:c[m]? with
    | none=>rfl
    | some y =>
     simp only[g9z]
     rw[if_neg]
     intro h
     have:=h.2
     rw[hsz2]at this
     omega)
  have hset:(a0++y).set (a0.length+k) gen=a0++y:=b3j hak
  rw[hset]at hx hr'
  have hst:(h0++z).set (h0.length+j) (.vec (a0.length+k) gen 9 ((b2j l).map V.str))=h0++z.set j (.vec (a0.length+k) gen 9 ((b2j l).map V.str)):=by
   rw[g9J _ _ (by omega)];congr 2;omega
  rw[hst]at hr'
  have hj:=b0w h3
  refine .inl ⟨_,rfl,_,_,_,G,hK _ (.inr ⟨?_,j,k,gen,?_,?_,h4⟩) (by simp) (fun i ob hi hiv=>?_),hx,hr'.belowW ⟨rfl,rfl,rfl,?_,fun i hi=>?_⟩,.tuple _ _ rfl (by simp)⟩
  ·intro h
   have:=congrArg List.length h
   rw[g9r,hsl,g9F]at this
   omega
  ·rw[g9r,hsl]
  ·rw[g9e hj,b9j]
  ·by_cases ei:i=j
   ·subst ei;rw[h3]at hi;cases hi;cases hiv
   ·rw[g9i (Ne.symm ei)];exact hi
  ·simp[putRow,mapBlock,Sort.ahead]
  ·exact heap_grow_old _ _ hi
end Go.Proofs.YtighfcpaplmaiaaGreatDoor
namespace Go.Vg
def c7l(B:List (ByteArray×ByteArray))(cls:ByteArray)(p:ByteArray×ByteArray):Bool:=(b3D B p.1).1.any fun x=>decide (x=cls)
def d6K(B:List (ByteArray×ByteArray))(cls:ByteArray):List ByteArray:=b2j ((B.filter (c7l B cls)).map (·.1))
def c8h(p:ByteArray×ByteArray):List V:=[.str p.1]
theorem b1l{N:Nat}{x:V}:tell N x x:=by
 have refl1:∀ x,Vg.tell1 N x x:=fun x=>by
  unfold Vg.tell1
  split <;> simp_all
 have reflL:∀ cs,b6T N cs cs:=fun cs=>by
  induction cs with
  | nil=>trivial
  | cons x r ih=>exact And.intro (refl1 x) ih
 cases x
 case agg cs=>exact reflL cs
 all_goals(unfold tell;first | exact refl1 _ | trivial | simp[Vg.tell1])
end Go.Vg
namespace Go.Proofs.YtighfcpaplmaiaaGreatDoor
open Go Go.Vg Go.Proofs
theorem b3k:b0W Tryz.prog 9=true:=by kernel_rfl
theorem b3s{l:List ByteArray}:∀ el∈l.map b0p,el.length=(envV 28).P.cellsOf 9:=by
 intro el h
 obtain⟨x,_,rfl⟩:=h0k.1 h
 have hc:Tryz.prog.cellsOf 9=1:=by kernel_rfl
 rw[show(envV 28).P=Tryz.prog from rfl,hc];rfl
theorem g0e(B:List (ByteArray×ByteArray))(o:Own)(ds:V)(p b m:Nat)(h:List VObj)(a:List Nat)(cls:ByteArray)(hp:h[p]? = some (.cells [.slice o 9 (B.map c8h),.map b,.map m,ds]))(hb:h[b]? = some (.map (b6k B)))
  (hB:B.length≤1000000) (hds:ds.some? = true) {K:b1z} (hK:K (sl 9 ((d6K B cls).map b0p)) h a) :
  b0r env 64 [.ptr p 0,.str cls] h a K:=by
 refine b0r.ofV (tv:=28) (b0r.accR ?_)
 refine b0A (fn:=Tryz.f64) Tryz.func64 rfl (by rw[Tryz.ntmps64];simp) ?_
 simp -implicitDefEqProofs only[go_sem,Tryz.f64,b0K hp,hp]
 intro _ _
 refine b0n (β:=V×List VObj×List Nat) B (fun pre b=>⟨[(17,.int .i64 pre.length),(16,.int .i64 B.length),(15,sl 9 (B.map c8h)),(5,b.1),(0,.ptr p 0),(1,.str cls)],h++b.2.1,a++b.2.2⟩)
  (fun pre post b=>b3X 9 h.length a.length b.2.1 b.2.2 b.1 (((pre.filter (c7l B cls)).map (·.1)).map b0p)) (.slice .nil 0 [],[],[]) ?_ b3X.nil ?_ ?_
 ·simp -implicitDefEqProofs only[go_sem]
  rfl
 ·rintro⟨v,z,y⟩ hacc
  simp only at hacc ⊢
  simp -implicitDefEqProofs only[go_sem]
  refine b6u hacc fun z' hacc' _ _=>?_
  simp -implicitDefEqProofs only[go_sem]
  refine⟨z',y,_,_,rfl,rfl,hacc',b3k,b3s,b5F _,hK⟩
 ·rintro pre x post ⟨v,z,y⟩ hx hacc
  have hpl:B.length=pre.length+1+post.length:=by rw[hx];simp;omega
  have hgx:(B.map c8h).getD (pre.length:Int).toNat []=c8h x:=by rw[hx];simp[g8Z]
  have hlt:((pre.length:Int)<B.length)=True:=by simp;omega
  have hw:IntKind.i64.wrap (↑pre.length+1)=↑(pre.length+1):=b0g (by omega)
  simp only at hacc ⊢
  have hfl:(pre.filter (c7l B cls)).length≤pre.length:=h0j _ _
  have hfs:(((pre++[x]).filter (c7l B cls)).map (·.1)).map b0p=((pre.filter (c7l B cls)).map (·.1)).map b0p++if c7l B cls x=true then [b0p x.1]else []:=by
   rw[List.filter_append,g9I,g9I]
   congr 1
   by_cases hs:c7l B cls x=true
   ·simp[List.filter_cons,hs]
   ·simp[List.filter_cons,hs]
  have hsb:c7l B cls x=(b3D B x.1).1.any fun s=>decide (s=cls):=rfl
  have hbl:(envV 28).P.bytesOf 9=16:=by
   rw[show(envV 28).P=Tryz.prog from rfl];kernel_rfl
  simp -implicitDefEqProofs only[go_sem,hgx,hlt,c8h]
  refine b0r.toV (c1V B _ ds p b m _ _ x.1 (b0K hp) (b0K hb) hB (by cases o <;> rfl) hds ?_)
  simp -implicitDefEqProofs only[go_sem]
  intro _ _
  have hchl:=b8F B x.1
  generalize(b3D B x.1).1=ch at hsb hchl ⊢
  refine b0n (β:=Unit) ch (fun q _=>⟨[(29,.int .i64 q.length),(28,.int .i64 ch.length),(27,sl 9 (ch.map b0p)),(7,.str x.1),(17,.int .i64 pre.length),(16,.int .i64 B.length),(15,sl 9 (B.map c8h)),(5,v),(0,.ptr p 0),(1,.str cls)],h++z,a++y⟩)
   (fun q r _=>c7l B cls x=r.any fun s=>decide (s=cls)) () ?_ hsb ?_ ?_
  ·simp -implicitDefEqProofs only[go_sem]
   exact⟨rfl,by simp⟩
  ·intro _ he
   have hsf:c7l B cls x=false:=he
   rw[hsf,if_neg (by simp),g9B]at hfs
   simp -implicitDefEqProofs only[go_sem]
   rw[hfs]
   exact⟨(v,z,y),hacc,⟨hw,b1l⟩,b0s,by simp -implicitDefEqProofs only[go_sem],by simp,.inl (by simp)⟩
  ·rintro q s r _ hq he
   have hql:ch.length=q.length+1+r.length:=by rw[hq];simp;omega
   have hgq:(ch.map b0p).getD (q.length:Int).toNat []=b0p s:=by rw[hq];simp[g8Z]
   have hltq:((q.length:Int)<ch.length)=True:=by simp;omega
   have hwq:IntKind.i64.wrap (↑q.length+1)=↑(q.length+1):=b0g (by omega)
   simp -implicitDefEqProofs only[go_sem,hgq,hltq,b0p,hacc.asl]
   refine⟨fun hsc=>?_,fun hsc=>⟨(),by rw[he,List.any_cons,g9v hsc,g9U],hwq,by simp⟩⟩
   have hst:c7l B cls x=true:=by rw[he,List.any_cons,g9D hsc,Bool.true_or]
   rw[hst,if_pos rfl]at hfs
   refine b4F hacc b3s b3k (by rw[hbl,g9r,g9r];omega) fun v' z' y' hacc' hz1 hz2 hy1=>?_
   simp -implicitDefEqProofs only[go_sem]
   rw[hfs]
   exact⟨(v',z',y'),hacc',⟨hw,b1l⟩,b0s,by simp -implicitDefEqProofs only[go_sem],by simp,.inl (by simp)⟩
end Go.Proofs.YtighfcpaplmaiaaGreatDoor
namespace Go.Vg
def b8S(u:List Un)(cls:ByteArray):List ByteArray:=d6K (b0D (btU u) (b0f u 0)) cls
def b5n(d e:Dl):Bool:=decide (d.kind=e.kind) && (decide (d.owner=e.owner) && decide (d.name=e.name))
def c0z(d:Dl):Bool:=decide (d.kind=2) || decide (d.kind=4)
def b1V:List Dl→List Dl→Option Dl
 | _,[]=>none
 | acc,d::r=>if c0z d=true then if(acc.any (b5n d))=true then some d else b1V (acc++[d]) r else b1V acc r
def b4a(u:List Un)(B:List (ByteArray×ByteArray))(d:Dl):Bool:=decide (d.kind=2) && (!decide (btU u d=⟨#[]⟩) && !(b1B B (btU u d)).isSome)
def b3z(B:List (ByteArray×ByteArray))(d:Dl):Bool:=decide (d.kind=2) && (!decide ((b3D B d.name).2=⟨#[]⟩) && decide ((b3D B d.name).2=d.name))
def baU(u:List Un)(d:Dl):Int:=match u[d.unit.toNat]? with
 | some x=>match(b0o x.tree)[d.node.toNat]? with
  | some n=>(b4n n.kids (d.node+1)).2
  | none=>0
 | none=>0
def b3p(u:List Un)(l:List Dl):Int×Int×Int:=match b1V [] l with
 | some d=>(6,d.unit,d.node)
 | none=>match l.find? (b4a u (b0D (btU u) l))with
  | some d=>(9,d.unit,baU u d)
  | none=>match l.find? (b3z (b0D (btU u) l))with
   | some d=>(10,d.unit,d.node)
   | none=>(0,0,0)
abbrev KD:=Int×ByteArray×ByteArray
def f7k(k:KD):List V:=[.int .i64 k.1,.str k.2.1,.str k.2.2,.int .i64 0,.int .i64 0]
theorem d1m:KeyA [1,0,0,1,1] f7k:=by
 refine⟨fun a b=>rfl,fun a b=>?_⟩
 obtain⟨a1,a2,a3⟩:=a
 obtain⟨b1,b2,b3⟩:=b
 simp only[f7k,eqL,eq1,if_true,h0b,Option.some.injEq,decide_true]
 rw[h0g]
 simp
theorem c7o{κ β:Type}[DecidableEq κ]{k:κ}{v:β}:∀ {M:List (κ×β)},b1s M k=none→b3W M k v=M++[(k,v)]
 | [],_=>rfl
 | p::r,h=>by
  rw[b1s]at h
  split at h
  ·cases h
  ·rename_i hk
   rw[b3W,if_neg hk,c7o h];rfl
def c0A(l:List Dl):List (KD×Unit):=l.map fun d=>((d.kind,d.owner,d.name),())
def c1E(l:List Dl):List (V×V):=b3V (fun a => .agg (f7k a)) (fun _:Unit => .bool true) (c0A l)
theorem b9r(d:Dl):∀ l:List Dl,(b1s (c0A l) (d.kind,d.owner,d.name)).isSome=l.any (b5n d)
 | []=>rfl
 | e::r=>by
  show(b1s (((e.kind,e.owner,e.name),())::c0A r) (d.kind,d.owner,d.name)).isSome=_
  rw[b1s,List.any_cons]
  by_cases h:(d.kind,d.owner,d.name)=(e.kind,e.owner,e.name)
  ·rw[if_pos h]
   have:b5n d e=true:=by
    simp only[Prod.mk.injEq]at h
    simp[b5n,h]
   rw[this];rfl
  ·rw[if_neg h,b9r d r]
   have:b5n d e=false:=by
    simp only[Prod.mk.injEq]at h
    cases hs:b5n d e with
    | false=>rfl
    | true =>
     simp only[b5n,g9g,g9h]at hs
     exact absurd hs h
   rw[this,g9U]
def c2U(p:Int×Int×Int):V := .tuple [.int .i64 p.1,.agg [.int .i64 p.2.1,.int .i64 p.2.2]]
end Go.Vg
namespace Go.Proofs.YtighfcpaplmaiaaGreatDoor
open Go Go.Vg Go.Proofs
theorem c5i:b3f Tryz.prog 54=some [1,0,0,1,1]:=by kernel_rfl
theorem f0V{acc:List Dl}{d:Dl}{K:V→Prop}:b1G env 4 (b1f [1,0,0,1,1] [.int .i64 d.kind,.str d.owner,.str d.name,.int .i64 0,.int .i64 0] (c1E acc) 0) false K=K (.bool (acc.any (b5n d))):=by
 have h:=d3t (E:=env) (et:=4) (ve:=fun _:Unit=>V.bool true) (z := .bool false) d1m (M:=c0A acc) (k:=((d.kind,d.owner,d.name):KD)) (K:=K) (by kernel_rfl) (by kernel_rfl)
 have e:b1G env 4 (b1f [1,0,0,1,1] [.int .i64 d.kind,.str d.owner,.str d.name,.int .i64 0,.int .i64 0] (c1E acc) 0) false K=_:=h
 rw[e,←b9r d acc]
 cases b1s (c0A acc) (d.kind,d.owner,d.name) <;> rfl
theorem f3w{acc:List Dl}{d:Dl}{h:List VObj}{id:Nat}{L:List VObj→Prop}(hn:acc.any (b5n d)=false):b3I h id (c1E acc) (.agg [.int .i64 d.kind,.str d.owner,.str d.name,.int .i64 0,.int .i64 0]) (.bool true) (b1f [1,0,0,1,1] [.int .i64 d.kind,.str d.owner,.str d.name,.int .i64 0,.int .i64 0] (c1E acc) 0) L=L (h.set id (.map (c1E (acc++[d])))):=by
 have h1:b1s (c0A acc) (d.kind,d.owner,d.name)=none:=by
  have:=b9r d acc
  rw[hn]at this
  cases hg:b1s (c0A acc) (d.kind,d.owner,d.name)with
  | none=>rfl
  | some v=>rw[hg]at this;cases this
 have h2:c1E (acc++[d])=b3V (fun a => .agg (f7k a)) (fun _:Unit => .bool true) (b3W (c0A acc) (d.kind,d.owner,d.name) ()):=by
  rw[c7o h1,c1E,c0A,g9I];rfl
 rw[h2]
 exact c7E (ve:=fun _:Unit=>V.bool true) d1m (M:=c0A acc) (k:=((d.kind,d.owner,d.name):KD)) (v:=())
theorem d7a(k ka:Nat)(acc:List Dl):ltP k ka (c1E acc)=true:=b7y (fun _=>rfl) (fun _=>rfl) k ka _
theorem g4f(u:List Un)(hu:b2T u)(cls:ByteArray):b0u env 34 [sl 70 (u.map Un.enc),.str cls] (sl 9 ((b8S u cls).map b0p)):=by
 have hdl:=b0L u 0 fun y hy=>(hu.2 y hy).1
 have hul:=hu.1
 have hbl:=b1i (btU u) (b0f u 0)
 refine b0i (fn:=Tryz.f34) Tryz.func34 rfl (by rw[Tryz.ntmps34];simp) (by simp -implicitDefEqProofs only[go_sem];exact b0x _) (by simp -implicitDefEqProofs only[go_sem]) ?_
 simp -implicitDefEqProofs only[go_sem,Tryz.f34]
 refine d8Y u hu ?_
 simp -implicitDefEqProofs only[go_sem]
 refine g0e (b0D (btU u) (b0f u 0)) (.arr 0) (sl 54 ((b0f u 0).map Dl.enc)) _ _ 1 _ _ cls rfl rfl (by omega) (by rfl) ?_
 simp -implicitDefEqProofs only[go_sem]
 rfl
theorem f3z(u:List Un)(hu:b2T u):b0u env 88 [sl 70 (u.map Un.enc)] (c2U (b3p u (b0f u 0))):=by
 have hdl:=b0L u 0 fun y hy=>(hu.2 y hy).1
 have hul:=hu.1
 have hbl:=b1i (btU u) (b0f u 0)
 have hat:∀ d∈b0f u 0,_:=fun d hd=>b4y u 0 d hd
 refine b0i (fn:=Tryz.f88) Tryz.func88 rfl (by rw[Tryz.ntmps88];simp) (by simp -implicitDefEqProofs only[go_sem];exact b0x _) (by simp -implicitDefEqProofs only[go_sem,c2U]) ?_
 simp -implicitDefEqProofs only[go_sem,Tryz.f88]
 refine d8Y u hu ?_
 simp -implicitDefEqProofs only[go_sem]
 intro _ _
 have hBB:=b1i (btU u) (b0f u 0)
 generalize hdd:b0f u 0=dl at hat hdl hbl ⊢
 generalize hB:b0D (btU u) dl=B at hbl ⊢
 obtain⟨goal,hgoal⟩:∃ g,b3p u dl=g:=⟨_,rfl⟩
 rw[hgoal]
 have hg1:=hgoal
 unfold b3p at hg1
 rw[hB]at hg1
 refine b0n (β:=List Dl) dl (fun pre acc=>⟨[(27,.int .i64 pre.length),(26,.int .i64 dl.length),(25,sl 54 (dl.map Dl.enc)),(5,.map 4),(4,.ptr 3 0),(3,.ptr 0 0),(2,.int .i64 0),(0,sl 70 (u.map Un.enc))],
   [.cells [.int .i64 0,.int .i64 0],.map (b6k B),.map (mapM (b3w dl)),.cells [.slice (.arr 0) 9 (B.map fun p=>[V.str p.1]),.map 1,.map 2,sl 54 (dl.map Dl.enc)],.map (c1E acc)],[B.length]⟩)
  (fun pre post acc=>b1V [] dl=b1V acc post) [] ?_ rfl ?_ ?_
 ·simp -implicitDefEqProofs only[go_sem]
  exact⟨rfl,rfl⟩
 ·intro acc he
  simp -implicitDefEqProofs only[go_sem]
  intro _ _
  rw[he,b1V]at hg1
  simp only at hg1
  refine b0n (β:=Unit) dl (fun pre _=>⟨[(59,.int .i64 pre.length),(58,.int .i64 dl.length),(57,sl 54 (dl.map Dl.enc)),(4,.ptr 3 0),(3,.ptr 0 0),(2,.int .i64 0),(0,sl 70 (u.map Un.enc))],
    [.cells [.int .i64 0,.int .i64 0],.map (b6k B),.map (mapM (b3w dl)),.cells [.slice (.arr 0) 9 (B.map fun p=>[V.str p.1]),.map 1,.map 2,sl 54 (dl.map Dl.enc)]],[B.length]⟩)
   (fun pre post _=>dl.find? (b4a u B)=post.find? (b4a u B)) () ?_ rfl ?_ ?_
  ·simp -implicitDefEqProofs only[go_sem]
   rw[b7O,b7P,b2i,b0m _ _ _ (b0x u),b0m _ _ _ (b0G dl)]
   exact⟨rfl,.inr ⟨rfl,rfl⟩⟩
  ·intro _ he2
   rw[he2,List.find?_nil]at hg1
   simp only at hg1
   simp -implicitDefEqProofs only[go_sem]
   intro _ _
   refine b0n (β:=Unit) dl (fun pre _=>⟨[(101,.int .i64 pre.length),(100,.int .i64 dl.length),(99,sl 54 (dl.map Dl.enc)),(4,.ptr 3 0),(3,.ptr 0 0),(2,.int .i64 0)],
     [.cells [.int .i64 0,.int .i64 0],.map (b6k B),.map (mapM (b3w dl)),.cells [.slice (.arr 0) 9 (B.map fun p=>[V.str p.1]),.map 1,.map 2,sl 54 (dl.map Dl.enc)]],[B.length]⟩)
    (fun pre post _=>dl.find? (b3z B)=post.find? (b3z B)) () ?_ rfl ?_ ?_
   ·simp -implicitDefEqProofs only[go_sem]
    rfl
   ·intro _ he3
    rw[he3,List.find?_nil]at hg1
    simp only at hg1
    simp -implicitDefEqProofs only[go_sem]
    rw[←hg1];rfl
   ·rintro pre d post _ hx he3
    have hpl:dl.length=pre.length+1+post.length:=by rw[hx];simp;omega
    have hgx:(dl.map Dl.enc).getD (pre.length:Int).toNat []=d.enc:=by rw[hx];simp[g8Z]
    have hlt:((pre.length:Int)<dl.length)=True:=by simp;omega
    have hw:IntKind.i64.wrap (↑pre.length+1)=↑(pre.length+1):=b0g (by omega)
    have hdp:=b0m 4 1 _ (b0G dl)
    rw[g9S]at he3
    have hir:b3z B d=(decide (d.kind=2) && (!decide ((b3D B d.name).2=⟨#[]⟩) && decide ((b3D B d.name).2=d.name))):=rfl
    simp -implicitDefEqProofs only[go_sem,hgx,hlt]
    refine⟨fun h2=>?_,fun h2=>?_⟩
    ·have h2':¬ d.kind=2:=by simpa using h2
     have:b3z B d=false:=by rw[hir,g9v h2',g9Q]
     rw[this]at he3
     rw[b7O,b7P,b2i,hdp]
     exact⟨(),he3,hw,.inr ⟨rfl,rfl⟩⟩
    ·have h2':d.kind=2:=by simpa using h2
     rw[g9D h2',g9O]at hir
     refine c1V B _ _ 3 1 2 _ _ d.name rfl rfl (by omega) (by rfl) (by rfl) ?_
     simp -implicitDefEqProofs only[go_sem]
     generalize(b3D B d.name).2=en at hir ⊢
     have hno:b3z B d=false→(∃ b:Unit,dl.find? (b3z B)=post.find? (b3z B)∧IntKind.i64.wrap (↑pre.length+1)=↑(pre.length+1)∧(False∨(ltP 4 1 (b6k B) && (ltP 4 1 (mapM (b3w dl)) && (b6J 4 1 (List.map (fun p=>[V.str p.fst]) B) && b6J 4 1 (List.map Dl.enc dl))))=true∧b6J 4 1 (List.map Dl.enc dl)=true)):=fun h=>by
      rw[h]at he3
      rw[b7O,b7P,b2i,hdp]
      exact⟨(),he3,hw,.inr ⟨rfl,rfl⟩⟩
     refine⟨fun hen=>⟨fun hed=>?_,fun hed=>hno (by rw[hir,g9v hed,Bool.and_false])⟩,fun hen=>hno (by rw[hir,hen,g9Q])⟩
     have:b3z B d=true:=by rw[hir,hen,g9D hed];rfl
     rw[this]at he3
     rw[he3]at hg1
     refine b0h (cs:=[]) b0v (by kernel_rfl) ?_
     simp -implicitDefEqProofs only[go_sem]
     rw[←hg1];rfl
  ·rintro pre d post _ hx he2
   have hpl:dl.length=pre.length+1+post.length:=by rw[hx];simp;omega
   have hgx:(dl.map Dl.enc).getD (pre.length:Int).toNat []=d.enc:=by rw[hx];simp[g8Z]
   have hlt:((pre.length:Int)<dl.length)=True:=by simp;omega
   have hw:IntKind.i64.wrap (↑pre.length+1)=↑(pre.length+1):=b0g (by omega)
   have hup:=b0m 4 1 _ (b0x u)
   have hdp:=b0m 4 1 _ (b0G dl)
   obtain⟨un,x,e1,e2,e3,nd,n,e4,e5,e6,e7,e8⟩:=hat d (by rw[hx];simp)
   rw[g9S]at he2
   have hnb:b4a u B d=(decide (d.kind=2) && (!decide (btU u d=⟨#[]⟩) && !(b1B B (btU u d)).isSome)):=rfl
   simp -implicitDefEqProofs only[go_sem,hgx,hlt]
   refine⟨fun h2=>?_,fun h2=>?_⟩
   ·have h2':¬ d.kind=2:=by simpa using h2
    have:b4a u B d=false:=by rw[hnb,g9v h2',g9Q]
    rw[this]at he2
    rw[b7O,b7P,b2i,hdp,hup]
    exact⟨(),he2,hw,.inr ⟨rfl,rfl⟩⟩
   ·have h2':d.kind=2:=by simpa using h2
    rw[g9D h2',g9O]at hnb
    have hxm:x∈u:=g9f e2
    have hnm:n∈b0o x.tree:=g9f e5
    have hnl:=b6d x.tree n hnm
    have hxl:=(hu.2 x hxm).1
    have hbs:=f3r u hu un nd x n e2 e5 (fun kk hk=>by
     obtain⟨k,t,g,ks⟩:=n
     have:=c3u (k:=k) (t:=t) (g:=g) (ks:=ks) (x:=kk) hk;omega) (by
     obtain⟨k,t,g,ks⟩:=n
     have:=b3E ks
     rw[b0Y]at hnl
     simp only[Nd.kids];omega)
    have hb:(b4n n.kids (nd+1)).1.text=btU u d:=by
     unfold btU
     rw[e1,e4]
     simp only[g9s,g9j,e2,e5]
     rw[b9K n.kids (nd+1) 0]
    have hba:(b4n n.kids (nd+1)).2=baU u d:=by
     unfold baU
     rw[e1,e4]
     simp only[g9s,g9j,e2,e5]
    rw[e1,e4,g9s,g9s]
    refine hbs.calls (by simp -implicitDefEqProofs only[go_sem]) ?_
    generalize b4n n.kids (nd+1)=bb at hb hba ⊢
    obtain⟨⟨bk,bx,bg,bks⟩,bi⟩:=bb
    replace hb:bx=btU u d:=hb
    replace hba:bi=baU u d:=hba
    simp -implicitDefEqProofs only[go_sem,hb,hba,c0p]
    refine b0h (cs:=[]) b0v (by kernel_rfl) ?_
    simp -implicitDefEqProofs only[go_sem,hb,hba,c0p]
    have hno:b4a u B d=false→(∃ b:Unit,dl.find? (b4a u B)=post.find? (b4a u B)∧IntKind.i64.wrap (↑pre.length+1)=↑(pre.length+1)∧(False∨(ltP 4 1 (b6k B) && (ltP 4 1 (mapM (b3w dl)) && (b6J 4 1 (List.map (fun p=>[V.str p.1]) B) && b6J 4 1 (List.map Dl.enc dl))))=true∧(b6J 4 1 (List.map Dl.enc dl) && b6J 4 1 (List.map Un.enc u))=true)):=fun h=>by
     rw[h]at he2
     rw[b7O,b7P,b2i,hdp,hup]
     exact⟨(),he2,hw,.inr ⟨rfl,rfl⟩⟩
    refine⟨fun hen=>⟨fun hed=>?_,fun hed=>hno (by rw[hnb,hed,Bool.and_false])⟩,fun hen=>hno (by rw[hnb,hen,g9Q])⟩
    have:b4a u B d=true:=by rw[hnb,hen,hed];rfl
    rw[this]at he2
    rw[he2]at hg1
    refine b0h (cs:=[]) b0v (by kernel_rfl) ?_
    simp -implicitDefEqProofs only[go_sem]
    rw[←hg1];rfl
 ·rintro pre d post acc hx he
  have hpl:dl.length=pre.length+1+post.length:=by rw[hx];simp;omega
  have hgx:(dl.map Dl.enc).getD (pre.length:Int).toNat []=d.enc:=by rw[hx];simp[g8Z]
  have hlt:((pre.length:Int)<dl.length)=True:=by simp;omega
  have hw:IntKind.i64.wrap (↑pre.length+1)=↑(pre.length+1):=b0g (by omega)
  rw[b1V]at he
  have hup:=b0m 5 1 _ (b0x u)
  have hdp:=b0m 5 1 _ (b0G dl)
  by_cases hcm:c0z d=true
  ·have hk:d.kind=2∨d.kind=4:=by simpa[c0z]using hcm
   rw[if_pos hcm]at he
   have hlk:=@f0V acc d
   have hst:=@f3w acc d
   rcases hk with hk | hk
   all_goals(
    rw[hk]at hlk hst
    simp -implicitDefEqProofs only[go_sem,hgx,hlt,c5i,hk,hlk]
    refine⟨fun ha=>?_,fun ha=>?_⟩
    ·rw[if_pos ha]at he
     rw[he]at hg1
     refine b0h (cs:=[]) b0v (by kernel_rfl) ?_
     simp -implicitDefEqProofs only[go_sem]
     rw[←hg1];rfl
    ·rw[if_neg (by rw[ha];simp)]at he
     have hst':=fun h id L=>@hst h id L ha
     simp -implicitDefEqProofs only[go_sem,hgx,hlt,c5i,hk,hst']
     refine⟨_,he,hw,rfl,.inr ?_⟩
     rw[b7O,b7P,b2i,hdp,hup,d7a]
     exact⟨rfl,rfl⟩)
  ·rw[if_neg hcm]at he
   have hk:¬ d.kind=2∧¬ d.kind=4:=by simpa[c0z]using hcm
   simp -implicitDefEqProofs only[go_sem,hgx,hlt,c5i,hk.1,hk.2]
   refine⟨_,he,hw,rfl,.inr ?_⟩
   rw[b7O,b7P,b2i,hdp,hup,d7a]
   exact⟨rfl,rfl⟩
end Go.Proofs.YtighfcpaplmaiaaGreatDoor
