import Derived.Test.YtighfcpaplmaiaaGreatDoorUdK
import Derived.Test.YtighfcpaplmaiaaGreatDoorUeD
import Derived.Test.YtighfcpaplmaiaaGreatDoorUaA
set_option linter.unusedVariables false
set_option linter.unusedSimpArgs false
set_option maxRecDepth 20000
namespace Go.Vg
theorem b3X.shape{e n0 m0:Nat}{z:List VObj}{y:List Nat}{v:V}{l:List (List V)}(h:b3X e n0 m0 z y v l):v.some? = true∧cellsV v=[v]∧v.cell=true:=by
 rcases h with⟨_,e0,rfl⟩ | ⟨_,j,k,gen,rfl,_,_⟩
 ·exact⟨rfl,rfl,rfl⟩
 ·exact⟨rfl,rfl,rfl⟩
def g6n(P:Program)(r:V):b1z:=fun v h' _=>share v=r∨∃ id k gen len e cs,v = .vec id k gen len e∧h'[id]? = some (.vec k gen e cs)∧0<cs.length∧b0W P e=true∧len * P.cellsOf e≤cs.length∧sl e (b2X (P.cellsOf e) len cs)=r
theorem c8M{E:Env}{f:FuncId}{args:List V}{r:V}(hp:b1a args=true)(hr:r.pure=true)(h:b0r E f args [] [] (g6n E.P r))(hal:E.alive=E:=by exact rfl):b0u E f args r:=by
 refine⟨hp,hr,?_⟩
 rw[hal]
 intro G w0 w vals hrel ha
 refine(h G w0 w vals hrel ha).mono fun e' w' hg=>?_
 rcases hg with⟨val,he,v,heap',arr',G',hv,hx,hr',hrv⟩ | hd
 ·rcases hv with rfl | ⟨id,k,gen,len,e,cs,rfl,h1,h2,h3,h4,rfl⟩
  ·exact .inl ⟨val,he,_,_,_,G',rfl,hx,hr',hrv.share⟩
  ·obtain⟨G'',b,hi,g1,g2,g3,g4,g5⟩:=hr'.freezeV h1 h2
   exact .inl ⟨val,he,_,_,_,G'',rfl,hx.trans g3,g4,hrv.thawV g2 g1 h3 h4 g5⟩
 ·exact .inr hd
def d7H(a:List Ed)(x:Ed):List Ed:=if a.getLast? = some x then a else a++[x]
def b6w(l:List Ed):List Ed:=l.foldl d7H []
theorem c3m(l:List Ed)(x:Ed):b6w (l++[x])=d7H (b6w l) x:=by simp[b6w]
theorem f1d(a:List Ed)(x:Ed):(d7H a x).length≤a.length+1:=by
 unfold d7H;split <;> simp
theorem d2k:∀ (l a:List Ed),(l.foldl d7H a).length≤a.length+l.length
 | [],a=>by simp
 | x::r,a=>by
  have h1:=d2k r (d7H a x)
  have h2:=f1d a x
  simp only[g9G,g9k];omega
theorem c5r(l:List Ed):(b6w l).length≤l.length:=by have:=d2k l [];simpa[b6w]using this
def c0T(S q:List Ed):List Ed:=b6w q++S.drop (b6w q).length
theorem c0E:∀ l:List Ed,((l.map Ed.enc).flatten).length=l.length * 2
 | []=>rfl
 | a::r=>by rw[g9o,g9X,g9d,c0E r,show a.enc.length=2 from rfl,g9k];omega
theorem d7F:∀ (l:List Ed) (i:Nat),((l.map Ed.enc).flatten).take (i * 2)=((l.take i).map Ed.enc).flatten
 | [],i=>by simp
 | x::r,0=>by simp
 | x::r,i+1=>by
  have e:(((x::r).map Ed.enc).flatten) = .str x.fr :: .str x.to::((r.map Ed.enc).flatten):=rfl
  rw[e,show(i+1) * 2=i * 2+1+1 by omega,List.take_succ_cons,List.take_succ_cons,d7F r i]
  rfl
theorem d8P{q:List Ed}(h:q≠[]):b6w q≠[]:=by
 rw[←List.dropLast_concat_getLast h,c3m]
 unfold d7H
 split
 ·rename_i h1
  intro h2;rw[h2]at h1;cases h1
 ·simp
theorem d2C:∀ (l s:List Ed),b2X 2 l.length (((l++s).map Ed.enc).flatten)=l.map Ed.enc
 | [],s=>by cases s <;> rfl
 | x::r,s=>by
  have:=d2C r s
  have e:(((x::r++s).map Ed.enc).flatten)=x.enc++((r++s).map Ed.enc).flatten:=rfl
  rw[g9k,b2X,e,List.take_left' (by rfl),List.drop_left' (by rfl),this]
  rfl
theorem c6j:∀ (l:List Ed) (i:Nat),((l.map Ed.enc).flatten).drop (i * 2)=((l.drop i).map Ed.enc).flatten
 | [],i=>by simp
 | x::r,0=>by simp
 | x::r,i+1=>by
  have:=c6j r i
  rw[g9o,g9X,show(i+1) * 2=2+i * 2 by omega,←h0t,List.drop_succ_cons,←this]
  rfl
theorem d0Y{S q:List Ed}(x:Ed)(h:b6w (q++[x])=b6w q++[x]):((c0T S q).map Ed.enc).flatten.take ((b6w q).length * 2)++[.str x.fr,.str x.to]++((c0T S q).map Ed.enc).flatten.drop ((b6w q).length * 2+2)=((c0T S (q++[x])).map Ed.enc).flatten:=by
 rw[d7F,show(b6w q).length * 2+2=((b6w q).length+1) * 2 by omega,c6j]
 unfold c0T
 rw[h,List.take_left' rfl,←h0t,List.drop_left' rfl,h0t]
 simp[Ed.enc]
theorem c9D{S q r:List Ed}{x:Ed}(hx:S=q++x::r):(c0T S q).drop q.length=x::r:=by
 have h:=c5r q
 unfold c0T
 rw[List.drop_append,List.drop_of_length_le h,g9M,h0t,show(b6w q).length+(q.length - (b6w q).length)=q.length by omega,hx]
 simp
theorem c6w(S:List Ed):c0T S []=S:=by simp[c0T,b6w]
end Go.Vg
namespace Go.Proofs.YtighfcpaplmaiaaGreatDoor
open Go Go.Vg Go.Proofs
def b7j(u:List Un)(un:Nat)(l:List Rw)(k:Nat):List Ed:=if(b0j l k).kind=20∨(b0j l k).kind=21 then match d4N l k with
 | some f=>(c1n u un k (b0j l k).kind (b0j l k).text).map (Ed.mk f)
 | none=>[]else []
def b1Z(u:List Un)(un:Nat)(l:List Rw):Nat→List Ed
 | 0=>[]
 | k+1=>b1Z u un l k++b7j u un l k
def c4z(u:List Un)(i:Nat):List Rw:=(u[i]?.map fun x=>b0z x.tree (-1) 0).getD []
def b3o(u:List Un):Nat→List Ed
 | 0=>[]
 | i+1=>b3o u i++b1Z u i (c4z u i) (c4z u i).length
theorem d0f(u:List Un)(un:Nat)(l:List Rw){i j:Nat}(h:i≤j):(b1Z u un l i).length≤(b1Z u un l j).length:=by
 induction h with
 | refl=>exact g9m _
 | step _ ih=>rw[b1Z,g9d];omega
theorem d4i(u:List Un){i j:Nat}(h:i≤j):(b3o u i).length≤(b3o u j).length:=by
 induction h with
 | refl=>exact g9m _
 | step _ ih=>rw[b3o,g9d];omega
theorem d2E:b0W Tryz.prog 38=true:=by kernel_rfl
theorem d3Y:(envV 32).P.bytesOf 38=32:=by
 rw[show(envV 32).P=Tryz.prog from rfl];kernel_rfl
theorem d8c{l:List Ed}:∀ el∈l.map Ed.enc,el.length=(envV 32).P.cellsOf 38:=by
 rw[show(envV 32).P.cellsOf 38=2 by rw[show(envV 32).P=Tryz.prog from rfl];kernel_rfl]
 intro el h
 obtain⟨c,_,rfl⟩:=h0k.1 h
 rfl
theorem c9y{o:Own}{e:TypeId}(f:Nat)(caps:List V)(h:List VObj)(a:List Nat)(K:b1z)(hK:K (.tuple []) h a):b0r (envV 32) 43 [.iface 32 (.slice o e []),.func f caps] h a K:=by
 intro G w0 w vals hr ha
 obtain⟨v,vs,rfl,hv,ha⟩:=ha.cons
 obtain⟨v2,vs,rfl,hv2,ha⟩:=ha.cons
 rw[ha.nil]
 cases hv with
 | iface _ _ x hx =>
 cases hv2 with
 | func _ _ cs h1 h2 =>
 have key:∀ (p:Option Addr) (c:Nat),Calls (envV 32).P 43 #[.iface 32 (.slice p 0 c),.func (.func f) #[] cs] w fun e w'=>d9G (envV 32) G a w0 K e w':=fun p c=>by
  have hf:∃ g,Tryz.prog.funcs.findIdx? (·.name == "internal/reflectlite" ++ ".Swapper$" ++ toString (Lib.swapperK 0 sdE 25))=some g:=g9E.1 (by kernel_rfl)
  obtain⟨g,hf⟩:=hf
  refine(Any.sort_Slice_tiny Tryz.laysGg6 32 38 sdT sdE (by kernel_rfl) (by kernel_rfl) (by kernel_rfl) (by kernel_rfl) 25 (fun _=>by kernel_rfl) p 0 c (by omega) g hf (.func f) #[] cs w).mono ?_
  rintro e w' ⟨rfl,os,rfl⟩
  refine .inl ⟨_,rfl,_,_,_,G,hK,Ext.refl _ _,hr.belowW ⟨rfl,rfl,rfl,?_,fun i hi=>?_⟩,.tuple _ _ rfl (by simp)⟩
  ·show w.heap.size≤(w.heap++os).size
   simp
  ·show(w.heap++os)[i]? = w.heap[i]?
   rw[h0u hi]
 cases hx with
 | snil=>exact key none 0
 | sodd _ b c=>exact key b c
 | slice _ _ _ b off cap=>exact key _ cap
def c0f(u:List Un):List Ed:=if(b5g u).1=0 then b6w (b2I (b3o u u.length))else []
theorem f4f(u:List Un)(hu:b2T u)(hgp:b9R u)(hE:(b3o u u.length).length≤1000000):b0u env 15 [sl 70 (u.map Un.enc)] (sl 38 ((c0f u).map Ed.enc)):=by
 refine b0u.ofV (tv:=32) ?_
 refine c8M (by simp -implicitDefEqProofs only[go_sem];exact b0x _) (by simp -implicitDefEqProofs only[go_sem];exact c1H _) ?_
 refine b0A (fn:=Tryz.f15) Tryz.func15 rfl (by rw[Tryz.ntmps15];simp) ?_
 simp -implicitDefEqProofs only[go_sem,Tryz.f15]
 refine b0r.toV ((d7M u hu hgp).calls (by simp -implicitDefEqProofs only[go_sem]) ?_)
 simp -implicitDefEqProofs only[go_sem,c2U]
 refine⟨fun h0=>?_,fun h0 _ _=>?_⟩
 ·have hc0:¬ (b5g u).1=0:=by simpa using h0
  rw[c0f,if_neg hc0]
  exact .inl rfl
 have hc0:(b5g u).1=0:=by simpa using h0
 refine b0n (β:=V×List VObj×List Nat) u (fun pre b=>⟨[(26,.int .i64 pre.length),(25,.int .i64 u.length),(24,sl 70 (u.map Un.enc)),(5,.ptr 1 0),(2,.slice .nil 0 []),(0,sl 70 (u.map Un.enc))],[.dead,.cells [b.1]]++b.2.1,b.2.2⟩)
  (fun pre post b=>b3X 38 2 0 b.2.1 b.2.2 b.1 ((b3o u pre.length).map Ed.enc)) (.slice .nil 0 [],[],[]) ?_ b3X.nil ?_ ?_
 ·simp -implicitDefEqProofs only[go_sem]
  rfl
 ·rintro⟨v,z,y⟩ hacc
  simp only at hacc ⊢
  have hgr:c0f u=b6w (b2I (b3o u u.length)):=by rw[c0f,if_pos hc0]
  generalize b3o u u.length=L at hgr hE hacc
  rw[hgr]
  simp -implicitDefEqProofs only[go_sem,b0d,b0b,b0c,b0a,g8V,g8W,g8X]
  rcases hacc with⟨hnil,e0,rfl⟩ | ⟨hne,j,k,gen,rfl,h3,h4⟩
  ·have hL:L=[]:=by simpa using hnil
   subst hL
   refine c9y _ _ _ _ _ ?_
   simp -implicitDefEqProofs only[go_sem,b0d,b0b,b0c,b0a,g8V,g8W,g8X]
   intro _
   refine b0n (β:=Unit) ([]:List Ed) (fun q b=>⟨[(87,.int .i64 q.length),(86,.int .i64 0),(85,.slice .nil e0 []),(14,.int .i64 0),(5,.ptr 1 0)],[.dead,.cells [.slice .nil e0 []]]++z,y⟩)
    (fun q post b=>True) () ?_ trivial ?_ ?_
   ·simp -implicitDefEqProofs only[go_sem,b0d,b0b,b0c,b0a,g8V,g8W,g8X]
    exact⟨rfl,rfl⟩
   ·intro _ _
    simp -implicitDefEqProofs only[go_sem,b0d,b0b,b0c,b0a,g8V,g8W,g8X]
    refine⟨fun h=>absurd h (by simp),fun _=>?_⟩
    rw[show b6w (b2I [])=[]by simp[b2I,b6w]]
    exact .inl rfl
   ·rintro q x r b hx _
    exact absurd hx (by simp)
  ·have hL1:1≤L.length:=by
    cases L with
    | nil=>exact absurd rfl hne
    | cons=>simp
   have hLm:(L.map Ed.enc).length=L.length:=g9r ..
   rw[hLm]
   clear hLm hne
   obtain⟨i,hi⟩:∃ i,i=2+j:=⟨_,rfl⟩
   have hij:i=j+1+1:=by omega
   rw[←hi]
   subst hij
   rw[g9s]at h3 ⊢
   refine d0d (h:=_) (id:=j+1+1) (k:=k) (gen:=gen) (o:=1) (l:=L) h3 rfl hL1 ?_
   generalize hS:b2I L=S
   have hSl:S.length=L.length:=hS ▸ (b3e L).length_eq
   have hjz:=b0w h3
   simp -implicitDefEqProofs only[go_sem,b0d,b0b,b0c,b0a,g8V,g8W,g8X]
   intro _
   refine b0n (β:=List VObj) S (fun q ex=>⟨[(87,.int .i64 q.length),(86,.int .i64 L.length),(85,.vec (j+1+1) k gen L.length 38),(14,.int .i64 (b6w q).length),(5,.ptr 1 0)],[.dead,.cells [.vec (j+1+1) k gen L.length 38]]++(z.set j (.vec k gen 38 ((c0T S q).map Ed.enc).flatten)++ex),y⟩)
    (fun q post b=>True) [] ?_ trivial ?_ ?_
   ·simp -implicitDefEqProofs only[go_sem,b0d,b0b,b0c,b0a,g8V,g8W,g8X,c6w,g9B]
    exact⟨rfl,rfl⟩
   ·intro ex _
    simp -implicitDefEqProofs only[go_sem,b0d,b0b,b0c,b0a,g8V,g8W,g8X]
    refine⟨fun h=>absurd h (by omega),fun _=>?_⟩
    have hds:=c5r S
    refine⟨⟨by omega,h4⟩,?_⟩
    unfold g6n
    right
    have hget:∀ (X:VObj) (ex:List VObj),(z.set j X++ex)[j]? = some X:=fun X ex=>by rw[g9a (by simpa using hjz)];simp[hjz]
    have hbl:c0T S S=b6w S++S.drop (b6w S).length:=rfl
    have hfl:∀ l:List Ed,((l.map Ed.enc).flatten).length=l.length * 2:=fun l=>by
     induction l with
     | nil=>rfl
     | cons a r ih=>rw[g9o,g9X,g9d,ih,c1q,g9k];omega
    have hce:(envV 32).P.cellsOf 38=2:=by rw[show(envV 32).P=Tryz.prog from rfl];kernel_rfl
    have hce':Tryz.prog.cellsOf 38=2:=by kernel_rfl
    refine⟨j+1+1,k,gen,(b6w S).length,38,((c0T S S).map Ed.enc).flatten,by rw[g9j],?_,?_,d2E,?_,?_⟩
    ·show(z.set j _++ex)[j]? = _
     exact hget _ ex
    ·rw[hfl,hbl,g9d,h0e];omega
    ·rw[hce',hfl,hbl,g9d];omega
    ·rw[hce',hbl,d2C]
   ·rintro q x r ex hx _
    have hpq:S.length=q.length+1+r.length:=by rw[hx];simp;omega
    have hlt:((q.length:Int)<L.length)=True:=by simp;omega
    have hw:IntKind.i64.wrap (↑q.length+1)=↑(q.length+1):=b0g (by omega)
    have hdq:=c5r q
    have hget:∀ (X:VObj) (ex:List VObj),(z.set j X++ex)[j]? = some X:=fun X ex=>by rw[g9a (by simpa using hjz)];simp[hjz]
    have hdr:(((c0T S q).map Ed.enc).flatten).drop (q.length * 2) = .str x.fr :: .str x.to::(r.map Ed.enc).flatten:=by
     rw[c6j,c9D hx];rfl
    simp -implicitDefEqProofs only[go_sem,b0d,b0b,b0c,b0a,g8V,g8W,g8X,hlt,hget,hdr,g9j]
    have hset:∀ (X Y:VObj) (e:List VObj),(z.set j X++e).set j Y=z.set j Y++e:=fun X Y e=>by
     rw[List.set_append_left _ _ (by simpa using hjz),List.set_set]
    have hfl:=c0E
    by_cases hq:q=[]
    ·subst hq
     have hd0:(b6w []).length=0:=rfl
     refine b0h (cs:=[]) b0v (by kernel_rfl) ?_
     simp -implicitDefEqProofs only[go_sem,b0d,b0b,b0c,b0a,g8V,g8W,g8X,hlt,hget,hdr,g9j,g9F,hd0]
     have hb:V.str x.fr::V.str x.to::List.drop 2 (List.map Ed.enc (c0T S [])).flatten=(List.map Ed.enc (c0T S [x])).flatten:=d0Y (S:=S) (q:=[]) x rfl
     refine⟨fun h=>absurd rfl h,fun _=>⟨by omega,?_,ex++[.cells [.str x.fr,.str x.to]],?_,?_,Or.inl (by simp)⟩⟩
     ·rw[c6w,hfl];omega
     ·rfl
     ·rw[hset,hb]
      exact b0s
    ·obtain⟨dp,la,hdl⟩:∃ dp la,b6w q=dp++[la]:=⟨_,_,(List.dropLast_concat_getLast (d8P hq)).symm⟩
     have hq0:((q.length:Int)=0)=False:=by simpa using hq
     have hdl1:(b6w q).length=dp.length+1:=by rw[hdl];simp
     have hwm:IntKind.i64.wrap (((dp.length+1:Nat):Int) - 1)=dp.length:=by rw[b1H] <;> omega
     have hdm:(((c0T S q).map Ed.enc).flatten).drop (dp.length * 2) = .str la.fr :: .str la.to::((S.drop (dp.length+1)).map Ed.enc).flatten:=by
      rw[c6j,c0T,hdl1,hdl,g9t,List.drop_left' rfl];rfl
     rw[hdl1]
     refine b0h (cs:=[]) b0v (by kernel_rfl) ?_
     simp -implicitDefEqProofs only[go_sem,b0d,b0b,b0c,b0a,g8V,g8W,g8X,hlt,hget,hdr,hdm,hq0,hwm,g9j]
     have hfk:b3f Tryz.prog 38=some [0,0]:=by kernel_rfl
     have hd1:(b6w (q++[x]))=if la=x then b6w q else b6w q++[x]:=by
      rw[c3m,d7H,hdl];simp
     have hla:la=x↔(x.fr=la.fr∧x.to=la.to):=by
      obtain⟨a1,a2⟩:=la
      obtain⟨b1,b2⟩:=x
      simp only[Ed.mk.injEq]
      exact⟨fun h=>⟨h.1.symm,h.2.symm⟩,fun h=>⟨h.1.symm,h.2.symm⟩⟩
     refine⟨by omega,by rw[hfk];rfl,fun hne=>?_,fun heq=>?_⟩
     ·have hn:¬ la=x:=by
       rw[hla]
       rintro⟨h1,h2⟩
       rw[h1,h2]at hne
       simp at hne
      rw[if_neg hn]at hd1
      have hb:=d0Y (S:=S) (q:=q) x hd1
      rw[hdl1]at hb
      refine⟨by omega,?_,ex++[.cells [.str x.fr,.str x.to]],⟨hw,?_⟩,?_,Or.inl (by simp)⟩
      ·rw[hfl,c0T,g9d,h0e];omega
      ·rw[hd1,g9d,hdl1]
       exact b0g (by omega)
      ·rw[hset,hb]
       exact b0s
     ·have hn:la=x:=by
       rw[hla]
       have h2:=heq
       simp only[Bool.not_eq_false',g9g,g9h]at h2
       exact h2
      rw[if_pos hn]at hd1
      refine⟨ex++[.cells [.str x.fr,.str x.to]],⟨hw,?_⟩,?_,Or.inl (by simp)⟩
      ·rw[hd1,hdl1]
      ·rw[show c0T S (q++[x])=c0T S q by unfold c0T;rw[hd1]]
       exact b0s
 ·rintro pre x post ⟨v,z,y⟩ hx hacc
  have hpl:u.length=pre.length+1+post.length:=by rw[hx];simp;omega
  have hgx:(u.map Un.enc).getD (pre.length:Int).toNat []=x.enc:=by rw[hx];simp[g8Z]
  have hlt:((pre.length:Int)<u.length)=True:=by simp;omega
  have hw:IntKind.i64.wrap (↑pre.length+1)=↑(pre.length+1):=b0g (by omega)
  have hxm:x∈u:=by rw[hx];simp
  have hux:u[pre.length]? = some x:=by rw[hx];simp
  obtain⟨hxn,hxs⟩:=hu.2 x hxm
  simp only at hacc ⊢
  simp -implicitDefEqProofs only[go_sem,hgx,hlt,b0d,b0b,b0c,b0a,g8V,g8W,g8X]
  refine b0r.toV ((d6d x.tree (by omega)).calls (by simp -implicitDefEqProofs only[go_sem]) ?_)
  generalize hl:b0z x.tree (-1) 0=l
  have hll:l.length=(b0o x.tree).length:=by rw[←hl];exact b0N ..
  have hro:rowsOK l:=hl ▸ b9S (by omega)
  have hrw:c4z u pre.length=l:=by rw[c4z,hux,←hl];rfl
  have hall:b3o u (pre.length+1)=b3o u pre.length++b1Z u pre.length l l.length:=by rw[b3o,hrw]
  have hle1:=d4i u (show pre.length+1≤u.length by omega)
  rw[hall,g9d]at hle1
  have hts:∀ r∈l,r.text.size≤1000000:=fun r hr=>by
   obtain⟨i,hi,rfl⟩:=h0c hr
   obtain⟨k,t,g,ks,e1,_,e3,_⟩:=b1L (n:=x.tree) (i:=i) (by rw[hl];exact hi)
   have e4:b0j (b0z x.tree (-1) 0) i=l[i]:=by rw[hl];simp[b0j,g8Z,hi]
   rw[e4]at e3
   rw[e3]
   exact hxs _ (g9f e1)
  simp -implicitDefEqProofs only[go_sem,hgx,hlt,b0d,b0b,b0c,b0a,g8V,g8W,g8X]
  intro _ _
  refine b0n (β:=V×List VObj×List Nat) l (fun q b=>⟨[(37,.int .i64 q.length),(36,.int .i64 l.length),(35,sl 48 (l.map Rw.enc)),(7,sl 48 (l.map Rw.enc)),(6,.int .i64 pre.length),(26,.int .i64 pre.length),(25,.int .i64 u.length),(24,sl 70 (u.map Un.enc)),(5,.ptr 1 0),(2,.slice .nil 0 []),(0,sl 70 (u.map Un.enc))],[.dead,.cells [b.1]]++b.2.1,b.2.2⟩)
   (fun q post b=>b3X 38 2 0 b.2.1 b.2.2 b.1 ((b3o u pre.length++b1Z u pre.length l q.length).map Ed.enc)) (v,z,y) ?_ (by simpa[b1Z]using hacc) ?_ ?_
  ·simp -implicitDefEqProofs only[go_sem]
   rfl
  ·rintro⟨v,z,y⟩ hacc
   simp only at hacc ⊢
   simp -implicitDefEqProofs only[go_sem,b0d,b0b,b0c,b0a,g8V,g8W,g8X]
   rw[←hall]at hacc
   exact⟨(v,z,y),hacc,hw,⟨b2V,b0s⟩,b0J,.inl ⟨g9m _,g9m _⟩⟩
  ·rintro q r post2 ⟨v,z,y⟩ hx2 hacc
   have hpl2:l.length=q.length+1+post2.length:=by rw[hx2];simp;omega
   have hgx2:(l.map Rw.enc).getD (q.length:Int).toNat []=r.enc:=by rw[hx2];simp[g8Z]
   have hlt2:((q.length:Int)<l.length)=True:=by simp;omega
   have hw2:IntKind.i64.wrap (↑q.length+1)=↑(q.length+1):=b0g (by omega)
   have hrq:b0j l q.length=r:=by rw[hx2];simp[b0j,g8Z]
   have hle2:=d0f u pre.length l (show q.length+1≤l.length by omega)
   have hrow:b1Z u pre.length l (q.length+1)=b1Z u pre.length l q.length++b7j u pre.length l q.length:=rfl
   rw[b1Z,g9d]at hle2
   simp only at hacc ⊢
   simp -implicitDefEqProofs only[go_sem,hgx2,hlt2,b0d,b0b,b0c,b0a,g8V,g8W,g8X,Rw.enc]
   refine⟨fun h20=>⟨fun h21=>?_,fun h21=>?_⟩,fun h20=>?_⟩
   ·have he:b7j u pre.length l q.length=[]:=by
     rw[b7j,hrq,if_neg]
     simp at h20 h21
     rintro(h | h) <;> contradiction
    rw[hrow,he,g9B]
    exact⟨(v,z++[_],y),hacc.heap _,hw2,⟨b2V,b0s⟩,b0J,.inl ⟨by simp,g9m _⟩⟩
   all_goals
    have hkk:r.kind=20∨r.kind=21:=by first | exact .inr (by simpa using h21) | exact .inl (by simpa using h20)
    refine b0r.toV ((d8n l hro q.length (by omega) hts).calls (by simp -implicitDefEqProofs only[go_sem]) ?_)
    cases har:d4N l q.length with
    | none =>
     have he:b7j u pre.length l q.length=[]:=by rw[b7j,hrq,if_pos hkk,har]
     simp -implicitDefEqProofs only[go_sem,g9u,h0a,hgx2,hlt2,b0d,b0b,b0c,b0a,g8V,g8W,g8X,Rw.enc]
     rw[hrow,he,g9B]
     exact⟨(v,z++[_],y),hacc.heap _,hw2,⟨b2V,b0s⟩,b0J,.inl ⟨by simp,g9m _⟩⟩
    | some f =>
     have he:b7j u pre.length l q.length=(c1n u pre.length q.length r.kind r.text).map (Ed.mk f):=by rw[b7j,hrq,if_pos hkk,har]
     simp -implicitDefEqProofs only[go_sem,g9H,g9w,hgx2,hlt2,b0d,b0b,b0c,b0a,g8V,g8W,g8X,Rw.enc]
     try refine b0r.toV ((c7f u hu hgp pre.length q.length r.kind ⟨by omega,by omega⟩ r.text).calls (by simp -implicitDefEqProofs only[go_sem]) ?_)
     generalize c1n u pre.length q.length r.kind r.text=ts at he
     simp -implicitDefEqProofs only[go_sem,hgx2,hlt2,b0d,b0b,b0c,b0a,g8V,g8W,g8X,Rw.enc]
     intro _ _
     have hle3:(b3o u pre.length).length+(b1Z u pre.length l q.length).length+ts.length≤1000000:=by
      rw[he,g9r]at hle2
      omega
     refine b0n (β:=V×List VObj×List Nat) ts (fun s b=>⟨[(68,.int .i64 s.length),(67,.int .i64 ts.length),(66,sl 9 (ts.map b0p)),(10,.str f),(37,.int .i64 q.length),(36,.int .i64 l.length),(35,sl 48 (l.map Rw.enc)),(7,sl 48 (l.map Rw.enc)),(6,.int .i64 pre.length),(26,.int .i64 pre.length),(25,.int .i64 u.length),(24,sl 70 (u.map Un.enc)),(5,.ptr 1 0),(2,.slice .nil 0 []),(0,sl 70 (u.map Un.enc))],[.dead,.cells [b.1]]++b.2.1,b.2.2⟩)
      (fun s post b=>b3X 38 2 0 b.2.1 b.2.2 b.1 ((b3o u pre.length++b1Z u pre.length l q.length++s.map (Ed.mk f)).map Ed.enc)∧z.length+1≤b.2.1.length∧y.length≤b.2.2.length) (v,z++[.cells r.enc],y) ?_ ⟨by simpa using hacc.heap [.cells r.enc],by simp,g9m _⟩ ?_ ?_
     ·simp -implicitDefEqProofs only[go_sem,Rw.enc]
      rfl
     ·rintro⟨v',z',y'⟩ ⟨hacc',hz1,hy1⟩
      simp only at hacc' hz1 hy1 ⊢
      simp -implicitDefEqProofs only[go_sem,b0d,b0b,b0c,b0a,g8V,g8W,g8X]
      rw[hrow,he,←g9t]
      exact⟨(v',z',y'),hacc',hw2,⟨b2V,b0s⟩,b0J,.inl ⟨g9m _,g9m _⟩⟩
     ·rintro s t0 post3 ⟨v',z',y'⟩ hx3 ⟨hacc',hz1,hy1⟩
      have hpl3:ts.length=s.length+1+post3.length:=by rw[hx3];simp;omega
      have hgx3:(ts.map b0p).getD (s.length:Int).toNat []=b0p t0:=by rw[hx3];simp[g8Z]
      have hlt3:((s.length:Int)<ts.length)=True:=by simp;omega
      have hw3:IntKind.i64.wrap (↑s.length+1)=↑(s.length+1):=b0g (by omega)
      simp only at hacc' hz1 hy1 ⊢
      simp -implicitDefEqProofs only[go_sem,hgx3,hlt3,b0d,b0b,b0c,b0a,g8V,g8W,g8X,b0p,hacc'.asl]
      have hb1:(((b3o u pre.length++b1Z u pre.length l q.length++s.map (Ed.mk f)).map Ed.enc).length+1) * (envV 32).P.bytesOf 38≤140737488355328:=by
       rw[d3Y];simp only[g9r,g9d];omega
      refine b4F (h0:=[.dead,.cells [v']]) (a0:=[]) hacc' d8c d2E hb1 fun v2 z2 y2 hacc2 hz1' hz2' hy1'=>?_
      have hs:(b3o u pre.length++b1Z u pre.length l q.length++s.map (Ed.mk f)).map Ed.enc++[[.str f,.str t0]]=(b3o u pre.length++b1Z u pre.length l q.length++(s++[t0]).map (Ed.mk f)).map Ed.enc:=by simp[Ed.enc]
      rw[hs]at hacc2
      obtain⟨c1,c2,c3⟩:=hacc2.shape
      simp -implicitDefEqProofs only[go_sem,hgx3,hlt3,b0d,b0b,b0c,b0a,g8V,g8W,g8X,b0p,c1,c2,c3]
      refine⟨(v2,z2,y2),⟨by simpa using hacc2,?_,?_⟩,hw3,⟨b2V,b0s⟩,b0J,.inl ⟨g9m _,g9m _⟩⟩
      ·exact h0i hz1 hz1'
      ·exact h0i hy1 hy1'
open Classical in
theorem c3l(s:ByteArray):∀ (r o:List ByteArray),r.foldl (c5v s) o=if s∈r∧o.getLast?≠some s then o++[s]else o
 | [],o=>by rw[if_neg (by rintro⟨h,_⟩;cases h)];rfl
 | t::r,o=>by
  rw[g9G,c3l s r]
  by_cases h1:o.getLast? = some s
  ·rw[show c5v s o t=o from if_neg (fun h=>h.2 h1),if_neg (fun h=>h.2 h1),if_neg (fun h=>h.2 h1)]
  ·by_cases h2:t=s
   ·rw[show c5v s o t=o++[s]from if_pos ⟨h2,h1⟩,if_neg (fun h=>h.2 (by simp)),if_pos ⟨by rw[h2];simp,h1⟩]
   ·rw[show c5v s o t=o from if_neg (fun h=>h2 h.1)]
    by_cases h3:s∈r
    ·rw[if_pos ⟨h3,h1⟩,if_pos ⟨by simp[h3],h1⟩]
    ·rw[if_neg (fun h=>h3 h.1),if_neg (fun h=>(g9y.1 h.1).elim (fun e=>h2 e.symm) h3)]
open Classical in
theorem d8C(l:List Ed)(o:List ByteArray)(s:ByteArray):d5T l o s=if s∈b2j (c2V l s)∧o.getLast?≠some s then o++[s]else o:=c3l s _ _
theorem c1G(l:List Ed):∀ (c o:List ByteArray),(c.Pairwise fun a b=>ltB b a=false)→Asc o→(∀ a∈o,∀ b∈c,ltB b a=false)→Asc (c.foldl (d5T l) o)∧∀ x,x∈c.foldl (d5T l) o↔x∈o∨(x∈c∧x∈b2j (c2V l x))
 | [],o,_,ho,_=>⟨ho,by simp⟩
 | s::c,o,hc,ho,hoc=>by
  rw[g9G,d8C]
  obtain⟨hc1,hc2⟩:=h0s.1 hc
  by_cases h:s∈b2j (c2V l s)∧o.getLast?≠some s
  ·rw[if_pos h]
   have hlt:∀ a∈o,ltB a s=true:=fun a ha=>by
    cases hl:ltB a s with
    | true=>rfl
    | false =>
     have e:a=s:=b9b hl (hoc a ha s (by simp))
     subst e
     exfalso
     have hne:o≠[]:=by intro h0;rw[h0]at ha;cases ha
     have hcl:=List.dropLast_concat_getLast hne
     have hlast:o.getLast? = some (o.getLast hne):=List.getLast?_eq_some_getLast hne
     rw[←hcl]at ha
     rcases g9A.1 ha with h1 | h1
     ·have h2:ltB a (o.getLast hne)=true:=by
       have h3:=ho
       unfold Asc at h3
       rw[←hcl]at h3
       exact(List.pairwise_append.1 h3).2.2 a h1 _ (by simp)
      rw[hoc _ (List.getLast_mem hne) a (by simp)]at h2
      cases h2
     ·simp only[g9N]at h1
      rw[←h1]at hlast
      exact h.2 hlast
   have hasc:Asc (o++[s]):=by
    refine List.pairwise_append.2 ⟨ho,by simp,fun a ha b hb=>?_⟩
    simp only[g9N]at hb
    subst hb
    exact hlt a ha
   obtain⟨g1,g2⟩:=c1G l c (o++[s]) hc2 hasc (fun a ha b hb=>by
    rcases g9A.1 ha with h1 | h1
    ·exact hoc a h1 b (by simp[hb])
    ·simp only[g9N]at h1
     subst h1
     exact hc1 b hb)
   refine⟨g1,fun x=>?_⟩
   rw[g2 x]
   simp only[g9A,g9y,List.not_mem_nil,or_false]
   constructor
   ·rintro((h1 | rfl) | h1)
    ·exact .inl h1
    ·exact .inr ⟨.inl rfl,h.1⟩
    ·exact .inr ⟨.inr h1.1,h1.2⟩
   ·rintro(h1 | ⟨rfl | h1,h2⟩)
    ·exact .inl (.inl h1)
    ·exact .inl (.inr rfl)
    ·exact .inr ⟨h1,h2⟩
  ·rw[if_neg h]
   obtain⟨g1,g2⟩:=c1G l c o hc2 ho (fun a ha b hb=>hoc a ha b (by simp[hb]))
   refine⟨g1,fun x=>?_⟩
   rw[g2 x]
   simp only[g9y]
   constructor
   ·rintro(h1 | h1)
    ·exact .inl h1
    ·exact .inr ⟨.inr h1.1,h1.2⟩
   ·rintro(h1 | ⟨rfl | h1,h2⟩)
    ·exact .inl h1
    ·by_cases hl:o.getLast? = some x
     ·exact .inl (List.mem_of_getLast? hl)
     ·exact absurd ⟨h2,hl⟩ h
    ·exact .inr ⟨h1,h2⟩
theorem c9d(u:List Un)(l:List Ed):Asc (d3j u l)∧∀ x,x∈d3j u l↔l≠[]∧x∈f3A u∧Rch (scN (b1W l)) x x:=by
 unfold d3j
 split
 ·rename_i h
  exact⟨List.Pairwise.nil,fun x=>by simp[h]⟩
 ·rename_i h
  obtain⟨h1,h2⟩:=c1G l (d3f u) [] (c0c _) List.Pairwise.nil (by simp)
  refine⟨h1,fun x=>?_⟩
  rw[h2 x,(b2H _).mem_iff,(b4t l x).2.1,d3f,(b2H _).mem_iff]
  simp[h]
end Go.Proofs.YtighfcpaplmaiaaGreatDoor
namespace Go.Vg
theorem c0X:∀ (u:List Un) (i un:Nat) (x:Un) (d:Dl),u[un]? = some x→x.broken=false→d∈b1J x.tree ((i+un:Nat):Int) 0 Ar.none→d∈b0f u i
 | [],i,un,x,d,h,_,_=>by simp at h
 | y::r,i,0,x,d,h,hb,hd=>by
  simp at h
  subst h
  rw[b0f,if_neg (by rw[hb];simp)]
  exact g9Z _ hd
 | y::r,i,un+1,x,d,h,hb,hd=>by
  rw[g8V]at h
  rw[b0f]
  exact h0f _ (c0X r (i+1) un x d h hb (by rw[show i+1+un=i+(un+1)by omega];exact hd))
end Go.Vg
namespace Go.Proofs.YtighfcpaplmaiaaGreatDoor
open Go Go.Vg Go.Proofs
end Go.Proofs.YtighfcpaplmaiaaGreatDoor
namespace Go.Vg
end Go.Vg
namespace Go.Proofs.YtighfcpaplmaiaaGreatDoor
open Go Go.Vg Go.Proofs
theorem c3x{u:List Un}{m:Nat}(hm:m≤160)(h:b7x u 3 m 6000=true):u.length≤3∧∀ x∈u,(b0o x.tree).length≤m:=by
 unfold b7x at h
 simp only[g9g,g9h,List.all_eq_true]at h
 obtain⟨h1,h2⟩:=h
 refine⟨by omega,fun x hx=>?_⟩
 have h3:=(h2 x hx).1
 have:=c8k x.tree m 60 h3
 omega
theorem c3N{u:List Un}{m:Nat}(hm:m≤160)(h:b7x u 3 m 6000=true):b2T u∧b9R u:=by
 have hs:=c3x hm h
 unfold b7x at h
 simp only[g9g,g9h,List.all_eq_true]at h
 obtain⟨h1,h2⟩:=h
 refine⟨⟨by omega,fun x hx=>?_⟩,fun x hx=>?_⟩
 ·obtain⟨h3,h4⟩:=h2 x hx
  have:=hs.2 x hx
  exact⟨by omega,(c0N (by omega) h4).1⟩
 ·obtain⟨h3,h4⟩:=h2 x hx
  exact(c0N (by omega) h4).2
theorem b8g:∀ (u:List Un) i,(∀ x∈u,(b0o x.tree).length≤160)→(b0f u i).length≤u.length * 160
 | [],_,_=>by simp[b0f]
 | x::r,i,h=>by
  have h1:=b8g r (i+1) fun y hy=>h y (by simp[hy])
  have h2:=b8V x.tree i 0 Ar.none
  have h3:=h x (by simp)
  rw[b0f,g9d,g9k]
  split
  ·simp;omega
  ·omega
theorem d3K(u:List Un)(un nd kind:Int)(text:ByteArray):(c1n u un nd kind text).length≤(b0f u 0).length+1:=by
 unfold c1n
 split
 ·simp
 split
 ·split
  ·rw[b4C]
   refine h0i (b8x _ []) ?_
   have h1:=b1i (btU u) (b0f u 0)
   have h4:=h0j (c7l (b0D (btU u) (b0f u 0)) (c2W u un (nd+1)).1) (b0D (btU u) (b0f u 0))
   have h5:(b8S u (c2W u un (nd+1)).1).length≤(b0f u 0).length:=by
    unfold b8S d6K
    rw[b4C,g9r]
    omega
   have h6:=List.length_filterMap_le (fun x=>(b1D u x text).map b2y) ((c2W u un (nd+1)).1::b8S u (c2W u un (nd+1)).1)
   rw[g9k]at h6
   unfold tgL
   simp only[g9F,g9s]
   omega
  ·simp
 ·simp
theorem c9I(u:List Un)(un:Nat)(l:List Rw)(k:Nat):(b7j u un l k).length≤(b0f u 0).length+1:=by
 unfold b7j
 split
 ·split
  ·rw[g9r];exact d3K ..
  ·simp
 ·simp
theorem c0I(u:List Un)(un:Nat)(l:List Rw):∀ k,(b1Z u un l k).length≤k * ((b0f u 0).length+1)
 | 0=>by simp[b1Z]
 | k+1=>by
  have h1:=c0I u un l k
  have h2:=c9I u un l k
  rw[b1Z,g9d,Nat.succ_mul];omega
theorem c3U{u:List Un}(h:∀ x∈u,(b0o x.tree).length≤160):∀ n,(b3o u n).length≤n * (160 * ((b0f u 0).length+1))
 | 0=>by simp[b3o]
 | n+1=>by
  have h1:=c3U h n
  have h2:=c0I u n (c4z u n) (c4z u n).length
  have h3:(c4z u n).length≤160:=by
   unfold c4z
   cases hx:u[n]? with
   | none=>simp
   | some x =>
    simp only[g9z,g9w]
    rw[b0N]
    exact h x (g9f hx)
  have h4:=g9L ((b0f u 0).length+1) h3
  rw[b3o,g9d,Nat.succ_mul];omega
theorem d0x{u:List Un}{m:Nat}(hm:m≤160)(h:b7x u 3 m 6000=true):(b3o u u.length).length≤1000000:=by
 obtain⟨h1,h2⟩:=c3x hm h
 have h3:∀ x∈u,(b0o x.tree).length≤160:=fun x hx=>h0i (h2 x hx) hm
 have h4:=b8g u 0 h3
 have h5:=c3U h3 u.length
 have h6:u.length * (160 * ((b0f u 0).length+1))≤3 * (160 * ((b0f u 0).length+1)):=g9L _ h1
 omega
theorem d9B{u:List Un}{m:Nat}(hm:m≤160)(h:b7x u 3 m 6000=true):b0u env 15 [sl 70 (u.map Un.enc)] (sl 38 ((c0f u).map Ed.enc)) :=
 f4f u (c3N hm h).1 (c3N hm h).2 (d0x hm h)
def f6D(u:List Un):Bool:=b7x u 3 160 6000 && decide ((b2K (b0f u 0):Int)≤20)
theorem g7I(u:List Un):b0u env 10 [sl 70 (u.map Un.enc)] (.bool (f6D u)):=by
 refine b0i (fn:=Tryz.f10) Tryz.func10 rfl (by rw[Tryz.ntmps10];simp) (by simp -implicitDefEqProofs only[go_sem];exact b0x _) rfl ?_
 simp -implicitDefEqProofs only[go_sem,Tryz.f10]
 refine(d9c u 3 160 6000 (by omega) (by omega)).calls (by simp -implicitDefEqProofs only[go_sem]) ?_
 simp -implicitDefEqProofs only[go_sem]
 unfold f6D
 cases hf:b7x u 3 160 6000 with
 | false =>
  simp -implicitDefEqProofs only[go_sem]
 | true =>
  simp -implicitDefEqProofs only[go_sem]
  refine(f5z u (c3N (m:=160) (g9m _) hf).1 20 (by omega) (by omega)).calls (by simp -implicitDefEqProofs only[go_sem]) ?_
  simp -implicitDefEqProofs only[go_sem]
theorem b7M{l:List ByteArray}(h:l.Nodup):Asc (b2j l):=c7R h
end Go.Proofs.YtighfcpaplmaiaaGreatDoor
namespace Go.Vg
def lfN(k:Int)(t:ByteArray):Nd := .mk k t [] []
def fnN(name:ByteArray)(x:Nd):Nd := .mk 2 name [] [lfN 3 ⟨#[]⟩,lfN 5 ⟨#[105,110,116]⟩,.mk 6 ⟨#[]⟩ [] [.mk 12 ⟨#[]⟩ [] [x]]]
end Go.Vg
namespace Go.Proofs.YtighfcpaplmaiaaGreatDoor
open Go Go.Vg Go.Proofs
theorem c5w(k:Int)(t:ByteArray):b0u env 65 [.int .i64 k,.str t] (.agg (lfN k t).enc):=by
 refine b0i (fn:=Tryz.f65) Tryz.func65 rfl (by rw[Tryz.ntmps65];simp) (by simp -implicitDefEqProofs only[go_sem]) (by simp -implicitDefEqProofs only[go_sem]) ?_
 simp -implicitDefEqProofs only[go_sem,Tryz.f65,lfN,b8i,g9P]
 try rfl
theorem c0d(name:ByteArray)(x:Nd):b0u env 66 [.str name,.agg x.enc] (.agg (fnN name x).enc):=by
 refine b0i (fn:=Tryz.f66) Tryz.func66 rfl (by rw[Tryz.ntmps66];simp) (by simp -implicitDefEqProofs only[go_sem]) (by simp -implicitDefEqProofs only[go_sem]) ?_
 simp -implicitDefEqProofs only[go_sem,Tryz.f66]
 refine b0h (cs:=[]) b0v (by kernel_rfl) ?_
 simp -implicitDefEqProofs only[go_sem]
 refine b0B (c5w 3 ⟨#[]⟩) (by simp -implicitDefEqProofs only[go_sem]) ?_
 simp -implicitDefEqProofs only[go_sem]
 refine b0B (c5w 5 ⟨#[105,110,116]⟩) (by simp -implicitDefEqProofs only[go_sem]) ?_
 simp -implicitDefEqProofs only[go_sem]
 simp only[fnN,b8i,g9o,g9P]
 try rfl
def g7g:Nd := .mk 7 ⟨#[65]⟩ [] [lfN 8 ⟨#[]⟩,fnN ⟨#[109]⟩ (lfN 20 ⟨#[102]⟩)]
def g5y:Nd := .mk 21 ⟨#[109]⟩ [] [lfN 22 ⟨#[65]⟩]
def g1x:Nd := .mk 24 ⟨#[43]⟩ [] [g5y,lfN 20 ⟨#[103]⟩]
def b6c:List Un:=[⟨⟨#[97]⟩,⟨#[]⟩,.mk 1 ⟨#[]⟩ [] [g7g,fnN ⟨#[102]⟩ (lfN 17 ⟨#[50]⟩),fnN ⟨#[103]⟩ g1x],false⟩]
theorem d8a:b0u env 35 [] (sl 70 (b6c.map Un.enc)):=by
 refine b0i (fn:=Tryz.f35) Tryz.func35 rfl (by rw[Tryz.ntmps35];simp) rfl (by simp -implicitDefEqProofs only[go_sem];exact b0x _) ?_
 simp -implicitDefEqProofs only[go_sem,Tryz.f35]
 refine(c5w 8 ⟨#[]⟩).calls (by simp -implicitDefEqProofs only[go_sem]) ?_
 simp -implicitDefEqProofs only[go_sem]
 refine(c5w 20 ⟨#[102]⟩).calls (by simp -implicitDefEqProofs only[go_sem]) ?_
 simp -implicitDefEqProofs only[go_sem]
 refine(c0d ⟨#[109]⟩ (lfN 20 ⟨#[102]⟩)).calls (by simp -implicitDefEqProofs only[go_sem]) ?_
 simp -implicitDefEqProofs only[go_sem]
 refine(c5w 22 ⟨#[65]⟩).calls (by simp -implicitDefEqProofs only[go_sem]) ?_
 simp -implicitDefEqProofs only[go_sem]
 refine b0h (cs:=[]) b0v (by kernel_rfl) ?_
 simp -implicitDefEqProofs only[go_sem]
 refine b0B (c5w 20 ⟨#[103]⟩) (by simp -implicitDefEqProofs only[go_sem]) ?_
 simp -implicitDefEqProofs only[go_sem]
 refine b0h (cs:=[]) b0v (by kernel_rfl) ?_
 simp -implicitDefEqProofs only[go_sem]
 refine b0B (c5w 17 ⟨#[50]⟩) (by simp -implicitDefEqProofs only[go_sem]) ?_
 simp -implicitDefEqProofs only[go_sem]
 refine b0B (c0d ⟨#[102]⟩ (lfN 17 ⟨#[50]⟩)) (by simp -implicitDefEqProofs only[go_sem]) ?_
 simp -implicitDefEqProofs only[go_sem]
 refine b0B (c0d ⟨#[103]⟩ g1x) (by simp -implicitDefEqProofs only[go_sem,g1x,g5y,b8i,g9o,g9P]) ?_
 simp -implicitDefEqProofs only[go_sem]
 simp only[b6c,g7g,Un.enc,b8i,g9o,g9P,g8X,g9M]
 try rfl
theorem d8I(a b:List Ed):b0u env 14 [sl 38 (a.map Ed.enc),sl 38 (b.map Ed.enc)] (.bool (decide (a=b))):=by
 refine b0i (fn:=Tryz.f14) Tryz.func14 rfl (by rw[Tryz.ntmps14];simp) (by simp -implicitDefEqProofs only[go_sem];try simp[c1H]) rfl ?_
 simp -implicitDefEqProofs only[go_sem,Tryz.f14]
 intro _ h1 _ h2
 refine⟨fun c=>?_,fun c=>?_⟩
 ·have:a≠b:=by rintro rfl;simp at c
  simp[this]
 ·have hl:a.length=b.length:=by simp at c;omega
  refine b0n (β:=Unit) a (fun pre _=>⟨[(5,.int .i64 pre.length),(0,sl 38 (a.map Ed.enc)),(1,sl 38 (b.map Ed.enc))],[],[]⟩) (fun pre _ _=>∃ r,b=pre++r) () ?_ ⟨b,rfl⟩ ?_ ?_
  ·simp -implicitDefEqProofs only[go_sem]
   trivial
  ·rintro _ ⟨r,hr⟩
   simp -implicitDefEqProofs only[go_sem]
   have:r=[]:=g9C (by have:=congrArg List.length hr;simp at this;omega)
   subst this
   simp[hr]
  ·rintro pre x post _ rfl ⟨r,rfl⟩
   rcases r with _ | ⟨y,r⟩
   ·simp at hl
   ·simp -implicitDefEqProofs only[go_sem]
    intro _ hl
    refine b0h (cs:=[]) b0v (by kernel_rfl) ?_
    have hl2:((pre.length:Int)<((pre++y::r).length:Int))=True:=d6B
    have hfk:b3f Tryz.prog 38=some [0,0]:=by kernel_rfl
    simp -implicitDefEqProofs only[go_sem,Ed.enc,hl2,hfk]
    refine⟨fun c=>?_,fun c=>⟨(),⟨r,?_⟩,b0g (c2t hl (by decide))⟩⟩
    ·have hne:x≠y:=by rintro rfl;simp at c
     simp[hne]
    ·have hxy:x=y:=by
      obtain⟨x1,x2⟩:=x
      obtain⟨y1,y2⟩:=y
      simp only[Bool.not_eq_false',g9g,g9h]at c
      rw[c.1,c.2]
     rw[hxy];simp
theorem g1J:(b5g b6c).1=0:=by kernel_rfl
theorem f4W:b7x b6c 3 160 6000=true:=by kernel_rfl
theorem g3B:(c4z b6c 0).length=24:=by kernel_rfl
theorem g1q:c2W b6c 0 22=(⟨#[65]⟩,0):=by kernel_rfl
theorem g1G:tgL b6c ⟨#[65]⟩ ⟨#[109]⟩=[⟨#[65,46,109]⟩]:=by kernel_rfl
def edW:List Ed:=[⟨⟨#[65,46,109]⟩,⟨#[102]⟩⟩,⟨⟨#[103]⟩,⟨#[65,46,109]⟩⟩,⟨⟨#[103]⟩,⟨#[103]⟩⟩]
theorem f9X:c1n b6c 0 21 21 ⟨#[109]⟩=[⟨#[65,46,109]⟩]:=by
 unfold c1n
 rw[if_neg (by decide),if_pos rfl,show((21:Int)+1)=22 from rfl,g1q,if_pos rfl,g1G]
 exact c4j _
theorem g0l:b7j b6c 0 (c4z b6c 0) 21=[⟨⟨#[103]⟩,⟨#[65,46,109]⟩⟩]:=by
 have h1:(b0j (c4z b6c 0) 21).kind=21:=by kernel_rfl
 have h2:(b0j (c4z b6c 0) 21).text=⟨#[109]⟩:=by kernel_rfl
 have h3:d4N (c4z b6c 0) 21=some ⟨#[103]⟩:=by kernel_rfl
 unfold b7j
 rw[h1,h2,h3,if_pos (.inr rfl)]
 show(c1n b6c 0 21 21 ⟨#[109]⟩).map (Ed.mk ⟨#[103]⟩)=_
 rw[f9X]
 rfl
theorem f5K:b1Z b6c 0 (c4z b6c 0) 21=[⟨⟨#[65,46,109]⟩,⟨#[102]⟩⟩]:=by kernel_rfl
theorem g1Z:b7j b6c 0 (c4z b6c 0) 22=[]:=by kernel_rfl
theorem g1U:b7j b6c 0 (c4z b6c 0) 23=[⟨⟨#[103]⟩,⟨#[103]⟩⟩]:=by kernel_rfl
theorem f8V:b3o b6c b6c.length=edW:=by
 show b3o b6c 1=edW
 rw[b3o,b3o,g3B,b1Z,b1Z,b1Z,f5K,g0l,g1Z,g1U]
 rfl
theorem g1B:edW.Pairwise fun a b=>b5y b a=false:=by
 unfold edW
 refine .cons (fun b hb=>?_) (.cons (fun b hb=>?_) (.cons (by simp) .nil))
 ·simp only[g9y,List.not_mem_nil,or_false]at hb
  rcases hb with rfl | rfl <;> kernel_rfl
 ·simp only[g9y,List.not_mem_nil,or_false]at hb
  subst hb;kernel_rfl
theorem d7O:c0f b6c=edW:=by
 rw[c0f,if_pos g1J,f8V,show b2I edW=edW from d6y (b3e edW) (b9U edW) g1B]
 kernel_rfl
theorem g7u:c2V edW ⟨#[103]⟩=[⟨#[65,46,109]⟩,⟨#[103]⟩,⟨#[102]⟩]:=by kernel_rfl
theorem g2c:f3A b6c=[⟨#[65,46,109]⟩,⟨#[102]⟩,⟨#[103]⟩]:=by kernel_rfl
theorem g7K:c2V edW ⟨#[65,46,109]⟩=[⟨#[102]⟩]:=by kernel_rfl
theorem g7Q:c2V edW ⟨#[102]⟩=[]:=by kernel_rfl
def d4Y:List ByteArray:=[⟨#[65,46,109]⟩,⟨#[102]⟩,⟨#[103]⟩]
theorem g7M:Asc d4Y:=by
 unfold d4Y
 refine .cons (fun b hb=>?_) (.cons (fun b hb=>?_) (.cons (by simp) .nil))
 ·simp only[g9y,List.not_mem_nil,or_false]at hb
  rcases hb with rfl | rfl <;> kernel_rfl
 ·simp only[g9y,List.not_mem_nil,or_false]at hb
  subst hb;kernel_rfl
theorem f0A:b2j (c2V edW ⟨#[103]⟩)=d4Y:=by
 refine c3n (b7M (b4t edW _).1) g7M fun x=>?_
 rw[(b2H _).mem_iff,g7u]
 simp only[d4Y,g9y,List.not_mem_nil,or_false]
 constructor
 ·rintro(h | h | h) <;> simp[h]
 ·rintro(h | h | h) <;> simp[h]
theorem g2z:d3j b6c edW=[⟨#[103]⟩]:=by
 obtain⟨h1,h2⟩:=c9d b6c edW
 refine c3n h1 (by exact .cons (by simp) .nil) fun x=>?_
 rw[h2 x,←(b4t edW x).2.1,g2c]
 simp only[g9y,List.not_mem_nil,or_false]
 constructor
 ·rintro⟨_,rfl | rfl | rfl,h⟩
  ·rw[g7K]at h;exact absurd (g9N.1 h) (by decide)
  ·rw[g7Q]at h;cases h
  ·rfl
 ·rintro rfl
  exact⟨by unfold edW;simp,.inr (.inr rfl),by rw[g7u];simp⟩
theorem g8j:c0Y b6c 0 8=[⟨#[102]⟩]:=by kernel_rfl
theorem g8k:c0Y b6c 0 0=[]:=by kernel_rfl
theorem f4q:b0u env 9 [] (.bool true):=by
 have hfo:=(c3N (m:=160) (g9m _) f4W)
 have hG:=d9B (m:=160) (g9m _) f4W
 rw[d7O]at hG
 have hR:=f3d b6c edW (by decide) hG ⟨#[103]⟩
 rw[f0A]at hR
 have hC:=c9l b6c hfo.1 edW (by decide) hG
 rw[g2z]at hC
 have hT8:=c1K b6c hfo.1 hfo.2 0 8 (by omega)
 rw[g8j]at hT8
 have hT0:=c1K b6c hfo.1 hfo.2 0 0 (by omega)
 rw[g8k]at hT0
 refine b0i (fn:=Tryz.f9) Tryz.func9 rfl (by rw[Tryz.ntmps9];simp) rfl rfl ?_
 simp -implicitDefEqProofs only[go_sem,Tryz.f9]
 refine d8a.calls (by simp -implicitDefEqProofs only[go_sem]) ?_
 generalize b6c=su at *
 simp -implicitDefEqProofs only[go_sem]
 refine hG.calls (by simp -implicitDefEqProofs only[go_sem]) ?_
 simp -implicitDefEqProofs only[go_sem]
 refine(d8I edW edW).calls (by simp -implicitDefEqProofs only[go_sem,edW,Ed.enc,g9o,g9P]) ?_
 have d1:decide (edW=edW)=true:=by simp
 simp -implicitDefEqProofs only[go_sem,d1]
 refine hR.calls (by simp -implicitDefEqProofs only[go_sem]) ?_
 simp -implicitDefEqProofs only[go_sem]
 refine(b6a d4Y d4Y).calls (by simp -implicitDefEqProofs only[go_sem,d4Y,b0p,g9o,g9P]) ?_
 have d2:decide (d4Y=d4Y)=true:=by simp
 simp -implicitDefEqProofs only[go_sem,d2]
 refine hC.calls (by simp -implicitDefEqProofs only[go_sem]) ?_
 simp -implicitDefEqProofs only[go_sem]
 refine(b6a [⟨#[103]⟩] [⟨#[103]⟩]).calls (by simp -implicitDefEqProofs only[go_sem,b0p,g9o,g9P]) ?_
 have d3:decide ([(⟨#[103]⟩:ByteArray)]=[⟨#[103]⟩])=true:=by simp
 simp -implicitDefEqProofs only[go_sem,d3]
 refine hT8.calls (by simp -implicitDefEqProofs only[go_sem]) ?_
 simp -implicitDefEqProofs only[go_sem]
 refine(b6a [⟨#[102]⟩] [⟨#[102]⟩]).calls (by simp -implicitDefEqProofs only[go_sem,b0p,g9o,g9P]) ?_
 have d4:decide ([(⟨#[102]⟩:ByteArray)]=[⟨#[102]⟩])=true:=by simp
 simp -implicitDefEqProofs only[go_sem,d4]
 refine hT0.calls (by simp -implicitDefEqProofs only[go_sem]) ?_
 simp -implicitDefEqProofs only[go_sem]
 rfl
theorem c3V(u:List Un)(hu:b2T u):b0u env 25 [sl 70 (u.map Un.enc)] (sl 45 ((b0e u).map b0q)):=by
 have hul:=hu.1
 refine b0i (fn:=Tryz.f25) Tryz.func25 rfl (by rw[Tryz.ntmps25];simp) (by simp -implicitDefEqProofs only[go_sem];exact b0x _) (by simp -implicitDefEqProofs only[go_sem];exact b1e _) ?_
 simp -implicitDefEqProofs only[go_sem,Tryz.f25]
 refine b0n (β:=Unit) u (fun pre _=>⟨[(4,.int .i64 pre.length),(3,.slice (.arr 0) 45 ((b0e pre).map b0q)),(0,sl 70 (u.map Un.enc))],[],[(b0e pre).length]⟩)
  (fun _ _ _=>True) () ?_ trivial ?_ ?_
 ·simp -implicitDefEqProofs only[go_sem]
  exact⟨rfl,rfl⟩
 ·intro _ _
  simp -implicitDefEqProofs only[go_sem]
 ·rintro pre x post _ hx _
  have hpl:u.length=pre.length+1+post.length:=by rw[hx];simp;omega
  have hgx:(u.map Un.enc).getD (pre.length:Int).toNat []=x.enc:=by rw[hx];simp[g8Z]
  have hlt:((pre.length:Int)<u.length)=True:=by simp;omega
  have hw:IntKind.i64.wrap (↑pre.length+1)=↑(pre.length+1):=b0g (by omega)
  have hxn:=(hu.2 x (by rw[hx];simp)).1
  have htl:(b0e pre).length=pre.length:=by simp[b0e]
  have hsn:(b0e (pre++[x])).map b0q=(b0e pre).map b0q++[b0q (if x.broken=true then []else b0z x.tree (-1) 0)]:=by simp[b0e]
  simp -implicitDefEqProofs only[go_sem,hgx,hlt]
  intro _ _
  refine⟨fun hb=>?_,fun hb=>⟨by omega,(),⟨hw,?_⟩,by simp[b0e]⟩⟩
  ·refine(c5V x.tree (by omega)).calls (by simp -implicitDefEqProofs only[go_sem]) ?_
   simp -implicitDefEqProofs only[go_sem]
   refine⟨by omega,(),⟨hw,?_⟩,by simp[b0e]⟩
   rw[hsn,if_neg (by simpa using hb)];rfl
  ·rw[hsn,if_pos (by simpa using hb)];rfl
end Go.Proofs.YtighfcpaplmaiaaGreatDoor
namespace Go.Vg
theorem c7b{l:List Rw}(hr:rowsOK l):∀ (f g:Nat) (k:Int),k<l.length→k+1≤f→k+1≤g→upF l f k=upF l g k
 | 0,0,k,_,_,_=>rfl
 | 0,g+1,k,_,h,_=>by rw[upF,upF,if_pos (by omega)]
 | f+1,0,k,_,_,h=>by rw[upF,upF,if_pos (by omega)]
 | f+1,g+1,k,hk,h1,h2=>by
  rw[upF,upF]
  by_cases h0:k<0
  ·rw[if_pos h0,if_pos h0]
  ·rw[if_neg h0,if_neg h0]
   have hp:=hr.par k.toNat (by omega)
   rw[c7b hr f g _ (by omega) (by omega) (by omega)]
theorem c3A{l:List Rw}(hr:rowsOK l){i:Nat}(hi:i<l.length):d3p l i=if(b0j l i).kind=2 then some i else upF l (l.length+1) (b0j l i).parent:=by
 have hp:=hr.par i hi
 unfold d3p
 rw[upF,if_neg (by omega),g9j,c7b hr l.length (l.length+1) _ (by omega) (by omega) (by omega)]
end Go.Vg
namespace Go.Proofs.YtighfcpaplmaiaaGreatDoor
open Go Go.Vg Go.Proofs
theorem c5R{u:List Un}{c t x:ByteArray}:x∈tgL u c t↔∃ y∈c::b8S u c,∃ d,b1D u y t=some d∧b2y d=x:=by
 unfold tgL
 simp only[List.mem_filterMap,g9l]
theorem d2t{u:List Un}(hu:b2T u)(h0:(b5g u).1=0){un i:Nat}{l:List Rw}(hl:(b0e u)[un]? = some l)(hi:i<l.length):c0Y u un i=c1n u un i (b0j l i).kind (b0j l i).text:=by
 obtain⟨x,hx,rfl⟩:=b2R (b4X hu h0).br hl
 have hlt:=(g8Y.1 hx).1
 obtain⟨k,t,g,ks,e1,e2,e3,e4⟩:=b1L hi
 rw[c0Y,if_neg (by rintro(h | h | h) <;> first | exact h h0 | omega),if_pos (by omega),g9j,g9j,hx,g9z,g9w,e1]
 simp only
 rw[e2,e3];rfl
end Go.Proofs.YtighfcpaplmaiaaGreatDoor
