import Derived.Test.YtighfcpaplmaiaaGreatDoorTmL
import Derived.Test.YtighfcpaplmaiaaGreatDoorVgQ
set_option linter.unusedVariables false
set_option linter.unusedSimpArgs false
set_option maxRecDepth 20000
namespace Go.Vg
def b2A(c:UInt8):Bool:=decide (c.toNat=32∨c.toNat=9∨c.toNat=10)
def b2d:List UInt8→Option Nat
 | []=>none
 | c::r=>if c.toNat=10 then some 1 else(b2d r).map (· + 1)
def b4l:List UInt8→Bool
 | c::_=>decide (c.toNat=47)
 | []=>false
def adv:List UInt8→Nat
 | []=>0
 | c::r=>if b2A c then 1 else if decide (c.toNat=47) && b4l r then(b2d (c::r)).getD 0 else 0
theorem b9T{s:ByteArray}{pre post:List UInt8}{x:UInt8}(h:s.data.toList=pre++x::post){i:Int}(hi:i=pre.length):b5b s i=x.toNat:=by rw[hi];exact b1Q h
end Go.Vg
namespace Go.Proofs.YtighfcpaplmaiaaGreatDoor
open Go Go.Vg Go.Proofs
theorem d1G(s:ByteArray)(pre l:List UInt8)(hs:s.data.toList=pre++l):b0u env 250 [.str s,.int .i64 pre.length] (.int .i64 (pre.length+adv l:Nat)):=by
 refine b0i (fn:=Tryz.f250) Tryz.func250 rfl (by rw[Tryz.ntmps250];simp) rfl rfl ?_
 have hz:s.size=pre.length+l.length:=by rw[b2M hs];simp
 rcases l with _ | ⟨c,r⟩
 ·simp -implicitDefEqProofs only[go_sem,Tryz.f250]
  intro hb
  simp at hz
  exact⟨fun _=>by simp[adv],fun h=>absurd h (by omega)⟩
 ·simp -implicitDefEqProofs only[go_sem,Tryz.f250,b1Q hs]
  intro hb
  simp only[g9k]at hz
  rw[b0g (n:=pre.length) (by omega)]
  refine⟨fun h=>absurd h (by omega),fun _=>⟨by omega,fun h1=>⟨by omega,fun h2=>⟨by omega,fun h3=>?_,fun h3=>⟨by omega,fun h4 _=>⟨fun h5=>⟨by omega,fun h6=>?_,fun h6=>?_⟩,fun h5=>?_⟩,fun h4=>?_⟩⟩,fun h2=>?_⟩,fun h1=>?_⟩⟩
  ·have:b2A c=true:=by unfold b2A;simp;omega
   simp[adv,this]
  ·have hbl:b2A c=false:=by unfold b2A;simp;omega
   rcases r with _ | ⟨d,r⟩
   ·simp at hz;omega
   ·have hs2:s.data.toList=(pre++[c])++d::r:=by rw[hs];simp
    rw[b9T hs2 (by simp)]at h6
    have:b4l (d::r)=false:=by unfold b4l;simp at h6 ⊢;omega
    simp[adv,hbl,this]
  ·have hbl:b2A c=false:=by unfold b2A;simp;omega
   rcases r with _ | ⟨d,r⟩
   ·simp at hz;omega
   ·have hs2:s.data.toList=(pre++[c])++d::r:=by rw[hs];simp
    rw[b9T hs2 (by simp)]at h6
    have h47:b4l (d::r)=true:=by unfold b4l;simp at h6 ⊢;omega
    have hadv:adv (c::d::r)=(b2d (c::d::r)).getD 0:=by simp at h4;simp[adv,hbl,h47];omega
    rw[hadv]
    refine b0n (β:=Unit) (c::d::r) (fun q _=>⟨[(5,.int .i64 (pre.length+q.length:Nat)),(1,.int .i64 pre.length),(0,.str s)],[],[]⟩)
     (fun q post _=>b2d (c::d::r)=(b2d post).map (· + q.length)) () ?_ ?_ ?_ ?_
    ·simp -implicitDefEqProofs only[go_sem]
     try trivial
    ·simp
    ·intro _ i1
     have hsz:s.size=pre.length+(c::d::r).length:=by rw[b2M hs];simp
     simp -implicitDefEqProofs only[go_sem,hsz]
     intro _
     rw[i1];simp[b2d]
    ·rintro q x post _ hx i1
     have hs3:s.data.toList=(pre++q)++x::post:=by rw[hs,hx];simp
     have hsz:s.size=pre.length+q.length+(post.length+1):=by rw[b2M hs3];simp;omega
     have hlt:(((pre.length+q.length:Nat):Int)<(s.size:Int))=True:=by simp;omega
     simp -implicitDefEqProofs only[go_sem,hlt,b9T hs3 (i:=((pre.length+q.length:Nat):Int)) (by simp)]
     intro _
     refine⟨fun e=>?_,fun e=>⟨(),?_,?_⟩⟩
     ·have e':x.toNat=10:=by omega
      rw[b0g (by omega),i1,b2d,if_pos e']
      simp;omega
     ·have e':¬ x.toNat=10:=by omega
      rw[i1,b2d,if_neg e',Option.map_map]
      congr 1
      funext y
      simp;omega
     ·rw[b0g (by omega)];rfl
  ·have hbl:b2A c=false:=by unfold b2A;simp;omega
   have:r=[]:=g9C (by omega)
   subst this
   simp[adv,hbl,b4l]
  ·have hbl:b2A c=false:=by unfold b2A;simp;omega
   simp at h4
   have:¬ c.toNat=47:=by omega
   simp[adv,hbl,this]
  ·have:b2A c=true:=by unfold b2A;simp;omega
   simp[adv,this]
  ·have:b2A c=true:=by unfold b2A;simp;omega
   simp[adv,this]
end Go.Proofs.YtighfcpaplmaiaaGreatDoor
namespace Go.Vg
theorem b5O:∀ (l:List UInt8) n,b2d l=some n→n≤l.length∧1≤n
 | [],n,h=>by simp[b2d]at h
 | c::r,n,h=>by
  rw[b2d]at h
  split at h
  ·cases h;simp
  ·obtain⟨m,hm,rfl⟩:=g9l.1 h
   have:=b5O r m hm
   simp;omega
theorem d6F(l:List UInt8):adv l≤l.length:=by
 cases l with
 | nil=>simp[adv]
 | cons c r =>
  rw[adv]
  split
  ·simp
  ·split
   ·cases h:b2d (c::r)with
    | none=>simp
    | some n=>have:=b5O _ _ h;simpa using this.1
   ·simp
def b3c(l:List UInt8):Nat:=if h:adv l=0 then 0 else adv l+b3c (l.drop (adv l))
 termination_by l.length
 decreasing_by have:=d6F l;simp;omega
def b2P(s:ByteArray):Bool:=decide (b3c s.data.toList=s.size)
end Go.Vg
namespace Go.Proofs.YtighfcpaplmaiaaGreatDoor
open Go Go.Vg Go.Proofs
theorem f2R(s:ByteArray)(pre l:List UInt8)(hs:s.data.toList=pre++l)(hb:s.size≤1000000000):b0u env 245 [.str s,.int .i64 pre.length] (.int .i64 (pre.length+b3c l:Nat)):=by
 refine b0i (fn:=Tryz.f245) Tryz.func245 rfl (by rw[Tryz.ntmps245];simp) rfl rfl ?_
 have hz:s.size=pre.length+l.length:=by rw[b2M hs];simp
 have h1:((pre.length:Int)<0)=False:=by simp
 have h2:((s.size:Int)<(pre.length:Int))=False:=by simp;omega
 simp -implicitDefEqProofs only[go_sem,Tryz.f245,h1,h2]
 intro _
 refine b1A (α:=List UInt8×List UInt8) (fun a=>⟨[(0,.str s),(1,.int .i64 a.1.length)],[],[]⟩) (fun a=>s.data.toList=a.1++a.2∧a.1.length+b3c a.2=pre.length+b3c l) (fun a=>a.2.length) (pre,l) ?_ ⟨hs,rfl⟩ ?_
 ·simp -implicitDefEqProofs only[go_sem]
 ·rintro⟨p,q⟩ ⟨i1,i2⟩
  simp only at i1 i2
  have hzq:s.size=p.length+q.length:=by rw[b2M i1];simp
  simp -implicitDefEqProofs only[go_sem]
  refine(d1G s p q i1).calls rfl ?_
  simp -implicitDefEqProofs only[go_sem]
  have hle:=d6F q
  have hsplit:s.data.toList=(p++q.take (adv q))++q.drop (adv q):=by rw[i1];simp
  refine⟨fun c=>?_,fun c=>?_⟩
  ·refine(d1G s p q i1).calls rfl ?_
   simp -implicitDefEqProofs only[go_sem]
   refine⟨(p++q.take (adv q),q.drop (adv q)),?_,⟨hsplit,?_⟩,?_⟩
   ·simp;omega
   ·have:b3c q=adv q+b3c (q.drop (adv q)):=by rw[b3c,dif_neg (by omega)]
    simp;omega
   ·simp;omega
  ·have h0:adv q=0:=by omega
   have:b3c q=0:=by rw[b3c,dif_pos h0]
   rw[←i2,this];simp
theorem d3o(s:ByteArray)(hb:s.size≤1000000000):b0u env 233 [.str s] (.bool (b2P s)):=by
 refine b0i (fn:=Tryz.f233) Tryz.func233 rfl (by rw[Tryz.ntmps233];simp) rfl rfl ?_
 simp -implicitDefEqProofs only[go_sem,Tryz.f233]
 have h:=f2R s [] s.data.toList rfl hb
 simp only[g9F,g9s]at h
 refine b0u.calls h rfl ?_
 simp -implicitDefEqProofs only[go_sem]
 intro _
 unfold b2P
 congr 1
 by_cases e:b3c s.data.toList=s.size
 ·simp[e]
 ·rw[g9v e];simp;omega
end Go.Proofs.YtighfcpaplmaiaaGreatDoor
namespace Go.Vg
theorem b0Y{k t g ks}:(b0o (.mk k t g ks)).length=(b0l ks).length+1:=by rw[b0o];rfl
def Nd.zero:Nd := .mk 0 ⟨#[]⟩ [] []
@[go_sem] theorem c9c{E:Env}{heap:List VObj}{K:V→List VObj→Prop}{id off len cap e1 e e2 e':Nat}{es:List (List V)}(hn:es≠[]):d7c E heap (some (.slice e)) (some (.slice e2)) (.mslice id off len cap e1) (sl e' es) K=d6L E heap heap[id]? e id off len e' es K:=by
 cases es with
 | nil=>exact absurd rfl hn
 | cons=>rfl
theorem f5H:∀ l:List ByteArray,(l.map b0p).flatten=l.map V.str
 | []=>rfl
 | x::r=>by simp[f5H r,b0p]
theorem d7e:∀ (l:List ByteArray),b2X 1 l.length (l.map V.str)=l.map b0p
 | []=>rfl
 | x::r=>by simp[b2X,d7e r,b0p]
end Go.Vg
namespace Go.Proofs.YtighfcpaplmaiaaGreatDoor
open Go Go.Vg Go.Proofs
theorem g0o:(n:Nd)→(b0o n).length≤1000000→b0u env 156 [.agg n.enc] (.int .i64 (b0o n).length):=by
 refine Nd.all fun k t g ks ih hs=>?_
 refine b0i (fn:=Tryz.f156) Tryz.func156 rfl (by rw[Tryz.ntmps156];simp) (by simp -implicitDefEqProofs only[go_sem]) rfl ?_
 simp -implicitDefEqProofs only[go_sem,Tryz.f156]
 intro _ hl
 rw[b0Y]at hs ⊢
 refine b0n (β:=Unit) ks (fun pre _=>⟨[(9,.int .i64 pre.length),(8,.int .i64 ks.length),(7,sl 66 (ks.map Nd.enc)),(3,.int .i64 ((b0l pre).length+1:Nat))],[.dead],[]⟩) (fun _ _ _=>True) () ?_ trivial ?_ ?_
 ·simp -implicitDefEqProofs only[go_sem]
  exact⟨rfl,rfl⟩
 ·intro _ _
  simp -implicitDefEqProofs only[go_sem]
 ·rintro pre x post _ rfl _
  have hp:=b2p hl
  have hsz:(b0l (pre++x::post)).length=(b0l pre).length+(b0o x).length+(b0l post).length:=by
   rw[b1n,b0l];simp;omega
  simp -implicitDefEqProofs only[go_sem]
  refine(ih x b1w (by omega)).calls (by simp -implicitDefEqProofs only[go_sem]) ?_
  simp -implicitDefEqProofs only[go_sem]
  refine⟨(),b0g (by omega),?_⟩
  rw[b1u,g9d,Vg.wrap_small (by omega) (by omega)]
  omega
theorem d1r(l:List ByteArray):b0u env 98 [sl 9 (l.map b0p)] (sl 9 (l.map b0p)):=by
 refine c9U (fn:=Tryz.f98) Tryz.func98 rfl (by rw[Tryz.ntmps98];simp) (by simp -implicitDefEqProofs only[go_sem]) (by simp -implicitDefEqProofs only[go_sem]) ?_
 simp -implicitDefEqProofs only[go_sem,Tryz.f98]
 intro hb hl
 refine⟨fun h0=>?_,fun h0 _ _=>?_⟩
 ·have:l=[]:=g9C (by omega)
  subst this;rfl
 ·have hn:l.map b0p≠[]:=by
   intro h;apply h0;simp at h;simp[h]
  refine⟨hb,?_⟩
  rw[c9c hn]
  simp -implicitDefEqProofs only[go_sem]
  rw[f5H,g9s,List.drop_eq_nil_of_le (by simp),g9B]
  refine⟨by simp,by simp[V.cell],by simp,by rw[d7e]⟩
theorem d7u:(n:Nd)→b0u env 68 [.agg n.enc] (.agg n.enc):=by
 refine Nd.all fun k t g ks ih=>?_
 refine b0i (fn:=Tryz.f68) Tryz.func68 rfl (by rw[Tryz.ntmps68];simp) (by simp -implicitDefEqProofs only[go_sem]) (by simp -implicitDefEqProofs only[go_sem]) ?_
 simp -implicitDefEqProofs only[go_sem,Tryz.f68]
 refine b0h (cs:=[]) b0v (by kernel_rfl) ?_
 simp -implicitDefEqProofs only[go_sem]
 refine b0B (d1r g) (by simp -implicitDefEqProofs only[go_sem]) ?_
 simp -implicitDefEqProofs only[go_sem]
 intro hb hl
 refine b0n (β:=Unit) ks (fun pre _=>⟨[(17,.int .i64 pre.length),(16,.int .i64 ks.length),(15,sl 66 (ks.map Nd.enc)),(3,.ptr 2 0),(2,.ptr 1 0)],
   [.dead,.cells [.int .i64 0,.str ⟨#[]⟩,.slice .nil 0 [],.slice .nil 0 []],.cells [.int .i64 k,.str t,sl 9 (g.map b0p),.slice (.arr 0) 66 (pre.map Nd.enc)]],[pre.length]⟩)
  (fun _ _ _=>True) () ?_ trivial ?_ ?_
 ·simp -implicitDefEqProofs only[go_sem]
  rfl
 ·intro _ _
  simp -implicitDefEqProofs only[go_sem]
 ·rintro pre x post _ rfl _
  have hp:=b2p hl
  simp -implicitDefEqProofs only[go_sem]
  refine b0h (cs:=[]) b0v (by kernel_rfl) ?_
  simp -implicitDefEqProofs only[go_sem]
  refine b0B (ih x b1w) (by simp -implicitDefEqProofs only[go_sem]) ?_
  simp -implicitDefEqProofs only[go_sem]
  refine⟨by simp at hb;omega,(),b0g (by omega),?_⟩
  have e:List.map Nd.enc pre++[x.enc]=List.map Nd.enc (pre++[x]):=by simp
  exact .inr (by rw[e];exact b0m _ _ _ (b8u _))
theorem d9Y:(n:Nd)→(b0o n).length≤1000000→∀ (i:Nat),i≤9223372036854775807→b0u env 67 [.agg n.enc,.int .i64 i]
  (match(b0o n)[i]? with | some x => .tuple [.agg x.enc,.int .i64 0,.bool true] | none => .tuple [.agg Nd.zero.enc,.int .i64 (b0o n).length,.bool false]):=by
 refine Nd.all fun k t g ks ih hn i hi=>?_
 refine b0i (fn:=Tryz.f67) Tryz.func67 rfl (by rw[Tryz.ntmps67];simp) (by simp -implicitDefEqProofs only[go_sem]) (by split <;> simp -implicitDefEqProofs only[go_sem]) ?_
 simp -implicitDefEqProofs only[go_sem,Tryz.f67]
 have hz:Nd.zero.enc=[.int .i64 0,.str ⟨#[]⟩,.slice .shared 0 [],.slice .shared 0 []]:=rfl
 rw[b0Y]at hn
 refine⟨fun h0=>?_,fun h0 hb hl=>?_⟩
 ·have:i=0:=by omega
  subst this
  simp[b0o,b8i]
 refine b0n (β:=Unit) ks (fun pre _=>⟨[(19,.int .i64 pre.length),(18,.int .i64 ks.length),(17,sl 66 (ks.map Nd.enc)),(7,.int .i64 ((b0l pre).length+1:Nat)),(6,.bool false),(5,.int .i64 0),(4,.ptr 1 0),(1,.int .i64 i)],
   [.dead,.cells [.int .i64 0,.str ⟨#[]⟩,.slice .nil 0 [],.slice .nil 0 []]],[]⟩) (fun pre _ _=>(b0l pre).length<i) () ?_ ?_ ?_ ?_
 ·simp -implicitDefEqProofs only[go_sem]
  exact⟨rfl,rfl⟩
 ·show 0<i
  omega
 ·intro _ hlt
  simp -implicitDefEqProofs only[go_sem]
  have:(b0o (.mk k t g ks))[i]? = none:=by
   rw[g9K];rw[b0Y];omega
  rw[this,b0Y,hz]
 ·rintro pre x post _ rfl hlt
  have hp:=b2p hl
  have hsz:(b0l (pre++x::post)).length=(b0l pre).length+(b0o x).length+(b0l post).length:=by
   rw[b1n,b0l];simp;omega
  simp -implicitDefEqProofs only[go_sem]
  have ew:IntKind.i64.wrap (↑i - ↑((b0l pre).length+1))=((i - ((b0l pre).length+1):Nat):Int):=by
   rw[Vg.wrap_small (by omega) (by omega)];omega
  rw[ew]
  have hih:=ih x b1w (by omega) (i - ((b0l pre).length+1)) (by omega)
  cases hq:(b0o x)[i - ((b0l pre).length+1)]? with
  | none =>
   rw[hq]at hih
   have hql:(b0o x).length≤i - ((b0l pre).length+1):=by simpa using hq
   refine hih.calls (by simp -implicitDefEqProofs only[go_sem]) ?_
   simp -implicitDefEqProofs only[go_sem]
   have e:(b0l (pre++[x])).length=(b0l pre).length+(b0o x).length:=by rw[b1u,g9d]
   refine⟨(),by omega,b0g (by omega),?_⟩
   rw[e,Vg.wrap_small (by omega) (by omega)]
   omega
  | some y =>
   rw[hq]at hih
   have hql:=(g8Y.1 hq).1
   refine hih.calls (by simp -implicitDefEqProofs only[go_sem]) ?_
   simp -implicitDefEqProofs only[go_sem]
   have:(b0o (.mk k t g (pre++x::post)))[i]? = some y:=by
    rw[b0o,b1n,b0l]
    obtain⟨m,rfl⟩:∃ m,i=m+1:=⟨i - 1,by omega⟩
    rw[g8V,g9c (by omega),g9a (by omega),←hq]
    congr 1
    omega
   rw[this]
theorem TAt(n:Nd)(hn:(b0o n).length≤1000000)(i:Int)(hi:i≤9223372036854775807):b0u env 36 [.agg n.enc,.int .i64 i]
  (.tuple [.agg (((if 0≤i then(b0o n)[i.toNat]? else none)).getD Nd.zero).enc,.bool ((if 0≤i then(b0o n)[i.toNat]? else none)).isSome]):=by
 refine b0i (fn:=Tryz.f36) Tryz.func36 rfl (by rw[Tryz.ntmps36];simp) (by simp -implicitDefEqProofs only[go_sem]) (by simp -implicitDefEqProofs only[go_sem]) ?_
 simp -implicitDefEqProofs only[go_sem,Tryz.f36]
 have hz:Nd.zero.enc=[.int .i64 0,.str ⟨#[]⟩,.slice .shared 0 [],.slice .shared 0 []]:=rfl
 refine⟨fun h0=>?_,fun h0=>?_⟩
 ·rw[if_neg (by omega)]
  rfl
 ·rw[if_pos (by omega)]
  have hih:=d9Y n hn i.toNat (by omega)
  rw[show((i.toNat:Nat):Int)=i by omega]at hih
  cases hq:(b0o n)[i.toNat]? with
  | none =>
   rw[hq]at hih
   refine hih.calls (by simp -implicitDefEqProofs only[go_sem]) ?_
   simp -implicitDefEqProofs only[go_sem]
   rfl
  | some y =>
   rw[hq]at hih
   refine hih.calls (by simp -implicitDefEqProofs only[go_sem]) ?_
   simp -implicitDefEqProofs only[go_sem]
   refine(d7u y).calls (by simp -implicitDefEqProofs only[go_sem]) ?_
   simp -implicitDefEqProofs only[go_sem]
   rfl
end Go.Proofs.YtighfcpaplmaiaaGreatDoor
namespace Go.Vg
open Go.RowKit
theorem RelW.freezeV{E:Env}{G:Gh}{heap:List VObj}{arr:List Nat}{w0:Base}{w:World}(h:RelW E G heap arr w0 w){id k gen:Nat}{e:TypeId}{cs:List V}(hh:heap[id]? = some (.vec k gen e cs))(hpos:0<cs.length) :
  ∃ G' b hi,G.ρ[k]? = some (b,0,hi)∧arr[k]? = some gen∧Ext G arr G' (arr.set k (gen+1))∧RelW E G' (heap.set id .dead) (arr.set k (gen+1)) w0 w ∧
   ∀ (j:Nat) c,cs[j]? = some c→∃ u,G'.F b j=some u∧RV E.P G' (arr.set k (gen+1)) c u:=by
 obtain⟨hak,hgg,b,hi,hρ,hch,hcells⟩:=h.vs.at_ _ _ _ _ _ hh
 have hidl:=(g8Y.1 hh).1
 have hkl:=(g8Y.1 hak).1
 have hkρ:=(g8Y.1 hρ).1
 have hhi:0<hi:=by omega
 obtain⟨⟨c0,e0,r1,r2⟩,r3,r4,r5⟩:=h.reg k b 0 hi hρ hhi
 let G':Gh:=⟨fun b' o=>if b'=b∧o<cs.length then w.cell? ⟨b,o,none⟩else G.F b' o,G.φ,G.ρ.set k (b,hi,hi)⟩
 have hF:∀ b' o,G'.F b' o=if b'=b∧o<cs.length then w.cell? ⟨b,o,none⟩else G.F b' o:=fun _ _=>rfl
 have hx:Ext G arr G' (arr.set k (gen+1)):=by
  refine⟨fun b' o v hv=>?_,fun _ _ h=>h,fun j n hj=>?_⟩
  ·rw[hF,if_neg (fun hc=>by
    obtain⟨rfl,ho⟩:=hc
    rw[r4 o (Nat.zero_le _) (by omega)]at hv;cases hv)]
   exact hv
  ·by_cases ej:j=k
   ·subst ej
    rw[hak]at hj;cases hj
    exact⟨gen+1,g9e hkl,by omega,fun e=>by omega⟩
   ·exact⟨n,by rw[g9i (Ne.symm ej)];exact hj,g9m _,fun _=>by
     show(G.ρ.set k _)[j]? = _
     rw[g9i (Ne.symm ej)]⟩
 have hset:∀ (i:Nat) o,(heap.set id .dead)[i]? = some o→o ≠ .dead→i≠id∧heap[i]? = some o:=fun i o ho hn=>by
  by_cases ei:i=id
  ·subst ei
   rw[g9e hidl]at ho;cases ho;exact absurd rfl hn
  ·rw[g9i (Ne.symm ei)]at ho
   exact⟨ei,ho⟩
 have hρ':∀ (j b' lo hi':Nat),G'.ρ[j]? = some (b',lo,hi')→lo<hi'→j≠k∧G.ρ[j]? = some (b',lo,hi'):=fun j b' lo hi' hj hlt=>by
  change (G.ρ.set k (b,hi,hi))[j]? = _ at hj
  by_cases ej:j=k
  ·subst ej
   rw[g9e hkρ]at hj
   cases hj;omega
  ·rw[g9i (Ne.symm ej)]at hj
   exact⟨ej,hj⟩
 refine⟨G',b,hi,hρ,hak,hx,⟨fun b' o v hv hlt=>?_,fun g ds hg=>⟨(h.glob g ds hg).1,(h.glob g ds hg).2.mono hx⟩,h.below,fun b' o v hv=>?_,fun b' o v hv=>?_,fun i ob hi'=>?_,by simp[G',h.lenφ],h.nod,fun i b' o hi' hd=>?_,h.geφ,by simp[G',h.lenρ],
  fun j b' lo hi' hj hlt=>?_,fun j j' b' lo hi1 lo' hi2 hne h1 h2 hl1 hl2=>h.regd j j' b' lo hi1 lo' hi2 hne (hρ' _ _ _ _ h1 hl1).2 (hρ' _ _ _ _ h2 hl2).2 hl1 hl2,fun j b' lo hi' hj=>?_,fun i t s b' hi' hb'=>?_,h.ini,⟨fun i k1 g1 e1 cs1 hi1=>?_,fun i i' k1 g1 g1' e1 e1' cs1 cs1' h1 h2=>?_⟩⟩,fun j c hj=>?_⟩
 ·rw[hF,if_neg (fun hc=>by omega)]at hv
  exact h.newF b' o v hv hlt
 ·rw[hF]at hv
  split at hv
  ·rename_i hc;rw[hc.1];exact hv
  ·exact h.frz _ _ _ hv
 ·rw[hF]at hv
  split at hv
  ·rename_i hc
   obtain⟨v',q1,q2,q3⟩:=hcells o _ (g9b hc.2)
   rw[hv]at q1;cases q1;exact q3
  ·exact h.one _ _ _ hv
 ·by_cases ei:i=id
  ·subst ei
   rw[g9e hidl]at hi'
   cases hi'
   obtain⟨b',hb',_⟩:=h.obj i _ hh
   exact⟨b',hb',trivial⟩
  ·rw[g9i (Ne.symm ei)]at hi'
   obtain⟨b',hb',hr⟩:=h.obj i ob hi'
   exact⟨b',hb',hr.keep hx rfl⟩
 ·have ei:i≠id:=fun ei=>by subst ei;rw[g9e hidl]at hd;exact absurd rfl hd
  rw[g9i (Ne.symm ei)]at hd
  rw[hF,if_neg (fun hc=>?_)]
  ·exact h.sep i b' o hi' hd
  ·obtain⟨rfl,_⟩:=hc
   have hil:i<heap.length:=by rw[←h.lenφ];exact(g8Y.1 hi').1
   have hl:=r3 i hi' _ (g9b hil)
   cases ho:heap[i]with
   | dead=>rw[g9b hil,ho]at hd;exact absurd rfl hd
   | vec k1 g1 e1 cs1 =>
    rw[ho]at hl
    simp only[VObj.looseAt,beq_iff_eq]at hl
    subst hl
    exact ei (h.vs.uni i id k1 g1 gen e1 e cs1 cs (by rw[g9b hil,ho]) hh)
   | _=>rw[ho]at hl;cases hl
 ·obtain⟨ej,hj'⟩:=hρ' _ _ _ _ hj hlt
  obtain⟨s1,s2,s3,s4⟩:=h.reg j b' lo hi' hj' hlt
  refine⟨s1,fun i hi1 ob hob=>?_,fun o h1 h2=>?_,s4⟩
  ·by_cases ei:i=id
   ·subst ei
    rw[g9e hidl]at hob;cases hob;rfl
   ·rw[g9i (Ne.symm ei)]at hob
    exact s2 i hi1 ob hob
  ·rw[hF,if_neg (fun hc=>?_)]
   ·exact s3 o h1 h2
   ·obtain⟨rfl,ho⟩:=hc
    rcases h.regd k j b' 0 hi lo hi' (Ne.symm ej) hρ hj' hhi hlt with q | q <;> omega
 ·change (G.ρ.set k (b,hi,hi))[j]? = _ at hj
  by_cases ej:j=k
  ·subst ej
   rw[g9e hkρ]at hj
   cases hj;exact .inl r5
  ·rw[g9i (Ne.symm ej)]at hj
   exact h.fre j b' lo hi' hj
 ·obtain⟨ei,hi1⟩:=hset i _ hi' (by intro h;cases h)
  refine(h.bld i t s b' hi1 hb').keep rfl fun g hg ⟨s1,s2,s3⟩=>⟨rfl,fun o=>?_,s2,fun j lo hi2 hj=>?_⟩
  ·rw[hF,if_neg (fun hc=>?_)]
   ·exact s1 o
   ·have:=s3 k 0 hi (by rw[hc.1];exact hρ);omega
  ·change (G.ρ.set k (b,hi,hi))[j]? = _ at hj
   by_cases ej:j=k
   ·subst ej
    rw[g9e hkρ]at hj
    cases hj;omega
   ·rw[g9i (Ne.symm ej)]at hj
    exact s3 j lo hi2 hj
 ·obtain⟨ei,hi2⟩:=hset i _ hi1 (by intro h;cases h)
  obtain⟨q1,q2,b1,hi3,q3,q4,q5⟩:=h.vs.at_ _ _ _ _ _ hi2
  have hk1:k1≠k:=fun e0=>by
   subst e0
   exact ei (h.vs.uni i id _ _ _ _ _ _ _ hi2 hh)
  refine⟨by rw[g9i (Ne.symm hk1)];exact q1,q2,b1,hi3,?_,q4,fun j x hj=>?_⟩
  ·show(G.ρ.set k (b,hi,hi))[k1]? = _
   rw[g9i (Ne.symm hk1)];exact q3
  ·obtain⟨v,p1,p2,p3⟩:=q5 j x hj
   exact⟨v,p1,p2.mono hx,p3⟩
 ·obtain⟨_,a1⟩:=hset i _ h1 (by intro h;cases h)
  obtain⟨_,a2⟩:=hset i' _ h2 (by intro h;cases h)
  exact h.vs.uni _ _ _ _ _ _ _ _ _ a1 a2
 ·have hjl:=(g8Y.1 hj).1
  obtain⟨v,q1,q2,q3⟩:=hcells j c hj
  exact⟨v,by rw[hF,if_pos ⟨rfl,hjl⟩];exact q1,q2.mono hx⟩
theorem RV.thawV{P:Program}{G G':Gh}{arr arr':List Nat}{id k gen len e b hi:Nat}{cs:List V}{v:Value}(h:RV P G arr (.vec id k gen len e) v)(hak:arr[k]? = some gen)(hρ:G.ρ[k]? = some (b,0,hi))(hok:b0W P e=true)(hl:len * P.cellsOf e≤cs.length)
  (hc:∀ (j:Nat) c,cs[j]? = some c→∃ u,G'.F b j=some u∧RV P G' arr' c u):RV P G' arr' (Vg.sl e (b2X (P.cellsOf e) len cs)) v:=by
 obtain⟨i,z,hi',hz,hz1,hzs,his,hib,hs1,hb1,hb2⟩:=b2F hok
 cases h with
 | vec _ _ _ _ _ b' o cap hv h1 h2 =>
  obtain⟨n,q1,q2,q3⟩:=hv
  rw[hak]at q1
  cases q1
  obtain⟨b1,hi1,q4,q5,q6,q7,q8⟩:=q3 rfl
  rw[hρ]at q4
  cases q4
  subst q7 q8
  have hlen:=b5G (P.cellsOf e) len cs
  have:=RV.ofCells (P:=P) (G:=G') (arr:=arr') (o := .shared) (e:=e) (es:=b2X (P.cellsOf e) len cs) (b:=b) (off:=0) (cap:=cap) trivial (fun i el hi=>(b5u _ _ _ _ _ hl hi).1) (by rw[hlen];exact h2) hb1 (by rw[hlen];exact q6)
   (fun i el j c hi hj=>by
    obtain⟨u,hu,hr⟩:=hc _ _ ((b5u _ _ _ _ _ hl hi).2 j c hj)
    exact⟨u,by rw[g9s];exact hu,hr⟩)
  rw[hlen]at this
  exact this.sl
theorem b0r.thawV{E:Env}{f:FuncId}{args:List V}{heap:List VObj}{arr:List Nat}{K:b1z}
  (h:b0r E f args heap arr fun v h' a'=>∃ id k gen len e cs,v = .vec id k gen len e∧h'[id]? = some (.vec k gen e cs)∧0<cs.length∧b0W E.P e=true∧len * E.P.cellsOf e≤cs.length∧K (sl e (b2X (E.P.cellsOf e) len cs)) (h'.set id .dead) (a'.set k (gen+1))) :
  b0r E f args heap arr K:=by
 intro G w0 w vals hrel ha
 refine(h G w0 w vals hrel ha).mono fun e' w' hg=>?_
 rcases hg with⟨val,he,v,heap',arr',G',hv,hx,hr,hrv⟩ | hd
 ·obtain⟨id,k,gen,len,e,cs,rfl,h1,h2,h3,h4,hK⟩:=hv
  obtain⟨G'',b,hi,g1,g2,g3,g4,g5⟩:=hr.freezeV h1 h2
  exact .inl ⟨val,he,_,_,_,G'',hK,hx.trans g3,g4,hrv.thawV g2 g1 h3 h4 g5⟩
 ·exact .inr hd
theorem b7n{E:Env}{hb ab n:Nat}{c:Code}{s:St}{Q:VEx→St→Prop}{α β:Type}(xs:List α)(S:List α→β→St)(I:List α→List α→β→Prop)(b0:β)(T:β→St)(h0:c5T hb ab s (S [] b0))(hI:I [] xs b0)
  (hw:∀ b,I xs [] b→b7b E hb ab n (S xs b) (T b))
  (stop:∀ b,I xs [] b→vc E hb ab n c (T b) (d8j Q))
  (step:∀ pre x post b,xs=pre++x::post→I pre (x::post) b→vc E hb ab n c (S pre b) (d0c hb ab S I pre x post Q)):Snd E hb ab n (.loop c) s Q:=by
 refine c2i (fun m t=>∃ pre post b,t=S pre b∧xs=pre++post∧I pre post b∧post.length=m) ⟨_,_,h0.weak,[],xs,b0,rfl,rfl,hI,rfl⟩ fun m t ⟨pre,post,b,ht,hx,hi,hm⟩=>?_
 subst ht
 cases post with
 | nil =>
  have:xs=pre:=by simpa using hx
  subst this
  refine(c6m (hw b hi) (b5h _ _ _ (stop b hi))).mono fun e s hq=>?_
  cases e with
  | normal=>exact hq.elim
  | exit id=>exact hq
  | ret=>exact hq
 | cons x post =>
  refine(b5h _ _ _ (step pre x post b hx hi)).mono fun e s hq=>?_
  cases e with
  | normal =>
   obtain⟨b',h1,h2⟩:=hq
   refine⟨post.length,S (pre++[x]) b',by simp at hm;omega,h2.weak,pre++[x],post,b',rfl,by simp[hx],h1,rfl⟩
  | exit id=>exact hq
  | ret=>exact hq
theorem b7b.freezeH{E:Env}{hb ab n:Nat}{tm:List (Nat×V)}{h:List VObj}{a:List Nat}(id:Nat){cs:List V}(hh:h[id]? = some (.cells cs))(hc:cs.all V.cell=true) :
  b7b E hb ab n ⟨tm,h,a⟩ ⟨frT E.P id cs tm,h.set id .dead,a⟩:=by
 intro B G ac w q1 q2 q3 q4
 obtain⟨G',b,hφ,hx,hr,hφ',hcs⟩:=q4.rw.freezeO hh hc
 exact⟨G',q3.trans hx,hr,⟨fun i=>by
   show RV _ _ _ (b1S (frT E.P id cs tm) i) _
   rw[d5l];exact(q4.rt.tm i).frV hx hφ hcs,q4.rt.sz⟩,q4.df⟩
structure Rw where
 parent:Int
 kind:Int
 text:ByteArray
 gaps:List ByteArray
 kids:List Nat
def b0M(n:Nat):List V:=[.int .i64 n]
def Rw.enc(r:Rw):List V:=[.int .i64 r.parent,.int .i64 r.kind,.str r.text,sl 9 (r.gaps.map b0p),sl 3 (r.kids.map b0M)]
def b1r(l:List Rw):List V:=(l.map Rw.enc).flatten
theorem b7e(a b:List Rw):b1r (a++b)=b1r a++b1r b:=by simp[b1r]
theorem b2w:∀ l:List Rw,(b1r l).length=l.length * 5
 | []=>rfl
 | x::r=>by
  have:=b2w r
  simp only[b1r,g9o,g9X,g9d]at this ⊢
  rw[this];simp[Rw.enc];omega
mutual
def b0z:Nd→Int→Nat→List Rw
 | .mk k t g ks,p,a=>⟨p,k,t,g,b0H ks (a+1)⟩::b1b ks a (a+1)
def b1b:List Nd→Nat→Nat→List Rw
 | [],_,_=>[]
 | x::r,p,a=>b0z x p a++b1b r p (a+(b0o x).length)
def b0H:List Nd→Nat→List Nat
 | [],_=>[]
 | x::r,a=>a::b0H r (a+(b0o x).length)
end
theorem b3U(x:Nd):∀ (pre:List Nd) a,b0H (pre++[x]) a=b0H pre a++[a+(b0l pre).length]
 | [],a=>by simp[b0H,b0l]
 | y::r,a=>by
  simp only[g8X,b0H,b3U x r,b0l,g9d]
  rw[h0n]
theorem b0V:∀ (l:List Nd) a,(b0H l a).length=l.length
 | [],_=>rfl
 | x::r,a=>by simp[b0H,b0V r]
theorem b4w(x:Nd)(p:Nat):∀ (pre:List Nd) a,b1b (pre++[x]) p a=b1b pre p a++b0z x p (a+(b0l pre).length)
 | [],a=>by simp[b1b,b0l]
 | y::r,a=>by
  simp only[g8X,b1b,b4w x p r,b0l,g9d,g9t]
  rw[h0n]
mutual
theorem b0N:∀ (n:Nd) p a,(b0z n p a).length=(b0o n).length
 | .mk k t g ks,p,a=>by rw[b0z,b0Y,g9k,b3l ks]
theorem b3l:∀ (l:List Nd) p a,(b1b l p a).length=(b0l l).length
 | [],_,_=>rfl
 | x::r,p,a=>by rw[b1b,b0l,g9d,g9d,b0N x,b3l r]
end
theorem d2o{a:List Nat}{n m:Nat}:(a++[n]).set a.length m=a++[m]:=by rw[g9J _ _ (g9m _)];simp
theorem b8B(rs:List Rw)(r:Rw)(q:List Rw)(kl:List Nat)(hr:r.kids=[]):List.take ((rs.length:Int).toNat * 5+4) (b1r (rs++r::q))++[sl 3 (kl.map b0M)]++List.drop ((rs.length:Int).toNat * 5+4+1) (b1r (rs++r::q))=b1r (rs++{ r with kids:=kl }::q):=by
 have hl:=b2w rs
 have e:b1r (rs++r::q)=(b1r rs++[.int .i64 r.parent,.int .i64 r.kind,.str r.text,sl 9 (r.gaps.map b0p)])++([sl 3 (r.kids.map b0M)]++b1r q):=by
  rw[b7e];simp[b1r,Rw.enc]
 have e':b1r (rs++{ r with kids:=kl }::q)=(b1r rs++[.int .i64 r.parent,.int .i64 r.kind,.str r.text,sl 9 (r.gaps.map b0p)])++([sl 3 (kl.map b0M)]++b1r q):=by
  rw[b7e];simp[b1r,Rw.enc]
 rw[e,e',show(rs.length:Int).toNat=rs.length by omega]
 have hlen:(b1r rs++[.int .i64 r.parent,.int .i64 r.kind,.str r.text,sl 9 (r.gaps.map b0p)]).length=rs.length * 5+4:=by simp[hl]
 rw[←hlen,List.take_left,←h0t,List.drop_left]
 simp
theorem d0y{A:List V}{n m:Nat}(hA:A.length=n)(hm:n<m)(v:V):List.take (0+((n:Nat):Int).toNat * 1) (A++List.replicate (m - n) (.int .i64 0))++[v]++List.drop (0+((n:Nat):Int).toNat * 1+1) (A++List.replicate (m - n) (.int .i64 0)) =
  (A++[v])++List.replicate (m - (n+1)) (.int .i64 0):=by
 rw[show 0+((n:Nat):Int).toNat * 1=A.length by omega,List.take_left,←h0t,List.drop_left]
 congr 1
 rw[List.drop_replicate]
 congr 1
theorem c4t(n:Nat):(List.replicate n [V.int .i64 0]).flatten=List.replicate n (V.int .i64 0):=by
 induction n with
 | zero=>rfl
 | succ n ih=>rw[List.replicate_succ,g9X,ih];rfl
theorem d0O:∀ (l:List Nat),b2X 1 l.length (l.map fun n:Nat=>V.int .i64 n)=l.map b0M
 | []=>rfl
 | x::r=>by simp[b2X,d0O r,b0M]
section
variable {h l : List VObj} {id i : Nat} {x y : VObj}
theorem b0K(ho:h[id]? = some x):(h++l)[id]? = some x:=by rw[g9a (g8Y.1 ho).1];exact ho
theorem b1h(ho:id<h.length):(h++l).set id x=h.set id x++l:=List.set_append_left _ _ ho
theorem b4m(ho:id<h.length):(h.set id x++l)[id]? = some x:=by rw[g9a (by simpa using ho),g9e ho]
theorem b5K(ho:id<h.length):(h.set id x++l).set id y=h.set id y++l:=by rw[List.set_append_left _ _ (by simpa using ho),List.set_set]
theorem b3C:(h.set id x++l)[h.length]? = l[0]?:=by rw[g9c (by simp)];simp
theorem b1N:(h.set id x++l)[h.length+i]? = l[i]?:=by rw[g9c (by simp)];simp
theorem b3B:(h.set id x++l).set h.length y=h.set id x++l.set 0 y:=by rw[g9J _ _ (by simp)];simp
theorem b1P:(h.set id x++l).set (h.length+i) y=h.set id x++l.set i y:=by rw[g9J _ _ (by simp)];simp
theorem b1I:(h.set id x).length=h.length:=List.length_set
end
end Go.Vg
namespace Go.Proofs.YtighfcpaplmaiaaGreatDoor
open Go Go.Vg Go.Proofs
theorem g2j:(n:Nd)→∀ (h:List VObj) (a:List Nat) (id k gen:Nat) (rs:List Rw) (p:Int),h[id]? = some (.vec k gen 48 (b1r rs))→0<rs.length→rs.length+(b0o n).length≤1000000 →
  b0r (envV 45) 77 [.vec id k gen rs.length 48,.agg n.enc,.int .i64 p] h a fun v h' a'=>∃ gen' z,v = .vec id k gen' (rs.length+(b0o n).length) 48 ∧
   h'=h.set id (.vec k gen' 48 (b1r (rs++b0z n p rs.length)))++z∧a'=a.set k gen':=by
 refine Nd.all fun k t g ks ih h a id kk gen rs p hid hrs hn=>?_
 refine b0A (fn:=Tryz.f77) Tryz.func77 rfl (by rw[Tryz.ntmps77];simp) ?_
 simp -implicitDefEqProofs only[go_sem,Tryz.f77]
 intro hl1
 refine b0h (cs:=[]) b0v (by kernel_rfl) ?_
 simp -implicitDefEqProofs only[go_sem]
 refine b0B (b0u.toV (d1r g)) (by simp -implicitDefEqProofs only[go_sem]) ?_
 have hlt:id<h.length:=(g8Y.1 hid).1
 simp -implicitDefEqProofs only[go_sem,b0K hid,b1h hlt,b4m hlt,b5K hlt,b3C,b1N,b3B,b1P,b1I]
 rw[b0Y]at hn ⊢
 have hel:=b2w rs
 have e0:∀ kl:List Nat,b1r rs++[[V.int .i64 p,.int .i64 k,.str t,sl 9 (g.map b0p),sl 3 (kl.map b0M)]].flatten=b1r (rs++[⟨p,k,t,g,kl⟩]):=fun kl=>by
  rw[b7e];rfl
 have e1:b1r rs++[[V.int .i64 p,.int .i64 k,.str t,sl 9 (g.map b0p),V.slice .shared 0 []]].flatten=b1r (rs++[⟨p,k,t,g,[]⟩]):=e0 []
 rw[e1]
 refine⟨by simp,⟨hel,by omega⟩,fun _ _=>⟨fun hz=>?_,fun hz hb _=>⟨by omega,fun _ hl=>?_⟩⟩⟩
 ·have:ks=[]:=g9C (by omega)
  subst this
  exact⟨gen+1,[_],by simp[b0l],by simp only[b0z,b1b,b0H];rfl,rfl⟩
 refine b7n (β:=Nat×List VObj) ks (fun pre b=>⟨[(37,.int .i64 pre.length),(36,.int .i64 ks.length),(35,sl 66 (ks.map Nd.enc)),(8,.mslice (h.length+1) 0 ks.length ks.length 3),(7,.int .i64 rs.length),
    (0,.vec id kk b.1 (rs.length+1+(b0l pre).length) 48)],
   h.set id (.vec kk b.1 48 (b1r (rs++⟨p,k,t,g,[]⟩::b1b pre rs.length (rs.length+1)))) ++ .dead :: .cells ((b0H pre (rs.length+1)).map (fun n:Nat => .int .i64 n)++List.replicate (ks.length - pre.length) (.int .i64 0))::b.2,a.set kk b.1⟩)
  (fun _ _ _=>True) (gen+1,[]) (fun b=>⟨[(37,.int .i64 ks.length),(36,.int .i64 ks.length),(35,sl 66 (ks.map Nd.enc)),(8,sl 3 ((b0H ks (rs.length+1)).map b0M)),(7,.int .i64 rs.length),
    (0,.vec id kk b.1 (rs.length+1+(b0l ks).length) 48)],
   h.set id (.vec kk b.1 48 (b1r (rs++⟨p,k,t,g,[]⟩::b1b ks rs.length (rs.length+1)))) ++ .dead :: .dead::b.2,a.set kk b.1⟩) ?_ trivial ?_ ?_ ?_
 ·simp -implicitDefEqProofs only[go_sem,b1I]
  simp only[b0l,b1b,b0H,g9F,h0h,g9P,g9M,Nat.sub_zero,c4t]
  simp -implicitDefEqProofs only[go_sem]
  rfl
 ·intro b _
  have hkl:=b0V ks (rs.length+1)
  have hw:=b7b.freezeH (E:=envV 45) (hb:=h.length) (ab:=a.length) (n:=58) (tm:=[(37,.int .i64 ks.length),(36,.int .i64 ks.length),(35,sl 66 (ks.map Nd.enc)),(8,.mslice (h.length+1) 0 ks.length ks.length 3),(7,.int .i64 rs.length),
    (0,.vec id kk b.1 (rs.length+1+(b0l ks).length) 48)]) (h:=h.set id (.vec kk b.1 48 (b1r (rs++⟨p,k,t,g,[]⟩::b1b ks rs.length (rs.length+1)))) ++ .dead :: .cells ((b0H ks (rs.length+1)).map (fun n:Nat => .int .i64 n)++List.replicate (ks.length - ks.length) (.int .i64 0))::b.2) (a:=a.set kk b.1)
   (h.length+1) (cs:=(b0H ks (rs.length+1)).map (fun n:Nat => .int .i64 n)) (by rw[b1N];simp) (by simp[V.cell])
  have hch:b2X 1 ks.length ((b0H ks (rs.length+1)).map fun n:Nat=>V.int .i64 n)=(b0H ks (rs.length+1)).map b0M:=by
   have:=d0O (b0H ks (rs.length+1))
   rwa [hkl]at this
  simp -implicitDefEqProofs only[frT,frV,g9o,g9P,go_sem,b1P,Nat.sub_self,List.replicate_zero,g9B,g9r,hkl,Nat.mul_one,g9m,and_self,if_true,g8W,List.set_cons_zero,hch]at hw ⊢
  exact hw
 ·intro b _
  simp -implicitDefEqProofs only[go_sem,b0K hid,b1h hlt,b4m hlt,b5K hlt,b3C,b1N,b3B,b1P,b1I]
  have e2:=b2w (rs++(⟨p,k,t,g,[]⟩:Rw)::b1b ks rs.length (rs.length+1))
  refine⟨by omega,by rw[e2];simp;omega,b.1,.dead :: .dead::b.2,by congr 1;omega,?_,rfl⟩
  congr 3
  rw[b0z]
  exact b8B rs ⟨p,k,t,g,[]⟩ _ _ rfl
 ·rintro pre x post b rfl _
  have hp:=b2p hl
  simp -implicitDefEqProofs only[go_sem,b0K hid,b1h hlt,b4m hlt,b5K hlt,b3C,b1N,b3B,b1P,b1I,g8V,g8W]
  intro hlen
  have hkl:=b0V pre (rs.length+1)
  refine⟨by simp[hkl],?_⟩
  rw[d0y (by simp[hkl]) (by simp)]
  have e:(rs++(⟨p,k,t,g,[]⟩:Rw)::b1b pre rs.length (rs.length+1)).length=rs.length+1+(b0l pre).length:=by
   simp[b3l];omega
  have hsz:(b0l (pre++x::post)).length=(b0l pre).length+(b0o x).length+(b0l post).length:=by
   rw[b1n,b0l];simp;omega
  rw[←e]
  refine b0r.mono (ih x b1w _ _ id kk b.1 (rs++(⟨p,k,t,g,[]⟩:Rw)::b1b pre rs.length (rs.length+1)) rs.length (b4m hlt) (by omega) (by omega)) ?_
  rintro v h' a' ⟨gen',z,rfl,rfl,rfl⟩
  simp -implicitDefEqProofs only[go_sem,b0K hid,b1h hlt,b4m hlt,b5K hlt,b3C,b1N,b3B,b1P,b1I,g8V,g8W]
  have e2:rs.length+1+(b0l (pre++[x])).length=rs.length+1+(b0l pre).length+(b0o x).length:=by rw[b1u,g9d];omega
  refine⟨(gen',b.2++VObj.cells x.enc::z),⟨b0g (by omega),?_⟩,?_⟩
  ·rw[e,e2,b6Y];trivial
  ·rw[e,b4w,b3U,g9I,g9t rs,g8X]
   exact⟨b0s,by rw[b2h];trivial,.inl (by simp)⟩
theorem f4Q(h:List VObj)(a:List Nat)(n:Nd)(p:Int)(hn:(b0o n).length≤1000000):b0r (envV 45) 77 [.slice .nil 0 [],.agg n.enc,.int .i64 p] h a fun v h' a'=>∃ gen',v = .vec (h.length+1) a.length gen' (b0o n).length 48 ∧
   h'[h.length+1]? = some (.vec a.length gen' 48 (b1r (b0z n p 0)))∧a'=a++[gen']:=by
 obtain⟨k,t,g,ks⟩:=n
 refine b0A (fn:=Tryz.f77) Tryz.func77 rfl (by rw[Tryz.ntmps77];simp) ?_
 simp -implicitDefEqProofs only[go_sem,Tryz.f77]
 refine b0h (cs:=[]) b0v (by kernel_rfl) ?_
 simp -implicitDefEqProofs only[go_sem]
 refine b0B (b0u.toV (d1r g)) (by simp -implicitDefEqProofs only[go_sem]) ?_
 simp -implicitDefEqProofs only[go_sem]
 rw[b0Y]at hn ⊢
 have e0:∀ kl:List Nat,[].flatten++[[V.int .i64 p,.int .i64 k,.str t,sl 9 (g.map b0p),sl 3 (kl.map b0M)]].flatten=b1r [⟨p,k,t,g,kl⟩]:=fun kl=>rfl
 have e1:[].flatten++[[V.int .i64 p,.int .i64 k,.str t,sl 9 (g.map b0p),V.slice .shared 0 []]].flatten=b1r [⟨p,k,t,g,[]⟩]:=e0 []
 rw[e1]
 refine⟨by simp,fun _ _=>⟨fun hz=>?_,fun hz hb _=>⟨by omega,fun _ hl=>?_⟩⟩⟩
 ·have:ks=[]:=g9C (by omega)
  subst this
  exact⟨b8w,by simp[b0l],by simp only[b0z,b1b,b0H],rfl⟩
 refine b7n (β:=Nat×List VObj) ks (fun pre b=>⟨[(37,.int .i64 pre.length),(36,.int .i64 ks.length),(35,sl 66 (ks.map Nd.enc)),(8,.mslice (h.length+2) 0 ks.length ks.length 3),(7,.int .i64 (0:Nat)),
    (0,.vec (h.length+1) a.length b.1 (1+(b0l pre).length) 48)],
   h ++ .dead :: .vec a.length b.1 48 (b1r (⟨p,k,t,g,[]⟩::b1b pre 0 1)) :: .cells ((b0H pre 1).map (fun n:Nat => .int .i64 n)++List.replicate (ks.length - pre.length) (.int .i64 0))::b.2,a++[b.1]⟩)
  (fun _ _ _=>True) (b8w,[]) (fun b=>⟨[(37,.int .i64 ks.length),(36,.int .i64 ks.length),(35,sl 66 (ks.map Nd.enc)),(8,sl 3 ((b0H ks 1).map b0M)),(7,.int .i64 (0:Nat)),
    (0,.vec (h.length+1) a.length b.1 (1+(b0l ks).length) 48)],
   h ++ .dead :: .vec a.length b.1 48 (b1r (⟨p,k,t,g,[]⟩::b1b ks 0 1)) :: .dead::b.2,a++[b.1]⟩) ?_ trivial ?_ ?_ ?_
 ·simp only[b0l,b1b,b0H,g9F,h0h,g9P,g9M,Nat.sub_zero,c4t]
  simp -implicitDefEqProofs only[go_sem]
  rfl
 ·intro b _
  have hkl:=b0V ks 1
  have hw:=b7b.freezeH (E:=envV 45) (hb:=h.length) (ab:=a.length) (n:=58) (tm:=[(37,.int .i64 ks.length),(36,.int .i64 ks.length),(35,sl 66 (ks.map Nd.enc)),(8,.mslice (h.length+2) 0 ks.length ks.length 3),(7,.int .i64 (0:Nat)),
    (0,.vec (h.length+1) a.length b.1 (1+(b0l ks).length) 48)]) (h:=h ++ .dead :: .vec a.length b.1 48 (b1r (⟨p,k,t,g,[]⟩::b1b ks 0 1)) :: .cells ((b0H ks 1).map (fun n:Nat => .int .i64 n)++List.replicate (ks.length - ks.length) (.int .i64 0))::b.2) (a:=a++[b.1])
   (h.length+2) (cs:=(b0H ks 1).map (fun n:Nat => .int .i64 n)) (by rw[g9c (by omega)];simp) (by simp[V.cell])
  have hch:b2X 1 ks.length ((b0H ks 1).map fun n:Nat=>V.int .i64 n)=(b0H ks 1).map b0M:=by
   have:=d0O (b0H ks 1)
   rwa [hkl]at this
  simp -implicitDefEqProofs only[frT,frV,g9o,g9P,go_sem,Nat.sub_self,List.replicate_zero,g9B,g9r,hkl,Nat.mul_one,g9m,and_self,if_true,g8W,List.set_cons_zero,hch]at hw ⊢
  exact hw
 ·intro b _
  simp -implicitDefEqProofs only[go_sem,g8V,g8W,d2o]
  have e2:=b2w ((⟨p,k,t,g,[]⟩:Rw)::b1b ks 0 1)
  refine⟨by omega,by rw[e2];simp;omega,b.1,by congr 1;omega,?_,rfl⟩
  refine congrArg (fun x=>some (VObj.vec a.length b.1 48 x)) ?_
  rw[b0z]
  exact b8B [] ⟨p,k,t,g,[]⟩ _ _ rfl
 ·rintro pre x post b rfl _
  have hp:=b2p hl
  simp -implicitDefEqProofs only[go_sem,g8V,g8W,d2o]
  intro hlen
  have hkl:=b0V pre 1
  refine⟨by simp[hkl],?_⟩
  rw[d0y (by simp[hkl]) (by simp)]
  have e:((⟨p,k,t,g,[]⟩:Rw)::b1b pre 0 1).length=1+(b0l pre).length:=by
   simp[b3l];omega
  have hsz:(b0l (pre++x::post)).length=(b0l pre).length+(b0o x).length+(b0l post).length:=by
   rw[b1n,b0l];simp;omega
  rw[←e]
  refine b0r.mono (g2j x _ _ (h.length+1) a.length b.1 ((⟨p,k,t,g,[]⟩:Rw)::b1b pre 0 1) (0:Nat) (by rw[g9c (by omega)];simp) (by omega) (by omega)) ?_
  rintro v h' a' ⟨gen',z,rfl,rfl,rfl⟩
  simp -implicitDefEqProofs only[go_sem,g8V,g8W,d2o]
  have e3:(b1b pre 0 1).length+1=1+(b0l pre).length:=by rw[b3l];omega
  have e2:1+(b0l (pre++[x])).length=1+(b0l pre).length+(b0o x).length:=by rw[b1u,g9d];omega
  refine⟨(gen',b.2++VObj.cells x.enc::z),⟨b0g (by omega),?_⟩,?_⟩
  ·rw[e3,e2,b6Y];trivial
  ·rw[e3,b4w,b3U,g9I]
   exact⟨⟨by rw[b5V];trivial,by rw[g9o,g9P,b4v];trivial,b0s⟩,by rw[b2h];trivial,.inl (by simp)⟩
theorem c9X:∀ (l:List Rw),b2X 5 l.length (b1r l)=l.map Rw.enc
 | []=>rfl
 | x::r=>by
  have:=c9X r
  have e:b1r (x::r)=x.enc++b1r r:=rfl
  rw[g9k,b2X,e,List.take_left' (by rfl),List.drop_left' (by rfl),this]
  rfl
theorem b9v:∀ l:List Nat,b0R (l.map b0M)=true
 | []=>rfl
 | x::r=>by simp -implicitDefEqProofs only[g9o,b0R,b9v r,h0b,b0M,go_sem]
theorem b0X(l:List Rw):b0R (l.map Rw.enc)=true:=by
 induction l with
 | nil=>rfl
 | cons x r ih=>simp -implicitDefEqProofs only[g9o,b0R,ih,h0b,Rw.enc,go_sem];exact b9v _
theorem d6d(n:Nd)(hn:(b0o n).length≤1000000):b0u env 41 [.agg n.enc] (sl 48 ((b0z n (-1) 0).map Rw.enc)):=by
 refine b0u.ofV (tv:=45) ?_
 refine b0i (fn:=Tryz.f41) Tryz.func41 rfl (by rw[Tryz.ntmps41];simp) (by simp -implicitDefEqProofs only[go_sem]) (by simp -implicitDefEqProofs only[go_sem];exact b0X _) ?_
 simp -implicitDefEqProofs only[go_sem,Tryz.f41]
 refine b0r.thawV (b0r.mono (f4Q _ _ n (-1) hn) ?_)
 rintro v h' a' ⟨gen',rfl,h1,rfl⟩
 have hl:=b0N n (-1) 0
 have hp:0<(b0o n).length:=by cases n;rw[b0Y];omega
 have e:=b2w (b0z n (-1) 0)
 refine⟨_,_,_,_,_,_,rfl,h1,by omega,by simp -implicitDefEqProofs only[go_sem],by simp -implicitDefEqProofs only[go_sem];omega,?_⟩
 simp -implicitDefEqProofs only[go_sem]
 rw[←hl,c9X]
end Go.Proofs.YtighfcpaplmaiaaGreatDoor
