import Derived.Test.YtighfcpaplmaiaaGreatDoorTnS
import Derived.Test.YtighfcpaplmaiaaGreatDoorShelf
import Derived.Lib.ItoaNum
import Derived.Lib.IndexMore
set_option linter.unusedVariables false
set_option linter.unusedSimpArgs false
set_option maxRecDepth 20000
namespace Go.Vg
open Go
theorem c9F{a b:ByteArray}(h:a.data.toList=b.data.toList):a=b:=by
 obtain⟨⟨a⟩⟩:=a;obtain⟨⟨b⟩⟩:=b
 simp at h;simp[h]
theorem d2a{s:ByteArray}{pre post:List UInt8}{x:UInt8}(h:s.data.toList=pre++x::post):s.get! (pre.length+0)=x:=by
 have h1:s.data.toList[pre.length]? = some x:=by rw[h];simp
 have h2:s.data[pre.length]? = some x:=by simpa using h1
 obtain⟨d⟩:=s
 show d[pre.length+0]! = x
 rw[h0h,getElem!_def,h2]
theorem f0u{s:ByteArray}{pre post:List UInt8}{x:UInt8}(h:s.data.toList=pre++x::post)(hx:x.toNat<128):Utf8.decode s pre.length=(x.toNat,1):=by
 unfold Utf8.decode
 simp only[d2a h]
 rw[if_pos hx]
theorem d5G{s:ByteArray}{pre post:List UInt8}{x:UInt8}(h:s.data.toList=pre++x::post)(hx:¬ x.toNat<128):128≤(Utf8.decode s pre.length).1:=by
 unfold Utf8.decode
 simp only[d2a h]
 rw[if_neg hx]
 simp only[Utf8.runeError]
 repeat' split
 all_goals simp_all
 all_goals omega
theorem c0L{c:Int}(h:128≤c):b3L c=false∧b1F c=false:=by
 unfold b3L b1F
 constructor
 ·simp;omega
 ·simp;omega
theorem f0x{s:ByteArray}{l0 cur r:List UInt8}(h:s.data.toList=l0++cur++r):(s.extract l0.length (l0++cur).length).data.toList=cur:=by
 obtain⟨⟨d⟩⟩:=s
 simp only at h
 subst h
 simp[ByteArray.extract,ByteArray.copySlice]
theorem c3F{c:Int}(h:b3L c=true):b1F c=false:=by
 unfold b3L at h;unfold b1F
 simp at h ⊢;omega
theorem c6E{s:ByteArray}{pre post:List UInt8}{x:UInt8}(h:s.data.toList=pre++x::post)(hx:b6l x.toNat=false):b0I s=false:=by
 have:(s.data.toList.all fun c=>b6l c.toNat)=false:=by rw[h];simp_all
 unfold b0I
 rw[this];simp
theorem d5J{s:ByteArray}{post:List UInt8}{x:UInt8}(h:s.data.toList=x::post)(hx:b3L x.toNat=false):b0I s=false:=by
 cases hd:b1F (x.toNat:Int)
 ·exact c6E (pre:=[]) h (by simp[b6l,hx,hd])
 ·simp[b0I,c0g h,hd]
theorem c3j{x:UInt8}(h:¬ x.toNat<128):b6l x.toNat=false:=by
 have:=c0L (c:=x.toNat) (by omega)
 simp[b6l,this]
end Go.Vg
namespace Go.Proofs.YtighfcpaplmaiaaGreatDoor
open Go Go.Vg Go.Proofs
theorem d6x(c:Int):b0u env 236 [.int .i32 c] (.bool (b1F c)):=by
 refine b0i (fn:=Tryz.f236) Tryz.func236 rfl (by rw[Tryz.ntmps236];simp) rfl rfl ?_
 simp -implicitDefEqProofs only[go_sem,Tryz.f236,b1F]
 grind
theorem c9V(c:Int):b0u env 235 [.int .i32 c] (.bool (b3L c)):=by
 refine b0i (fn:=Tryz.f235) Tryz.func235 rfl (by rw[Tryz.ntmps235];simp) rfl rfl ?_
 simp -implicitDefEqProofs only[go_sem,Tryz.f235,b3L]
 grind
theorem d5d(s:ByteArray):b0u env 234 [.str s] (.bool (b9z s)):=by
 refine b0i (fn:=Tryz.f234) Tryz.func234 rfl (by rw[Tryz.ntmps234];simp) rfl rfl ?_
 simp -implicitDefEqProofs only[go_sem,Tryz.f234,b9z]
 simp +contextual
theorem d6N(s:ByteArray):b0u env 223 [.str s] (.bool (b0I s)):=by
 refine b0i (fn:=Tryz.f223) Tryz.func223 rfl (by rw[Tryz.ntmps223];simp) rfl rfl ?_
 simp -implicitDefEqProofs only[go_sem,Tryz.f223]
 refine⟨fun a1 hs=>⟨fun a2=>(d5d s).calls rfl ?_,fun a2=>?_⟩,fun a1=>?_⟩
 rotate_left
 ·simp[b0I,a2]
 ·subst a1;rfl
 have hne:s.data.toList≠[]:=fun h=>a1 (c9F h)
 have hpos:¬ (s.size:Int)<1:=by
  rw[b3O]
  have:=List.length_pos_iff.2 hne
  omega
 simp -implicitDefEqProofs only[go_sem]
 refine⟨fun a3=>?_,fun a3=>?_⟩
 ·simp[b0I,a3]
 refine b0n (β:=Unit) s.data.toList (fun pre _=>⟨[(17,.ptr 0 0),(0,.str s)],[.siter s pre.length],[]⟩) (fun pre _ _=>(pre.all fun c=>b6l c.toNat)∧(pre≠[]→b1F (b5b s 0)=false)) () ?_ ?_ ?_ ?_
 ·simp -implicitDefEqProofs only[go_sem]
 ·exact⟨rfl,fun h=>absurd rfl h⟩
 ·intro _ ⟨i1,i2⟩
  simp -implicitDefEqProofs only[go_sem,←b3O]
  have:=i2 hne
  have i1':s.data.toList.all (fun c=>b6l c.toNat)=true:=i1
  simp only[b0I,hpos,a2,a3,this,i1',decide_false,Bool.not_false,Bool.and_self,Nat.lt_irrefl,if_false]
 ·rintro pre x post _ hx ⟨i1,i2⟩
  have hz:=b2M hx
  have hl:pre.length<(pre++x::post).length:=by simp
  by_cases hx8:x.toNat<128
  ·simp -implicitDefEqProofs only[go_sem,hz,hl,f0u hx hx8]
   refine(c9V _).calls rfl ?_
   simp -implicitDefEqProofs only[go_sem]
   repeat' (first | apply And.intro | (refine(d6x _).calls rfl ?_;simp -implicitDefEqProofs only[go_sem]) | (refine fun(_:@Eq Bool _ _)=>?_)  | (refine fun(_:@Eq Int _ _)=>?_) | (refine fun(_:¬ (@Eq Int _ _))=>?_))
   ·rename_i b1 b2 b3
    rw[c6E hx (by simp_all [b6l])]
   ·rename_i b1 b2 b3
    have hp:pre≠[]:=by rintro rfl;simp at b2
    exact⟨(),by simp_all [b6l],fun _=>i2 hp⟩
   ·rename_i b1 b2
    have hp:pre=[]:=g9C (by omega)
    subst hp
    rw[d5J hx (by simpa using b1)]
   ·rename_i b1
    have b1:b3L x.toNat=true:=by simpa using b1
    refine⟨(),by simp_all [b6l],fun _=>?_⟩
    by_cases hp:pre=[]
    ·subst hp
     rw[c0g hx]
     exact c3F b1
    ·exact i2 hp
  ·have hd:=c0L (c:=(Utf8.decode s pre.length).1) (by have:=d5G hx hx8;omega)
   simp -implicitDefEqProofs only[go_sem,hz,hl]
   refine(c9V _).calls rfl ?_
   simp only[hd.1]
   simp -implicitDefEqProofs only[go_sem]
   refine⟨fun _=>(d6x _).calls rfl ?_,fun _=>?_⟩
   ·simp only[hd.2]
    simp -implicitDefEqProofs only[go_sem]
    rw[c6E hx (c3j hx8)]
   ·rw[c6E hx (c3j hx8)]
end Go.Proofs.YtighfcpaplmaiaaGreatDoor
namespace Go.Vg
def b2K(l:List Dl):Nat:=(l.filter fun d=>decide (d.kind=2)).length
end Go.Vg
namespace Go.Proofs.YtighfcpaplmaiaaGreatDoor
open Go Go.Vg Go.Proofs
theorem f5z(u:List Un)(hu:b2T u)(n:Int)(hn:n≤1000000)(h0:0≤n):b0u env 24 [sl 70 (u.map Un.enc),.int .i64 n] (.bool (decide ((b2K (b0f u 0):Int)≤n))):=by
 refine b0i (fn:=Tryz.f24) Tryz.func24 rfl (by rw[Tryz.ntmps24];simp) (by simp -implicitDefEqProofs only[go_sem];exact b0x _) rfl ?_
 simp -implicitDefEqProofs only[go_sem,Tryz.f24]
 refine(b6P u hu).calls (by simp -implicitDefEqProofs only[go_sem]) ?_
 have hdl:=b0L u 0 fun y hy=>(hu.2 y hy).1
 have hul:=hu.1
 generalize b0f u 0=l at hdl ⊢
 simp -implicitDefEqProofs only[go_sem]
 refine b0n (β:=Unit) l (fun pre _=>⟨[(6,.int .i64 pre.length),(5,sl 54 (l.map Dl.enc)),(4,.bool false),(1,.int .i64 (n - b2K pre))],[],[]⟩) (fun _ _ _=>True) () ?_ trivial ?_ ?_
 ·simp only[b2K,List.filter_nil,g9F]
  simp -implicitDefEqProofs only[go_sem]
  exact⟨rfl,by omega⟩
 ·intro _ _
  simp -implicitDefEqProofs only[go_sem]
  intro _ _
  congr 1
  rw[h0g];simp
 ·rintro pre x post _ rfl _
  have hpl:(pre++x::post).length=pre.length+1+post.length:=by simp;omega
  have hcl:b2K pre≤pre.length:=h0j ..
  have hw:IntKind.i64.wrap (↑pre.length+1)=↑(pre.length+1):=b0g (by omega)
  simp -implicitDefEqProofs only[go_sem]
  intro _ _
  refine⟨fun h=>⟨(),hw,?_⟩,fun h=>⟨(),hw,?_⟩⟩
  ·have:b2K (pre++[x])=b2K pre+1:=by simp[b2K,h]
   rw[this,Vg.wrap_small (by omega) (by omega)];omega
  ·have:b2K (pre++[x])=b2K pre:=by simp[b2K,h]
   rw[this]
end Go.Proofs.YtighfcpaplmaiaaGreatDoor
namespace Go.Vg
def f4x(n:Int):ByteArray:=⟨(Lib.itoa n).toArray⟩
end Go.Vg
namespace Go.Proofs.YtighfcpaplmaiaaGreatDoor
open Go Go.Vg Go.Proofs Go.Shelf Go.RowKit
theorem d1l(s:ByteArray)(c:Int):b0u env 252 [.str s,.int .u8 c] (.int .i64 (Lib.indexByte s.data.toList c.toNat.toUInt8)):=by
 refine b8M (val := .int .i64 (Lib.indexByte s.data.toList c.toNat.toUInt8)) rfl rfl (fun G arr => .int _ _) fun G w0 w vals hr ha=>?_
 obtain⟨v,vs,rfl,hv,ha⟩:=ha.cons
 obtain⟨v2,vs,rfl,hv2,ha⟩:=ha.cons
 rw[ha.nil]
 cases hv
 cases hv2
 exact(Tryz.strings_IndexByte s c w).mono fun e w' ⟨he,hw⟩=>⟨he,hw ▸ Below.refl _ _⟩
theorem d2h(s p:ByteArray):b0u env 251 [.str s,.str p] (.bool (Lib.hasPrefix s.data.toList p.data.toList)):=by
 refine b8M (val := .bool (Lib.hasPrefix s.data.toList p.data.toList)) rfl rfl (fun G arr => .bool _) fun G w0 w vals hr ha=>?_
 obtain⟨v,vs,rfl,hv,ha⟩:=ha.cons
 obtain⟨v2,vs,rfl,hv2,ha⟩:=ha.cons
 rw[ha.nil]
 cases hv
 cases hv2
 exact(Tryz.strings_HasPrefix s p w).mono fun e w' ⟨he,hw⟩=>⟨he,hw ▸ Below.refl _ _⟩
end Go.Proofs.YtighfcpaplmaiaaGreatDoor
namespace Go.Vg
open Go
theorem d0X{l:List UInt8}{n:Nat}(h:adv l=n)(hn:n≠0):b3c l=n+b3c (l.drop n):=by
 rw[b3c,dif_neg (by omega),h]
theorem c4o{l:List UInt8}(h:adv l=0):b3c l=0:=by rw[b3c,dif_pos h]
theorem c4v(c:UInt8)(r:List UInt8):Lib.hasPrefix (c::r) [47,47]=(decide (c.toNat=47) && b4l r):=by
 have e:∀ x:UInt8,((47:UInt8) == x)=decide (x.toNat=47):=fun x=>by
  rw[h0g,beq_iff_eq,←UInt8.toNat_inj,g9h]
  exact eq_comm
 cases r with
 | nil=>simp[Lib.hasPrefix,List.isPrefixOf,b4l]
 | cons d r=>simp only[Lib.hasPrefix,List.isPrefixOf,b4l,e,h0b]
theorem c1j:∀ l:List UInt8,Lib.indexByte l 10=match b2d l with | some n=>(n:Int) - 1 | none => -1
 | []=>rfl
 | c::r=>by
  have ih:=c1j r
  have e:(c == (10:UInt8))=decide (c.toNat=10):=by
   rw[h0g];simp[←UInt8.toNat_inj]
  rw[Lib.indexByte,b2d,e]
  by_cases h:c.toNat=10
  ·simp[h]
  ·simp only[h,decide_false,g9n,if_false]
   rw[ih]
   cases hl:b2d r with
   | none=>simp
   | some n =>
    have:=b5O r n hl
    have:((n:Int) - 1 == -1)=false:=by simp;omega
    simp[this]
end Go.Vg
namespace Go.Proofs.YtighfcpaplmaiaaGreatDoor
open Go Go.Vg Go.Proofs
theorem f8Q(s:ByteArray):b0u env 247 [.str s] (.tuple []):=by
 refine b0i (fn:=Tryz.f247) Tryz.func247 rfl (by rw[Tryz.ntmps247];simp) rfl rfl ?_
 simp -implicitDefEqProofs only[go_sem,Tryz.f247]
theorem f8N(s:ByteArray)(pre l:List UInt8)(hs:s.data.toList=pre++l)(hb:s.size≤1000000000):b0u env 246 [.str s,.int .i64 pre.length,.func 247 []] (.int .i64 (pre.length+b3c l:Nat)):=by
 refine b0i (fn:=Tryz.f246) Tryz.func246 rfl (by rw[Tryz.ntmps246];simp) (by simp -implicitDefEqProofs only[go_sem]) rfl ?_
 simp -implicitDefEqProofs only[go_sem,Tryz.f246]
 refine b1A (α:=List UInt8×List UInt8) (fun a=>⟨[(2,.func 247 []),(0,.str s),(1,.int .i64 a.1.length)],[],[]⟩) (fun a=>s.data.toList=a.1++a.2∧a.1.length+b3c a.2=pre.length+b3c l) (fun a=>a.2.length) (pre,l) ?_ ⟨hs,rfl⟩ ?_
 ·simp -implicitDefEqProofs only[go_sem]
 ·rintro⟨p,q⟩ ⟨i1,i2⟩
  simp only at i1 i2
  have hzq:s.size=p.length+q.length:=by rw[b2M i1];simp
  have hw:IntKind.i64.wrap ((p.length:Int)+1)=((p.length+1:Nat):Int):=b0g (by omega)
  have hext:(s.extract (p.length:Int).toNat (s.size:Int).toNat).data.toList=q:=by
   have:=f0x (s:=s) (l0:=p) (cur:=q) (r:=[]) (by rw[i1];simp)
   simp only[g9j]
   rw[b2M i1];exact this
  generalize ht:s.extract (p.length:Int).toNat (s.size:Int).toNat=t at hext
  rcases q with _ | ⟨c,r⟩
  ·have hlt:((p.length:Int)<s.size)=False:=by simp at hzq ⊢;omega
   have h0:b3c []=0:=by rw[b3c];simp[adv]
   simp -implicitDefEqProofs only[go_sem,hlt]
   intro _
   rw[←i2,h0];simp
  ·have hlt:((p.length:Int)<s.size)=True:=by simp at hzq ⊢;omega
   have hle:((p.length:Int)≤s.size)=True:=by simp;omega
   have hbl:∀ b:b2A c=true,(p.length+1)+b3c r=pre.length+b3c l:=fun b=>by
    have h1:adv (c::r)=1:=by simp[adv,b]
    rw[←i2,d0X h1 (by omega)];simp;omega
   have hnx:s.data.toList=(p++[c])++r:=by rw[i1];simp
   by_cases h32:c.toNat=32
   ·have h32':((c.toNat:Int)=32)=True:=by simp;omega
    simp -implicitDefEqProofs only[go_sem,hlt,b1Q i1,h32']
    exact fun _=>⟨(p++[c],r),by simp,⟨hnx,by simpa using hbl (by simp[b2A,h32])⟩,by rw[hw];simp⟩
   have h32':((c.toNat:Int)=32)=False:=by simp;omega
   by_cases h9:c.toNat=9
   ·have h9':((c.toNat:Int)=9)=True:=by simp;omega
    simp -implicitDefEqProofs only[go_sem,hlt,b1Q i1,h32',h9']
    exact fun _=>⟨(p++[c],r),by simp,⟨hnx,by simpa using hbl (by simp[b2A,h9])⟩,by rw[hw];simp⟩
   have h9':((c.toNat:Int)=9)=False:=by simp;omega
   by_cases h10:c.toNat=10
   ·have h10':((c.toNat:Int)=10)=True:=by simp;omega
    simp -implicitDefEqProofs only[go_sem,hlt,b1Q i1,h32',h9',h10']
    exact fun _=>⟨(p++[c],r),by simp,⟨hnx,by simpa using hbl (by simp[b2A,h10])⟩,by rw[hw];simp⟩
   have h10':((c.toNat:Int)=10)=False:=by simp;omega
   have hnb:b2A c=false:=by simp[b2A,h32,h9,h10]
   simp -implicitDefEqProofs only[go_sem,hlt,hle,b1Q i1,h32',h9',h10',ht]
   refine fun _=>⟨by omega,(d2h _ _).calls rfl ?_⟩
   rw[hext,show(⟨#[47,47]⟩:ByteArray).data.toList=[47,47]from rfl,c4v]
   cases hp:(decide (c.toNat=47) && b4l r)
   ·simp -implicitDefEqProofs only[go_sem]
    rw[←i2,c4o (by simp only[adv,hnb,hp,g9n,if_false])];simp
   ·have hadv:adv (c::r)=(b2d (c::r)).getD 0:=by simp only[adv,hnb,hp,g9n,if_false,if_true]
    simp -implicitDefEqProofs only[go_sem,hle,ht]
    refine⟨by omega,(d1l _ _).calls rfl ?_⟩
    rw[hext,show(10:Int).toNat.toUInt8=10 from rfl,c1j]
    cases hl:b2d (c::r)with
    | none =>
     simp -implicitDefEqProofs only[go_sem]
     rw[←i2,c4o (by rw[hadv,hl];rfl)];simp
    | some n =>
     have hn:=b5O _ _ hl
     simp only[]
     have hw2:IntKind.i64.wrap ((p.length:Int)+((n:Int) - 1))=(p.length:Int)+((n:Int) - 1):=b1H (by omega) (by omega)
     have hn0:((n:Int) - 1<0)=False:=by simp;omega
     simp -implicitDefEqProofs only[go_sem,hn0,hw2]
     refine⟨by omega,(f8Q _).calls rfl ?_⟩
     simp -implicitDefEqProofs only[go_sem]
     refine⟨(p++(c::r).take n,(c::r).drop n),?_,⟨by rw[i1];simp,?_⟩,?_⟩
     ·simp only[h0e,g9k]at hn ⊢;omega
     ·have:b3c (c::r)=n+b3c ((c::r).drop n):=d0X (by rw[hadv,hl];rfl) (by omega)
      have hl2:(p++(c::r).take n).length=p.length+n:=by rw[g9d,List.length_take];omega
      simp only[]
      rw[hl2];omega
     ·have hl2:(p++(c::r).take n).length=p.length+n:=by rw[g9d,List.length_take];omega
      simp only[]
      rw[hl2,b1H (x:=(n:Int) - 1+1) (by omega) (by omega),b1H (by omega) (by omega)];omega
theorem g7S(s:ByteArray)(hb:s.size≤1000000000):b0u env 237 [.str s,.int .i64 0] (.int .i64 (b3c s.data.toList:Nat)):=by
 refine b0i (fn:=Tryz.f237) Tryz.func237 rfl (by rw[Tryz.ntmps237];simp) rfl rfl ?_
 have hz:((s.size:Int)<0)=False:=by simp
 simp -implicitDefEqProofs only[go_sem,Tryz.f237,hz]
 intro _
 have h:=f8N s [] s.data.toList rfl hb
 simp only[g9F,g9s]at h
 refine b0u.calls h rfl ?_
 simp -implicitDefEqProofs only[go_sem]
theorem f4A(s:ByteArray)(hb:s.size≤1000000000):b0u env 225 [.str s] (.bool (b2P s)):=by
 refine b0i (fn:=Tryz.f225) Tryz.func225 rfl (by rw[Tryz.ntmps225];simp) rfl rfl ?_
 simp -implicitDefEqProofs only[go_sem,Tryz.f225]
 refine(g7S s hb).calls rfl ?_
 simp -implicitDefEqProofs only[go_sem]
 intro _
 unfold b2P
 congr 1
 by_cases e:b3c s.data.toList=s.size
 ·simp[e]
 ·rw[g9v e];simp;omega
end Go.Proofs.YtighfcpaplmaiaaGreatDoor
namespace Go.Vg
def b2m(k:Int)(t:ByteArray):Bool:=if(shp k).text=0 then decide (t=⟨#[]⟩)else if(shp k).text=4 then(shp k).words.any (fun w=>decide (w=t))else true
def b3q(k:Int)(t:ByteArray):Bool:=if(shp k).text=2 then(decide (t=⟨#[]⟩) || b0I t)else if(shp k).text=1 then b0I t else if(shp k).text=3 then c1X t else true
def b8m(n:Nd):Bool:=decide (n.gaps.length=0) || (n.gaps.all b2P && decide ((n.gaps.length:Int)=n.own))
def d7Q:List ByteArray→ByteArray→Nat→Int
 | [],_,_ => -1
 | w::r,s,i=>if w=s then i else d7Q r s (i+1)
theorem c7m(s:ByteArray):∀ (l:List ByteArray) (i:Nat),decide (0≤d7Q l s i)=l.any fun w=>decide (w=s)
 | [],_=>rfl
 | w::r,i=>by
  rw[d7Q,List.any_cons,←c7m s r (i+1)]
  by_cases h:w=s
  ·simp[h]
  ·simp[h]
theorem c8O{s:ByteArray}{pre post:List UInt8}{x:UInt8}(h:s.data.toList=pre++x::post):(b2o s).getD (pre.length:Int).toNat []=[.int .u8 x.toNat]:=by
 simp[b2o,h,g8Z]
theorem c1p{s:ByteArray}:(b2o s).length=s.size:=by simp[b2o]
end Go.Vg
namespace Go.Proofs.YtighfcpaplmaiaaGreatDoor
open Go Go.Vg Go.Proofs
theorem f3b(l:List ByteArray)(s:ByteArray):b0u env 212 [sl 9 (l.map b0p),.str s] (.int .i64 (d7Q l s 0)):=by
 refine b0i (fn:=Tryz.f212) Tryz.func212 rfl (by rw[Tryz.ntmps212];simp) (by simp -implicitDefEqProofs only[go_sem]) rfl ?_
 simp -implicitDefEqProofs only[go_sem,Tryz.f212]
 intro _ _
 refine b0n (β:=Unit) l (fun pre _=>⟨[(8,.int .i64 pre.length),(7,.int .i64 l.length),(6,sl 9 (l.map b0p)),(4,.int .i64 0),(0,sl 9 (l.map b0p)),(1,.str s)],[],[]⟩) (fun pre post _=>d7Q l s 0=d7Q post s pre.length) () ?_ rfl ?_ ?_
 ·simp -implicitDefEqProofs only[go_sem]
  rfl
 ·intro _ hi
  simp -implicitDefEqProofs only[go_sem]
  rw[hi];rfl
 ·intro pre x post _ hx hi
  have hpl:l.length=pre.length+1+post.length:=by rw[hx];simp;omega
  have hgx:(l.map b0p).getD (pre.length:Int).toNat []=[V.str x]:=by rw[hx];simp[g8Z,b0p]
  have hw:IntKind.i64.wrap (↑pre.length+1)=↑(pre.length+1):=b0g (by omega)
  have hlt:((pre.length:Int)<l.length)=True:=by simp;omega
  rw[hi,d7Q]
  simp -implicitDefEqProofs only[go_sem,hgx,hlt]
  refine⟨fun h=>by rw[if_pos h.symm],fun h=>⟨(),by rw[if_neg (Ne.symm h)],hw⟩⟩
theorem c4i(l:List ByteArray)(s:ByteArray):b0u env 187 [sl 9 (l.map b0p),.str s] (.bool (l.any fun w=>decide (w=s))):=by
 refine b0i (fn:=Tryz.f187) Tryz.func187 rfl (by rw[Tryz.ntmps187];simp) (by simp -implicitDefEqProofs only[go_sem]) rfl ?_
 simp -implicitDefEqProofs only[go_sem,Tryz.f187]
 refine(f3b l s).calls (by simp -implicitDefEqProofs only[go_sem]) ?_
 rw[←c7m s l 0]
 simp -implicitDefEqProofs only[go_sem]
theorem d6i(k:Int)(t:ByteArray)(g:List ByteArray)(ks:List Nd)(hk:1≤k∧k<27):b0u env 206 [.agg (Nd.mk k t g ks).enc] (.bool (b2m k t)):=by
 have hd:=b3Q (k:=k) (by omega) hk.2
 refine b0i (fn:=Tryz.f206) Tryz.func206 rfl (by rw[Tryz.ntmps206];simp) (by simp -implicitDefEqProofs only[go_sem]) rfl ?_
 simp -implicitDefEqProofs only[go_sem,Tryz.f206,hd,Shp.enc,g8X,g9M]
 refine⟨by omega,fun h0=>by simp[b2m,h0],fun h0=>⟨fun h4=>?_,fun h4=>by simp[b2m,h0,h4]⟩⟩
 refine(c4i (shp k).words t).calls (by simp -implicitDefEqProofs only[go_sem]) ?_
 simp -implicitDefEqProofs only[go_sem]
 simp[b2m,h0,h4]
theorem d4G(s:ByteArray):b0u env 224 [.str s] (.bool (c1X s)):=by
 refine b0i (fn:=Tryz.f224) Tryz.func224 rfl (by rw[Tryz.ntmps224];simp) rfl rfl ?_
 simp -implicitDefEqProofs only[go_sem,Tryz.f224]
 refine⟨fun a1 hs=>⟨fun a2 _=>?_,fun a2=>by simp[c1X,a2]⟩,fun a1=>by subst a1;rfl⟩
 have a1':¬ ((s.size:Int)=0):=fun h=>a1 (c9F (g9C (by rw[←b3O];omega)))
 refine⟨fun a3=>⟨by omega,fun a4=>by simp[c1X,a3,a4],fun a4=>⟨by omega,fun _ _=>?_⟩⟩,fun a3=>⟨by omega,fun _ _=>?_⟩⟩
 all_goals
  refine b0n (β:=Int) s.data.toList (fun pre n=>⟨[(26,.int .i64 pre.length),(25,.int .i64 s.size),(24,sl 5 (b2o s)),(3,.int .i64 n),(0,.str s)],[],[]⟩)
   (fun pre post n=>(pre.all fun c=>b1F c.toNat)=true∧b5p post n=b5p s.data.toList 0∧0≤n∧n.toNat<10 ^ pre.length) 0 ?_ ?_ ?_ ?_
  ·simp -implicitDefEqProofs only[go_sem,c1p]
   try trivial
  ·simp
  ·rintro n ⟨i1,i2,i3,i4⟩
   have hlt:((s.data.toList.length:Int)<s.size)=False:=by rw[b3O];simp
   simp -implicitDefEqProofs only[go_sem,hlt]
   have hd:b5p s.data.toList 0=n:=by rw[←i2];rfl
   unfold c1X
   rw[i1,hd]
   simp_all
  ·rintro pre x post n hx ⟨i1,i2,i3,i4⟩
   have hz:=b2M hx
   have hlt:((pre.length:Int)<s.size)=True:=by rw[hz];simp;omega
   simp -implicitDefEqProofs only[go_sem,hlt,c8O hx]
   have hno:b1F (x.toNat:Int)=false→V.bool false=V.bool (c1X s):=by
    intro hf
    have:(s.data.toList.all fun c=>b1F c.toNat)=false:=by rw[hx];simp[hf]
    unfold c1X
    rw[this];simp
   refine⟨by rw[c1p,hz];simp;omega,fun c=>⟨fun d=>hno (by unfold b1F;simp;omega),fun d=>?_⟩,fun c=>hno (by unfold b1F;simp;omega)⟩
   have hp:pre.length≤12:=by rw[hz]at a2;simp at a2;omega
   have h10:(10:Nat) ^ pre.length≤10 ^ 12:=Nat.pow_le_pow_right (by decide) hp
   have h12:(10:Nat) ^ 12=1000000000000:=by decide
   rw[h12]at h10
   have hdig:b1F (x.toNat:Int)=true:=by unfold b1F;simp;omega
   refine⟨10 * n+((x.toNat:Int) - 48),⟨by simp[i1,hdig],by rw[←i2];rfl,by omega,?_⟩,b0g (by omega),?_⟩
   ·rw[Nat.pow_succ];omega
   ·rw[f4k (by omega) (by omega),b1H (x:=n * 10) (by omega) (by omega),b1H (x:=(x.toNat:Int) - 48) (by omega) (by omega),b1H (by omega) (by omega)];omega
theorem d8S(k:Int)(t:ByteArray)(g:List ByteArray)(ks:List Nd)(hk:1≤k∧k<27):b0u env 208 [.agg (Nd.mk k t g ks).enc] (.bool (b3q k t)):=by
 have hd:=b3Q (k:=k) (by omega) hk.2
 refine b0i (fn:=Tryz.f208) Tryz.func208 rfl (by rw[Tryz.ntmps208];simp) (by simp -implicitDefEqProofs only[go_sem]) rfl ?_
 simp -implicitDefEqProofs only[go_sem,Tryz.f208,hd,Shp.enc,g8X,g9M]
 refine⟨by omega,fun h2=>⟨fun ht=>by simp[b3q,h2,ht],fun ht=>?_⟩,fun h2=>⟨fun h1=>?_,fun h1=>⟨fun h3=>?_,fun h3=>by simp[b3q,h1,h2,h3]⟩⟩⟩
 ·refine(d6N t).calls rfl ?_
  simp -implicitDefEqProofs only[go_sem]
  simp[b3q,h2,ht]
 ·refine(d6N t).calls rfl ?_
  simp -implicitDefEqProofs only[go_sem]
  simp[b3q,h1]
 ·refine(d4G t).calls rfl ?_
  simp -implicitDefEqProofs only[go_sem]
  simp[b3q,h3]
theorem g2D(n:Nd)(hk:1≤n.kind∧n.kind<27)(hg:∀ s∈n.gaps,s.size≤1000000000):b0u env 209 [.agg n.enc] (.bool (b8m n)):=by
 obtain⟨k,t,g,ks⟩:=n
 refine b0i (fn:=Tryz.f209) Tryz.func209 rfl (by rw[Tryz.ntmps209];simp) (by simp -implicitDefEqProofs only[go_sem]) rfl ?_
 simp -implicitDefEqProofs only[go_sem,Tryz.f209]
 intro _ _
 refine⟨fun h0=>by simp[b8m,Nd.gaps];left;simpa using h0,fun h0 _ _=>?_⟩
 refine b0n (β:=Unit) g (fun pre _=>⟨[(12,.int .i64 pre.length),(11,.int .i64 g.length),(10,sl 9 (g.map b0p)),(1,.ptr 0 0),(2,.bool false)],[VObj.cells (Nd.mk k t g ks).enc],[]⟩) (fun pre post _=>pre.all b2P=true) () ?_ rfl ?_ ?_
 ·simp -implicitDefEqProofs only[go_sem]
  try trivial
 ·intro _ hi
  simp -implicitDefEqProofs only[go_sem]
  refine b0h (cs:=[]) b0v (by kernel_rfl) ?_
  simp -implicitDefEqProofs only[go_sem]
  refine b0B (g8l k t g ks hk) (by simp -implicitDefEqProofs only[go_sem]) ?_
  simp -implicitDefEqProofs only[go_sem]
  have hne:g≠[]:=by rintro rfl;simp at h0
  have e:b8m (.mk k t g ks)=decide ((g.length:Int)=(Nd.mk k t g ks).own):=by
   have h1:((Nd.mk k t g ks).gaps.length=0)=False:=by simp[Nd.gaps,hne]
   unfold b8m
   simp only[h1,decide_false,g9U]
   rw[show(Nd.mk k t g ks).gaps=g from rfl,hi];rfl
  rw[e]
 ·intro pre x post _ hx hi
  have hpl:g.length=pre.length+1+post.length:=by rw[hx];simp;omega
  have hgx:(g.map b0p).getD (pre.length:Int).toNat []=[V.str x]:=by rw[hx];simp[g8Z,b0p]
  have hw:IntKind.i64.wrap (↑pre.length+1)=↑(pre.length+1):=b0g (by omega)
  have hlt:((pre.length:Int)<g.length)=True:=by simp;omega
  simp -implicitDefEqProofs only[go_sem,hgx,hlt]
  have hxg:x.size≤1000000000:=hg x (by rw[show(Nd.mk k t g ks).gaps=g from rfl,hx];simp)
  refine(f4A x hxg).calls rfl ?_
  simp -implicitDefEqProofs only[go_sem]
  refine⟨fun h=>?_,fun h=>⟨(),by simp_all,hw⟩⟩
  have:g.all b2P=false:=by rw[hx];simp_all
  simp[b8m,Nd.gaps,this]
  try(intro e;subst e;simp at hx)
end Go.Proofs.YtighfcpaplmaiaaGreatDoor
namespace Go.Vg
def c4h(n:Nd):Int:=if !(b1v n.kind && b6D n.kind n.kids && b2m n.kind n.text && n.levels)then 7 else if !b3q n.kind n.text then 4 else if !b8m n then 7 else 0
mutual
def b6o:Nd→Int
 | .mk k t g ks=>if c4h (.mk k t g ks)=0 then b5A ks else c4h (.mk k t g ks)
def b5A:List Nd→Int
 | []=>0
 | x::r=>if b6o x=0 then b5A r else b6o x
end
theorem b9P{k:Int}{ks:List Nd}(h:b6D k ks=true)(h0:(shp k).first.length≠0→k≠14):(shp k).first.length≤ks.length:=by
 by_cases hz:(shp k).first.length=0
 ·omega
 ·have:=h0 hz
  simp[b6D,this]at h
  omega
end Go.Vg
namespace Go.Proofs.YtighfcpaplmaiaaGreatDoor
open Go Go.Vg Go.Proofs
theorem c1i{k:Int}{ks:List Nd}(hk:1≤k∧k<27)(h:b6D k ks=true):(k=24→2≤ks.length)∧(k=25∨k=21→1≤ks.length):=by
 refine⟨fun e=>?_,fun e=>?_⟩
 ·subst e;exact b9P h (by decide)
 ·rcases e with rfl | rfl
  ·exact b9P h (by decide)
  ·exact b9P h (by decide)
theorem f3h:(n:Nd)→b5z n→b0u env 181 [.agg n.enc] (.int .i64 (b6o n)):=by
 refine Nd.all fun k t g ks ih hs=>?_
 have hnode:b6o (.mk k t g ks)=if c4h (.mk k t g ks)=0 then b5A ks else c4h (.mk k t g ks):=by rw[b6o]
 have hng:c4h (.mk k t g ks)=if !(b1v k && b6D k ks && b2m k t && (Nd.mk k t g ks).levels)then 7 else if !b3q k t then 4 else if !b8m (.mk k t g ks)then 7 else 0:=rfl
 refine b0i (fn:=Tryz.f181) Tryz.func181 rfl (by rw[Tryz.ntmps181];simp) (by simp -implicitDefEqProofs only[go_sem]) rfl ?_
 simp -implicitDefEqProofs only[go_sem,Tryz.f181]
 refine(c6V k).calls rfl ?_
 rw[show(decide (1≤k) && decide (k<27))=b1v k from rfl]
 cases h1:b1v k
 ·simp -implicitDefEqProofs only[go_sem]
  rw[hnode,hng,h1];rfl
 have hk:1≤k∧k<27:=by simpa[b1v]using h1
 simp -implicitDefEqProofs only[go_sem]
 refine(g1f k t g ks hk).calls (by simp -implicitDefEqProofs only[go_sem]) ?_
 cases h2:b6D k ks
 ·simp -implicitDefEqProofs only[go_sem]
  rw[hnode,hng,h1,h2];rfl
 simp -implicitDefEqProofs only[go_sem]
 refine(d6i k t g ks hk).calls (by simp -implicitDefEqProofs only[go_sem]) ?_
 cases h3:b2m k t
 ·simp -implicitDefEqProofs only[go_sem]
  rw[hnode,hng,h1,h2,h3];rfl
 simp -implicitDefEqProofs only[go_sem]
 refine(f0l (.mk k t g ks) (c1i hk h2).1 (c1i hk h2).2).calls (by simp -implicitDefEqProofs only[go_sem]) ?_
 cases h4:(Nd.mk k t g ks).levels
 ·simp -implicitDefEqProofs only[go_sem]
  rw[hnode,hng,h1,h2,h3,h4];rfl
 simp -implicitDefEqProofs only[go_sem]
 refine(d8S k t g ks hk).calls (by simp -implicitDefEqProofs only[go_sem]) ?_
 cases h5:b3q k t
 ·simp -implicitDefEqProofs only[go_sem]
  rw[hnode,hng,h1,h2,h3,h4,h5];rfl
 simp -implicitDefEqProofs only[go_sem]
 refine(g2D (.mk k t g ks) hk (hs _ (by rw[b0o];exact List.mem_cons_self ..))).calls (by simp -implicitDefEqProofs only[go_sem]) ?_
 cases h6:b8m (.mk k t g ks)
 ·simp -implicitDefEqProofs only[go_sem]
  rw[hnode,hng,h1,h2,h3,h4,h5,h6];rfl
 have hn0:c4h (.mk k t g ks)=0:=by rw[hng,h1,h2,h3,h4,h5,h6];rfl
 rw[hnode,if_pos hn0]
 simp -implicitDefEqProofs only[go_sem]
 intro _ _
 refine b0n (β:=Unit) ks (fun pre _=>⟨[(34,.int .i64 pre.length),(33,.int .i64 ks.length),(32,sl 66 (ks.map Nd.enc)),(2,.int .i64 0),(1,.ptr 0 0)],[VObj.cells (Nd.mk k t g ks).enc],[]⟩)
  (fun pre post _=>b5A ks=b5A post) () ?_ rfl ?_ ?_
 ·simp -implicitDefEqProofs only[go_sem]
  try rfl
 ·intro _ hi
  simp -implicitDefEqProofs only[go_sem]
  rw[hi];rfl
 ·intro pre x post _ hx hi
  have hpl:ks.length=pre.length+1+post.length:=by rw[hx];simp;omega
  have hgx:(ks.map Nd.enc).getD (pre.length:Int).toNat []=x.enc:=by rw[hx];simp[g8Z]
  have hw:IntKind.i64.wrap (↑pre.length+1)=↑(pre.length+1):=b0g (by omega)
  have hlt:((pre.length:Int)<ks.length)=True:=by simp;omega
  have hm:x∈ks:=by rw[hx];simp
  rw[hi,b5A]
  simp -implicitDefEqProofs only[go_sem,hgx,hlt]
  refine(ih x hm (c0C hs hm)).calls (by simp -implicitDefEqProofs only[go_sem]) ?_
  simp -implicitDefEqProofs only[go_sem]
  refine⟨fun h=>?_,fun h=>⟨(),by rw[if_pos (by simpa using h)],hw⟩⟩
  rw[if_neg (by simpa using h)]
theorem f3L(n:Nd)(hs:b5z n):b0u env 140 [.agg n.enc] (.int .i64 (if b3u n 4000 60<0 then 3 else b6o n)):=by
 refine b0i (fn:=Tryz.f140) Tryz.func140 rfl (by rw[Tryz.ntmps140];simp) (by simp -implicitDefEqProofs only[go_sem]) rfl ?_
 simp -implicitDefEqProofs only[go_sem,Tryz.f140]
 refine(d9k n 4000 60 (by omega) (by omega) (by omega)).calls (by simp -implicitDefEqProofs only[go_sem]) ?_
 simp -implicitDefEqProofs only[go_sem]
 refine⟨fun h=>?_,fun h=>?_⟩
 ·rw[if_pos h]
 ·refine(f3h n hs).calls (by simp -implicitDefEqProofs only[go_sem]) ?_
  simp -implicitDefEqProofs only[go_sem]
  rw[if_neg h]
end Go.Proofs.YtighfcpaplmaiaaGreatDoor
namespace Go.Vg
open Go
theorem f7l:shp 1=⟨[],0,1,0,[],1⟩:=rfl
theorem f8e:shp 2=⟨[(3,0),(5,0),(6,0)],0,0,1,[],2⟩:=rfl
theorem f7X:shp 3=⟨[],4,0,0,[],2⟩:=rfl
theorem f7f:shp 4=⟨[(5,0)],0,0,1,[],1⟩:=rfl
theorem f6b:shp 5=⟨[],0,0,1,[],1⟩:=rfl
theorem f8s:shp 6=⟨[],0,2,0,[],2⟩:=rfl
theorem f6G:shp 7=⟨[(8,0)],2,0,1,[],4⟩:=rfl
theorem f7u:shp 8=⟨[],0,0,2,[],2⟩:=rfl
theorem f7v:shp 9=⟨[(0,3)],0,0,1,[],4⟩:=rfl
theorem d3n:shp 10=⟨[(0,3)],0,0,1,[],4⟩:=rfl
theorem d3E:shp 11=⟨[(0,3)],0,0,1,[],3⟩:=rfl
theorem d4f:shp 12=⟨[(0,3)],0,0,0,[],2⟩:=rfl
theorem d5S:shp 13=⟨[(0,3),(6,0),(14,0)],0,0,0,[],1⟩:=rfl
theorem d2A:shp 14=⟨[(6,0)],0,0,0,[],1⟩:=rfl
theorem d4T:shp 15=⟨[(0,3),(6,0)],0,0,0,[],1⟩:=rfl
theorem d4Q:shp 16=⟨[(0,3)],0,0,0,[],1⟩:=rfl
theorem d3X:shp 17=⟨[],0,0,3,[],1⟩:=rfl
theorem d4e:shp 18=⟨[],0,0,4,[⟨#[116,114,117,101]⟩,⟨#[102,97,108,115,101]⟩],1⟩:=rfl
theorem d3C:shp 19=⟨[],0,0,1,[],1⟩:=rfl
theorem d6e:shp 20=⟨[],0,3,1,[],3⟩:=rfl
theorem d3z:shp 21=⟨[(0,3)],0,3,1,[],4⟩:=rfl
theorem d5n:shp 22=⟨[],0,0,1,[],4⟩:=rfl
theorem d6h:shp 23=⟨[],0,0,4,[⟨#[115,101,108,102]⟩],1⟩:=rfl
theorem d5t:shp 24=⟨[(0,3),(0,3)],0,0,4,[⟨#[124]⟩,⟨#[38]⟩,⟨#[61,61]⟩,⟨#[60]⟩,⟨#[43]⟩,⟨#[45]⟩,⟨#[42]⟩,⟨#[47]⟩],1⟩:=rfl
theorem d6m:shp 25=⟨[(0,3)],0,0,4,[⟨#[45]⟩,⟨#[33]⟩],1⟩:=rfl
theorem d5F:shp 26=⟨[(0,3)],0,0,0,[],2⟩:=rfl
theorem b3N{k:Int}(h:b1v k=true):k=1∨k=2∨k=3∨k=4∨k=5∨k=6∨k=7∨k=8∨k=9∨k=10∨k=11∨k=12∨k=13∨k=14∨k=15∨k=16∨k=17∨k=18∨k=19∨k=20∨k=21∨k=22∨k=23∨k=24∨k=25∨k=26:=by
 simp[b1v]at h;omega
theorem d2q{k:Int}(h:b1v k=true)(h14:k≠14):b0U k=((shp k).first.length:Int):=by
 rcases b3N h with rfl | rfl | rfl | rfl | rfl | rfl | rfl | rfl | rfl | rfl | rfl | rfl | rfl | rfl | rfl | rfl | rfl | rfl | rfl | rfl | rfl | rfl | rfl | rfl | rfl | rfl <;> first | rfl | exact absurd rfl h14
theorem d3y(i:Int)(h:0≤i):i=0∨i=1∨i=2∨3≤i:=by omega
theorem c4K(c:Int):b1C c=0∨(1≤c∧c<27):=by
 unfold b1C
 repeat' split
 all_goals omega
theorem c7K{k:Int}(h:b1v k=true)(i c:Int)(hi:0≤i):b7Q k i c=b3P k i c:=by
 have hg:=c4K c
 rcases d3y i hi with rfl | rfl | rfl | h3
 rotate_right
 ·have n0:¬ i<0:=by omega
  have n1:¬ i<1:=by omega
  have n2:¬ i<2:=by omega
  have n3:¬ i<3:=by omega
  have m0:¬ i=0:=by omega
  have m1:¬ i=1:=by omega
  have m2:¬ i=2:=by omega
  have p0:0<i:=by omega
  rcases b3N h with rfl | rfl | rfl | rfl | rfl | rfl | rfl | rfl | rfl | rfl | rfl | rfl | rfl | rfl | rfl | rfl | rfl | rfl | rfl | rfl | rfl | rfl | rfl | rfl | rfl | rfl
  all_goals(simp only[b7Q,c4L,b3P,f7l,f8e,f7X,f7f,f6b,f8s,f6G,f7u,f7v,d3n,d3E,d4f,d5S,d2A,d4T,d4Q,d3X,d4e,d3C,d6e,d3z,d5n,d6h,d5t,d6m,d5F,g9k,g9F];rw[h0g];simp[b1v,n0,n1,n2,n3,m0,m1,m2,p0,hi])
  all_goals omega
 all_goals
  rcases b3N h with rfl | rfl | rfl | rfl | rfl | rfl | rfl | rfl | rfl | rfl | rfl | rfl | rfl | rfl | rfl | rfl | rfl | rfl | rfl | rfl | rfl | rfl | rfl | rfl | rfl | rfl
  all_goals(simp only[b7Q,c4L,b3P,f7l,f8e,f7X,f7f,f6b,f8s,f6G,f7u,f7v,d3n,d3E,d4f,d5S,d2A,d4T,d4Q,d3X,d4e,d3C,d6e,d3z,d5n,d6h,d5t,d6m,d5F,g9k,g9F];rw[h0g];simp[b1v])
  all_goals omega
theorem c1s{k:Int}(h:b1v k=true):∀ (ks:List Nd) (i:Nat),b4K k ks i=b1y k ks i
 | [],i=>rfl
 | x::r,i=>by
  rw[b4K,b1y,c7K h _ _ (by omega),c1s h r (i+1)]
  rfl
theorem c9e{k:Int}(h:b1v k=true)(t:ByteArray):b2m k t=(b2n k t || b5t k t):=by
 rcases b3N h with rfl | rfl | rfl | rfl | rfl | rfl | rfl | rfl | rfl | rfl | rfl | rfl | rfl | rfl | rfl | rfl | rfl | rfl | rfl | rfl | rfl | rfl | rfl | rfl | rfl | rfl
 all_goals(simp only[b2m,b2n,b5t,b3n,b8Z,f7l,f8e,f7X,f7f,f6b,f8s,f6G,f7u,f7v,d3n,d3E,d4f,d5S,d2A,d4T,d4Q,d3X,d4e,d3C,d6e,d3z,d5n,d6h,d5t,d6m,d5F])
 all_goals(try(simp;done))
 all_goals(try(simp;grind))
theorem d1g{k:Int}(h:b1v k=true)(t:ByteArray):b3q k t = !((decide (k=17) && !c1X t) || (!decide (k=17) && b2n k t && !b0I t)):=by
 rcases b3N h with rfl | rfl | rfl | rfl | rfl | rfl | rfl | rfl | rfl | rfl | rfl | rfl | rfl | rfl | rfl | rfl | rfl | rfl | rfl | rfl | rfl | rfl | rfl | rfl | rfl | rfl
 all_goals(simp only[b3q,f7l,f8e,f7X,f7f,f6b,f8s,f6G,f7u,f7v,d3n,d3E,d4f,d5S,d2A,d4T,d4Q,d3X,d4e,d3C,d6e,d3z,d5n,d6h,d5t,d6m,d5F])
 all_goals(simp[b2n])
theorem b3m{k:Int}:∀ {ks:List Nd} {i:Int},b1y k ks i=true→∀ (j:Nat) x,ks[j]? = some x→b3P k (i+j) x.kind=true
 | [],i,h,j,x,hx=>by simp at hx
 | y::r,i,h,j,x,hx=>by
  rw[b1y,g9g]at h
  match j with
  | 0=>simp at hx;subst hx;simpa using h.1
  | j+1 =>
   have:=b3m h.2 j x (by simpa using hx)
   rw[←this];congr 1;omega
theorem d8r{k:Int}(h:b1v k=true)(ks:List Nd):b6D k ks=(!decide ((ks.length:Int)<b0U k) && b1y k ks 0):=by
 have hF:=c1s h ks 0
 have hfar:(shp k).rk=0∧(shp k).rg=0→(shp k).first.length<ks.length→b1y k ks 0=false:=fun hr hl=>by
  cases hc:b1y k ks 0 with
  | false=>rfl
  | true =>
   have:=b3m hc (shp k).first.length _ (g9b hl)
   rw[Int.zero_add,←c7K h _ _ (by omega)]at this
   simp[b7Q,c4L,hr]at this
   have hk:=this.1.2
   simp[b1v]at hk
   have:=this.2
   omega
 unfold b6D
 rw[hF]
 by_cases h14:k=14
 ·subst h14
  have hl:b0U 14=0:=rfl
  rw[hl,show((0:Nat):Int)=0 from rfl]
  have hfar:=hfar ⟨rfl,rfl⟩
  have hf1:(shp 14).first.length=1:=rfl
  rw[hf1]at hfar ⊢
  have hr:((shp 14).rk=0∧(shp 14).rg=0)=True:=by simp[d2A]
  simp only[hr]
  rcases ks with _ | ⟨x,_ | ⟨y,r⟩⟩
  ·simp[b1y]
  ·simp
  ·have:=hfar (by simp)
   simp[this]
 ·rw[d2q h h14]
  simp only[h14,decide_false,g9Q,g9U]
  by_cases hl:ks.length<(shp k).first.length
  ·have:((ks.length:Int)<((shp k).first.length:Int)):=by omega
   simp[hl]
  ·have h':¬ ((ks.length:Int)<((shp k).first.length:Int)):=by omega
   simp only[hl,h',decide_false,g9U,Bool.not_false,g9O]
   by_cases hr:(shp k).rk=0∧(shp k).rg=0
   ·by_cases hl2:(shp k).first.length<ks.length
    ·simp[hfar hr hl2]
    ·simp[hl2]
   ·simp[hr]
theorem f0N(n:Nd):c4h n=n.node:=by
 obtain⟨k,t,g,ks⟩:=n
 have e1:(Nd.mk k t g ks).shape=(b1v k && b6D k ks && b2m k t && (Nd.mk k t g ks).levels):=by
  by_cases h:b1v k=true
  ·have hk:1≤k∧k<27:=by simpa[b1v]using h
   have h1:¬ k<1:=by omega
   have h2:¬ 26<k:=by omega
   simp only[Nd.shape,Nd.kind,Nd.kids,Nd.text,h1,h2,h,d8r h,c9e h,decide_false,Bool.not_false,g9O,Bool.and_assoc]
   rfl
  ·have h':b1v k=false:=by simpa using h
   rw[h']
   have:¬ (1≤k∧k<27):=by simpa[b1v]using h
   simp only[Nd.shape,Nd.kind,Nd.kids,Nd.text,g9Q]
   by_cases h1:k<1
   ·simp[h1]
   ·have:26<k:=by omega
    simp[this]
 have hng:c4h (.mk k t g ks)=if !(b1v k && b6D k ks && b2m k t && (Nd.mk k t g ks).levels)then 7 else if !b3q k t then 4 else if !b8m (.mk k t g ks)then 7 else 0:=rfl
 have hnn:(Nd.mk k t g ks).node=if !(Nd.mk k t g ks).shape then 7 else if(decide (k=17) && !c1X t) || (!decide (k=17) && b2n k t && !b0I t)then 4
  else if 0<g.length∧(g.length:Int)≠(Nd.mk k t g ks).own then 7 else if g.all b2P then 0 else 7:=rfl
 rw[hng,hnn,e1]
 by_cases hs:(b1v k && b6D k ks && b2m k t && (Nd.mk k t g ks).levels)=true
 ·have hk:b1v k=true:=by simp[g9g]at hs;exact hs.1.1.1
  rw[hs,d1g hk]
  simp only[Bool.not_true,g9n,if_false,Bool.not_not]
  congr 1
  by_cases hg:g.length=0
  ·have:g=[]:=g9C hg
   subst this
   simp[b8m,Nd.gaps]
  ·have h0:0<g.length:=by omega
   have e:b8m (.mk k t g ks)=(g.all b2P && decide ((g.length:Int)=(Nd.mk k t g ks).own)):=by
    have:g≠[]:=by rintro rfl;simp at hg
    simp[b8m,Nd.gaps,this]
    rfl
   rw[e]
   by_cases ho:(g.length:Int)=(Nd.mk k t g ks).own
   ·simp only[ho,decide_true,h0b,h0,true_and,ne_eq,not_true_eq_false,if_false]
    cases g.all b2P <;> rfl
   ·simp[ho,h0]
 ·have:(b1v k && b6D k ks && b2m k t && (Nd.mk k t g ks).levels)=false:=by simpa using hs
  rw[this]
  rfl
theorem d1p:∀ n:Nd,b6o n=b5d n:=by
 refine Nd.all fun k t g ks ih=>?_
 have hs:∀ l:List Nd,(∀ x∈l,b6o x=b5d x)→b5A l=b4R l:=by
  intro l
  induction l with
  | nil=>intro _;rfl
  | cons x r ihr =>
   intro h
   rw[b5A,b4R,h x (by simp),ihr fun y hy=>h y (by simp[hy])]
 rw[b6o,b5d,f0N,hs ks ih]
mutual
def okN:Nd→Int→Bool
 | .mk k t g ks,d=>decide (0<d) && decide ((ks.length:Int)≤b9H k) && c4A ks (d - 1)
def c4A:List Nd→Int→Bool
 | [],_=>true
 | x::r,d=>okN x d && c4A r d
end
def b9B(n:Nd):Nat:=(b0o n).length
def b4I(l:List Nd):Nat:=(b0l l).length
theorem d1J{k t g ks}:b9B (.mk k t g ks)=b4I ks+1:=by simp[b9B,b4I,b0o]
theorem c6k{x:Nd}{r:List Nd}:b4I (x::r)=b9B x+b4I r:=by simp[b9B,b4I,b0l]
theorem d1L(n:Nd):1≤b9B n:=by obtain⟨k,t,g,ks⟩:=n;rw[d1J];omega
theorem d0J:∀ (n:Nd) (l d:Int),b3u n l d=if okN n d=true∧(b9B n:Int)≤l then l - b9B n else -1:=by
 refine Nd.all fun k t g ks ih l d=>?_
 have hs:∀ (r:List Nd),(∀ x∈r,∀ (l d:Int),b3u x l d=if okN x d=true∧(b9B x:Int)≤l then l - b9B x else -1)→∀ (l d:Int),0≤l→b2U r l d=if c4A r d=true∧(b4I r:Int)≤l then l - b4I r else -1:=by
  intro r
  induction r with
  | nil=>intro _ l d hl;simp[b2U,c4A,b4I,b0l,hl]
  | cons x r ihr =>
   intro h l d hl
   have ihr:=ihr fun y hy=>h y (by simp[hy])
   rw[b2U,h x (by simp),c4A,c6k]
   by_cases hx:okN x d=true∧(b9B x:Int)≤l
   ·rw[if_pos hx,if_neg (by omega),ihr _ _ (by omega)]
    by_cases hr:c4A r d=true∧(b4I r:Int)≤l - b9B x
    ·rw[if_pos hr,if_pos ⟨by simp[hx.1,hr.1],by omega⟩];omega
    ·rw[if_neg hr,if_neg]
     rintro⟨h1,h2⟩
     simp only[g9g]at h1
     exact hr ⟨h1.2,by omega⟩
   ·rw[if_neg hx,if_pos (by omega),if_neg]
    rintro⟨h1,h2⟩
    simp only[g9g]at h1
    exact hx ⟨h1.1,by omega⟩
 rw[b3u,okN,d1J]
 by_cases hb:l≤0∨d≤0∨b9H k<(ks.length:Int)
 ·rw[if_pos hb,if_neg]
  rintro⟨h1,h2⟩
  simp only[g9g,g9h]at h1
  omega
 ·rw[if_neg hb,hs ks ih _ _ (by omega)]
  have a1:0<d:=by omega
  have a2:(ks.length:Int)≤b9H k:=by omega
  simp only[a1,a2,decide_true,g9O]
  by_cases hr:c4A ks (d - 1)=true∧(b4I ks:Int)≤l - 1
  ·rw[if_pos hr,if_pos ⟨hr.1,by omega⟩];omega
  ·rw[if_neg hr,if_neg]
   rintro⟨h1,h2⟩
   exact hr ⟨h1,by omega⟩
theorem d3x:∀ (n:Nd) (l:Int),b5H n l=if okN n (61 - l)=true∧b9B n≤4000 then(b9B n:Int)else 4001:=by
 refine Nd.all fun k t g ks ih l=>?_
 have hs:∀ (r:List Nd),(∀ x∈r,∀ (l:Int),b5H x l=if okN x (61 - l)=true∧b9B x≤4000 then(b9B x:Int)else 4001)→∀ (k l:Int),1≤k→min (b4r r k l) 4001=if c4A r (61 - l)=true∧k+(b4I r:Int)≤4000 then k+(b4I r:Int)else if k≤4000 then 4001 else min k 4001:=by
  intro r
  induction r with
  | nil =>
   intro _ k l hk
   simp only[b4r,c4A,b4I,b0l,g9F,true_and]
   by_cases h:k≤4000
   ·rw[if_pos (by omega)];omega
   ·rw[if_neg (by omega),if_neg h]
  | cons x r ihr =>
   intro h k l hk
   have ihr:=ihr fun y hy=>h y (by simp[hy])
   have hp:=d1L x
   rw[b4r,c4A,c6k,h x (by simp)]
   by_cases hk4:4000<k
   ·rw[if_pos hk4,if_neg (by omega),if_neg (by omega)]
   ·rw[if_neg hk4]
    by_cases hx:okN x (61 - l)=true∧b9B x≤4000
    ·rw[if_pos hx,ihr _ _ (by omega)]
     by_cases hr:c4A r (61 - l)=true∧k+(b9B x:Int)+(b4I r:Int)≤4000
     ·rw[if_pos hr,if_pos ⟨by simp[hx.1,hr.1],by omega⟩];omega
     ·have hn:¬ ((okN x (61 - l) && c4A r (61 - l))=true∧k+((b9B x+b4I r:Nat):Int)≤4000):=by
       rintro⟨h1,h2⟩
       simp only[g9g]at h1
       exact hr ⟨h1.2,by omega⟩
      rw[if_neg hr,if_neg hn,if_pos (show k≤4000 by omega)]
      split <;> omega
    ·have hn:¬ ((okN x (61 - l) && c4A r (61 - l))=true∧k+((b9B x+b4I r:Nat):Int)≤4000):=by
      rintro⟨h1,h2⟩
      simp only[g9g]at h1
      exact hx ⟨h1.1,by omega⟩
     rw[if_neg hx,ihr _ _ (by omega),if_neg (show ¬ (c4A r (61 - l)=true∧k+4001+(b4I r:Int)≤4000)by omega),if_neg (show ¬ k+4001≤4000 by omega),if_neg hn,if_pos (show k≤4000 by omega)]
     omega
 rw[b5H,okN,d1J]
 by_cases hb:60<l∨b9H k<(ks.length:Int)
 ·rw[if_pos hb,if_neg]
  rintro⟨h1,h2⟩
  simp only[g9g,g9h]at h1
  omega
 ·rw[if_neg hb,hs ks ih _ _ (by omega)]
  have a1:0<61 - l:=by omega
  have a2:(ks.length:Int)≤b9H k:=by omega
  have a3:61 - (l+1)=61 - l - 1:=by omega
  simp only[a1,a2,decide_true,g9O,a3]
  by_cases hr:c4A ks (61 - l - 1)=true∧1+(b4I ks:Int)≤4000
  ·rw[if_pos hr,if_pos ⟨hr.1,by omega⟩];omega
  ·have hn:¬ (c4A ks (61 - l - 1)=true∧b4I ks+1≤4000):=by
    rintro⟨h1,h2⟩
    exact hr ⟨h1,by omega⟩
   rw[if_neg hr,if_neg hn,if_pos (by decide)]
theorem d3m(n:Nd):(if b3u n 4000 60<0 then 3 else b6o n)=b3K n:=by
 unfold b3K
 rw[d0J,d3x,d1p,show(61:Int) - 1=60 from rfl]
 by_cases h:okN n 60=true∧b9B n≤4000
 ·rw[if_pos (show okN n 60=true∧(b9B n:Int)≤4000 from⟨h.1,by omega⟩),if_pos h,if_neg (by omega),if_neg (by omega)]
 ·rw[if_neg (show ¬ (okN n 60=true∧(b9B n:Int)≤4000)from fun h'=>h ⟨h'.1,by omega⟩),if_neg h]
  rfl
end Go.Vg
namespace Go.Proofs.YtighfcpaplmaiaaGreatDoor
open Go Go.Vg Go.Proofs
theorem f0t(n:Nd)(hs:b5z n):b0u env 140 [.agg n.enc] (.int .i64 (b3K n)):=by
 rw[←d3m];exact f3L n hs
end Go.Proofs.YtighfcpaplmaiaaGreatDoor
namespace Go.Vg
end Go.Vg
namespace Go.Proofs.YtighfcpaplmaiaaGreatDoor
open Go Go.Vg Go.Proofs
theorem f5m(x:Un)(hs:b5z x.tree):b0u env 87 [.agg x.enc] (.bool (b1q x)):=by
 refine b0i (fn:=Tryz.f87) Tryz.func87 rfl (by rw[Tryz.ntmps87];simp) (by simp -implicitDefEqProofs only[go_sem]) rfl ?_
 simp -implicitDefEqProofs only[go_sem,Tryz.f87]
 refine⟨fun hb=>⟨fun hk=>?_,fun hk=>by simp[b1q,hk]⟩,fun hb=>by simp_all [b1q]⟩
 refine(f0t x.tree hs).calls (by simp -implicitDefEqProofs only[go_sem]) ?_
 simp -implicitDefEqProofs only[go_sem]
 simp_all [b1q]
theorem b8v(r:Rw):b1a r.enc=true:=by
 simp -implicitDefEqProofs only[Rw.enc,go_sem];exact b9v _
theorem b4D(r:Rw):List.map share1 r.enc=r.enc:=by simp -implicitDefEqProofs only[Rw.enc,go_sem]
theorem c0b{tabs:List (List V)}{un:Nat}{x:List V}(h:tabs[un]? = some x):tabs.getD (un:Int).toNat []=x∧((un:Int)<tabs.length)=True:=by
 have:=(g8Y.1 h).1
 exact⟨by simp[g8Z,h],by simp;exact this⟩
end Go.Proofs.YtighfcpaplmaiaaGreatDoor
