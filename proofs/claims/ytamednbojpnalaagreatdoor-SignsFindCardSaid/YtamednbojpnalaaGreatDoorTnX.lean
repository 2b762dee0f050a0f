/- Names, as the program checks them. -/
import Derived.Test.YtamednbojpnalaaGreatDoorTnO
import Derived.Test.YtamednbojpnalaaGreatDoorShelf
import Derived.Lib.ItoaNum
import Derived.Lib.IndexMore
set_option linter.unusedVariables false
set_option linter.unusedSimpArgs false
set_option maxRecDepth 20000
namespace Go.Proofs.YtamednbojpnalaaGreatDoor
open Go Go.Vg Go.Proofs
theorem Glevels(n:Nd)(h0:n.kind=24→2≤n.kids.length)(h1:n.kind=25∨n.kind=21→1≤n.kids.length):VPure env 121 [.agg n.enc] (.bool n.levels):=by
 obtain⟨k,t,g,ks⟩:=n
 simp only[Nd.kind,Nd.kids]at h0 h1
 refine vpure_vc (fn:=Tryz.f121) Tryz.func121 rfl (by rw[Tryz.ntmps121];simp) (by simp -implicitDefEqProofs only[go_sem]) rfl ?_
 rcases ks with _ | ⟨a,_ | ⟨b,r⟩⟩
 ·have hk:¬ k=24∧¬ k=25∧¬ k=21:=⟨fun h=>by simp at h0;omega,fun h=>by simp at h1;omega,fun h=>by simp at h1;omega⟩
  simp -implicitDefEqProofs only[go_sem,Tryz.f121,hk.1,hk.2.1,hk.2.2]
  rfl
 ·have hk:¬ k=24:=fun h=>by simp at h0;omega
  simp -implicitDefEqProofs only[go_sem,Tryz.f121,hk]
  refine⟨fun h=>⟨by omega,?_⟩,fun h=>⟨fun h2=>⟨by omega,?_⟩,fun h2=>?_⟩⟩
  ·refine(GLevel a).calls (by simp -implicitDefEqProofs only[go_sem]) ?_
   simp -implicitDefEqProofs only[go_sem]
   simp[Nd.levels,levelsN,Nd.kind,Nd.text,Nd.kids,h]
  ·refine(GLevel a).calls (by simp -implicitDefEqProofs only[go_sem]) ?_
   simp -implicitDefEqProofs only[go_sem]
   simp[Nd.levels,levelsN,Nd.kind,Nd.text,Nd.kids,h2]
  ·simp[Nd.levels,levelsN,Nd.kind,Nd.text,Nd.kids,h,h2]
 ·simp -implicitDefEqProofs only[go_sem,Tryz.f121]
  refine⟨fun h=>?_,fun h=>⟨fun h2=>⟨by omega,?_⟩,fun h2=>⟨fun h3=>⟨by omega,?_⟩,fun h3=>?_⟩⟩⟩
  ·refine snd_draw (cs:=[]) mixed (by kernel_rfl) ?_
   simp -implicitDefEqProofs only[go_sem]
   refine vPC_of (GLevel (.mk k t g (a::b::r))) (by simp -implicitDefEqProofs only[go_sem]) ?_
   simp -implicitDefEqProofs only[go_sem]
   refine⟨by omega,?_⟩
   refine vPC_of (GLevel a) (by simp -implicitDefEqProofs only[go_sem]) ?_
   simp -implicitDefEqProofs only[go_sem]
   have hlv:(Nd.mk k t g (a::b::r)).level=levelK 24 t:=by simp[Nd.level,Nd.kind,Nd.text,h]
   rw[hlv]
   have hm:(Nd.mk k t g (a::b::r)).levels=(if levelK 24 t=3∧a.level=3 then false else decide (levelK 24 t≤a.level∧levelK 24 t<b.level)):=by simp[Nd.levels,levelsN,Nd.kind,Nd.text,Nd.kids,h]
   rw[hm]
   have e:∀ x:Nd,List.map share [V.agg x.enc]=[V.agg x.enc]:=fun x=>by simp -implicitDefEqProofs only[go_sem]
   repeat' (first | apply And.intro | (refine(GLevel a).calls (e a) ?_;simp -implicitDefEqProofs only[go_sem]) | (refine(GLevel b).calls (e b) ?_;simp -implicitDefEqProofs only[go_sem]) | omega | intro)
   all_goals(try simp_all)
   all_goals omega
  ·refine(GLevel a).calls (by simp -implicitDefEqProofs only[go_sem]) ?_
   simp -implicitDefEqProofs only[go_sem]
   simp[Nd.levels,levelsN,Nd.kind,Nd.text,Nd.kids,h2]
  ·refine(GLevel a).calls (by simp -implicitDefEqProofs only[go_sem]) ?_
   simp -implicitDefEqProofs only[go_sem]
   simp[Nd.levels,levelsN,Nd.kind,Nd.text,Nd.kids,h3]
  ·simp[Nd.levels,levelsN,Nd.kind,Nd.text,Nd.kids,h,h2,h3]
end Go.Proofs.YtamednbojpnalaaGreatDoor
namespace Go.Vg
def ptAt(a b:Int):Int×Int:=if b<((shp a).first.length:Int)then(shp a).first.getD b.toNat (0,0)else((shp a).rk,(shp a).rg)
def knownB(k:Int):Bool:=decide (1≤k) && decide (k<27)
def fitsG(a b c:Int):Bool:=knownB a && decide (0≤b) && knownB c && (if(ptAt a b).2=0 then decide ((ptAt a b).1=c)else decide ((ptAt a b).2=groupK c))
theorem pt_getD{l:List (Int×Int)}{i:Nat}(h:i<l.length):(l.map encPt).getD i []=encPt (l.getD i (0,0)):=by
 simp[List.getD_eq_getElem?_getD,h]
end Go.Vg
namespace Go.Proofs.YtamednbojpnalaaGreatDoor
open Go Go.Vg Go.Proofs
theorem GFits(a b c:Int):VPure env 154 [.int .i64 a,.int .i64 b,.int .i64 c] (.bool (fitsG a b c)):=by
 have hGg:=GGroup c
 refine vpure_vc (fn:=Tryz.f154) Tryz.func154 rfl (by rw[Tryz.ntmps154];simp) (by simp -implicitDefEqProofs only[go_sem]) rfl ?_
 simp -implicitDefEqProofs only[go_sem,Tryz.f154]
 refine(Gknown a).calls rfl ?_
 by_cases ha:1≤a∧a<27
 ·have h1:(decide (1≤a) && decide (a<27))=true:=by simp[ha]
  have hd:=shapes_drop (k:=a) (by omega) ha.2
  rw[h1]
  simp -implicitDefEqProofs only[go_sem]
  refine⟨fun hb0=>?_,fun hb0=>?_⟩
  ·refine(Gknown c).calls rfl ?_
   by_cases hc:1≤c∧c<27
   ·have h2:(decide (1≤c) && decide (c<27))=true:=by simp[hc]
    rw[h2]
    have hf:fitsG a b c=(if(ptAt a b).2=0 then decide ((ptAt a b).1=c)else decide ((ptAt a b).2=groupK c)):=by
     unfold fitsG knownB;rw[h1,h2];simp;omega
    simp -implicitDefEqProofs only[go_sem,hd,Shp.enc,List.cons_append,List.nil_append]
    refine⟨⟨by omega,by omega⟩,fun _ _=>⟨fun hbl=>?_,fun hbl=>?_⟩⟩
    ·have hp:ptAt a b=(shp a).first.getD b.toNat (0,0):=by unfold ptAt;rw[if_pos hbl]
     have hpt:=pt_getD (l:=(shp a).first) (i:=b.toNat) (by omega)
     rw[←hp]at hpt
     simp -implicitDefEqProofs only[go_sem,hpt,encPt]
     refine⟨⟨by omega,by omega⟩,fun hg=>?_,fun hg=>?_⟩
     ·refine snd_draw (cs:=[]) mixed (by kernel_rfl) ?_
      simp -implicitDefEqProofs only[go_sem]
      refine vPC_of hGg rfl ?_
      simp -implicitDefEqProofs only[go_sem]
      have hg':¬ (ptAt a b).2=0:=by simpa using hg
      rw[hf,if_neg hg']
     ·have hg':(ptAt a b).2=0:=by simpa using hg
      rw[hf,if_pos hg']
    ·have hp:ptAt a b=((shp a).rk,(shp a).rg):=by unfold ptAt;rw[if_neg hbl]
     rw[hp]at hf
     refine⟨fun hg=>?_,fun hg=>?_⟩
     ·refine snd_draw (cs:=[]) mixed (by kernel_rfl) ?_
      simp -implicitDefEqProofs only[go_sem]
      refine vPC_of hGg rfl ?_
      simp -implicitDefEqProofs only[go_sem]
      have hg':¬ (shp a).rg=0:=by simpa using hg
      rw[hf,if_neg hg']
     ·have hg':(shp a).rg=0:=by simpa using hg
      rw[hf,if_pos hg']
   ·have h2:(decide (1≤c) && decide (c<27))=false:=by simp;omega
    rw[h2]
    simp -implicitDefEqProofs only[go_sem]
    simp[fitsG,knownB,h2]
  ·have:¬ 0≤b:=by omega
   simp[fitsG,this]
 ·have h1:(decide (1≤a) && decide (a<27))=false:=by simp;omega
  rw[h1]
  simp -implicitDefEqProofs only[go_sem]
  simp[fitsG,knownB,h1]
end Go.Proofs.YtamednbojpnalaaGreatDoor
set_option maxRecDepth 20000
namespace Go.Vg
@[go_sem] theorem enc_head(n:Nd){K:V→Prop}:vHead n.enc K=K (.int .i64 n.kind):=by cases n;rfl
def kidsFit(k:Int):List Nd→Nat→Bool
 | [],_=>true
 | x::r,i=>fitsG k i x.kind && kidsFit k r (i+1)
def kidsG(k:Int)(ks:List Nd):Bool:=(decide (k=14) && decide (ks.length=0)) || (!(decide (ks.length<(shp k).first.length) || (decide ((shp k).first.length<ks.length) && decide ((shp k).rk=0∧(shp k).rg=0))) && kidsFit k ks 0)
end Go.Vg
namespace Go.Proofs.YtamednbojpnalaaGreatDoor
open Go Go.Vg Go.Proofs
theorem Gkids(k:Int)(t:ByteArray)(g:List ByteArray)(ks:List Nd)(hk:1≤k∧k<27):VPure env 119 [.agg (Nd.mk k t g ks).enc] (.bool (kidsG k ks)):=by
 have hd:=shapes_drop (k:=k) (by omega) hk.2
 refine vpure_vc (fn:=Tryz.f119) Tryz.func119 rfl (by rw[Tryz.ntmps119];simp) (by simp -implicitDefEqProofs only[go_sem]) rfl ?_
 simp -implicitDefEqProofs only[go_sem,Tryz.f119,hd,Shp.enc,List.cons_append,List.nil_append]
 have hfl:flatK Tryz.prog 209=some [1,1]:=by kernel_rfl
 have hfv:vFlat (flatK Tryz.prog 209) [V.int .i64 (shp k).rk,.int .i64 (shp k).rg] [V.int .i64 0,.int .i64 0]:=by rw[hfl];simp[vFlat,fits,fit1]
 refine⟨⟨by omega,by omega⟩,?_⟩
 have hkg:kidsG k ks=((decide (k=14) && decide (ks.length=0)) || (!(decide (ks.length<(shp k).first.length) || (decide ((shp k).first.length<ks.length) && decide ((shp k).rk=0∧(shp k).rg=0))) && kidsFit k ks 0)):=rfl
 repeat' (first | apply And.intro | (with_reducible intro))
 all_goals(try exact hfv)
 all_goals(try(congr 1;rw[hkg];simp_all;done))
 all_goals(try(congr 1;rw[hkg];simp_all;omega))
 all_goals
  have hkf:kidsG k ks=kidsFit k ks 0:=by
   rw[hkg]
   first | (simp_all;done) | grind
  rw[hkf]
  refine snd_list (β:=Unit) ks (fun pre _=>⟨[(44,.int .i64 pre.length),(43,.int .i64 ks.length),(42,sl 32 (ks.map Nd.enc)),(1,.ptr 0 0),(2,.bool false)],[VObj.cells (Nd.mk k t g ks).enc,.dead],[]⟩) (fun pre post _=>kidsFit k ks 0=kidsFit k post pre.length) () ?_ rfl ?_ ?_
  ·simp -implicitDefEqProofs only[go_sem]
   rfl
  ·intro _ hi
   simp -implicitDefEqProofs only[go_sem]
   rw[hi];rfl
  ·intro pre x post _ hks hi
   have hpl:ks.length=pre.length+1+post.length:=by rw[hks];simp;omega
   have hgx:(ks.map Nd.enc).getD (pre.length:Int).toNat []=x.enc:=by rw[hks];simp[List.getD_eq_getElem?_getD]
   have hw:IntKind.i64.wrap (↑pre.length+1)=↑(pre.length+1):=wrap_next (by omega)
   rw[hi,kidsFit]
   simp -implicitDefEqProofs only[go_sem,hgx]
   refine⟨fun _=>⟨by omega,?_⟩,fun h=>absurd (show(pre.length:Int)<ks.length by omega) h⟩
   refine(GFits k pre.length x.kind).calls rfl ?_
   simp -implicitDefEqProofs only[go_sem]
   refine⟨fun h=>?_,fun h=>⟨(),?_,hw⟩⟩
   ·have h':fitsG k pre.length x.kind=false:=by simpa using h
    rw[h'];rfl
   ·have h':fitsG k pre.length x.kind=true:=by simpa using h
    rw[h'];rfl
end Go.Proofs.YtamednbojpnalaaGreatDoor
set_option maxRecDepth 20000
namespace Go.Proofs.YtamednbojpnalaaGreatDoor
open Go Go.Vg Go.Proofs
theorem GOwn(k:Int)(t:ByteArray)(g:List ByteArray)(ks:List Nd)(hk:1≤k∧k<27):VPure env 159 [.agg (Nd.mk k t g ks).enc] (.int .i64 (Nd.mk k t g ks).own):=by
 have hd:=shapes_drop (k:=k) (by omega) hk.2
 have h1:(decide (1≤k) && decide (k<27))=true:=by simp[hk]
 refine vpure_vc (fn:=Tryz.f159) Tryz.func159 rfl (by rw[Tryz.ntmps159];simp) (by simp -implicitDefEqProofs only[go_sem]) rfl ?_
 simp -implicitDefEqProofs only[go_sem,Tryz.f159]
 refine(Gknown k).calls rfl ?_
 rw[h1]
 simp -implicitDefEqProofs only[go_sem,hd,Shp.enc,List.cons_append,List.nil_append]
 intro _ hl
 have e:(Nd.mk k t g ks).own=ownK k t ks.length:=rfl
 rw[e]
 have w1:IntKind.i64.wrap ((ks.length:Int) - 1)=ks.length - 1:=Vg.wrap_small (by omega) (by omega)
 have w2:IntKind.i64.wrap ((ks.length:Int) - 1 - 1)=ks.length - 1 - 1:=Vg.wrap_small (by omega) (by omega)
 rw[w1,w2]
 have hs:(shp k).own=if k=8 then 2 else if k=14 then 1 else if k=3 then 2 else if k=20 then 3 else if k=21 then 4 else if k=7∨k=9∨k=10∨k=22 then 4 else if k=11 then 3 else if k=2∨k=6∨k=12∨k=26 then 2 else 1:=by
  have:k=1∨k=2∨k=3∨k=4∨k=5∨k=6∨k=7∨k=8∨k=9∨k=10∨k=11∨k=12∨k=13∨k=14∨k=15∨k=16∨k=17∨k=18∨k=19∨k=20∨k=21∨k=22∨k=23∨k=24∨k=25∨k=26:=by omega
  rcases this with rfl | rfl | rfl | rfl | rfl | rfl | rfl | rfl | rfl | rfl | rfl | rfl | rfl | rfl | rfl | rfl | rfl | rfl | rfl | rfl | rfl | rfl | rfl | rfl | rfl | rfl <;> rfl
 rw[hs]
 repeat' (first | apply And.intro | (with_reducible intro))
 all_goals(try omega)
 all_goals(try contradiction)
 all_goals
  congr 1
  unfold ownK
  first
   | (simp_all;done)
   | (simp_all;omega)
   | (subst_vars;simp;split <;> rw[Vg.wrap_small (by omega) (by omega)] <;> omega)
   | grind
end Go.Proofs.YtamednbojpnalaaGreatDoor
set_option maxRecDepth 20000
namespace Go.Vg
open Go
theorem ba_ext{a b:ByteArray}(h:a.data.toList=b.data.toList):a=b:=by
 obtain⟨⟨a⟩⟩:=a;obtain⟨⟨b⟩⟩:=b
 simp at h;simp[h]
theorem get_mid{s:ByteArray}{pre post:List UInt8}{x:UInt8}(h:s.data.toList=pre++x::post):s.get! (pre.length+0)=x:=by
 have h1:s.data.toList[pre.length]? = some x:=by rw[h];simp
 have h2:s.data[pre.length]? = some x:=by simpa using h1
 obtain⟨d⟩:=s
 show d[pre.length+0]! = x
 rw[Nat.add_zero,getElem!_def,h2]
theorem dec_low{s:ByteArray}{pre post:List UInt8}{x:UInt8}(h:s.data.toList=pre++x::post)(hx:x.toNat<128):Utf8.decode s pre.length=(x.toNat,1):=by
 unfold Utf8.decode
 simp only[get_mid h]
 rw[if_pos hx]
theorem dec_high{s:ByteArray}{pre post:List UInt8}{x:UInt8}(h:s.data.toList=pre++x::post)(hx:¬ x.toNat<128):128≤(Utf8.decode s pre.length).1:=by
 unfold Utf8.decode
 simp only[get_mid h]
 rw[if_neg hx]
 simp only[Utf8.runeError]
 repeat' split
 all_goals simp_all
 all_goals omega
theorem nameB_high{c:Int}(h:128≤c):letterB c=false∧digitB c=false:=by
 unfold letterB digitB
 constructor
 ·simp;omega
 ·simp;omega
theorem ext_mid{s:ByteArray}{l0 cur r:List UInt8}(h:s.data.toList=l0++cur++r):(s.extract l0.length (l0++cur).length).data.toList=cur:=by
 obtain⟨⟨d⟩⟩:=s
 simp only at h
 subst h
 simp[ByteArray.extract,ByteArray.copySlice]
theorem letter_digit{c:Int}(h:letterB c=true):digitB c=false:=by
 unfold letterB at h;unfold digitB
 simp at h ⊢;omega
theorem vn_bad{s:ByteArray}{pre post:List UInt8}{x:UInt8}(h:s.data.toList=pre++x::post)(hx:nameB x.toNat=false):validName s=false:=by
 have:(s.data.toList.all fun c=>nameB c.toNat)=false:=by rw[h];simp_all
 unfold validName
 rw[this];simp
theorem vn_first{s:ByteArray}{post:List UInt8}{x:UInt8}(h:s.data.toList=x::post)(hx:letterB x.toNat=false):validName s=false:=by
 cases hd:digitB (x.toNat:Int)
 ·exact vn_bad (pre:=[]) h (by simp[nameB,hx,hd])
 ·simp[validName,byteAt_zero h,hd]
theorem nameB_big{x:UInt8}(h:¬ x.toNat<128):nameB x.toNat=false:=by
 have:=nameB_high (c:=x.toNat) (by omega)
 simp[nameB,this]
end Go.Vg
namespace Go.Proofs.YtamednbojpnalaaGreatDoor
open Go Go.Vg Go.Proofs
theorem Ndigit(c:Int):VPure env 208 [.int .i32 c] (.bool (digitB c)):=by
 refine vpure_vc (fn:=Tryz.f208) Tryz.func208 rfl (by rw[Tryz.ntmps208];simp) rfl rfl ?_
 simp -implicitDefEqProofs only[go_sem,Tryz.f208,digitB]
 grind
theorem Nletter(c:Int):VPure env 207 [.int .i32 c] (.bool (letterB c)):=by
 refine vpure_vc (fn:=Tryz.f207) Tryz.func207 rfl (by rw[Tryz.ntmps207];simp) rfl rfl ?_
 simp -implicitDefEqProofs only[go_sem,Tryz.f207,letterB]
 grind
theorem NKeyword(s:ByteArray):VPure env 206 [.str s] (.bool (keyword s)):=by
 refine vpure_vc (fn:=Tryz.f206) Tryz.func206 rfl (by rw[Tryz.ntmps206];simp) rfl rfl ?_
 simp -implicitDefEqProofs only[go_sem,Tryz.f206,keyword]
 simp +contextual
theorem NValid(s:ByteArray):VPure env 156 [.str s] (.bool (validName s)):=by
 refine vpure_vc (fn:=Tryz.f156) Tryz.func156 rfl (by rw[Tryz.ntmps156];simp) rfl rfl ?_
 simp -implicitDefEqProofs only[go_sem,Tryz.f156]
 refine⟨fun a1 hs=>⟨fun a2=>(NKeyword s).calls rfl ?_,fun a2=>?_⟩,fun a1=>?_⟩
 rotate_left
 ·simp[validName,a2]
 ·subst a1;rfl
 have hne:s.data.toList≠[]:=fun h=>a1 (ba_ext h)
 have hpos:¬ (s.size:Int)<1:=by
  rw[size_list]
  have:=List.length_pos_iff.2 hne
  omega
 simp -implicitDefEqProofs only[go_sem]
 refine⟨fun a3=>?_,fun a3=>?_⟩
 ·simp[validName,a3]
 refine snd_list (β:=Unit) s.data.toList (fun pre _=>⟨[(17,.ptr 0 0),(0,.str s)],[.siter s pre.length],[]⟩) (fun pre _ _=>(pre.all fun c=>nameB c.toNat)∧(pre≠[]→digitB (byteAt s 0)=false)) () ?_ ?_ ?_ ?_
 ·simp -implicitDefEqProofs only[go_sem]
 ·exact⟨rfl,fun h=>absurd rfl h⟩
 ·intro _ ⟨i1,i2⟩
  simp -implicitDefEqProofs only[go_sem,←size_list]
  have:=i2 hne
  have i1':s.data.toList.all (fun c=>nameB c.toNat)=true:=i1
  simp only[validName,hpos,a2,a3,this,i1',decide_false,Bool.not_false,Bool.and_self,Nat.lt_irrefl,if_false]
 ·rintro pre x post _ hx ⟨i1,i2⟩
  have hz:=size_mid hx
  have hl:pre.length<(pre++x::post).length:=by simp
  by_cases hx8:x.toNat<128
  ·simp -implicitDefEqProofs only[go_sem,hz,hl,dec_low hx hx8]
   refine(Nletter _).calls rfl ?_
   simp -implicitDefEqProofs only[go_sem]
   repeat' (first | apply And.intro | (refine(Ndigit _).calls rfl ?_;simp -implicitDefEqProofs only[go_sem]) | (refine fun(_:@Eq Bool _ _)=>?_)  | (refine fun(_:@Eq Int _ _)=>?_) | (refine fun(_:¬ (@Eq Int _ _))=>?_))
   ·rename_i b1 b2 b3
    rw[vn_bad hx (by simp_all [nameB])]
   ·rename_i b1 b2 b3
    have hp:pre≠[]:=by rintro rfl;simp at b2
    exact⟨(),by simp_all [nameB],fun _=>i2 hp⟩
   ·rename_i b1 b2
    have hp:pre=[]:=List.eq_nil_of_length_eq_zero (by omega)
    subst hp
    rw[vn_first hx (by simpa using b1)]
   ·rename_i b1
    have b1:letterB x.toNat=true:=by simpa using b1
    refine⟨(),by simp_all [nameB],fun _=>?_⟩
    by_cases hp:pre=[]
    ·subst hp
     rw[byteAt_zero hx]
     exact letter_digit b1
    ·exact i2 hp
  ·have hd:=nameB_high (c:=(Utf8.decode s pre.length).1) (by have:=dec_high hx hx8;omega)
   simp -implicitDefEqProofs only[go_sem,hz,hl]
   refine(Nletter _).calls rfl ?_
   simp only[hd.1]
   simp -implicitDefEqProofs only[go_sem]
   refine⟨fun _=>(Ndigit _).calls rfl ?_,fun _=>?_⟩
   ·simp only[hd.2]
    simp -implicitDefEqProofs only[go_sem]
    rw[vn_bad hx (nameB_big hx8)]
   ·rw[vn_bad hx (nameB_big hx8)]
end Go.Proofs.YtamednbojpnalaaGreatDoor
namespace Go.Vg
def classesL(l:List Dl):Nat:=(l.filter fun d=>decide (d.kind=2)).length
end Go.Vg
namespace Go.Proofs.YtamednbojpnalaaGreatDoor
open Go Go.Vg Go.Proofs
theorem R13Few(u:List Un)(hu:fitU u)(n:Int)(hn:n≤1000000)(h0:0≤n):VPure env 27 [sl 34 (u.map Un.enc),.int .i64 n] (.bool (decide ((classesL (declsU u 0):Int)≤n))):=by
 refine vpure_vc (fn:=Tryz.f27) Tryz.func27 rfl (by rw[Tryz.ntmps27];simp) (by simp -implicitDefEqProofs only[go_sem];exact uns_pure _) rfl ?_
 simp -implicitDefEqProofs only[go_sem,Tryz.f27]
 refine(R11Decls u hu).calls (by simp -implicitDefEqProofs only[go_sem]) ?_
 have hdl:=declsU_len u 0 fun y hy=>(hu.2 y hy).1
 have hul:=hu.1
 generalize declsU u 0=l at hdl ⊢
 simp -implicitDefEqProofs only[go_sem]
 refine snd_list (β:=Unit) l (fun pre _=>⟨[(6,.int .i64 pre.length),(5,sl 61 (l.map Dl.enc)),(4,.bool false),(1,.int .i64 (n - classesL pre))],[],[]⟩) (fun _ _ _=>True) () ?_ trivial ?_ ?_
 ·simp only[classesL,List.filter_nil,List.length_nil]
  simp -implicitDefEqProofs only[go_sem]
  exact⟨rfl,by omega⟩
 ·intro _ _
  simp -implicitDefEqProofs only[go_sem]
  intro _ _
  congr 1
  rw[Bool.eq_iff_iff];simp
 ·rintro pre x post _ rfl _
  have hpl:(pre++x::post).length=pre.length+1+post.length:=by simp;omega
  have hcl:classesL pre≤pre.length:=List.length_filter_le ..
  have hw:IntKind.i64.wrap (↑pre.length+1)=↑(pre.length+1):=wrap_next (by omega)
  simp -implicitDefEqProofs only[go_sem]
  intro _ _
  refine⟨fun h=>⟨(),hw,?_⟩,fun h=>⟨(),hw,?_⟩⟩
  ·have:classesL (pre++[x])=classesL pre+1:=by simp[classesL,h]
   rw[this,Vg.wrap_small (by omega) (by omega)];omega
  ·have:classesL (pre++[x])=classesL pre:=by simp[classesL,h]
   rw[this]
end Go.Proofs.YtamednbojpnalaaGreatDoor
set_option maxRecDepth 20000
namespace Go.Vg
def itoaB(n:Int):ByteArray:=⟨(Lib.itoa n).toArray⟩
end Go.Vg
namespace Go.Proofs.YtamednbojpnalaaGreatDoor
open Go Go.Vg Go.Proofs Go.Shelf Go.RowKit
theorem cell_of_var{w:World}{n:String}{g:Nat}{v:Value}(hg:Tryz.prog.globalNamed n=some g)(h:w.var? Tryz.prog n=some #[v]):w.cell? ⟨g,0,none⟩=some v:=by
 unfold World.var? at h
 rw[hg]at h
 simp only[Option.bind_some]at h
 unfold World.cell?
 simp only
 split at h
 ·rename_i cs a b hh
  cases h
  rw[hh];rfl
 ·cases h
theorem maxLen{w:World}(h:iniW w):∃ m,w.cell? ⟨2,0,none⟩=some (.int .i64 m):=by
 obtain⟨m,hm⟩:=h.2
 exact⟨m,cell_of_var (by kernel_rfl) hm⟩
theorem Itoa(n:Int)(h0 : -9223372036854775808≤n)(h1:n≤9223372036854775807)(hs:(itoaB n).size≤1152921504606846976):VPure env 57 [.int .i64 n] (.str (itoaB n)):=by
 refine vpure_shelf (val := .string (itoaB n)) rfl rfl (fun G arr => .str _ hs) fun G w0 w vals hr ha=>?_
 obtain⟨v,vs,rfl,hv,ha⟩:=ha.cons
 rw[ha.nil]
 cases hv
 refine(Tryz.strconv_Itoa n h0 h1 w hr.iniW.1).mono fun e w' ⟨he,k,os,hw⟩=>⟨he,?_⟩
 subst hw
 refine⟨rfl,rfl,rfl,?_,fun i hi=>?_⟩
 ·show w.heap.size≤(w.heap++os).size
  simp
 ·show(w.heap++os)[i]? = w.heap[i]?
  rw[Array.getElem?_append_left hi]
theorem IndexByte(s:ByteArray)(c:Int):VPure env 238 [.str s,.int .u8 c] (.int .i64 (Lib.indexByte s.data.toList c.toNat.toUInt8)):=by
 refine vpure_shelf (val := .int .i64 (Lib.indexByte s.data.toList c.toNat.toUInt8)) rfl rfl (fun G arr => .int _ _) fun G w0 w vals hr ha=>?_
 obtain⟨v,vs,rfl,hv,ha⟩:=ha.cons
 obtain⟨v2,vs,rfl,hv2,ha⟩:=ha.cons
 rw[ha.nil]
 cases hv
 cases hv2
 exact(Tryz.strings_IndexByte s c w).mono fun e w' ⟨he,hw⟩=>⟨he,hw ▸ Below.refl _ _⟩
theorem HasPrefix(s p:ByteArray):VPure env 237 [.str s,.str p] (.bool (Lib.hasPrefix s.data.toList p.data.toList)):=by
 refine vpure_shelf (val := .bool (Lib.hasPrefix s.data.toList p.data.toList)) rfl rfl (fun G arr => .bool _) fun G w0 w vals hr ha=>?_
 obtain⟨v,vs,rfl,hv,ha⟩:=ha.cons
 obtain⟨v2,vs,rfl,hv2,ha⟩:=ha.cons
 rw[ha.nil]
 cases hv
 cases hv2
 exact(Tryz.strings_HasPrefix s p w).mono fun e w' ⟨he,hw⟩=>⟨he,hw ▸ Below.refl _ _⟩
theorem Contains(s p:ByteArray)(hs:s.size<4294967281):VPure env 86 [.str s,.str p] (.bool (Lib.contains s.data.toList p.data.toList)):=by
 refine vpure_shelf (val := .bool (Lib.contains s.data.toList p.data.toList)) rfl rfl (fun G arr => .bool _) fun G w0 w vals hr ha=>?_
 obtain⟨v,vs,rfl,hv,ha⟩:=ha.cons
 obtain⟨v2,vs,rfl,hv2,ha⟩:=ha.cons
 rw[ha.nil]
 cases hv
 cases hv2
 obtain⟨m,hm⟩:=maxLen hr.iniW
 exact(Tryz.strings_Contains s p m w hs hm).mono fun e w' ⟨he,hw⟩=>⟨he,hw ▸ Below.refl _ _⟩
end Go.Proofs.YtamednbojpnalaaGreatDoor
set_option maxRecDepth 20000
namespace Go.Vg
open Go
theorem skip_go{l:List UInt8}{n:Nat}(h:adv l=n)(hn:n≠0):skipT l=n+skipT (l.drop n):=by
 rw[skipT,dif_neg (by omega),h]
theorem skip_stop{l:List UInt8}(h:adv l=0):skipT l=0:=by rw[skipT,dif_pos h]
theorem slash_prefix(c:UInt8)(r:List UInt8):Lib.hasPrefix (c::r) [47,47]=(decide (c.toNat=47) && isSlash r):=by
 have e:∀ x:UInt8,((47:UInt8) == x)=decide (x.toNat=47):=fun x=>by
  rw[Bool.eq_iff_iff,beq_iff_eq,←UInt8.toNat_inj,decide_eq_true_eq]
  exact eq_comm
 cases r with
 | nil=>simp[Lib.hasPrefix,List.isPrefixOf,isSlash]
 | cons d r=>simp only[Lib.hasPrefix,List.isPrefixOf,isSlash,e,Bool.and_true]
theorem index_line:∀ l:List UInt8,Lib.indexByte l 10=match lineLen l with | some n=>(n:Int) - 1 | none => -1
 | []=>rfl
 | c::r=>by
  have ih:=index_line r
  have e:(c == (10:UInt8))=decide (c.toNat=10):=by
   rw[Bool.eq_iff_iff];simp[←UInt8.toNat_inj]
  rw[Lib.indexByte,lineLen,e]
  by_cases h:c.toNat=10
  ·simp[h]
  ·simp only[h,decide_false,Bool.false_eq_true,if_false]
   rw[ih]
   cases hl:lineLen r with
   | none=>simp
   | some n =>
    have:=lineLen_le r n hl
    have:((n:Int) - 1 == -1)=false:=by simp;omega
    simp[this]
end Go.Vg
namespace Go.Proofs.YtamednbojpnalaaGreatDoor
open Go Go.Vg Go.Proofs
theorem Tend1(s:ByteArray):VPure env 229 [.str s] (.tuple []):=by
 refine vpure_vc (fn:=Tryz.f229) Tryz.func229 rfl (by rw[Tryz.ntmps229];simp) rfl rfl ?_
 simp -implicitDefEqProofs only[go_sem,Tryz.f229]
theorem Twalk(s:ByteArray)(pre l:List UInt8)(hs:s.data.toList=pre++l)(hb:s.size≤1000000000):VPure env 228 [.str s,.int .i64 pre.length,.func 229 []] (.int .i64 (pre.length+skipT l:Nat)):=by
 refine vpure_vc (fn:=Tryz.f228) Tryz.func228 rfl (by rw[Tryz.ntmps228];simp) (by simp -implicitDefEqProofs only[go_sem]) rfl ?_
 simp -implicitDefEqProofs only[go_sem,Tryz.f228]
 refine snd_for (α:=List UInt8×List UInt8) (fun a=>⟨[(2,.func 229 []),(0,.str s),(1,.int .i64 a.1.length)],[],[]⟩) (fun a=>s.data.toList=a.1++a.2∧a.1.length+skipT a.2=pre.length+skipT l) (fun a=>a.2.length) (pre,l) ?_ ⟨hs,rfl⟩ ?_
 ·simp -implicitDefEqProofs only[go_sem]
 ·rintro⟨p,q⟩ ⟨i1,i2⟩
  simp only at i1 i2
  have hzq:s.size=p.length+q.length:=by rw[size_mid i1];simp
  have hw:IntKind.i64.wrap ((p.length:Int)+1)=((p.length+1:Nat):Int):=wrap_next (by omega)
  have hext:(s.extract (p.length:Int).toNat (s.size:Int).toNat).data.toList=q:=by
   have:=ext_mid (s:=s) (l0:=p) (cur:=q) (r:=[]) (by rw[i1];simp)
   simp only[Int.toNat_natCast]
   rw[size_mid i1];exact this
  generalize ht:s.extract (p.length:Int).toNat (s.size:Int).toNat=t at hext
  rcases q with _ | ⟨c,r⟩
  ·have hlt:((p.length:Int)<s.size)=False:=by simp at hzq ⊢;omega
   have h0:skipT []=0:=by rw[skipT];simp[adv]
   simp -implicitDefEqProofs only[go_sem,hlt]
   intro _
   rw[←i2,h0];simp
  ·have hlt:((p.length:Int)<s.size)=True:=by simp at hzq ⊢;omega
   have hle:((p.length:Int)≤s.size)=True:=by simp;omega
   have hbl:∀ b:blankB c=true,(p.length+1)+skipT r=pre.length+skipT l:=fun b=>by
    have h1:adv (c::r)=1:=by simp[adv,b]
    rw[←i2,skip_go h1 (by omega)];simp;omega
   have hnx:s.data.toList=(p++[c])++r:=by rw[i1];simp
   by_cases h32:c.toNat=32
   ·have h32':((c.toNat:Int)=32)=True:=by simp;omega
    simp -implicitDefEqProofs only[go_sem,hlt,byteAt_mid i1,h32']
    exact fun _=>⟨(p++[c],r),by simp,⟨hnx,by simpa using hbl (by simp[blankB,h32])⟩,by rw[hw];simp⟩
   have h32':((c.toNat:Int)=32)=False:=by simp;omega
   by_cases h9:c.toNat=9
   ·have h9':((c.toNat:Int)=9)=True:=by simp;omega
    simp -implicitDefEqProofs only[go_sem,hlt,byteAt_mid i1,h32',h9']
    exact fun _=>⟨(p++[c],r),by simp,⟨hnx,by simpa using hbl (by simp[blankB,h9])⟩,by rw[hw];simp⟩
   have h9':((c.toNat:Int)=9)=False:=by simp;omega
   by_cases h10:c.toNat=10
   ·have h10':((c.toNat:Int)=10)=True:=by simp;omega
    simp -implicitDefEqProofs only[go_sem,hlt,byteAt_mid i1,h32',h9',h10']
    exact fun _=>⟨(p++[c],r),by simp,⟨hnx,by simpa using hbl (by simp[blankB,h10])⟩,by rw[hw];simp⟩
   have h10':((c.toNat:Int)=10)=False:=by simp;omega
   have hnb:blankB c=false:=by simp[blankB,h32,h9,h10]
   simp -implicitDefEqProofs only[go_sem,hlt,hle,byteAt_mid i1,h32',h9',h10',ht]
   refine fun _=>⟨by omega,(HasPrefix _ _).calls rfl ?_⟩
   rw[hext,show(⟨#[47,47]⟩:ByteArray).data.toList=[47,47]from rfl,slash_prefix]
   cases hp:(decide (c.toNat=47) && isSlash r)
   ·simp -implicitDefEqProofs only[go_sem]
    rw[←i2,skip_stop (by simp only[adv,hnb,hp,Bool.false_eq_true,if_false])];simp
   ·have hadv:adv (c::r)=(lineLen (c::r)).getD 0:=by simp only[adv,hnb,hp,Bool.false_eq_true,if_false,if_true]
    simp -implicitDefEqProofs only[go_sem,hle,ht]
    refine⟨by omega,(IndexByte _ _).calls rfl ?_⟩
    rw[hext,show(10:Int).toNat.toUInt8=10 from rfl,index_line]
    cases hl:lineLen (c::r)with
    | none =>
     simp -implicitDefEqProofs only[go_sem]
     rw[←i2,skip_stop (by rw[hadv,hl];rfl)];simp
    | some n =>
     have hn:=lineLen_le _ _ hl
     simp only[]
     have hw2:IntKind.i64.wrap ((p.length:Int)+((n:Int) - 1))=(p.length:Int)+((n:Int) - 1):=wrap_ok (by omega) (by omega)
     have hn0:((n:Int) - 1<0)=False:=by simp;omega
     simp -implicitDefEqProofs only[go_sem,hn0,hw2]
     refine⟨by omega,(Tend1 _).calls rfl ?_⟩
     simp -implicitDefEqProofs only[go_sem]
     refine⟨(p++(c::r).take n,(c::r).drop n),?_,⟨by rw[i1];simp,?_⟩,?_⟩
     ·simp only[List.length_drop,List.length_cons]at hn ⊢;omega
     ·have:skipT (c::r)=n+skipT ((c::r).drop n):=skip_go (by rw[hadv,hl];rfl) (by omega)
      have hl2:(p++(c::r).take n).length=p.length+n:=by rw[List.length_append,List.length_take];omega
      simp only[]
      rw[hl2];omega
     ·have hl2:(p++(c::r).take n).length=p.length+n:=by rw[List.length_append,List.length_take];omega
      simp only[]
      rw[hl2,wrap_ok (x:=(n:Int) - 1+1) (by omega) (by omega),wrap_ok (by omega) (by omega)];omega
theorem Tend(s:ByteArray)(hb:s.size≤1000000000):VPure env 209 [.str s,.int .i64 0] (.int .i64 (skipT s.data.toList:Nat)):=by
 refine vpure_vc (fn:=Tryz.f209) Tryz.func209 rfl (by rw[Tryz.ntmps209];simp) rfl rfl ?_
 have hz:((s.size:Int)<0)=False:=by simp
 simp -implicitDefEqProofs only[go_sem,Tryz.f209,hz]
 intro _
 have h:=Twalk s [] s.data.toList rfl hb
 simp only[List.length_nil,Nat.zero_add]at h
 refine VPure.calls h rfl ?_
 simp -implicitDefEqProofs only[go_sem]
theorem TValid(s:ByteArray)(hb:s.size≤1000000000):VPure env 158 [.str s] (.bool (triviaB s)):=by
 refine vpure_vc (fn:=Tryz.f158) Tryz.func158 rfl (by rw[Tryz.ntmps158];simp) rfl rfl ?_
 simp -implicitDefEqProofs only[go_sem,Tryz.f158]
 refine(Tend s hb).calls rfl ?_
 simp -implicitDefEqProofs only[go_sem]
 intro _
 unfold triviaB
 congr 1
 by_cases e:skipT s.data.toList=s.size
 ·simp[e]
 ·rw[decide_eq_false e];simp;omega
end Go.Proofs.YtamednbojpnalaaGreatDoor
set_option maxRecDepth 20000
namespace Go.Vg
def spelledG(k:Int)(t:ByteArray):Bool:=if(shp k).text=0 then decide (t=⟨#[]⟩)else if(shp k).text=4 then(shp k).words.any (fun w=>decide (w=t))else true
def calledG(k:Int)(t:ByteArray):Bool:=if(shp k).text=2 then(decide (t=⟨#[]⟩) || validName t)else if(shp k).text=1 then validName t else if(shp k).text=3 then intB t else true
def gapsG(n:Nd):Bool:=decide (n.gaps.length=0) || (n.gaps.all triviaB && decide ((n.gaps.length:Int)=n.own))
def idxL:List ByteArray→ByteArray→Nat→Int
 | [],_,_ => -1
 | w::r,s,i=>if w=s then i else idxL r s (i+1)
theorem idxL_any(s:ByteArray):∀ (l:List ByteArray) (i:Nat),decide (0≤idxL l s i)=l.any fun w=>decide (w=s)
 | [],_=>rfl
 | w::r,i=>by
  rw[idxL,List.any_cons,←idxL_any s r (i+1)]
  by_cases h:w=s
  ·simp[h]
  ·simp[h]
theorem bytesV_mid{s:ByteArray}{pre post:List UInt8}{x:UInt8}(h:s.data.toList=pre++x::post):(bytesV s).getD (pre.length:Int).toNat []=[.int .u8 x.toNat]:=by
 simp[bytesV,h,List.getD_eq_getElem?_getD]
theorem bytesV_len{s:ByteArray}:(bytesV s).length=s.size:=by simp[bytesV]
end Go.Vg
namespace Go.Proofs.YtamednbojpnalaaGreatDoor
open Go Go.Vg Go.Proofs
theorem SIndex(l:List ByteArray)(s:ByteArray):VPure env 203 [sl 9 (l.map encTx),.str s] (.int .i64 (idxL l s 0)):=by
 refine vpure_vc (fn:=Tryz.f203) Tryz.func203 rfl (by rw[Tryz.ntmps203];simp) (by simp -implicitDefEqProofs only[go_sem]) rfl ?_
 simp -implicitDefEqProofs only[go_sem,Tryz.f203]
 intro _ _
 refine snd_list (β:=Unit) l (fun pre _=>⟨[(8,.int .i64 pre.length),(7,.int .i64 l.length),(6,sl 9 (l.map encTx)),(4,.int .i64 0),(0,sl 9 (l.map encTx)),(1,.str s)],[],[]⟩) (fun pre post _=>idxL l s 0=idxL post s pre.length) () ?_ rfl ?_ ?_
 ·simp -implicitDefEqProofs only[go_sem]
  rfl
 ·intro _ hi
  simp -implicitDefEqProofs only[go_sem]
  rw[hi];rfl
 ·intro pre x post _ hx hi
  have hpl:l.length=pre.length+1+post.length:=by rw[hx];simp;omega
  have hgx:(l.map encTx).getD (pre.length:Int).toNat []=[V.str x]:=by rw[hx];simp[List.getD_eq_getElem?_getD,encTx]
  have hw:IntKind.i64.wrap (↑pre.length+1)=↑(pre.length+1):=wrap_next (by omega)
  have hlt:((pre.length:Int)<l.length)=True:=by simp;omega
  rw[hi,idxL]
  simp -implicitDefEqProofs only[go_sem,hgx,hlt]
  refine⟨fun h=>by rw[if_pos h.symm],fun h=>⟨(),by rw[if_neg (Ne.symm h)],hw⟩⟩
theorem SContains(l:List ByteArray)(s:ByteArray):VPure env 150 [sl 9 (l.map encTx),.str s] (.bool (l.any fun w=>decide (w=s))):=by
 refine vpure_vc (fn:=Tryz.f150) Tryz.func150 rfl (by rw[Tryz.ntmps150];simp) (by simp -implicitDefEqProofs only[go_sem]) rfl ?_
 simp -implicitDefEqProofs only[go_sem,Tryz.f150]
 refine(SIndex l s).calls (by simp -implicitDefEqProofs only[go_sem]) ?_
 rw[←idxL_any s l 0]
 simp -implicitDefEqProofs only[go_sem]
theorem Gspelled(k:Int)(t:ByteArray)(g:List ByteArray)(ks:List Nd)(hk:1≤k∧k<27):VPure env 120 [.agg (Nd.mk k t g ks).enc] (.bool (spelledG k t)):=by
 have hd:=shapes_drop (k:=k) (by omega) hk.2
 refine vpure_vc (fn:=Tryz.f120) Tryz.func120 rfl (by rw[Tryz.ntmps120];simp) (by simp -implicitDefEqProofs only[go_sem]) rfl ?_
 simp -implicitDefEqProofs only[go_sem,Tryz.f120,hd,Shp.enc,List.cons_append,List.nil_append]
 refine⟨by omega,fun h0=>by simp[spelledG,h0],fun h0=>⟨fun h4=>?_,fun h4=>by simp[spelledG,h0,h4]⟩⟩
 refine(SContains (shp k).words t).calls (by simp -implicitDefEqProofs only[go_sem]) ?_
 simp -implicitDefEqProofs only[go_sem]
 simp[spelledG,h0,h4]
theorem Ginteger(s:ByteArray):VPure env 157 [.str s] (.bool (intB s)):=by
 refine vpure_vc (fn:=Tryz.f157) Tryz.func157 rfl (by rw[Tryz.ntmps157];simp) rfl rfl ?_
 simp -implicitDefEqProofs only[go_sem,Tryz.f157]
 refine⟨fun a1 hs=>⟨fun a2 _=>?_,fun a2=>by simp[intB,a2]⟩,fun a1=>by subst a1;rfl⟩
 have a1':¬ ((s.size:Int)=0):=fun h=>a1 (ba_ext (List.eq_nil_of_length_eq_zero (by rw[←size_list];omega)))
 refine⟨fun a3=>⟨by omega,fun a4=>by simp[intB,a3,a4],fun a4=>⟨by omega,fun _ _=>?_⟩⟩,fun a3=>⟨by omega,fun _ _=>?_⟩⟩
 all_goals
  refine snd_list (β:=Int) s.data.toList (fun pre n=>⟨[(26,.int .i64 pre.length),(25,.int .i64 s.size),(24,sl 5 (bytesV s)),(3,.int .i64 n),(0,.str s)],[],[]⟩)
   (fun pre post n=>(pre.all fun c=>digitB c.toNat)=true∧digitsV post n=digitsV s.data.toList 0∧0≤n∧n.toNat<10 ^ pre.length) 0 ?_ ?_ ?_ ?_
  ·simp -implicitDefEqProofs only[go_sem,bytesV_len]
   try trivial
  ·simp
  ·rintro n ⟨i1,i2,i3,i4⟩
   have hlt:((s.data.toList.length:Int)<s.size)=False:=by rw[size_list];simp
   simp -implicitDefEqProofs only[go_sem,hlt]
   have hd:digitsV s.data.toList 0=n:=by rw[←i2];rfl
   unfold intB
   rw[i1,hd]
   simp_all
  ·rintro pre x post n hx ⟨i1,i2,i3,i4⟩
   have hz:=size_mid hx
   have hlt:((pre.length:Int)<s.size)=True:=by rw[hz];simp;omega
   simp -implicitDefEqProofs only[go_sem,hlt,bytesV_mid hx]
   have hno:digitB (x.toNat:Int)=false→V.bool false=V.bool (intB s):=by
    intro hf
    have:(s.data.toList.all fun c=>digitB c.toNat)=false:=by rw[hx];simp[hf]
    unfold intB
    rw[this];simp
   refine⟨by rw[bytesV_len,hz];simp;omega,fun c=>⟨fun d=>hno (by unfold digitB;simp;omega),fun d=>?_⟩,fun c=>hno (by unfold digitB;simp;omega)⟩
   have hp:pre.length≤12:=by rw[hz]at a2;simp at a2;omega
   have h10:(10:Nat) ^ pre.length≤10 ^ 12:=Nat.pow_le_pow_right (by decide) hp
   have h12:(10:Nat) ^ 12=1000000000000:=by decide
   rw[h12]at h10
   have hdig:digitB (x.toNat:Int)=true:=by unfold digitB;simp;omega
   refine⟨10 * n+((x.toNat:Int) - 48),⟨by simp[i1,hdig],by rw[←i2];rfl,by omega,?_⟩,wrap_next (by omega),?_⟩
   ·rw[Nat.pow_succ];omega
   ·rw[wrap8 (by omega) (by omega),wrap_ok (x:=n * 10) (by omega) (by omega),wrap_ok (x:=(x.toNat:Int) - 48) (by omega) (by omega),wrap_ok (by omega) (by omega)];omega
theorem Gcalled(k:Int)(t:ByteArray)(g:List ByteArray)(ks:List Nd)(hk:1≤k∧k<27):VPure env 122 [.agg (Nd.mk k t g ks).enc] (.bool (calledG k t)):=by
 have hd:=shapes_drop (k:=k) (by omega) hk.2
 refine vpure_vc (fn:=Tryz.f122) Tryz.func122 rfl (by rw[Tryz.ntmps122];simp) (by simp -implicitDefEqProofs only[go_sem]) rfl ?_
 simp -implicitDefEqProofs only[go_sem,Tryz.f122,hd,Shp.enc,List.cons_append,List.nil_append]
 refine⟨by omega,fun h2=>⟨fun ht=>by simp[calledG,h2,ht],fun ht=>?_⟩,fun h2=>⟨fun h1=>?_,fun h1=>⟨fun h3=>?_,fun h3=>by simp[calledG,h1,h2,h3]⟩⟩⟩
 ·refine(NValid t).calls rfl ?_
  simp -implicitDefEqProofs only[go_sem]
  simp[calledG,h2,ht]
 ·refine(NValid t).calls rfl ?_
  simp -implicitDefEqProofs only[go_sem]
  simp[calledG,h1]
 ·refine(Ginteger t).calls rfl ?_
  simp -implicitDefEqProofs only[go_sem]
  simp[calledG,h3]
theorem Ggaps(n:Nd)(hk:1≤n.kind∧n.kind<27)(hg:∀ s∈n.gaps,s.size≤1000000000):VPure env 123 [.agg n.enc] (.bool (gapsG n)):=by
 obtain⟨k,t,g,ks⟩:=n
 refine vpure_vc (fn:=Tryz.f123) Tryz.func123 rfl (by rw[Tryz.ntmps123];simp) (by simp -implicitDefEqProofs only[go_sem]) rfl ?_
 simp -implicitDefEqProofs only[go_sem,Tryz.f123]
 intro _ _
 refine⟨fun h0=>by simp[gapsG,Nd.gaps];left;simpa using h0,fun h0 _ _=>?_⟩
 refine snd_list (β:=Unit) g (fun pre _=>⟨[(12,.int .i64 pre.length),(11,.int .i64 g.length),(10,sl 9 (g.map encTx)),(1,.ptr 0 0),(2,.bool false)],[VObj.cells (Nd.mk k t g ks).enc],[]⟩) (fun pre post _=>pre.all triviaB=true) () ?_ rfl ?_ ?_
 ·simp -implicitDefEqProofs only[go_sem]
  try trivial
 ·intro _ hi
  simp -implicitDefEqProofs only[go_sem]
  refine snd_draw (cs:=[]) mixed (by kernel_rfl) ?_
  simp -implicitDefEqProofs only[go_sem]
  refine vPC_of (GOwn k t g ks hk) (by simp -implicitDefEqProofs only[go_sem]) ?_
  simp -implicitDefEqProofs only[go_sem]
  have hne:g≠[]:=by rintro rfl;simp at h0
  have e:gapsG (.mk k t g ks)=decide ((g.length:Int)=(Nd.mk k t g ks).own):=by
   have h1:((Nd.mk k t g ks).gaps.length=0)=False:=by simp[Nd.gaps,hne]
   unfold gapsG
   simp only[h1,decide_false,Bool.false_or]
   rw[show(Nd.mk k t g ks).gaps=g from rfl,hi];rfl
  rw[e]
 ·intro pre x post _ hx hi
  have hpl:g.length=pre.length+1+post.length:=by rw[hx];simp;omega
  have hgx:(g.map encTx).getD (pre.length:Int).toNat []=[V.str x]:=by rw[hx];simp[List.getD_eq_getElem?_getD,encTx]
  have hw:IntKind.i64.wrap (↑pre.length+1)=↑(pre.length+1):=wrap_next (by omega)
  have hlt:((pre.length:Int)<g.length)=True:=by simp;omega
  simp -implicitDefEqProofs only[go_sem,hgx,hlt]
  have hxg:x.size≤1000000000:=hg x (by rw[show(Nd.mk k t g ks).gaps=g from rfl,hx];simp)
  refine(TValid x hxg).calls rfl ?_
  simp -implicitDefEqProofs only[go_sem]
  refine⟨fun h=>?_,fun h=>⟨(),by simp_all,hw⟩⟩
  have:g.all triviaB=false:=by rw[hx];simp_all
  simp[gapsG,Nd.gaps,this]
  try(intro e;subst e;simp at hx)
end Go.Proofs.YtamednbojpnalaaGreatDoor
