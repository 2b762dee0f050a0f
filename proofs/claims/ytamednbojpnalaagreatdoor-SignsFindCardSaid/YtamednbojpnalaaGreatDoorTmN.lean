/- What functions of the program compute, as pure functions of their arguments. Conditions: those that each theorem names. -/
import Derived.Test.YtamednbojpnalaaGreatDoorTmC
set_option linter.unusedVariables false
set_option linter.unusedSimpArgs false
namespace Go.Vg
mutual
def left:Nd→Int→Int→Int
 | .mk k t g ks,nodes,levels=>if nodes<1∨levels<1∨nodes<(ks.length:Int)then -1 else lefts ks (nodes - 1) (levels - 1)
def lefts:List Nd→Int→Int→Int
 | [],rest,_=>rest
 | n::r,rest,levels=>if left n rest levels<0 then -1 else lefts r (left n rest levels) levels
end
theorem left_le:∀ nd n l,left nd n l≤n∨left nd n l = -1:=by
 refine Nd.all fun k t g ks ih n l=>?_
 have key:∀ (ks:List Nd),(∀ x∈ks,∀ n l,left x n l≤n∨left x n l = -1)→∀ n l,lefts ks n l≤n∨lefts ks n l = -1:=by
  intro ks
  induction ks with
  | nil=>intro _ n l;exact .inl (by rw[lefts];exact Int.le_refl _)
  | cons x r ihr =>
   intro h n l
   rw[lefts]
   split
   ·exact .inr rfl
   ·have h1:=h x (by simp) n l
    have h2:=ihr (fun y hy=>h y (by simp[hy])) (left x n l) l
    omega
 rw[left]
 split
 ·exact .inr rfl
 ·have:=key ks ih (n - 1) (l - 1)
  omega
def weighG:List ByteArray→Int→Int
 | [],rest=>rest
 | g::r,rest=>if rest≤(g.size:Int)then -1 else weighG r (rest - g.size - 1)
mutual
def weigh:Nd→Int→Int
 | .mk k t g ks,bytes=>if bytes<(t.size:Int)∨bytes<(g.length:Int)then -1 else if weighG g (bytes - t.size)<0 then -1 else weighs ks (weighG g (bytes - t.size))
def weighs:List Nd→Int→Int
 | [],rest=>rest
 | n::r,rest=>if weigh n rest<0 then -1 else weighs r (weigh n rest)
end
theorem weighG_le:∀ g n,weighG g n≤n∨weighG g n = -1:=by
 intro g
 induction g with
 | nil=>intro n;exact .inl (by rw[weighG];exact Int.le_refl _)
 | cons x r ih =>
  intro n
  rw[weighG]
  split
  ·exact .inr rfl
  ·have:=ih (n - x.size - 1);omega
theorem weigh_le:∀ nd n,weigh nd n≤n∨weigh nd n = -1:=by
 refine Nd.all fun k t g ks ih n=>?_
 have key:∀ (ks:List Nd),(∀ x∈ks,∀ n,weigh x n≤n∨weigh x n = -1)→∀ n,weighs ks n≤n∨weighs ks n = -1:=by
  intro ks
  induction ks with
  | nil=>intro _ n;exact .inl (by rw[weighs];exact Int.le_refl _)
  | cons x r ihr =>
   intro h n
   rw[weighs]
   split
   ·exact .inr rfl
   ·have h1:=h x (by simp) n
    have h2:=ihr (fun y hy=>h y (by simp[hy])) (weigh x n)
    omega
 rw[weigh]
 split
 ·exact .inr rfl
 ·split
  ·exact .inr rfl
  ·have h1:=weighG_le g (n - t.size)
   have h2:=key ks ih (weighG g (n - t.size))
   omega
end Go.Vg
namespace Go.Proofs.YtamednbojpnalaaGreatDoor
open Go Go.Vg Go.Proofs
theorem R06left:(nd:Nd)→∀ (nodes levels:Int) (h1:nodes≤1000000) (h2:levels≤1000000),VPure env 116 [.agg nd.enc,.int .i64 nodes,.int .i64 levels] (.int .i64 (left nd nodes levels)):=by
  refine Nd.all fun k t g ks ih nodes levels h1 h2=>?_
  refine vpure_vc (fn:=Tryz.f116) Tryz.func116 rfl (by rw[Tryz.ntmps116];simp) (by simp -implicitDefEqProofs only[go_sem]) rfl ?_
  simp -implicitDefEqProofs only[go_sem,Tryz.f116]
  refine⟨fun a1=>⟨fun a2 a3' a3=>⟨fun a4=>?_,fun a4=>?_⟩,fun a2=>?_⟩,fun a1=>?_⟩
  · rw[left,if_pos (by omega)]
  · refine snd_list (β:=Int) ks (fun pre r=>⟨[(8,.int .i64 pre.length),(7,.int .i64 r),(3,.ptr 0 0),(2,.int .i64 levels)],[VObj.cells (Nd.mk k t g ks).enc],[]⟩)
       (fun _ post r=>lefts post r (levels - 1)=left (.mk k t g ks) nodes levels∧r≤1000000) (nodes - 1) ?_ ?_ ?_ ?_
    · simp -implicitDefEqProofs only[go_sem]
      exact⟨rfl,Vg.wrap_small (by omega) (by omega)⟩
    · exact⟨by rw[left,if_neg (by omega)],by omega⟩
    · rintro r ⟨i1,i2⟩
      simp -implicitDefEqProofs only[go_sem,←i1,lefts]
    · rintro pre x post r rfl ⟨i1,i2⟩
      have hl:=mid_len a3
      simp -implicitDefEqProofs only[go_sem]
      rw[Vg.wrap_small (by omega) (by omega)]
      intro _ _
      refine(ih x mem_mid r (levels - 1) i2 (by omega)).calls (by simp -implicitDefEqProofs only[go_sem]) ?_
      simp -implicitDefEqProofs only[go_sem]
      refine⟨fun c=>?_,fun c=>⟨left x r (levels - 1),⟨?_,?_⟩,wrap_next (by omega),rfl⟩⟩
      · rw[←i1,lefts,if_pos c]
      · rw[←i1,lefts,if_neg c]
      · have:=left_le x r (levels - 1);omega
  · rw[left,if_pos (by omega)]
  · rw[left,if_pos (by omega)]
theorem R06Fits(nd:Nd)(nodes levels:Int)(h1:nodes≤1000000)(h2:levels≤1000000):VPure env 81 [.agg nd.enc,.int .i64 nodes,.int .i64 levels] (.bool (decide (0≤left nd nodes levels))):=by
 refine vpure_vc (fn:=Tryz.f81) Tryz.func81 rfl (by rw[Tryz.ntmps81];simp) (by simp -implicitDefEqProofs only[go_sem]) rfl ?_
 simp -implicitDefEqProofs only[go_sem,Tryz.f81]
 refine(R06left nd nodes levels h1 h2).calls (by simp -implicitDefEqProofs only[go_sem]) ?_
 simp -implicitDefEqProofs only[go_sem]
theorem R06weigh:(nd:Nd)→∀ (bytes:Int) (h1:bytes≤1000000),VPure env 82 [.agg nd.enc,.int .i64 bytes] (.int .i64 (weigh nd bytes)):=by
 refine Nd.all fun k t g ks ih bytes h1=>?_
 refine vpure_vc (fn:=Tryz.f82) Tryz.func82 rfl (by rw[Tryz.ntmps82];simp) (by simp -implicitDefEqProofs only[go_sem]) rfl ?_
 simp -implicitDefEqProofs only[go_sem,Tryz.f82]
 intro ht
 refine⟨fun a1 _ hg=>⟨fun a2=>?_,fun a2 _=>?_⟩,fun a1=>?_⟩
 ·rw[weigh,if_pos (by omega)]
 ·refine snd_list (β:=Int) g (fun pre r=>⟨[(6,.int .i64 pre.length),(5,.int .i64 r),(2,.ptr 0 0)],[VObj.cells (Nd.mk k t g ks).enc],[]⟩)
   (fun _ post r=>weighG post r=weighG g (bytes - t.size)∧r≤1000000∧0≤r) (bytes - t.size) ?_ ?_ ?_ ?_
  ·simp -implicitDefEqProofs only[go_sem]
   exact⟨rfl,Vg.wrap_small (by omega) (by omega)⟩
  ·exact⟨rfl,by omega,by omega⟩
  ·rintro r ⟨i1,i2,i3⟩
   simp -implicitDefEqProofs only[go_sem]
   intro _ _
   refine snd_list (β:=Int) ks (fun pre r=>⟨[(7,.int .i64 pre.length),(5,.int .i64 r),(2,.ptr 0 0)],[VObj.cells (Nd.mk k t g ks).enc],[]⟩)
    (fun _ post r=>weighs post r=weigh (.mk k t g ks) bytes∧r≤1000000∧0≤r) r ?_ ?_ ?_ ?_
   ·simp -implicitDefEqProofs only[go_sem]
    trivial
   ·refine⟨?_,i2,i3⟩
    rw[weigh,if_neg (by omega),←i1,weighG,if_neg (by omega)]
   ·rintro r' ⟨j1,j2,j3⟩
    simp -implicitDefEqProofs only[go_sem,←j1,weighs]
   ·rintro pre x post r' rfl ⟨j1,j2,j3⟩
    simp -implicitDefEqProofs only[go_sem]
    intro _ hl
    refine(ih x mem_mid r' j2).calls (by simp -implicitDefEqProofs only[go_sem]) ?_
    simp -implicitDefEqProofs only[go_sem]
    have hw:weigh x r'≤1000000:=by have:=weigh_le x r';omega
    refine⟨fun c=>?_,fun c=>⟨weigh x r',⟨?_,?_,?_⟩,wrap_next (by have:=mid_len hl;omega),rfl⟩⟩
    ·rw[←j1,weighs,if_pos c]
    ·rw[←j1,weighs,if_neg c]
    ·exact hw
    ·omega
  ·rintro pre x post r rfl ⟨i1,i2,i3⟩
   simp -implicitDefEqProofs only[go_sem,encTx]
   intro _ hl hx
   refine⟨fun c=>?_,fun c _=>⟨r - x.size - 1,⟨?_,by omega,by omega⟩,wrap_next (by have:=mid_len hl;omega),?_⟩⟩
   ·rw[weigh,if_neg (by omega),if_pos]
    rw[←i1,weighG,if_pos c];decide
   ·rw[←i1,weighG,if_neg (by omega)]
   ·rw[Vg.wrap_small (x:=r - x.size) (by omega) (by omega),Vg.wrap_small (by omega) (by omega)]
 ·rw[weigh,if_pos (by omega)]
theorem R06Light(nd:Nd)(nodes levels bytes:Int)(h1:nodes≤1000000)(h2:levels≤1000000)(h3:bytes≤1000000) :
  VPure env 52 [.agg nd.enc,.int .i64 nodes,.int .i64 levels,.int .i64 bytes] (.bool (decide (0≤left nd nodes levels) && decide (0≤weigh nd bytes))):=by
 refine vpure_vc (fn:=Tryz.f52) Tryz.func52 rfl (by rw[Tryz.ntmps52];simp) (by simp -implicitDefEqProofs only[go_sem]) rfl ?_
 simp -implicitDefEqProofs only[go_sem,Tryz.f52]
 refine(R06Fits nd nodes levels h1 h2).calls (by simp -implicitDefEqProofs only[go_sem]) ?_
 simp -implicitDefEqProofs only[go_sem]
 refine⟨fun c=>(R06weigh nd bytes h3).calls (by simp -implicitDefEqProofs only[go_sem]) ?_,fun c=>?_⟩
 ·simp -implicitDefEqProofs only[go_sem]
  simp[c]
 ·simp[c]
end Go.Proofs.YtamednbojpnalaaGreatDoor
namespace Go.Vg
mutual
def nodes:Nd→List Nd
 | .mk k t g ks => .mk k t g ks::nodesL ks
def nodesL:List Nd→List Nd
 | []=>[]
 | n::r=>nodes n++nodesL r
end
theorem nodesL_snoc(x:Nd):∀ pre,nodesL (pre++[x])=nodesL pre++nodes x
 | []=>by simp[nodesL]
 | y::r=>by simp[nodesL,nodesL_snoc x r]
theorem nodesL_app:∀ a b,nodesL (a++b)=nodesL a++nodesL b
 | [],b=>rfl
 | y::r,b=>by simp[nodesL,nodesL_app r b]
end Go.Vg
namespace Go.Proofs.YtamednbojpnalaaGreatDoor
open Go Go.Vg Go.Proofs
theorem R06list:(nd:Nd)→∀ (h:List VObj) (a:List Nat) (kk:Nat) (es:List Nd),a[kk]? = some es.length→es.length+(nodes nd).length≤1000000 →
  VCalls env 40 [.slice (.arr kk) 32 (es.map Nd.enc),.agg nd.enc] h a fun v h' a'=>v = .slice (.arr kk) 32 ((es++nodes nd).map Nd.enc)∧(∃ z,h'=h++z)∧a'=a.set kk (es.length+(nodes nd).length):=by
 refine Nd.all fun k t g ks ih h a kk es ha hn=>?_
 refine vcalls_vc (fn:=Tryz.f40) Tryz.func40 rfl (by rw[Tryz.ntmps40];simp) ?_
 simp -implicitDefEqProofs only[go_sem,Tryz.f40,ha]
 rw[nodes]at hn ⊢
 simp only[List.length_cons]at hn ⊢
 refine⟨by omega,?_⟩
 refine snd_list (β:=List VObj) ks (fun pre z=>⟨[(5,.int .i64 pre.length),(0,.slice (.arr kk) 32 ((es ++ .mk k t g ks::nodesL pre).map Nd.enc)),(3,.ptr h.length 0)],
   h++(.cells (Nd.mk k t g ks).enc::z),a.set kk (es.length+1+(nodesL pre).length)⟩) (fun _ _ _=>True) [] ?_ trivial ?_ ?_
 ·simp -implicitDefEqProofs only[go_sem,nodesL]
  simp
 ·intro z _
  simp -implicitDefEqProofs only[go_sem]
  intro _ _
  exact⟨⟨_,rfl⟩,by congr 1;omega⟩
 ·rintro pre x post z rfl _
  simp -implicitDefEqProofs only[go_sem]
  intro _ hl
  have hlen:(nodesL (pre++x::post)).length=(nodesL pre).length+(nodes x).length+(nodesL post).length:=by
   rw[nodesL_app,nodesL];simp;omega
  refine VCalls.mono (ih x mem_mid _ _ kk (es ++ .mk k t g (pre++x::post)::nodesL pre) ?_ ?_) ?_
  ·rw[arr_get ha];simp;omega
  ·simp;omega
  ·rintro v h' a' ⟨rfl,⟨z',rfl⟩,rfl⟩
   simp -implicitDefEqProofs only[go_sem]
   have e:(es++Nd.mk k t g (pre++x::post)::nodesL pre).length+(nodes x).length=es.length+1+(nodesL (pre++[x])).length:=by rw[nodesL_snoc];simp;omega
   refine⟨z++z',⟨wrap_next (by have:=mid_len hl;omega),by rw[nodesL_snoc];simp⟩,by rw[tellH_same];trivial,by rw[e,tellA_same];trivial,.inl (by simp)⟩
theorem R06List(nd:Nd)(hn:(nodes nd).length≤1000000):VPure env 14 [.agg nd.enc] (sl 32 ((nodes nd).map Nd.enc)):=by
 refine vpure_vc (fn:=Tryz.f14) Tryz.func14 rfl (by rw[Tryz.ntmps14];simp) (by simp -implicitDefEqProofs only[go_sem]) (by simp -implicitDefEqProofs only[go_sem]) ?_
 simp -implicitDefEqProofs only[go_sem,Tryz.f14]
 refine VCalls.adopt 0 (args':=[.slice (.arr 0) 32 (([]:List Nd).map Nd.enc),.agg nd.enc]) (by simp -implicitDefEqProofs only[go_sem]) ?_
 refine VCalls.mono (R06list nd _ ([]++[0]) 0 [] rfl (by simpa using hn)) ?_
 rintro v h' a' ⟨rfl,⟨z,rfl⟩,rfl⟩
 simp -implicitDefEqProofs only[go_sem]
end Go.Proofs.YtamednbojpnalaaGreatDoor
namespace Go.Vg
def groupK(k:Int):Int:=if k=2∨k=7∨k=9 then 1 else if(10≤k∧k≤13)∨k=15∨k=16 then 2 else if 17≤k∧k≤26 then 3 else 0
def leastK(k:Int):Int:=if k=2∨k=13 then 3 else if k=15∨k=24 then 2 else if k=4∨k=7∨k=9∨k=10∨k=11∨k=12∨k=16∨k=21∨k=25∨k=26 then 1 else 0
def mostK(k:Int):Int:=if k=3∨k=20 then 16 else if k=21 then 17 else 200
end Go.Vg
namespace Go.Proofs.YtamednbojpnalaaGreatDoor
open Go Go.Vg Go.Proofs
theorem R07Group(k:Int):VPure env 218 [.int .i64 k] (.int .i64 (groupK k)):=by
 refine vpure_vc (fn:=Tryz.f218) Tryz.func218 rfl (by rw[Tryz.ntmps218];simp) rfl rfl ?_
 simp -implicitDefEqProofs only[go_sem,Tryz.f218,groupK]
 repeat' (first | apply And.intro | intro)
 all_goals(congr 1;repeat' split)
 all_goals omega
theorem R07least(k:Int):VPure env 168 [.int .i64 k] (.int .i64 (leastK k)):=by
 refine vpure_vc (fn:=Tryz.f168) Tryz.func168 rfl (by rw[Tryz.ntmps168];simp) rfl rfl ?_
 simp -implicitDefEqProofs only[go_sem,Tryz.f168,leastK]
 repeat' (first | apply And.intro | intro)
 all_goals(congr 1;repeat' split)
 all_goals omega
theorem R07most(k:Int):VPure env 94 [.int .i64 k] (.int .i64 (mostK k)):=by
 refine vpure_vc (fn:=Tryz.f94) Tryz.func94 rfl (by rw[Tryz.ntmps94];simp) rfl rfl ?_
 simp -implicitDefEqProofs only[go_sem,Tryz.f94,mostK]
 repeat' (first | apply And.intro | intro)
 all_goals(congr 1;repeat' split)
 all_goals omega
end Go.Proofs.YtamednbojpnalaaGreatDoor
namespace Go.Vg
def opLevel(t:ByteArray):Int:=if t=⟨#[124]⟩then 1 else if t=⟨#[38]⟩then 2 else if t=⟨#[61,61]⟩∨t=⟨#[60]⟩then 3 else if t=⟨#[43]⟩∨t=⟨#[45]⟩then 4 else if t=⟨#[42]⟩∨t=⟨#[47]⟩then 5 else 0
def levelK(k:Int)(t:ByteArray):Int:=if k=24 then opLevel t else if k=25 then 6 else if groupK k=3 then 7 else 0
def Nd.level(n:Nd):Int:=levelK n.kind n.text
def namedK(k:Int)(t:ByteArray):Bool:=if k=8 then !decide (t=⟨#[]⟩)else decide (k=2∨k=4∨k=5∨k=7∨k=9∨k=10∨k=11∨k=17∨k=19∨k=20∨k=21∨k=22)
end Go.Vg
namespace Go.Proofs.YtamednbojpnalaaGreatDoor
open Go Go.Vg Go.Proofs
theorem R07Level(n:Nd):VPure env 219 [.agg n.enc] (.int .i64 n.level):=by
 obtain⟨k,t,g,ks⟩:=n
 refine vpure_vc (fn:=Tryz.f219) Tryz.func219 rfl (by rw[Tryz.ntmps219];simp) (by simp -implicitDefEqProofs only[go_sem]) rfl ?_
 simp -implicitDefEqProofs only[go_sem,Tryz.f219,Nd.level,Nd.kind,Nd.text,levelK]
 refine⟨fun h=>?_,fun h=>?_⟩
 ·simp +contextual [h,opLevel]
 ·simp only[h,if_false]
  refine⟨fun h2=>by simp[h2],fun h2=>?_⟩
  simp only[h2,if_false]
  refine(R07Group k).calls rfl ?_
  simp -implicitDefEqProofs only[go_sem]
  refine⟨fun c=>by simp[c],fun c=>by simp[c]⟩
theorem R07named(n:Nd):VPure env 133 [.agg n.enc] (.bool (namedK n.kind n.text)):=by
 obtain⟨k,t,g,ks⟩:=n
 refine vpure_vc (fn:=Tryz.f133) Tryz.func133 rfl (by rw[Tryz.ntmps133];simp) (by simp -implicitDefEqProofs only[go_sem]) rfl ?_
 simp -implicitDefEqProofs only[go_sem,Tryz.f133,Nd.kind,Nd.text,namedK]
 refine⟨fun h=>by simp[h];rfl,fun h=>?_⟩
 simp only[h,if_false]
 simp +contextual
end Go.Proofs.YtamednbojpnalaaGreatDoor
set_option maxRecDepth 20000
set_option maxHeartbeats 8000000
namespace Go.Vg
def wordK(k:Int)(t:ByteArray):Bool:=if k=18 then decide (t=⟨#[116,114,117,101]⟩) || decide (t=⟨#[102,97,108,115,101]⟩)else if k=23 then decide (t=⟨#[115,101,108,102]⟩)else if k=24 then decide (0<levelK k t)else if k=25 then decide (t=⟨#[45]⟩) || decide (t=⟨#[33]⟩)else decide (t=⟨#[]⟩)
def ownK(k:Int)(t:ByteArray)(n:Nat):Int:=if k=8 then(if t=⟨#[]⟩then 0 else 2)else if k=14 then min n 1 else if k=3 then 2+max ((n:Int) - 1) 0 else if k=20 then 3+max ((n:Int) - 1) 0 else if k=21 then 4+max ((n:Int) - 2) 0
 else if k=7∨k=9∨k=10∨k=22 then 4 else if k=11 then 3 else if k=2∨k=6∨k=12∨k=26 then 2 else if 1≤k∧k≤26 then 1 else 0
def Nd.own(n:Nd):Int:=ownK n.kind n.text n.kids.length
end Go.Vg
namespace Go.Proofs.YtamednbojpnalaaGreatDoor
open Go Go.Vg Go.Proofs
theorem R07word(n:Nd):VPure env 170 [.agg n.enc] (.bool (wordK n.kind n.text)):=by
 obtain⟨k,t,g,ks⟩:=n
 refine vpure_vc (fn:=Tryz.f170) Tryz.func170 rfl (by rw[Tryz.ntmps170];simp) (by simp -implicitDefEqProofs only[go_sem]) rfl ?_
 simp -implicitDefEqProofs only[go_sem,Tryz.f170,Nd.kind,Nd.text]
 refine⟨fun h=>⟨fun c=>?_,fun c=>?_⟩,fun h=>⟨fun h2=>?_,fun h2=>⟨fun h3=>?_,fun h3=>⟨fun h4=>⟨fun c=>?_,fun c=>?_⟩,fun h4=>?_⟩⟩⟩⟩
 ·simp[wordK,h,c]
 ·simp[wordK,h,c]
 ·simp[wordK,h2]
 ·refine(R07Level (.mk k t g ks)).calls (by simp -implicitDefEqProofs only[go_sem]) ?_
  simp -implicitDefEqProofs only[go_sem]
  simp[wordK,h3,Nd.level,Nd.kind,Nd.text]
 ·simp[wordK,h4,c]
 ·simp[wordK,h4,c]
 ·simp[wordK,h,h2,h3,h4]
theorem R07Own(n:Nd):VPure env 135 [.agg n.enc] (.int .i64 n.own):=by
 obtain⟨k,t,g,ks⟩:=n
 refine vpure_vc (fn:=Tryz.f135) Tryz.func135 rfl (by rw[Tryz.ntmps135];simp) (by simp -implicitDefEqProofs only[go_sem]) rfl ?_
 simp -implicitDefEqProofs only[go_sem,Tryz.f135,Nd.kind,Nd.text,Nd.kids,Nd.own]
 intro _ hl
 rw[Vg.wrap_small (x:=(ks.length:Int) - 1) (by omega) (by omega),Vg.wrap_small (x:=(ks.length:Int) - 2) (by omega) (by omega),
  Vg.wrap_small (x:=2+if(ks.length:Int) - 1<0 then 0 else(ks.length:Int) - 1) (by split <;> omega) (by split <;> omega),
  Vg.wrap_small (x:=3+if(ks.length:Int) - 1<0 then 0 else(ks.length:Int) - 1) (by split <;> omega) (by split <;> omega),
  Vg.wrap_small (x:=4+if(ks.length:Int) - 2<0 then 0 else(ks.length:Int) - 2) (by split <;> omega) (by split <;> omega)]
 repeat' (first | apply And.intro | intro)
 all_goals(unfold ownK;congr 1;repeat' split)
 all_goals first | omega | contradiction
end Go.Proofs.YtamednbojpnalaaGreatDoor
set_option maxRecDepth 20000
set_option maxHeartbeats 8000000
namespace Go.Vg
def fitsK(p pos k:Int):Bool :=
 if pos<0 then false else if p=1 then decide (groupK k=1)else if p=2 then decide (pos=0∧k=3∨pos=1∧k=5∨pos=2∧k=6)else if p=3 then decide (k=4)else if p=4 then decide (pos=0∧k=5)
 else if p=6 then decide (groupK k=2)else if p=7 then decide (pos=0∧k=8∨0<pos∧k=2)else if p=13 then decide (pos=0∧groupK k=3∨pos=1∧k=6∨pos=2∧k=14)else if p=14 then decide (pos=0∧k=6)
 else if p=15 then decide (pos=0∧groupK k=3∨pos=1∧k=6)else if p=20∨p=21 then decide (groupK k=3)else if p=24 then decide (pos<2∧groupK k=3)
 else if p=9∨p=10∨p=11∨p=12∨p=16∨p=25∨p=26 then decide (pos=0∧groupK k=3)else false
def levelsN:Int→ByteArray→List Nd→Bool
 | k,t,a::b::_=>if k=24 then(if levelK k t=3∧a.level=3 then false else decide (levelK k t≤a.level∧levelK k t<b.level))else if k=25 then decide (6≤a.level)else if k=21 then decide (a.level=7)else true
 | k,t,[a]=>if k=25 then decide (6≤a.level)else if k=21 then decide (a.level=7)else true
 | k,t,[]=>true
end Go.Vg
namespace Go.Proofs.YtamednbojpnalaaGreatDoor
open Go Go.Vg Go.Proofs
theorem R07Fits(p pos k:Int):VPure env 169 [.int .i64 p,.int .i64 pos,.int .i64 k] (.bool (fitsK p pos k)):=by
 refine vpure_vc (fn:=Tryz.f169) Tryz.func169 rfl (by rw[Tryz.ntmps169];simp) rfl rfl ?_
 simp -implicitDefEqProofs only[go_sem,Tryz.f169]
 repeat' (first | apply And.intro | (refine(R07Group k).calls rfl ?_;simp -implicitDefEqProofs only[go_sem]) | intro)
 all_goals(try(simp_all [fitsK];done))
 all_goals(congr 1;unfold fitsK;grind)
end Go.Proofs.YtamednbojpnalaaGreatDoor
set_option maxRecDepth 20000
set_option maxHeartbeats 8000000
namespace Go.Vg
def Nd.levels(n:Nd):Bool:=levelsN n.kind n.text n.kids
def digitsV:List UInt8→Int→Int
 | [],n=>n
 | c::r,n=>digitsV r (10 * n+((c.toNat:Int) - 48))
def intB(s:ByteArray):Bool := !decide ((s.size:Int)=0) && !decide (13<(s.size:Int)) && !(decide (1<(s.size:Int)) && decide (byteAt s 0=48)) && (s.data.toList.all fun c=>digitB c.toNat) && decide (digitsV s.data.toList 0≤1000000000000)
end Go.Vg
namespace Go.Proofs.YtamednbojpnalaaGreatDoor
open Go Go.Vg Go.Proofs
theorem R07levels(n:Nd)(h0:n.kind=24→2≤n.kids.length)(h1:n.kind=25∨n.kind=21→1≤n.kids.length):VPure env 171 [.agg n.enc] (.bool n.levels):=by
 obtain⟨k,t,g,ks⟩:=n
 simp only[Nd.kind,Nd.kids]at h0 h1
 refine vpure_vc (fn:=Tryz.f171) Tryz.func171 rfl (by rw[Tryz.ntmps171];simp) (by simp -implicitDefEqProofs only[go_sem]) rfl ?_
 rcases ks with _ | ⟨a,_ | ⟨b,r⟩⟩
 ·have hk:¬ k=24∧¬ k=25∧¬ k=21:=⟨fun h=>by simp at h0;omega,fun h=>by simp at h1;omega,fun h=>by simp at h1;omega⟩
  simp -implicitDefEqProofs only[go_sem,Tryz.f171,hk.1,hk.2.1,hk.2.2]
  rfl
 ·have hk:¬ k=24:=fun h=>by simp at h0;omega
  simp -implicitDefEqProofs only[go_sem,Tryz.f171,hk]
  refine⟨fun h=>⟨by omega,?_⟩,fun h=>⟨fun h2=>⟨by omega,?_⟩,fun h2=>?_⟩⟩
  ·refine(R07Level a).calls (by simp -implicitDefEqProofs only[go_sem]) ?_
   simp -implicitDefEqProofs only[go_sem]
   simp[Nd.levels,levelsN,Nd.kind,Nd.text,Nd.kids,h]
  ·refine(R07Level a).calls (by simp -implicitDefEqProofs only[go_sem]) ?_
   simp -implicitDefEqProofs only[go_sem]
   simp[Nd.levels,levelsN,Nd.kind,Nd.text,Nd.kids,h2]
  ·simp[Nd.levels,levelsN,Nd.kind,Nd.text,Nd.kids,h,h2]
 ·simp -implicitDefEqProofs only[go_sem,Tryz.f171]
  refine⟨fun h=>?_,fun h=>⟨fun h2=>⟨by omega,?_⟩,fun h2=>⟨fun h3=>⟨by omega,?_⟩,fun h3=>?_⟩⟩⟩
  ·refine(R07Level (.mk k t g (a::b::r))).calls (by simp -implicitDefEqProofs only[go_sem]) ?_
   simp -implicitDefEqProofs only[go_sem]
   have hlv:(Nd.mk k t g (a::b::r)).level=levelK 24 t:=by simp[Nd.level,Nd.kind,Nd.text,h]
   rw[hlv]
   have hm:(Nd.mk k t g (a::b::r)).levels=(if levelK 24 t=3∧a.level=3 then false else decide (levelK 24 t≤a.level∧levelK 24 t<b.level)):=by simp[Nd.levels,levelsN,Nd.kind,Nd.text,Nd.kids,h]
   rw[hm]
   have e:∀ x:Nd,List.map share [V.agg x.enc]=[V.agg x.enc]:=fun x=>by simp -implicitDefEqProofs only[go_sem]
   repeat' (first | apply And.intro | (refine(R07Level a).calls (e a) ?_;simp -implicitDefEqProofs only[go_sem]) | (refine(R07Level b).calls (e b) ?_;simp -implicitDefEqProofs only[go_sem]) | omega | intro)
   all_goals(try simp_all)
   all_goals omega
  ·refine(R07Level a).calls (by simp -implicitDefEqProofs only[go_sem]) ?_
   simp -implicitDefEqProofs only[go_sem]
   simp[Nd.levels,levelsN,Nd.kind,Nd.text,Nd.kids,h2]
  ·refine(R07Level a).calls (by simp -implicitDefEqProofs only[go_sem]) ?_
   simp -implicitDefEqProofs only[go_sem]
   simp[Nd.levels,levelsN,Nd.kind,Nd.text,Nd.kids,h3]
  ·simp[Nd.levels,levelsN,Nd.kind,Nd.text,Nd.kids,h,h2,h3]
theorem R07Integer(s:ByteArray):VPure env 132 [.str s] (.bool (intB s)):=by
 refine vpure_vc (fn:=Tryz.f132) Tryz.func132 rfl (by rw[Tryz.ntmps132];simp) rfl rfl ?_
 simp -implicitDefEqProofs only[go_sem,Tryz.f132]
 intro hs
 refine⟨fun a1 _=>⟨fun a2 _=>⟨fun a3=>⟨by omega,fun a4=>?_,fun a4=>?_⟩,fun a3=>?_⟩,fun a2=>?_⟩,fun a1=>?_⟩
 ·simp[intB,a3,a4]
 all_goals try(simp[intB,a1];done)
 all_goals try(simp[intB,a2];done)
 all_goals
  refine snd_list (β:=Int) s.data.toList (fun pre n=>⟨[(4,.int .i64 pre.length),(3,.int .i64 n),(0,.str s)],[],[]⟩)
   (fun pre post n=>(pre.all fun c=>digitB c.toNat)=true∧digitsV post n=digitsV s.data.toList 0∧0≤n∧n.toNat<10 ^ pre.length) 0 ?_ ?_ ?_ ?_
  ·simp -implicitDefEqProofs only[go_sem]
   trivial
  ·simp
  ·rintro n ⟨i1,i2,i3,i4⟩
   simp -implicitDefEqProofs only[go_sem,←size_list]
   intro _
   have hd:digitsV s.data.toList 0=n:=by rw[←i2];rfl
   unfold intB
   rw[i1,hd]
   simp_all
  ·rintro pre x post n hx ⟨i1,i2,i3,i4⟩
   have hz:=size_mid hx
   simp -implicitDefEqProofs only[go_sem,hz,byteAt_mid hx]
   intro hl
   have hno:digitB (x.toNat:Int)=false→V.bool false=V.bool (intB s):=by
    intro hf
    have:(s.data.toList.all fun c=>digitB c.toNat)=false:=by rw[hx];simp[hf]
    unfold intB
    rw[this];simp
   refine⟨fun c=>⟨fun d=>hno (by unfold digitB;simp;omega),fun d=>?_⟩,fun c=>hno (by unfold digitB;simp;omega)⟩
   have hp:pre.length≤12:=by rw[hz]at a2;simp at a2;omega
   have h10:(10:Nat) ^ pre.length≤10 ^ 12:=Nat.pow_le_pow_right (by decide) hp
   have h12:(10:Nat) ^ 12=1000000000000:=by decide
   rw[h12]at h10
   have hdig:digitB (x.toNat:Int)=true:=by unfold digitB;simp;omega
   refine⟨10 * n+((x.toNat:Int) - 48),⟨by simp[i1,hdig],by rw[←i2];rfl,by omega,?_⟩,wrap_next (by omega),?_⟩
   ·rw[Nat.pow_succ];omega
   ·rw[wrap8 (by omega) (by omega),Vg.wrap_small (x:=10 * n) (by omega) (by omega),Vg.wrap_small (x:=(x.toNat:Int) - 48) (by omega) (by omega),Vg.wrap_small (by omega) (by omega)]
end Go.Proofs.YtamednbojpnalaaGreatDoor
set_option maxRecDepth 20000
namespace Go.Vg
mutual
def sizeN:Nd→Int→Int
 | .mk k t g ks,l=>if 60<l∨mostK k<(ks.length:Int)then 4001 else min (sizesN ks 1 (l+1)) 4001
def sizesN:List Nd→Int→Int→Int
 | [],k,_=>k
 | x::r,k,l=>if 4000<k then k else sizesN r (k+sizeN x l) l
end
theorem sizeN_le(n:Nd)(l:Int):sizeN n l≤4001:=by
 obtain⟨k,t,g,ks⟩:=n
 rw[sizeN]
 split <;> omega
theorem sizesN_ge:∀ (ks:List Nd),(∀ x∈ks,∀ l,1≤sizeN x l)→∀ k l,k≤sizesN ks k l:=by
 intro ks
 induction ks with
 | nil=>intro _ k l;rw[sizesN];exact Int.le_refl _
 | cons x r ih =>
  intro h k l
  rw[sizesN]
  split
  ·exact Int.le_refl _
  ·have:=ih (fun y hy=>h y (by simp[hy])) (k+sizeN x l) l
   have:=h x (by simp) l
   omega
theorem sizeN_ge:∀ (n:Nd) (l:Int),1≤sizeN n l:=by
 refine Nd.all fun k t g ks ih l=>?_
 rw[sizeN]
 split
 ·omega
 ·have:=sizesN_ge ks ih 1 (l+1)
  omega
end Go.Vg
namespace Go.Proofs.YtamednbojpnalaaGreatDoor
open Go Go.Vg Go.Proofs
theorem R07size:(n:Nd)→∀ (l:Int),0≤l→l≤1000→VPure env 64 [.agg n.enc,.int .i64 l] (.int .i64 (sizeN n l)):=by
 refine Nd.all fun k t g ks ih l h0 h1=>?_
 refine vpure_vc (fn:=Tryz.f64) Tryz.func64 rfl (by rw[Tryz.ntmps64];simp) (by simp -implicitDefEqProofs only[go_sem]) rfl ?_
 simp -implicitDefEqProofs only[go_sem,Tryz.f64]
 refine snd_draw (cs:=[]) mixed (by kernel_rfl) ?_
 simp -implicitDefEqProofs only[go_sem]
 refine⟨fun a1=>vPC_of (R07most k) rfl ?_,fun a1=>?_⟩
 ·simp -implicitDefEqProofs only[go_sem]
  refine⟨fun a2=>?_,fun a2=>?_⟩
  ·rw[sizeN,if_pos (by omega)]
  ·refine snd_list (β:=Int) ks (fun pre n=>⟨[(6,.int .i64 pre.length),(5,.int .i64 n),(2,.ptr 0 0),(1,.int .i64 l)],[VObj.cells (Nd.mk k t g ks).enc],[]⟩)
    (fun _ post n=>min (sizesN post n (l+1)) 4001=sizeN (.mk k t g ks) l∧1≤n∧n≤100000) 1 ?_ ?_ ?_ ?_
   ·simp -implicitDefEqProofs only[go_sem]
    rfl
   ·refine⟨?_,by omega,by omega⟩
    rw[sizeN,if_neg (by omega)]
   ·rintro n ⟨i1,i2,i3⟩
    simp -implicitDefEqProofs only[go_sem]
    intro _ _
    rw[←i1,sizesN]
    congr 1
    split <;> omega
   ·rintro pre x post n rfl ⟨i1,i2,i3⟩
    simp -implicitDefEqProofs only[go_sem]
    intro _ hl
    have hx:=sizeN_le x (l+1)
    have hx':=sizeN_ge x (l+1)
    refine⟨fun c=>?_,fun c=>?_⟩
    ·rw[Vg.wrap_small (by omega) (by omega)]
     refine(ih x mem_mid (l+1) (by omega) (by omega)).calls (by simp -implicitDefEqProofs only[go_sem]) ?_
     simp -implicitDefEqProofs only[go_sem]
     refine⟨n+sizeN x (l+1),⟨?_,by omega,by omega⟩,wrap_next (by have:=mid_len hl;omega),Vg.wrap_small (by omega) (by omega)⟩
     rw[←i1,sizesN,if_neg (by omega)]
    ·have e:sizesN (x::post) n (l+1)=n:=by rw[sizesN,if_pos (by omega)]
     rw[←i1,e]
     congr 1
     split <;> omega
 ·rw[sizeN,if_pos (by omega)]
end Go.Proofs.YtamednbojpnalaaGreatDoor
set_option maxRecDepth 20000
namespace Go.Vg
def fitsFrom(k:Int):List Nd→Int→Bool
 | [],_=>true
 | x::r,i=>fitsK k i x.kind && fitsFrom k r (i+1)
def Nd.shape(n:Nd):Bool := !decide (n.kind<1) && !decide (26<n.kind) && !decide ((n.kids.length:Int)<leastK n.kind) && fitsFrom n.kind n.kids 0 && (namedK n.kind n.text || wordK n.kind n.text) && n.levels
end Go.Vg
namespace Go.Proofs.YtamednbojpnalaaGreatDoor
open Go Go.Vg Go.Proofs
theorem R07shape(n:Nd):VPure env 131 [.agg n.enc] (.bool n.shape):=by
 obtain⟨k,t,g,ks⟩:=n
 refine vpure_vc (fn:=Tryz.f131) Tryz.func131 rfl (by rw[Tryz.ntmps131];simp) (by simp -implicitDefEqProofs only[go_sem]) rfl ?_
 simp -implicitDefEqProofs only[go_sem,Tryz.f131]
 refine snd_draw (cs:=[]) mixed (by kernel_rfl) ?_
 simp -implicitDefEqProofs only[go_sem]
 refine⟨fun a1=>⟨fun a2=>vPC_of (R07least k) rfl ?_,fun a2=>?_⟩,fun a1=>?_⟩
 ·simp -implicitDefEqProofs only[go_sem]
  refine⟨fun a3=>?_,fun a3=>?_⟩
  ·simp[Nd.shape,Nd.kind,Nd.kids,a3]
  ·refine snd_list (β:=Unit) ks (fun pre _=>⟨[(3,.int .i64 pre.length),(1,.ptr 0 0)],[VObj.cells (Nd.mk k t g ks).enc],[]⟩)
    (fun pre post _=>fitsFrom k post pre.length=fitsFrom k ks 0) () ?_ ?_ ?_ ?_
   ·simp -implicitDefEqProofs only[go_sem]
    rfl
   ·rfl
   ·intro _ i1
    simp -implicitDefEqProofs only[go_sem]
    intro _ _
    have hlv:=R07levels (.mk k t g ks) (fun h=>by simp only[Nd.kind]at h;subst h;simp[leastK]at a3;simp only[Nd.kids];omega)
     (fun h=>by simp only[Nd.kind]at h;rcases h with h | h <;> subst h <;> simp[leastK]at a3 <;> simp only[Nd.kids] <;> omega)
    refine(R07named (.mk k t g ks)).calls (by simp -implicitDefEqProofs only[go_sem]) ?_
    simp -implicitDefEqProofs only[go_sem]
    have hf:fitsFrom k ks 0=true:=by rw[←i1];rfl
    have hs:(Nd.mk k t g ks).shape=((namedK k t || wordK k t) && (Nd.mk k t g ks).levels):=by simp[Nd.shape,Nd.kind,Nd.text,Nd.kids,a1,a2,a3,hf]
    rw[hs]
    simp only[Nd.kind,Nd.text]
    refine⟨fun c=>?_,fun c=>?_⟩
    ·refine(R07word (.mk k t g ks)).calls (by simp -implicitDefEqProofs only[go_sem]) ?_
     simp -implicitDefEqProofs only[go_sem,Nd.kind,Nd.text]
     refine⟨fun d=>hlv.calls (by simp -implicitDefEqProofs only[go_sem]) ?_,fun d=>?_⟩
     ·simp -implicitDefEqProofs only[go_sem]
      simp[c,d]
     ·simp[c,d]
    ·refine hlv.calls (by simp -implicitDefEqProofs only[go_sem]) ?_
     simp -implicitDefEqProofs only[go_sem]
     simp[c]
   ·rintro pre x post _ rfl i1
    obtain⟨xk,xt,xg,xks⟩:=x
    simp -implicitDefEqProofs only[go_sem]
    intro _ hl
    refine snd_draw (cs:=[]) mixed (by kernel_rfl) ?_
    simp -implicitDefEqProofs only[go_sem]
    refine vPC_of (R07Fits k pre.length xk) rfl ?_
    simp -implicitDefEqProofs only[go_sem]
    have hcast:((pre.length+1:Nat):Int)=(pre.length:Int)+1:=by omega
    refine⟨fun c=>?_,fun c=>⟨(),?_,wrap_next (by have:=mid_len hl;omega)⟩⟩
    ·have hf:fitsFrom k (pre++Nd.mk xk xt xg xks::post) 0=false:=by rw[←i1,fitsFrom];simp only[Nd.kind];simp at c;simp[c]
     simp[Nd.shape,Nd.kind,Nd.text,Nd.kids,hf]
    ·rw[←i1,fitsFrom,hcast];simp only[Nd.kind];simp at c;simp[c]
 ·simp[Nd.shape,Nd.kind,a2]
 ·simp[Nd.shape,Nd.kind,a1]
end Go.Proofs.YtamednbojpnalaaGreatDoor
set_option maxRecDepth 20000
namespace Go.Vg
def blankB(c:UInt8):Bool:=decide (c.toNat=32∨c.toNat=9∨c.toNat=10)
def lineLen:List UInt8→Option Nat
 | []=>none
 | c::r=>if c.toNat=10 then some 1 else(lineLen r).map (· + 1)
def isSlash:List UInt8→Bool
 | c::_=>decide (c.toNat=47)
 | []=>false
def adv:List UInt8→Nat
 | []=>0
 | c::r=>if blankB c then 1 else if decide (c.toNat=47) && isSlash r then(lineLen (c::r)).getD 0 else 0
theorem byteAt_at{s:ByteArray}{pre post:List UInt8}{x:UInt8}(h:s.data.toList=pre++x::post){i:Int}(hi:i=pre.length):byteAt s i=x.toNat:=by rw[hi];exact byteAt_mid h
end Go.Vg
namespace Go.Proofs.YtamednbojpnalaaGreatDoor
open Go Go.Vg Go.Proofs
theorem R04step(s:ByteArray)(pre l:List UInt8)(hs:s.data.toList=pre++l):VPure env 220 [.str s,.int .i64 pre.length] (.int .i64 (pre.length+adv l:Nat)):=by
 refine vpure_vc (fn:=Tryz.f220) Tryz.func220 rfl (by rw[Tryz.ntmps220];simp) rfl rfl ?_
 have hz:s.size=pre.length+l.length:=by rw[size_mid hs];simp
 rcases l with _ | ⟨c,r⟩
 ·simp -implicitDefEqProofs only[go_sem,Tryz.f220]
  intro hb
  simp at hz
  exact⟨fun _=>by simp[adv],fun h=>absurd h (by omega)⟩
 ·simp -implicitDefEqProofs only[go_sem,Tryz.f220,byteAt_mid hs]
  intro hb
  simp only[List.length_cons]at hz
  rw[wrap_next (n:=pre.length) (by omega)]
  refine⟨fun h=>absurd h (by omega),fun _=>⟨by omega,fun h1=>⟨by omega,fun h2=>⟨by omega,fun h3=>?_,fun h3=>⟨by omega,fun h4 _=>⟨fun h5=>⟨by omega,fun h6=>?_,fun h6=>?_⟩,fun h5=>?_⟩,fun h4=>?_⟩⟩,fun h2=>?_⟩,fun h1=>?_⟩⟩
  ·have:blankB c=true:=by unfold blankB;simp;omega
   simp[adv,this]
  ·have hbl:blankB c=false:=by unfold blankB;simp;omega
   rcases r with _ | ⟨d,r⟩
   ·simp at hz;omega
   ·have hs2:s.data.toList=(pre++[c])++d::r:=by rw[hs];simp
    rw[byteAt_at hs2 (by simp)]at h6
    have:isSlash (d::r)=false:=by unfold isSlash;simp at h6 ⊢;omega
    simp[adv,hbl,this]
  ·have hbl:blankB c=false:=by unfold blankB;simp;omega
   rcases r with _ | ⟨d,r⟩
   ·simp at hz;omega
   ·have hs2:s.data.toList=(pre++[c])++d::r:=by rw[hs];simp
    rw[byteAt_at hs2 (by simp)]at h6
    have h47:isSlash (d::r)=true:=by unfold isSlash;simp at h6 ⊢;omega
    have hadv:adv (c::d::r)=(lineLen (c::d::r)).getD 0:=by simp at h4;simp[adv,hbl,h47];omega
    rw[hadv]
    refine snd_list (β:=Unit) (c::d::r) (fun q _=>⟨[(5,.int .i64 (pre.length+q.length:Nat)),(1,.int .i64 pre.length),(0,.str s)],[],[]⟩)
     (fun q post _=>lineLen (c::d::r)=(lineLen post).map (· + q.length)) () ?_ ?_ ?_ ?_
    ·simp -implicitDefEqProofs only[go_sem]
     try trivial
    ·simp
    ·intro _ i1
     have hsz:s.size=pre.length+(c::d::r).length:=by rw[size_mid hs];simp
     simp -implicitDefEqProofs only[go_sem,hsz]
     intro _
     rw[i1];simp[lineLen]
    ·rintro q x post _ hx i1
     have hs3:s.data.toList=(pre++q)++x::post:=by rw[hs,hx];simp
     have hsz:s.size=pre.length+q.length+(post.length+1):=by rw[size_mid hs3];simp;omega
     have hlt:(((pre.length+q.length:Nat):Int)<(s.size:Int))=True:=by simp;omega
     simp -implicitDefEqProofs only[go_sem,hlt,byteAt_at hs3 (i:=((pre.length+q.length:Nat):Int)) (by simp)]
     intro _
     refine⟨fun e=>?_,fun e=>⟨(),?_,?_⟩⟩
     ·have e':x.toNat=10:=by omega
      rw[wrap_next (by omega),i1,lineLen,if_pos e']
      simp;omega
     ·have e':¬ x.toNat=10:=by omega
      rw[i1,lineLen,if_neg e',Option.map_map]
      congr 1
      funext y
      simp;omega
     ·rw[wrap_next (by omega)];rfl
  ·have hbl:blankB c=false:=by unfold blankB;simp;omega
   have:r=[]:=List.eq_nil_of_length_eq_zero (by omega)
   subst this
   simp[adv,hbl,isSlash]
  ·have hbl:blankB c=false:=by unfold blankB;simp;omega
   simp at h4
   have:¬ c.toNat=47:=by omega
   simp[adv,hbl,this]
  ·have:blankB c=true:=by unfold blankB;simp;omega
   simp[adv,this]
  ·have:blankB c=true:=by unfold blankB;simp;omega
   simp[adv,this]
end Go.Proofs.YtamednbojpnalaaGreatDoor
set_option maxRecDepth 20000
namespace Go.Vg
theorem lineLen_le:∀ (l:List UInt8) n,lineLen l=some n→n≤l.length∧1≤n
 | [],n,h=>by simp[lineLen]at h
 | c::r,n,h=>by
  rw[lineLen]at h
  split at h
  ·cases h;simp
  ·obtain⟨m,hm,rfl⟩:=Option.map_eq_some_iff.1 h
   have:=lineLen_le r m hm
   simp;omega
theorem adv_le(l:List UInt8):adv l≤l.length:=by
 cases l with
 | nil=>simp[adv]
 | cons c r =>
  rw[adv]
  split
  ·simp
  ·split
   ·cases h:lineLen (c::r)with
    | none=>simp
    | some n=>have:=lineLen_le _ _ h;simpa using this.1
   ·simp
def skipT(l:List UInt8):Nat:=if h:adv l=0 then 0 else adv l+skipT (l.drop (adv l))
 termination_by l.length
 decreasing_by have:=adv_le l;simp;omega
end Go.Vg
namespace Go.Vg
def triviaB(s:ByteArray):Bool:=decide (skipT s.data.toList=s.size)
end Go.Vg
namespace Go.Proofs.YtamednbojpnalaaGreatDoor
open Go Go.Vg Go.Proofs
theorem R04End(s:ByteArray)(pre l:List UInt8)(hs:s.data.toList=pre++l)(hb:s.size≤1000000000):VPure env 175 [.str s,.int .i64 pre.length] (.int .i64 (pre.length+skipT l:Nat)):=by
 refine vpure_vc (fn:=Tryz.f175) Tryz.func175 rfl (by rw[Tryz.ntmps175];simp) rfl rfl ?_
 have hz:s.size=pre.length+l.length:=by rw[size_mid hs];simp
 have h1:((pre.length:Int)<0)=False:=by simp
 have h2:((s.size:Int)<(pre.length:Int))=False:=by simp;omega
 simp -implicitDefEqProofs only[go_sem,Tryz.f175,h1,h2]
 intro _
 refine snd_for (α:=List UInt8×List UInt8) (fun a=>⟨[(0,.str s),(1,.int .i64 a.1.length)],[],[]⟩) (fun a=>s.data.toList=a.1++a.2∧a.1.length+skipT a.2=pre.length+skipT l) (fun a=>a.2.length) (pre,l) ?_ ⟨hs,rfl⟩ ?_
 ·simp -implicitDefEqProofs only[go_sem]
 ·rintro⟨p,q⟩ ⟨i1,i2⟩
  simp only at i1 i2
  have hzq:s.size=p.length+q.length:=by rw[size_mid i1];simp
  simp -implicitDefEqProofs only[go_sem]
  refine(R04step s p q i1).calls rfl ?_
  simp -implicitDefEqProofs only[go_sem]
  have hle:=adv_le q
  have hsplit:s.data.toList=(p++q.take (adv q))++q.drop (adv q):=by rw[i1];simp
  refine⟨fun c=>?_,fun c=>?_⟩
  ·refine(R04step s p q i1).calls rfl ?_
   simp -implicitDefEqProofs only[go_sem]
   refine⟨(p++q.take (adv q),q.drop (adv q)),?_,⟨hsplit,?_⟩,?_⟩
   ·simp;omega
   ·have:skipT q=adv q+skipT (q.drop (adv q)):=by rw[skipT,dif_neg (by omega)]
    simp;omega
   ·simp;omega
  ·have h0:adv q=0:=by omega
   have:skipT q=0:=by rw[skipT,dif_pos h0]
   rw[←i2,this];simp
theorem R04Valid(s:ByteArray)(hb:s.size≤1000000000):VPure env 136 [.str s] (.bool (triviaB s)):=by
 refine vpure_vc (fn:=Tryz.f136) Tryz.func136 rfl (by rw[Tryz.ntmps136];simp) rfl rfl ?_
 simp -implicitDefEqProofs only[go_sem,Tryz.f136]
 have h:=R04End s [] s.data.toList rfl hb
 simp only[List.length_nil,Nat.zero_add]at h
 refine VPure.calls h rfl ?_
 simp -implicitDefEqProofs only[go_sem]
 intro _
 unfold triviaB
 congr 1
 by_cases e:skipT s.data.toList=s.size
 ·simp[e]
 ·rw[decide_eq_false e];simp;omega
end Go.Proofs.YtamednbojpnalaaGreatDoor
