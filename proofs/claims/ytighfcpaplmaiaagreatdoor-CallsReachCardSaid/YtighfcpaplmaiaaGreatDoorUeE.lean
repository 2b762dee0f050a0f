/- sort.Slice over the edges of the call graph: it leaves the sorted list. -/
import Derived.Test.YtighfcpaplmaiaaGreatDoorUeC
import Derived.Test.YtighfcpaplmaiaaGreatDoorVgY
import Derived.Test.YtighfcpaplmaiaaGreatDoorVgOrd
import Derived.Test.YtighfcpaplmaiaaGreatDoorUaA
import Derived.Shelf.SlSortFuncK.WholeK
import Derived.Test.YtighfcpaplmaiaaGreatDoorUdJ
set_option linter.unusedVariables false
set_option linter.unusedSimpArgs false
set_option maxRecDepth 20000
namespace Go.Proofs.YtighfcpaplmaiaaGreatDoor
open Go Go.Vg Go.Proofs Go.Shelf Go.RowKit Go.Sort
theorem ltEd_iff{a b:Ed}:ltEd a b=true↔ltB a.fr b.fr=true∨(a.fr=b.fr∧ltB a.to b.to=true):=by simp[ltEd]
theorem ltEd_irrefl(a:Ed):ltEd a a=false:=by simp[ltEd,ltB_irrefl]
theorem ltEd_trans{a b c:Ed}(h1:ltEd a b=true)(h2:ltEd b c=true):ltEd a c=true:=by
 rw[ltEd_iff]at h1 h2 ⊢
 rcases h1 with h1 | ⟨e1,h1⟩ <;> rcases h2 with h2 | ⟨e2,h2⟩
 ·exact .inl (ltB_trans h1 h2)
 ·exact .inl (e2 ▸ h1)
 ·exact .inl (e1 ▸ h2)
 ·exact .inr ⟨e1.trans e2,ltB_trans h1 h2⟩
theorem ltEd_tri{a b:Ed}(h1:ltEd a b=false)(h2:ltEd b a=false):a=b:=by
 simp only[ltEd,Bool.or_eq_false_iff,Bool.and_eq_false_iff,decide_eq_false_iff_not]at h1 h2
 have e1:=ltB_tri h1.1 h2.1
 have e2:a.to=b.to:=by
  refine ltB_tri ?_ ?_
  ·rcases h1.2 with h | h
   ·exact absurd e1 h
   ·exact h
  ·rcases h2.2 with h | h
   ·exact absurd e1.symm h
   ·exact h
 obtain⟨a1,a2⟩:=a
 obtain⟨b1,b2⟩:=b
 simp only at e1 e2
 rw[e1,e2]
theorem ltEd_ntrans{a b c:Ed}(h1:ltEd a b=false)(h2:ltEd b c=false):ltEd a c=false:=by
 cases h:ltEd a c with
 | false=>rfl
 | true =>
  cases hb:ltEd b a with
  | true=>have:=ltEd_trans hb h;rw[h2]at this;cases this
  | false =>
   have e:=ltEd_tri h1 hb
   subst e
   rw[h2]at h;cases h
theorem swoEd:SWO ltEd:=⟨fun _=>ltEd_irrefl _,fun _ _ _ h1 h2=>ltEd_trans h1 h2,fun _ _ _ h1 h2=>ltEd_ntrans h1 h2⟩
def encEd(c:Ed):List Value:=[.string c.fr,.string c.to]
def sortEd(l:List Ed):List Ed:=l.mergeSort fun a b => !ltEd b a
theorem sortEd_perm(l:List Ed):(sortEd l).Perm l:=List.mergeSort_perm l _
theorem sortEd_pair(l:List Ed):(sortEd l).Pairwise fun a b=>ltEd b a=false:=by
 have:=List.pairwise_mergeSort (le:=fun a b => !ltEd b a) (fun a b c h1 h2=>by
  simp only[Bool.not_eq_true']at h1 h2 ⊢
  exact swoEd.ntrans _ _ _ h2 h1) (fun a b=>by
  show(!ltEd b a || !ltEd a b)=true
  cases h1:ltEd b a with
  | false=>rfl
  | true =>
   cases h2:ltEd a b with
   | false=>rfl
   | true=>have:=swoEd.trans _ _ _ h1 h2;rw[swoEd.irrefl]at this;cases this) l
 exact this.imp fun h=>by simpa using h
theorem uniqEd:∀ {l1 l2:List Ed},l1.Perm l2→(l1.Pairwise fun a b=>ltEd b a=false)→(l2.Pairwise fun a b=>ltEd b a=false)→l1=l2:=by
 intro l1
 induction l1 with
 | nil=>intro l2 h _ _;exact(h.symm.eq_nil).symm
 | cons a r ih =>
  intro l2 h h1 h2
  cases l2 with
  | nil=>exact absurd h.eq_nil (by simp)
  | cons b s =>
   have hab:a=b:=by
    have ha:a∈b::s:=h.mem_iff.1 (by simp)
    have hb:b∈a::r:=h.mem_iff.2 (by simp)
    rcases List.mem_cons.1 ha with e | ha
    ·exact e
    ·rcases List.mem_cons.1 hb with e | hb
     ·exact e.symm
     ·have x1:=(List.pairwise_cons.1 h1).1 b hb
      have x2:=(List.pairwise_cons.1 h2).1 a ha
      exact ltEd_tri x2 x1
   subst hab
   rw[ih (List.perm_cons a |>.1 h) (List.pairwise_cons.1 h1).2 (List.pairwise_cons.1 h2).2]
theorem ed_cells{l:List Ed}{j:Nat}(hj:j<l.length * 2):∃ c x v,l[j / 2]? = some c∧c.enc[j % 2]? = some x∧((l.map Ed.enc).flatten)[j]? = some x∧(encEd c)[j % 2]? = some v∧∀ (P:Program) (G:Gh) (a:List Nat) u,RV P G a x u→u=v:=by
 have hi:j / 2<l.length:=by omega
 have hk:j % 2<2:=by omega
 refine⟨l[j / 2],(l[j / 2]).enc[j % 2]'(by rw[ed_len];exact hk),(encEd l[j / 2])[j % 2]'(by simpa[encEd]using hk),List.getElem?_eq_getElem hi,List.getElem?_eq_getElem _,?_,List.getElem?_eq_getElem _,fun P G a u hu=>?_⟩
 ·have key:∀ (l:List Ed) (i k:Nat) (hi:i<l.length) (hk:k<2),((l.map Ed.enc).flatten)[i * 2+k]? = some ((l[i]).enc[k]'(by rw[ed_len];exact hk)):=by
   intro l
   induction l with
   | nil=>intro i k hi;simp at hi
   | cons c r ih =>
    intro i k hi hk
    rw[List.map_cons,List.flatten_cons]
    cases i with
    | zero =>
     rw[List.getElem?_append_left (by rw[ed_len];omega),Nat.zero_mul,Nat.zero_add]
     exact List.getElem?_eq_getElem _
    | succ i =>
     rw[List.getElem?_append_right (by rw[ed_len];omega),ed_len,show(i+1) * 2+k - 2=i * 2+k by omega]
     exact ih i k (by simpa using hi) hk
  have e:j=j / 2 * 2+j % 2:=by omega
  have:=key l (j / 2) (j % 2) hi hk
  rw[←e]at this
  exact this
 ·generalize hc:l[j / 2]=c at hu ⊢
  have key:∀ (m:Nat) (x:V) (v:Value),c.enc[m]? = some x→(encEd c)[m]? = some v→RV P G a x u→u=v:=by
   intro m x v hx hv hr
   match m with
   | 0=>simp[Ed.enc]at hx;simp[encEd]at hv;subst hx hv;cases hr;rfl
   | 1=>simp[Ed.enc]at hx;simp[encEd]at hv;subst hx hv;cases hr;rfl
   | m+2=>simp[Ed.enc]at hx
  exact key (j % 2) _ _ (List.getElem?_eq_getElem _) (List.getElem?_eq_getElem _) hu
theorem get!_list{l:List Ed}{i:Nat}{c:Ed}(h:l[i]? = some c):l.toArray[i]! = c:=by
 obtain⟨hi,e⟩:=List.getElem?_eq_some_iff.1 h
 rw[getElem!_pos l.toArray i (by simpa using hi)]
 simpa using e
theorem getV!{l:List Value}{i:Nat}{c:Value}(h:l[i]? = some c):l[i]! = c:=by
 obtain⟨hi,e⟩:=List.getElem?_eq_some_iff.1 h
 rw[getElem!_pos l i hi,e]
theorem flatEd{l:List Ed}{j:Nat}{c:Ed}{v:Value}(hj:j<l.length * 2)(h1:l[j / 2]? = some c)(h2:(encEd c)[j % 2]? = some v):(flatK encEd 2 l.toArray)[j]! = v:=by
 rw[get_flatK encEd 2 l.toArray j (by simpa using hj),get!_list h1,getV! h2]
noncomputable def sdT:TypeInfo:=(Tryz.prog.info? 32).get (by kernel_rfl)
noncomputable def sdE:TypeInfo:=(Tryz.prog.info? 38).get (by kernel_rfl)
theorem kindEd:∀ n,2≤n→Lib.swapperK n sdE 25=Lib.swapperK 2 sdE 25:=by
 intro n hn
 unfold Lib.swapperK
 have h0:(n == 0)=false:=by simp;omega
 have h1:(n == 1)=false:=by simp;omega
 rw[h0,h1]
 rfl
theorem SortEdges{h:List VObj}{a:List Nat}{id k gen o:Nat}{l:List Ed}{K:Cont}(hid:h[id]? = some (.vec k gen 38 (l.map Ed.enc).flatten))(ho:h[o]? = some (.cells [.vec id k gen l.length 38]))(hl:1≤l.length)
  (hK:K (.tuple []) (h.set id (.vec k gen 38 ((sortEd l).map Ed.enc).flatten)) a) :
  VCalls (envV 32) 43 [.iface 32 (.vec id k gen l.length 38),.func 44 [.ptr o 0]] h a K:=by
 intro G w0 w vals hr ha
 obtain⟨v,vs,rfl,hv,ha⟩:=ha.cons
 obtain⟨v2,vs,rfl,hv2,ha⟩:=ha.cons
 rw[ha.nil]
 have hce:Tryz.prog.cellsOf 38=2:=by kernel_rfl
 obtain⟨hak,hgg,b,hi,hρ,hch,hcells⟩:=hr.vs.at_ _ _ _ _ _ hid
 cases hv with
 | iface _ _ x hx =>
 cases hx with
 | vec _ _ _ _ _ b' off cap hvv h1 h2 =>
 cases hv2 with
 | func _ _ cs f1 f2 =>
 obtain⟨n,q1,q2,q3⟩:=hvv
 rw[hak]at q1
 cases q1
 obtain⟨b1,hi1,q4,q5,q6,q7,q8⟩:=q3 rfl
 rw[hρ]at q4
 cases q4
 subst q7 q8
 rw[show(envV 32).P=Tryz.prog from rfl,hce]at q5
 have hcsl:((l.map Ed.enc).flatten).length=l.length * 2:=by
  rw[flatten_len (c:=2)]
  ·rw[List.length_map]
  ·intro i el hi
   rw[List.getElem?_map]at hi
   cases hl:l[i]? with
   | none=>rw[hl]at hi;cases hi
   | some c=>rw[hl]at hi;cases hi;rfl
 have hhi:0<hi:=by omega
 obtain⟨⟨c,t,hb,hcz⟩,hloose,hFn,hw0⟩:=hr.reg k b 0 hi hρ hhi
 have hblk:b<w.heap.size:=(Array.getElem?_eq_some_iff.1 hb).1
 obtain⟨Bs,hφ,ce,te,hB,hBz,hBv⟩:=hr.obj o _ ho
 obtain⟨sv,hsv,hsr⟩:=hBv 0 _ rfl
 have hcs1:cs.size=1:=by simpa using f1.symm
 obtain⟨cp,rfl⟩:∃ cp,cs = #[cp]:=by
  obtain⟨l'⟩:=cs
  obtain⟨cp,rfl⟩:=List.length_eq_one_iff.1 (show l'.length=1 by simpa using hcs1)
  exact⟨cp,rfl⟩
 have hptr:=f2 0 _ cp rfl rfl
 cases hptr with
 | ptr _ _ B' hB' =>
 rw[hφ]at hB'
 cases hB'
 have hBne:Bs≠b:=by
  rintro rfl
  have:=hloose o hφ _ ho
  simp[VObj.looseAt]at this
 have hBlt:Bs<w.heap.size:=(Array.getElem?_eq_some_iff.1 hB).1
 have hsve:sv = .slice (some ⟨b,0,none⟩) l.length cap:=by
  cases hsr with
  | vec _ _ _ _ _ b2 off2 cap2 hv2 _ _ =>
  obtain⟨n2,r1,r2,r3⟩:=hv2
  rw[hak]at r1
  cases r1
  obtain⟨b3,hi3,r4,r5,r6,r7,r8⟩:=r3 rfl
  rw[hρ]at r4
  cases r4
  subst r7 r8
  rw[show(envV 32).P=Tryz.prog from rfl,hce]at r5
  have:cap2=cap:=by omega
  rw[this]
 subst hsve
 have hBs:w.cell? ⟨Bs,0,none⟩=some (.slice (some ⟨b,0,none⟩) l.length cap):=by
  simp only[World.cell?,hB]
  simpa using hsv
 have hH:HoldsK encEd 2 w b 0 l.toArray:=by
  intro j hj
  rw[size_flatK]at hj
  have hj':j<l.length * 2:=by simpa using hj
  obtain⟨c1,x1,v1,e1,e2,e3,e4,e5⟩:=ed_cells hj'
  obtain⟨u,u1,u2,u3⟩:=hcells j x1 e3
  rw[flatEd hj' e1 e4,Nat.zero_add]
  refine⟨by rw[u1,e5 _ _ _ _ u2];rfl,?_⟩
  simp[World.frozen?,hb]
 have hlen:(l.toArray:Array Ed).size=l.length:=by simp
 by_cases h1l:l.length=1
 ·have hso:sortEd l=l:=by
   obtain⟨c0,hc0⟩:=List.length_eq_one_iff.1 h1l
   have:=sortEd_perm l
   rw[hc0]at this ⊢
   exact List.perm_singleton.1 this
  have hset:h.set id (.vec k gen 38 ((sortEd l).map Ed.enc).flatten)=h:=by rw[hso];exact set_same hid
  rw[hset]at hK
  have hf:∃ g,Tryz.prog.funcs.findIdx? (·.name == "internal/reflectlite" ++ ".Swapper$" ++ toString (Lib.swapperK l.length sdE 25))=some g:=by
   rw[h1l]
   exact Option.isSome_iff_exists.1 (by kernel_rfl)
  obtain⟨g,hf⟩:=hf
  refine(Any.sort_Slice_tiny Tryz.laysGg6 32 38 sdT sdE (by kernel_rfl) (by kernel_rfl) (by kernel_rfl) (by kernel_rfl) 25 (fun _=>by kernel_rfl) (some ⟨b,0,none⟩) l.length cap (by omega) g hf (.func 44) #[] #[.pointer (some ⟨Bs,0,none⟩)] w).mono ?_
  rintro e w' ⟨rfl,os,rfl⟩
  refine .inl ⟨_,rfl,_,_,_,G,hK,Ext.refl _ _,hr.belowW ⟨rfl,rfl,rfl,?_,fun i hi=>?_⟩,.tuple _ _ rfl (by simp)⟩
  ·show w.heap.size≤(w.heap++os).size
   simp
  ·show(w.heap++os)[i]? = w.heap[i]?
   rw[Array.getElem?_append_left hi]
 ·have hless:LessReadsK Tryz.prog 44 #[.pointer (some ⟨Bs,0,none⟩)] encEd 2 ltEd b 0 l.toArray.size w:=by
   intro m os dk hs i j hi hj
   have e:sortWorldK encEd 2 w b 0 m dk os=putRowK encEd 2 (grow (Sort.ahead w m) os) b 0 dk:=by
    unfold sortWorldK;rw[putRowK_grow _ _ (Sort.ahead w m) _ b 0 _ hblk]
   have hHg:HoldsK encEd 2 (grow (Sort.ahead w m) os) b 0 l.toArray:=holdsK_grow _ _ _ _ b 0 _ hblk (holdsK_ahead _ _ _ _ _ _ _ hH)
   refine Eless b 0 cap Bs l.length _ (fun t=>dk[t]!) ?_ (fun t ht=>?_) i j (by omega) (by omega) (by omega)
   ·rw[e,cell?_putRowK_other _ _ _ b 0 dk _ (by exact hBne),cell?_grow _ _ _ (by exact hBlt)];exact hBs
   ·rw[e]
    have hq:=holdsK_putRowK _ _ _ b 0 l.toArray dk hHg hs
    exact⟨(hq.cell (i:=t) (c:=0) (by omega) (by omega)).1,(hq.cell (i:=t) (c:=1) (by omega) (by omega)).1⟩
  refine(Any.sort_Slice_cells_sorted Tryz.laysGg6 32 38 sdT sdE (by kernel_rfl) (by kernel_rfl) (by kernel_rfl) (by kernel_rfl) 25 (fun _=>by kernel_rfl) encEd 2 (fun _=>rfl) (by kernel_rfl) (fun _=>by kernel_rfl)
   (fun x v hv=>by simp[encEd]at hv;rcases hv with rfl | rfl <;> rfl) ltEd swoEd 44 _
   (enters_of Tryz.func44 (by kernel_rfl) rfl) b 0 cap l.toArray (by omega) (by omega) 126 (by rw[kindEd _ (by omega)];kernel_rfl) false
   (fun args W=>run_callFunc_extern Tryz.func126 (by kernel_rfl) (by kernel_rfl) (by kernel_rfl) (e:=Extern.ReflectliteSwapper.swap false) (by kernel_rfl) args W) w hless hH hblk).mono ?_
  rintro e w' ⟨rfl,d',n,os,hpm,hso,rfl⟩
  obtain⟨p1,p2,p3⟩:=hpm
  have hd':d'.toList=sortEd l:=by
   refine(uniqEd (sortEd_perm l |>.trans ?_) (sortEd_pair l) ?_).symm
   ·have t1:List.take d'.size l=l:=List.take_of_length_le (by omega)
    have:=p3.symm
    simp only[hlen]at this p1
    rw[←p1]at this
    simpa[t1]using this
   ·rw[List.pairwise_iff_getElem]
    intro i j hi hj hij
    have:=hso i j (Nat.zero_le _) hij (by simp at hj;omega)
    rw[getElem!_pos d' i (by simpa using hi),getElem!_pos d' j (by simpa using hj)]at this
    simpa using this
  have hsl:(sortEd l).length=l.length:=(sortEd_perm l).length_eq
  have hdd:d'=(sortEd l).toArray:=by rw[←hd']
  subst hdd
  have hel:∀ c1∈l,∀ (m:Nat) (x:V) (v:Value),m<2→c1.enc[m]? = some x→(encEd c1)[m]? = some v→RV Tryz.prog G a x v:=by
   intro c1 hc1 m x v hm hx hv
   obtain⟨i,hi,rfl⟩:=List.getElem_of_mem hc1
   have hj:i * 2+m<l.length * 2:=by omega
   obtain⟨c2,x1,v1,e1,e2,e3,e4,e5⟩:=ed_cells hj
   have hd1:(i * 2+m) / 2=i:=by omega
   have hd2:(i * 2+m) % 2=m:=by omega
   rw[hd1,List.getElem?_eq_getElem hi]at e1
   cases e1
   rw[hd2]at e2 e4
   rw[hx]at e2;cases e2
   rw[hv]at e4;cases e4
   obtain⟨u,u1,u2,u3⟩:=hcells _ _ e3
   have:=e5 _ _ _ _ u2
   subst this
   exact u2
  have hcl':(((sortEd l).map Ed.enc).flatten).length=l.length * 2:=by
   rw[flatten_len (c:=2),List.length_map,hsl]
   intro i el hi
   rw[List.getElem?_map]at hi
   cases hl:(sortEd l)[i]? with
   | none=>rw[hl]at hi;cases hi
   | some c=>rw[hl]at hi;cases hi;rfl
  obtain⟨hx,hr'⟩:=hr.vecStep2 (gen':=gen) (cs':=((sortEd l).map Ed.enc).flatten) (w':=putRowK encEd 2 (Sort.ahead w n) b 0 (sortEd l).toArray) (c':=putCells _root_.id 0 (flatK encEd 2 (sortEd l).toArray) c) hid hρ hhi (Nat.le_refl _) hb (by rw[hcl'];omega) (fun j x hj=>by
   have hjl:j<(sortEd l).length * 2:=by
    have:=(List.getElem?_eq_some_iff.1 hj).1
    rw[hcl']at this;rw[hsl];exact this
   obtain⟨c2,x1,v1,e1,e2,e3,e4,e5⟩:=ed_cells hjl
   rw[hj]at e3;cases e3
   have hm2:c2∈l:=(sortEd_perm l).mem_iff.1 (List.mem_of_getElem? e1)
   refine⟨v1,?_,hel c2 hm2 _ _ _ (by omega) e2 e4,?_⟩
   ·have hjc:j<c.size:=by rw[hsl]at hjl;omega
    simp only[putCells,Array.getElem?_mapIdx,Array.getElem?_eq_getElem hjc,Option.map_some]
    rw[if_pos ⟨Nat.zero_le _,by simpa using hjl⟩,Nat.sub_zero,flatEd hjl e1 e4]
    rfl
   ·have:∀ v∈encEd c2,v.oneCell'=true:=fun v hv=>by simp[encEd]at hv;rcases hv with rfl | rfl <;> rfl
    exact this _ (List.mem_of_getElem? e4)) rfl rfl rfl (by simp[putRowK]) (fun k' hk'=>by
    simp only[putRowK,putRow,mapBlock,Array.getElem?_modify]
    rw[if_neg (Ne.symm hk')];rfl) (by
    simp only[putRowK,putRow,mapBlock,Array.getElem?_modify]
    rw[if_pos trivial,show(Sort.ahead w n).heap=w.heap from rfl,hb];rfl) (by simp[putCells]) (fun j hj=>by
    simp only[putCells,Array.getElem?_mapIdx]
    cases hcj:c[j]? with
    | none=>rfl
    | some y =>
     simp only[Option.map_some]
     rw[if_neg]
     intro h
     have:=h.2
     simp only[size_flatK,List.size_toArray,hsl]at this
     omega)
  have hset:a.set k gen=a:=set_same hak
  rw[hset]at hx hr'
  refine .inl ⟨_,rfl,_,_,_,G,hK,hx,hr'.belowW ⟨rfl,rfl,rfl,?_,fun i hi=>?_⟩,.tuple _ _ rfl (by simp)⟩
  ·simp
  ·exact heap_grow_old _ _ hi
end Go.Proofs.YtighfcpaplmaiaaGreatDoor
set_option maxRecDepth 20000
namespace Go.Vg
theorem accV.shape{e n0 m0:Nat}{z:List VObj}{y:List Nat}{v:V}{l:List (List V)}(h:accV e n0 m0 z y v l):v.some? = true∧cellsV v=[v]∧v.cell=true:=by
 rcases h with⟨_,e0,rfl⟩ | ⟨_,j,k,gen,rfl,_,_⟩
 ·exact⟨rfl,rfl,rfl⟩
 ·exact⟨rfl,rfl,rfl⟩
def vecE(P:Program)(r:V):Cont:=fun v h' _=>share v=r∨∃ id k gen len e cs,v = .vec id k gen len e∧h'[id]? = some (.vec k gen e cs)∧0<cs.length∧elemOK P e=true∧len * P.cellsOf e≤cs.length∧sl e (chunk (P.cellsOf e) len cs)=r
theorem vpure_vecE{E:Env}{f:FuncId}{args:List V}{r:V}(hp:pureL args=true)(hr:r.pure=true)(h:VCalls E f args [] [] (vecE E.P r))(hal:E.alive=E:=by exact rfl):VPure E f args r:=by
 refine⟨hp,hr,?_⟩
 rw[hal]
 intro G w0 w vals hrel ha
 refine(h G w0 w vals hrel ha).mono fun e' w' hg=>?_
 rcases hg with⟨val,he,v,heap',arr',G',hv,hx,hr',hrv⟩ | hd
 ·rcases hv with rfl | ⟨id,k,gen,len,e,cs,rfl,h1,h2,h3,h4,rfl⟩
  ·exact .inl ⟨val,he,_,_,_,G',rfl,hx,hr',hrv.share⟩
  ·obtain⟨G'',b,hi,g1,g2,g3,g4,g5⟩:=hr'.freezeV h1 h2
   exact .inl ⟨val,he,_,_,_,G'',rfl,hx.trans g3,g4,hrv.thawV g2 g1 h3 h4 g5⟩
 ·exact .inr hd
def dedA(a:List Ed)(x:Ed):List Ed:=if a.getLast? = some x then a else a++[x]
def dedE(l:List Ed):List Ed:=l.foldl dedA []
theorem dedE_snoc(l:List Ed)(x:Ed):dedE (l++[x])=dedA (dedE l) x:=by simp[dedE]
theorem dedA_le(a:List Ed)(x:Ed):(dedA a x).length≤a.length+1:=by
 unfold dedA;split <;> simp
theorem dedF_le:∀ (l a:List Ed),(l.foldl dedA a).length≤a.length+l.length
 | [],a=>by simp
 | x::r,a=>by
  have h1:=dedF_le r (dedA a x)
  have h2:=dedA_le a x
  simp only[List.foldl_cons,List.length_cons];omega
theorem dedE_le(l:List Ed):(dedE l).length≤l.length:=by have:=dedF_le l [];simpa[dedE]using this
def blkE(S q:List Ed):List Ed:=dedE q++S.drop (dedE q).length
theorem flatEd_len:∀ l:List Ed,((l.map Ed.enc).flatten).length=l.length * 2
 | []=>rfl
 | a::r=>by rw[List.map_cons,List.flatten_cons,List.length_append,flatEd_len r,show a.enc.length=2 from rfl,List.length_cons];omega
theorem takeEd:∀ (l:List Ed) (i:Nat),((l.map Ed.enc).flatten).take (i * 2)=((l.take i).map Ed.enc).flatten
 | [],i=>by simp
 | x::r,0=>by simp
 | x::r,i+1=>by
  have e:(((x::r).map Ed.enc).flatten) = .str x.fr :: .str x.to::((r.map Ed.enc).flatten):=rfl
  rw[e,show(i+1) * 2=i * 2+1+1 by omega,List.take_succ_cons,List.take_succ_cons,takeEd r i]
  rfl
theorem dedE_ne{q:List Ed}(h:q≠[]):dedE q≠[]:=by
 rw[←List.dropLast_concat_getLast h,dedE_snoc]
 unfold dedA
 split
 ·rename_i h1
  intro h2;rw[h2]at h1;cases h1
 ·simp
theorem chunkEd:∀ (l s:List Ed),chunk 2 l.length (((l++s).map Ed.enc).flatten)=l.map Ed.enc
 | [],s=>by cases s <;> rfl
 | x::r,s=>by
  have:=chunkEd r s
  have e:(((x::r++s).map Ed.enc).flatten)=x.enc++((r++s).map Ed.enc).flatten:=rfl
  rw[List.length_cons,chunk,e,List.take_left' (by rfl),List.drop_left' (by rfl),this]
  rfl
theorem dropEd:∀ (l:List Ed) (i:Nat),((l.map Ed.enc).flatten).drop (i * 2)=((l.drop i).map Ed.enc).flatten
 | [],i=>by simp
 | x::r,0=>by simp
 | x::r,i+1=>by
  have:=dropEd r i
  rw[List.map_cons,List.flatten_cons,show(i+1) * 2=2+i * 2 by omega,←List.drop_drop,List.drop_succ_cons,←this]
  rfl
theorem blk_put{S q:List Ed}(x:Ed)(h:dedE (q++[x])=dedE q++[x]):((blkE S q).map Ed.enc).flatten.take ((dedE q).length * 2)++[.str x.fr,.str x.to]++((blkE S q).map Ed.enc).flatten.drop ((dedE q).length * 2+2)=((blkE S (q++[x])).map Ed.enc).flatten:=by
 rw[takeEd,show(dedE q).length * 2+2=((dedE q).length+1) * 2 by omega,dropEd]
 unfold blkE
 rw[h,List.take_left' rfl,←List.drop_drop,List.drop_left' rfl,List.drop_drop]
 simp[Ed.enc]
theorem blkE_drop{S q r:List Ed}{x:Ed}(hx:S=q++x::r):(blkE S q).drop q.length=x::r:=by
 have h:=dedE_le q
 unfold blkE
 rw[List.drop_append,List.drop_of_length_le h,List.nil_append,List.drop_drop,show(dedE q).length+(q.length - (dedE q).length)=q.length by omega,hx]
 simp
theorem blkE_nil(S:List Ed):blkE S []=S:=by simp[blkE,dedE]
end Go.Vg
namespace Go.Proofs.YtighfcpaplmaiaaGreatDoor
open Go Go.Vg Go.Proofs
def edRow(u:List Un)(un:Nat)(l:List Rw)(k:Nat):List Ed:=if(rwAt l k).kind=20∨(rwAt l k).kind=21 then match arnd l k with
 | some f=>(tgtU u un k (rwAt l k).kind (rwAt l k).text).map (Ed.mk f)
 | none=>[]else []
def edRows(u:List Un)(un:Nat)(l:List Rw):Nat→List Ed
 | 0=>[]
 | k+1=>edRows u un l k++edRow u un l k
def rwsU(u:List Un)(i:Nat):List Rw:=(u[i]?.map fun x=>rowsN x.tree (-1) 0).getD []
def edAll(u:List Un):Nat→List Ed
 | 0=>[]
 | i+1=>edAll u i++edRows u i (rwsU u i) (rwsU u i).length
theorem edRows_le(u:List Un)(un:Nat)(l:List Rw){i j:Nat}(h:i≤j):(edRows u un l i).length≤(edRows u un l j).length:=by
 induction h with
 | refl=>exact Nat.le_refl _
 | step _ ih=>rw[edRows,List.length_append];omega
theorem edAll_le(u:List Un){i j:Nat}(h:i≤j):(edAll u i).length≤(edAll u j).length:=by
 induction h with
 | refl=>exact Nat.le_refl _
 | step _ ih=>rw[edAll,List.length_append];omega
theorem elem_ed:elemOK Tryz.prog 38=true:=by kernel_rfl
theorem bytes_ed:(envV 32).P.bytesOf 38=32:=by
 rw[show(envV 32).P=Tryz.prog from rfl];kernel_rfl
theorem ed_lens{l:List Ed}:∀ el∈l.map Ed.enc,el.length=(envV 32).P.cellsOf 38:=by
 rw[show(envV 32).P.cellsOf 38=2 by rw[show(envV 32).P=Tryz.prog from rfl];kernel_rfl]
 intro el h
 obtain⟨c,_,rfl⟩:=List.mem_map.1 h
 rfl
theorem SortNilEd{o:Own}{e:TypeId}(f:Nat)(caps:List V)(h:List VObj)(a:List Nat)(K:Cont)(hK:K (.tuple []) h a):VCalls (envV 32) 43 [.iface 32 (.slice o e []),.func f caps] h a K:=by
 intro G w0 w vals hr ha
 obtain⟨v,vs,rfl,hv,ha⟩:=ha.cons
 obtain⟨v2,vs,rfl,hv2,ha⟩:=ha.cons
 rw[ha.nil]
 cases hv with
 | iface _ _ x hx =>
 cases hv2 with
 | func _ _ cs h1 h2 =>
 have key:∀ (p:Option Addr) (c:Nat),Calls (envV 32).P 43 #[.iface 32 (.slice p 0 c),.func (.func f) #[] cs] w fun e w'=>Goes (envV 32) G a w0 K e w':=fun p c=>by
  have hf:∃ g,Tryz.prog.funcs.findIdx? (·.name == "internal/reflectlite" ++ ".Swapper$" ++ toString (Lib.swapperK 0 sdE 25))=some g:=Option.isSome_iff_exists.1 (by kernel_rfl)
  obtain⟨g,hf⟩:=hf
  refine(Any.sort_Slice_tiny Tryz.laysGg6 32 38 sdT sdE (by kernel_rfl) (by kernel_rfl) (by kernel_rfl) (by kernel_rfl) 25 (fun _=>by kernel_rfl) p 0 c (by omega) g hf (.func f) #[] cs w).mono ?_
  rintro e w' ⟨rfl,os,rfl⟩
  refine .inl ⟨_,rfl,_,_,_,G,hK,Ext.refl _ _,hr.belowW ⟨rfl,rfl,rfl,?_,fun i hi=>?_⟩,.tuple _ _ rfl (by simp)⟩
  ·show w.heap.size≤(w.heap++os).size
   simp
  ·show(w.heap++os)[i]? = w.heap[i]?
   rw[Array.getElem?_append_left hi]
 cases hx with
 | snil=>exact key none 0
 | sodd _ b c=>exact key b c
 | slice _ _ _ b off cap=>exact key _ cap
def graphU(u:List Un):List Ed:=if(chkU u).1=0 then dedE (sortEd (edAll u u.length))else []
theorem KGraph(u:List Un)(hu:fitU u)(hgp:gapsU u)(hE:(edAll u u.length).length≤1000000):VPure env 15 [sl 70 (u.map Un.enc)] (sl 38 ((graphU u).map Ed.enc)):=by
 refine VPure.ofV (tv:=32) ?_
 refine vpure_vecE (by simp -implicitDefEqProofs only[go_sem];exact uns_pure _) (by simp -implicitDefEqProofs only[go_sem];exact eds_pure _) ?_
 refine vcalls_vc (fn:=Tryz.f15) Tryz.func15 rfl (by rw[Tryz.ntmps15];simp) ?_
 simp -implicitDefEqProofs only[go_sem,Tryz.f15]
 refine VCalls.toV ((TCheck u hu hgp).calls (by simp -implicitDefEqProofs only[go_sem]) ?_)
 simp -implicitDefEqProofs only[go_sem,encE]
 refine⟨fun h0=>?_,fun h0 _ _=>?_⟩
 ·have hc0:¬ (chkU u).1=0:=by simpa using h0
  rw[graphU,if_neg hc0]
  exact .inl rfl
 have hc0:(chkU u).1=0:=by simpa using h0
 refine snd_list (β:=V×List VObj×List Nat) u (fun pre b=>⟨[(26,.int .i64 pre.length),(25,.int .i64 u.length),(24,sl 70 (u.map Un.enc)),(5,.ptr 1 0),(2,.slice .nil 0 []),(0,sl 70 (u.map Un.enc))],[.dead,.cells [b.1]]++b.2.1,b.2.2⟩)
  (fun pre post b=>accV 38 2 0 b.2.1 b.2.2 b.1 ((edAll u pre.length).map Ed.enc)) (.slice .nil 0 [],[],[]) ?_ accV.nil ?_ ?_
 ·simp -implicitDefEqProofs only[go_sem]
  rfl
 ·rintro⟨v,z,y⟩ hacc
  simp only at hacc ⊢
  have hgr:graphU u=dedE (sortEd (edAll u u.length)):=by rw[graphU,if_pos hc0]
  generalize edAll u u.length=L at hgr hE hacc
  rw[hgr]
  simp -implicitDefEqProofs only[go_sem,ap_get,ap_get0,ap_set,ap_set0,List.getElem?_cons_succ,List.set_cons_succ,List.cons_append]
  rcases hacc with⟨hnil,e0,rfl⟩ | ⟨hne,j,k,gen,rfl,h3,h4⟩
  ·have hL:L=[]:=by simpa using hnil
   subst hL
   refine SortNilEd _ _ _ _ _ ?_
   simp -implicitDefEqProofs only[go_sem,ap_get,ap_get0,ap_set,ap_set0,List.getElem?_cons_succ,List.set_cons_succ,List.cons_append]
   intro _
   refine snd_list (β:=Unit) ([]:List Ed) (fun q b=>⟨[(87,.int .i64 q.length),(86,.int .i64 0),(85,.slice .nil e0 []),(14,.int .i64 0),(5,.ptr 1 0)],[.dead,.cells [.slice .nil e0 []]]++z,y⟩)
    (fun q post b=>True) () ?_ trivial ?_ ?_
   ·simp -implicitDefEqProofs only[go_sem,ap_get,ap_get0,ap_set,ap_set0,List.getElem?_cons_succ,List.set_cons_succ,List.cons_append]
    exact⟨rfl,rfl⟩
   ·intro _ _
    simp -implicitDefEqProofs only[go_sem,ap_get,ap_get0,ap_set,ap_set0,List.getElem?_cons_succ,List.set_cons_succ,List.cons_append]
    refine⟨fun h=>absurd h (by simp),fun _=>?_⟩
    rw[show dedE (sortEd [])=[]by simp[sortEd,dedE]]
    exact .inl rfl
   ·rintro q x r b hx _
    exact absurd hx (by simp)
  ·have hL1:1≤L.length:=by
    cases L with
    | nil=>exact absurd rfl hne
    | cons=>simp
   have hLm:(L.map Ed.enc).length=L.length:=List.length_map ..
   rw[hLm]
   clear hLm hne
   obtain⟨i,hi⟩:∃ i,i=2+j:=⟨_,rfl⟩
   have hij:i=j+1+1:=by omega
   rw[←hi]
   subst hij
   rw[Nat.zero_add]at h3 ⊢
   refine SortEdges (h:=_) (id:=j+1+1) (k:=k) (gen:=gen) (o:=1) (l:=L) h3 rfl hL1 ?_
   generalize hS:sortEd L=S
   have hSl:S.length=L.length:=hS ▸ (sortEd_perm L).length_eq
   have hjz:=lt_of_get h3
   simp -implicitDefEqProofs only[go_sem,ap_get,ap_get0,ap_set,ap_set0,List.getElem?_cons_succ,List.set_cons_succ,List.cons_append]
   intro _
   refine snd_list (β:=List VObj) S (fun q ex=>⟨[(87,.int .i64 q.length),(86,.int .i64 L.length),(85,.vec (j+1+1) k gen L.length 38),(14,.int .i64 (dedE q).length),(5,.ptr 1 0)],[.dead,.cells [.vec (j+1+1) k gen L.length 38]]++(z.set j (.vec k gen 38 ((blkE S q).map Ed.enc).flatten)++ex),y⟩)
    (fun q post b=>True) [] ?_ trivial ?_ ?_
   ·simp -implicitDefEqProofs only[go_sem,ap_get,ap_get0,ap_set,ap_set0,List.getElem?_cons_succ,List.set_cons_succ,List.cons_append,blkE_nil,List.append_nil]
    exact⟨rfl,rfl⟩
   ·intro ex _
    simp -implicitDefEqProofs only[go_sem,ap_get,ap_get0,ap_set,ap_set0,List.getElem?_cons_succ,List.set_cons_succ,List.cons_append]
    refine⟨fun h=>absurd h (by omega),fun _=>?_⟩
    have hds:=dedE_le S
    refine⟨⟨by omega,h4⟩,?_⟩
    unfold vecE
    right
    have hget:∀ (X:VObj) (ex:List VObj),(z.set j X++ex)[j]? = some X:=fun X ex=>by rw[List.getElem?_append_left (by simpa using hjz)];simp[hjz]
    have hbl:blkE S S=dedE S++S.drop (dedE S).length:=rfl
    have hfl:∀ l:List Ed,((l.map Ed.enc).flatten).length=l.length * 2:=fun l=>by
     induction l with
     | nil=>rfl
     | cons a r ih=>rw[List.map_cons,List.flatten_cons,List.length_append,ih,ed_len,List.length_cons];omega
    have hce:(envV 32).P.cellsOf 38=2:=by rw[show(envV 32).P=Tryz.prog from rfl];kernel_rfl
    have hce':Tryz.prog.cellsOf 38=2:=by kernel_rfl
    refine⟨j+1+1,k,gen,(dedE S).length,38,((blkE S S).map Ed.enc).flatten,by rw[Int.toNat_natCast],?_,?_,elem_ed,?_,?_⟩
    ·show(z.set j _++ex)[j]? = _
     exact hget _ ex
    ·rw[hfl,hbl,List.length_append,List.length_drop];omega
    ·rw[hce',hfl,hbl,List.length_append];omega
    ·rw[hce',hbl,chunkEd]
   ·rintro q x r ex hx _
    have hpq:S.length=q.length+1+r.length:=by rw[hx];simp;omega
    have hlt:((q.length:Int)<L.length)=True:=by simp;omega
    have hw:IntKind.i64.wrap (↑q.length+1)=↑(q.length+1):=wrap_next (by omega)
    have hdq:=dedE_le q
    have hget:∀ (X:VObj) (ex:List VObj),(z.set j X++ex)[j]? = some X:=fun X ex=>by rw[List.getElem?_append_left (by simpa using hjz)];simp[hjz]
    have hdr:(((blkE S q).map Ed.enc).flatten).drop (q.length * 2) = .str x.fr :: .str x.to::(r.map Ed.enc).flatten:=by
     rw[dropEd,blkE_drop hx];rfl
    simp -implicitDefEqProofs only[go_sem,ap_get,ap_get0,ap_set,ap_set0,List.getElem?_cons_succ,List.set_cons_succ,List.cons_append,hlt,hget,hdr,Int.toNat_natCast]
    have hset:∀ (X Y:VObj) (e:List VObj),(z.set j X++e).set j Y=z.set j Y++e:=fun X Y e=>by
     rw[List.set_append_left _ _ (by simpa using hjz),List.set_set]
    have hfl:=flatEd_len
    by_cases hq:q=[]
    ·subst hq
     have hd0:(dedE []).length=0:=rfl
     refine snd_draw (cs:=[]) mixed (by kernel_rfl) ?_
     simp -implicitDefEqProofs only[go_sem,ap_get,ap_get0,ap_set,ap_set0,List.getElem?_cons_succ,List.set_cons_succ,List.cons_append,hlt,hget,hdr,Int.toNat_natCast,List.length_nil,hd0]
     have hb:V.str x.fr::V.str x.to::List.drop 2 (List.map Ed.enc (blkE S [])).flatten=(List.map Ed.enc (blkE S [x])).flatten:=blk_put (S:=S) (q:=[]) x rfl
     refine⟨fun h=>absurd rfl h,fun _=>⟨by omega,?_,ex++[.cells [.str x.fr,.str x.to]],?_,?_,Or.inl (by simp)⟩⟩
     ·rw[blkE_nil,hfl];omega
     ·rfl
     ·rw[hset,hb]
      exact tellH_refl
    ·obtain⟨dp,la,hdl⟩:∃ dp la,dedE q=dp++[la]:=⟨_,_,(List.dropLast_concat_getLast (dedE_ne hq)).symm⟩
     have hq0:((q.length:Int)=0)=False:=by simpa using hq
     have hdl1:(dedE q).length=dp.length+1:=by rw[hdl];simp
     have hwm:IntKind.i64.wrap (((dp.length+1:Nat):Int) - 1)=dp.length:=by rw[wrap_ok] <;> omega
     have hdm:(((blkE S q).map Ed.enc).flatten).drop (dp.length * 2) = .str la.fr :: .str la.to::((S.drop (dp.length+1)).map Ed.enc).flatten:=by
      rw[dropEd,blkE,hdl1,hdl,List.append_assoc,List.drop_left' rfl];rfl
     rw[hdl1]
     refine snd_draw (cs:=[]) mixed (by kernel_rfl) ?_
     simp -implicitDefEqProofs only[go_sem,ap_get,ap_get0,ap_set,ap_set0,List.getElem?_cons_succ,List.set_cons_succ,List.cons_append,hlt,hget,hdr,hdm,hq0,hwm,Int.toNat_natCast]
     have hfk:flatK Tryz.prog 38=some [0,0]:=by kernel_rfl
     have hd1:(dedE (q++[x]))=if la=x then dedE q else dedE q++[x]:=by
      rw[dedE_snoc,dedA,hdl];simp
     have hla:la=x↔(x.fr=la.fr∧x.to=la.to):=by
      obtain⟨a1,a2⟩:=la
      obtain⟨b1,b2⟩:=x
      simp only[Ed.mk.injEq]
      exact⟨fun h=>⟨h.1.symm,h.2.symm⟩,fun h=>⟨h.1.symm,h.2.symm⟩⟩
     refine⟨by omega,by rw[hfk];rfl,fun hne=>?_,fun heq=>?_⟩
     ·have hn:¬ la=x:=by
       rw[hla]
       rintro⟨h1,h2⟩
       rw[h1,h2]at hne
       simp at hne
      rw[if_neg hn]at hd1
      have hb:=blk_put (S:=S) (q:=q) x hd1
      rw[hdl1]at hb
      refine⟨by omega,?_,ex++[.cells [.str x.fr,.str x.to]],⟨hw,?_⟩,?_,Or.inl (by simp)⟩
      ·rw[hfl,blkE,List.length_append,List.length_drop];omega
      ·rw[hd1,List.length_append,hdl1]
       exact wrap_next (by omega)
      ·rw[hset,hb]
       exact tellH_refl
     ·have hn:la=x:=by
       rw[hla]
       have h2:=heq
       simp only[Bool.not_eq_false',Bool.and_eq_true,decide_eq_true_eq]at h2
       exact h2
      rw[if_pos hn]at hd1
      refine⟨ex++[.cells [.str x.fr,.str x.to]],⟨hw,?_⟩,?_,Or.inl (by simp)⟩
      ·rw[hd1,hdl1]
      ·rw[show blkE S (q++[x])=blkE S q by unfold blkE;rw[hd1]]
       exact tellH_refl
 ·rintro pre x post ⟨v,z,y⟩ hx hacc
  have hpl:u.length=pre.length+1+post.length:=by rw[hx];simp;omega
  have hgx:(u.map Un.enc).getD (pre.length:Int).toNat []=x.enc:=by rw[hx];simp[List.getD_eq_getElem?_getD]
  have hlt:((pre.length:Int)<u.length)=True:=by simp;omega
  have hw:IntKind.i64.wrap (↑pre.length+1)=↑(pre.length+1):=wrap_next (by omega)
  have hxm:x∈u:=by rw[hx];simp
  have hux:u[pre.length]? = some x:=by rw[hx];simp
  obtain⟨hxn,hxs⟩:=hu.2 x hxm
  simp only at hacc ⊢
  simp -implicitDefEqProofs only[go_sem,hgx,hlt,ap_get,ap_get0,ap_set,ap_set0,List.getElem?_cons_succ,List.set_cons_succ,List.cons_append]
  refine VCalls.toV ((TRows x.tree (by omega)).calls (by simp -implicitDefEqProofs only[go_sem]) ?_)
  generalize hl:rowsN x.tree (-1) 0=l
  have hll:l.length=(nodes x.tree).length:=by rw[←hl];exact rowsN_len ..
  have hro:rowsOK l:=hl ▸ rowsOK_of (by omega)
  have hrw:rwsU u pre.length=l:=by rw[rwsU,hux,←hl];rfl
  have hall:edAll u (pre.length+1)=edAll u pre.length++edRows u pre.length l l.length:=by rw[edAll,hrw]
  have hle1:=edAll_le u (show pre.length+1≤u.length by omega)
  rw[hall,List.length_append]at hle1
  have hts:∀ r∈l,r.text.size≤1000000:=fun r hr=>by
   obtain⟨i,hi,rfl⟩:=List.getElem_of_mem hr
   obtain⟨k,t,g,ks,e1,_,e3,_⟩:=row_node (n:=x.tree) (i:=i) (by rw[hl];exact hi)
   have e4:rwAt (rowsN x.tree (-1) 0) i=l[i]:=by rw[hl];simp[rwAt,List.getD_eq_getElem?_getD,hi]
   rw[e4]at e3
   rw[e3]
   exact hxs _ (List.mem_of_getElem? e1)
  simp -implicitDefEqProofs only[go_sem,hgx,hlt,ap_get,ap_get0,ap_set,ap_set0,List.getElem?_cons_succ,List.set_cons_succ,List.cons_append]
  intro _ _
  refine snd_list (β:=V×List VObj×List Nat) l (fun q b=>⟨[(37,.int .i64 q.length),(36,.int .i64 l.length),(35,sl 48 (l.map Rw.enc)),(7,sl 48 (l.map Rw.enc)),(6,.int .i64 pre.length),(26,.int .i64 pre.length),(25,.int .i64 u.length),(24,sl 70 (u.map Un.enc)),(5,.ptr 1 0),(2,.slice .nil 0 []),(0,sl 70 (u.map Un.enc))],[.dead,.cells [b.1]]++b.2.1,b.2.2⟩)
   (fun q post b=>accV 38 2 0 b.2.1 b.2.2 b.1 ((edAll u pre.length++edRows u pre.length l q.length).map Ed.enc)) (v,z,y) ?_ (by simpa[edRows]using hacc) ?_ ?_
  ·simp -implicitDefEqProofs only[go_sem]
   rfl
  ·rintro⟨v,z,y⟩ hacc
   simp only at hacc ⊢
   simp -implicitDefEqProofs only[go_sem,ap_get,ap_get0,ap_set,ap_set0,List.getElem?_cons_succ,List.set_cons_succ,List.cons_append]
   rw[←hall]at hacc
   exact⟨(v,z,y),hacc,hw,⟨tell1_rfl,tellH_refl⟩,tellA_cut0,.inl ⟨Nat.le_refl _,Nat.le_refl _⟩⟩
  ·rintro q r post2 ⟨v,z,y⟩ hx2 hacc
   have hpl2:l.length=q.length+1+post2.length:=by rw[hx2];simp;omega
   have hgx2:(l.map Rw.enc).getD (q.length:Int).toNat []=r.enc:=by rw[hx2];simp[List.getD_eq_getElem?_getD]
   have hlt2:((q.length:Int)<l.length)=True:=by simp;omega
   have hw2:IntKind.i64.wrap (↑q.length+1)=↑(q.length+1):=wrap_next (by omega)
   have hrq:rwAt l q.length=r:=by rw[hx2];simp[rwAt,List.getD_eq_getElem?_getD]
   have hle2:=edRows_le u pre.length l (show q.length+1≤l.length by omega)
   have hrow:edRows u pre.length l (q.length+1)=edRows u pre.length l q.length++edRow u pre.length l q.length:=rfl
   rw[edRows,List.length_append]at hle2
   simp only at hacc ⊢
   simp -implicitDefEqProofs only[go_sem,hgx2,hlt2,ap_get,ap_get0,ap_set,ap_set0,List.getElem?_cons_succ,List.set_cons_succ,List.cons_append,Rw.enc]
   refine⟨fun h20=>⟨fun h21=>?_,fun h21=>?_⟩,fun h20=>?_⟩
   ·have he:edRow u pre.length l q.length=[]:=by
     rw[edRow,hrq,if_neg]
     simp at h20 h21
     rintro(h | h) <;> contradiction
    rw[hrow,he,List.append_nil]
    exact⟨(v,z++[_],y),hacc.heap _,hw2,⟨tell1_rfl,tellH_refl⟩,tellA_cut0,.inl ⟨by simp,Nat.le_refl _⟩⟩
   all_goals
    have hkk:r.kind=20∨r.kind=21:=by first | exact .inr (by simpa using h21) | exact .inl (by simpa using h20)
    refine VCalls.toV ((Karound l hro q.length (by omega) hts).calls (by simp -implicitDefEqProofs only[go_sem]) ?_)
    cases har:arnd l q.length with
    | none =>
     have he:edRow u pre.length l q.length=[]:=by rw[edRow,hrq,if_pos hkk,har]
     simp -implicitDefEqProofs only[go_sem,Option.isSome_none,Option.getD_none,hgx2,hlt2,ap_get,ap_get0,ap_set,ap_set0,List.getElem?_cons_succ,List.set_cons_succ,List.cons_append,Rw.enc]
     rw[hrow,he,List.append_nil]
     exact⟨(v,z++[_],y),hacc.heap _,hw2,⟨tell1_rfl,tellH_refl⟩,tellA_cut0,.inl ⟨by simp,Nat.le_refl _⟩⟩
    | some f =>
     have he:edRow u pre.length l q.length=(tgtU u pre.length q.length r.kind r.text).map (Ed.mk f):=by rw[edRow,hrq,if_pos hkk,har]
     simp -implicitDefEqProofs only[go_sem,Option.isSome_some,Option.getD_some,hgx2,hlt2,ap_get,ap_get0,ap_set,ap_set0,List.getElem?_cons_succ,List.set_cons_succ,List.cons_append,Rw.enc]
     try refine VCalls.toV ((Ktargets u hu hgp pre.length q.length r.kind ⟨by omega,by omega⟩ r.text).calls (by simp -implicitDefEqProofs only[go_sem]) ?_)
     generalize tgtU u pre.length q.length r.kind r.text=ts at he
     simp -implicitDefEqProofs only[go_sem,hgx2,hlt2,ap_get,ap_get0,ap_set,ap_set0,List.getElem?_cons_succ,List.set_cons_succ,List.cons_append,Rw.enc]
     intro _ _
     have hle3:(edAll u pre.length).length+(edRows u pre.length l q.length).length+ts.length≤1000000:=by
      rw[he,List.length_map]at hle2
      omega
     refine snd_list (β:=V×List VObj×List Nat) ts (fun s b=>⟨[(68,.int .i64 s.length),(67,.int .i64 ts.length),(66,sl 9 (ts.map encTx)),(10,.str f),(37,.int .i64 q.length),(36,.int .i64 l.length),(35,sl 48 (l.map Rw.enc)),(7,sl 48 (l.map Rw.enc)),(6,.int .i64 pre.length),(26,.int .i64 pre.length),(25,.int .i64 u.length),(24,sl 70 (u.map Un.enc)),(5,.ptr 1 0),(2,.slice .nil 0 []),(0,sl 70 (u.map Un.enc))],[.dead,.cells [b.1]]++b.2.1,b.2.2⟩)
      (fun s post b=>accV 38 2 0 b.2.1 b.2.2 b.1 ((edAll u pre.length++edRows u pre.length l q.length++s.map (Ed.mk f)).map Ed.enc)∧z.length+1≤b.2.1.length∧y.length≤b.2.2.length) (v,z++[.cells r.enc],y) ?_ ⟨by simpa using hacc.heap [.cells r.enc],by simp,Nat.le_refl _⟩ ?_ ?_
     ·simp -implicitDefEqProofs only[go_sem,Rw.enc]
      rfl
     ·rintro⟨v',z',y'⟩ ⟨hacc',hz1,hy1⟩
      simp only at hacc' hz1 hy1 ⊢
      simp -implicitDefEqProofs only[go_sem,ap_get,ap_get0,ap_set,ap_set0,List.getElem?_cons_succ,List.set_cons_succ,List.cons_append]
      rw[hrow,he,←List.append_assoc]
      exact⟨(v',z',y'),hacc',hw2,⟨tell1_rfl,tellH_refl⟩,tellA_cut0,.inl ⟨Nat.le_refl _,Nat.le_refl _⟩⟩
     ·rintro s t0 post3 ⟨v',z',y'⟩ hx3 ⟨hacc',hz1,hy1⟩
      have hpl3:ts.length=s.length+1+post3.length:=by rw[hx3];simp;omega
      have hgx3:(ts.map encTx).getD (s.length:Int).toNat []=encTx t0:=by rw[hx3];simp[List.getD_eq_getElem?_getD]
      have hlt3:((s.length:Int)<ts.length)=True:=by simp;omega
      have hw3:IntKind.i64.wrap (↑s.length+1)=↑(s.length+1):=wrap_next (by omega)
      simp only at hacc' hz1 hy1 ⊢
      simp -implicitDefEqProofs only[go_sem,hgx3,hlt3,ap_get,ap_get0,ap_set,ap_set0,List.getElem?_cons_succ,List.set_cons_succ,List.cons_append,encTx,hacc'.asl]
      have hb1:(((edAll u pre.length++edRows u pre.length l q.length++s.map (Ed.mk f)).map Ed.enc).length+1) * (envV 32).P.bytesOf 38≤140737488355328:=by
       rw[bytes_ed];simp only[List.length_map,List.length_append];omega
      refine append_acc (h0:=[.dead,.cells [v']]) (a0:=[]) hacc' ed_lens elem_ed hb1 fun v2 z2 y2 hacc2 hz1' hz2' hy1'=>?_
      have hs:(edAll u pre.length++edRows u pre.length l q.length++s.map (Ed.mk f)).map Ed.enc++[[.str f,.str t0]]=(edAll u pre.length++edRows u pre.length l q.length++(s++[t0]).map (Ed.mk f)).map Ed.enc:=by simp[Ed.enc]
      rw[hs]at hacc2
      obtain⟨c1,c2,c3⟩:=hacc2.shape
      simp -implicitDefEqProofs only[go_sem,hgx3,hlt3,ap_get,ap_get0,ap_set,ap_set0,List.getElem?_cons_succ,List.set_cons_succ,List.cons_append,encTx,c1,c2,c3]
      refine⟨(v2,z2,y2),⟨by simpa using hacc2,?_,?_⟩,hw3,⟨tell1_rfl,tellH_refl⟩,tellA_cut0,.inl ⟨Nat.le_refl _,Nat.le_refl _⟩⟩
      ·exact Nat.le_trans hz1 hz1'
      ·exact Nat.le_trans hy1 hy1'
end Go.Proofs.YtighfcpaplmaiaaGreatDoor
