/- The search over the edges of the call graph. -/
import Derived.Test.YtighfcpaplmaiaaGreatDoorUdJ
set_option linter.unusedVariables false
set_option linter.unusedSimpArgs false
set_option maxRecDepth 20000
namespace Go.Vg
theorem accV.cons{e n0 m0:Nat}{x:VObj}{z:List VObj}{y:List Nat}{v:V}{l:List (List V)}(h:accV e (n0+1) m0 z y v l):accV e n0 m0 (x::z) y v l:=by
 rcases h with h | ⟨h1,j,k,gen,rfl,h3,h4⟩
 ·exact .inl h
 ·exact .inr ⟨h1,j+1,k,gen,by rw[show n0+1+j=n0+(j+1)by omega],by simpa using h3,h4⟩
def accW(e:TypeId)(n0 m0:Nat)(z:List VObj)(y:List Nat)(v:V)(l:List (List V))(kk:Option Nat):Prop :=
 (l=[]∧kk=none∧∃ e0,v = .slice .nil e0 [])∨(l≠[]∧∃ j k gen,kk=some k∧v = .vec (n0+j) (m0+k) gen l.length e∧z[j]? = some (.vec (m0+k) gen e l.flatten)∧y[k]? = some gen)
theorem accW.acc{e n0 m0:Nat}{z:List VObj}{y:List Nat}{v:V}{l:List (List V)}{kk:Option Nat}(h:accW e n0 m0 z y v l kk):accV e n0 m0 z y v l:=by
 rcases h with⟨h,_,h'⟩ | ⟨h1,j,k,gen,_,h2,h3,h4⟩
 ·exact .inl ⟨h,h'⟩
 ·exact .inr ⟨h1,j,k,gen,h2,h3,h4⟩
theorem accW.nil{e n0 m0 e0:Nat}{z:List VObj}{y:List Nat}:accW e n0 m0 z y (.slice .nil e0 []) [] none := .inl ⟨rfl,rfl,e0,rfl⟩
theorem accW.keep{e n0 m0:Nat}{z:List VObj}{y:List Nat}{v:V}{l:List (List V)}{kk:Option Nat}(h:accW e n0 m0 z y v l kk)(z2:List VObj){y2:List Nat}(hy:∀ k,kk=some k→∀ g,y[k]? = some g→y2[k]? = some g):accW e n0 m0 (z++z2) y2 v l kk:=by
 rcases h with h | ⟨h1,j,k,gen,h0,h2,h3,h4⟩
 ·exact .inl h
 ·exact .inr ⟨h1,j,k,gen,h0,h2,by rw[List.getElem?_append_left (lt_of_get h3)];exact h3,hy k h0 gen h4⟩
theorem accW.lt{e n0 m0:Nat}{z:List VObj}{y:List Nat}{v:V}{l:List (List V)}{k:Nat}(h:accW e n0 m0 z y v l (some k)):k<y.length:=by
 rcases h with⟨_,h,_⟩ | ⟨_,j,k',gen,h0,_,_,h4⟩
 ·cases h
 ·cases h0;exact lt_of_get h4
theorem append_accW{E:Env}{e e':Nat}{o:Own}{h0 z:List VObj}{a0 y:List Nat}{v:V}{l:List (List V)}{x:List V}{kk:Option Nat}{K:Cont}(hv:accW e h0.length a0.length z y v l kk)
  (hlen:∀ el∈l,el.length=E.P.cellsOf e) (hok:elemOK E.P e=true) (hb:(l.length+1) * E.P.bytesOf e≤140737488355328)
  (hK:∀ v' z' y' k',accW e h0.length a0.length z' y' v' (l++[x]) (some k')→((kk=none∧k'=y.length∧y'=y++[gen0])∨(kk=some k'∧∃ g,y'=y.set k' g))→K v' (h0++z') (a0++y')) :
  vAppVD E (h0++z) (a0++y) (some (.slice e)) (some (.slice e')) v (.slice o e [x]) K:=by
 rcases hv with⟨rfl,rfl,e0,rfl⟩ | ⟨h1,j,k,gen,rfl,rfl,h3,h4⟩
 ·rw[vAppVD_slice]
  refine⟨⟨by simp,rfl,hok⟩,⟨rfl,.inl rfl,by simpa using hb⟩,?_⟩
  rw[List.append_assoc,List.append_assoc,List.length_append,List.length_append]
  refine hK _ _ _ y.length (.inr ⟨by simp,z.length,y.length,gen0,rfl,by simp,?_,by simp⟩) (.inl ⟨rfl,rfl,rfl⟩)
  simp
 ·have hj:=lt_of_get h3
  have hk:=lt_of_get h4
  have hg:(h0++z)[h0.length+j]? = some (.vec (a0.length+k) gen e l.flatten):=by rw[app_get];exact h3
  rw[vAppVD_vec,hg,vAppVO_same]
  refine⟨⟨by simp,rfl,hok⟩,⟨rfl,rfl,flat_lenV hlen,by simpa using hb⟩,?_⟩
  have e1:(h0++z).set (h0.length+j) (.vec (a0.length+k) (gen+1) e (l.flatten++[x].flatten))=h0++z.set j (.vec (a0.length+k) (gen+1) e (l.flatten++[x].flatten)):=by
   rw[List.set_append_right _ _ (by omega)];congr 2;omega
  have e2:(a0++y).set (a0.length+k) (gen+1)=a0++y.set k (gen+1):=by
   rw[List.set_append_right _ _ (by omega)];congr 2;omega
  rw[e1,e2]
  refine hK _ _ _ k (.inr ⟨by simp,j,k,gen+1,rfl,by simp,?_,List.getElem?_set_self hk⟩) (.inr ⟨rfl,_,rfl⟩)
  rw[List.getElem?_set_self hj];simp
def okW(n:Nat)(y:List Nat)(kk:Option Nat)(o:Own)(len:Nat):Prop:=o = .full∨∃ k,o = .arr (n+k)∧y[k]? = some len∧kk≠some k
end Go.Vg
namespace Go.Proofs.YtighfcpaplmaiaaGreatDoor
open Go Go.Vg Go.Proofs
theorem look_SuW{tv:TypeId}{b:Nat}{N:SuM}{s:ByteArray}{K:V→Prop}:vLookF (envV tv) 28 (findV .string (.str s) (encSu b N) 0) false K=K (((getM (numM b N) s).map veS).getD (.slice .nil 0 [])) :=
 lookS_M1 (E:=envV tv) (ve:=veS) (k:=s) (by kernel_rfl) (by kernel_rfl)
def flwS(l:List Ed)(s:ByteArray):List ByteArray:=flwN (scN (sucN l)) ((l.map Ed.to).length+2) [s] []
theorem Kfollow(l:List Ed)(hl:l.length≤1000000)(id b:Nat)(h:List VObj)(a:List Nat)(s:ByteArray)(hid:h[id]? = some (.map (encSu b (sucN l)))){K:Cont}(hK:K (sl 9 ((sortS (flwS l s)).map encTx)) h a) :
  VCalls env 46 [.map id,.str s] h a K:=by
 refine VCalls.ofV (tv:=28) (VCalls.accR ?_)
 have hidl:=lt_of_get hid
 have hT:∀ (x t:ByteArray),t∈scN (sucN l) x→t∈l.map Ed.to:=fun x t ht=>by
  rw[scN_suc]at ht
  obtain⟨e,he,rfl⟩:=List.mem_map.1 ht
  exact List.mem_map.2 ⟨e,(List.mem_filter.1 he).1,rfl⟩
 have hTl:(l.map Ed.to).length≤1000000:=by rw[List.length_map];exact hl
 unfold flwS at hK
 generalize l.map Ed.to=T at hK hT hTl
 generalize hg:flwN (scN (sucN l)) (T.length+2) [s] []=goal at hK
 refine vcalls_vc (fn:=Tryz.f46) Tryz.func46 rfl (by rw[Tryz.ntmps46];simp) ?_
 simp -implicitDefEqProofs only[go_sem,Tryz.f46]
 refine snd_for (α:=(V×List VObj×List Nat)×(Own×List ByteArray×List ByteArray×Option Nat)×Nat) (fun b=>⟨[(7,.slice b.2.1.1 9 (b.2.1.2.1.map encTx)),(6,b.1.1),(5,.map h.length),(4,.slice .nil 0 []),(0,.map id)],
   h ++ .map (seenM b.2.1.2.2.1)::b.1.2.1,a++b.1.2.2⟩)
  (fun b=>accW 9 (h.length+1) a.length b.1.2.1 b.1.2.2 b.1.1 (b.2.1.2.2.1.map encTx) b.2.1.2.2.2∧okW a.length b.1.2.2 b.2.1.2.2.2 b.2.1.1 b.2.1.2.1.length∧FlwI (scN (sucN l)) T s b.2.1.2.1 b.2.1.2.2.1∧b.2.1.2.1.length≤b.2.1.2.2.1.length+1 ∧
   T.length+b.2.1.2.1.length<b.2.2+b.2.1.2.2.1.length∧flwN (scN (sucN l)) b.2.2 b.2.1.2.1 b.2.1.2.2.1=goal) (fun b=>b.2.2)
  ((.slice .nil 0 [],[],[]),(.full,[s],[],none),T.length+2) ?_ ⟨accW.nil,.inl rfl,FlwI.start,by simp,by simp,hg⟩ ?_
 ·simp -implicitDefEqProofs only[go_sem]
  exact⟨rfl,rfl⟩
 ·rintro⟨⟨v,z,y⟩,⟨o,w,out,kk⟩,f⟩ ⟨hacc,hw,hF,hwl,hf,hgo⟩
  simp only at hacc hw hF hwl hf hgo ⊢
  have hol:=pigeonS out hF.nod hF.sub
  cases w with
  | nil =>
   simp -implicitDefEqProofs only[go_sem]
   refine⟨fun h=>absurd h (by simp),fun _=>?_⟩
   have hgoal:goal=out:=by
    cases f with
    | zero=>simp only[List.length_nil]at hf;omega
    | succ f=>rw[←hgo];rfl
   subst hgoal
   have hSS:=@SortStr (h++[.map (seenM goal)]) z a y v goal
   rw[List.append_assoc,List.length_append]at hSS
   refine hSS hacc.acc fun z2 hacc2 _ _=>?_
   simp -implicitDefEqProofs only[go_sem]
   have hacc3:accV 9 (h.length+1) a.length z2 y v ((sortS goal).map encTx):=hacc2
   exact⟨_,_,_,_,rfl,rfl,hacc3.cons,elem_str,enc_len,strs_pure _,hK⟩
  | cons x w =>
   obtain⟨f,rfl⟩:∃ f',f=f'+1:=⟨f - 1,by simp only[List.length_cons]at hf;omega⟩
   have hstep:=hF.step hT
   simp only[List.length_cons]at hf hwl hw
   have hscl:(scN (sucN l) x).length≤1000000:=by
    rw[scN_suc,List.length_map]
    exact Nat.le_trans (List.length_filter_le _ _) hl
   have hnf:T.length+((scN (sucN l) x).foldl flwStep (out,w)).2.length<f+((scN (sucN l) x).foldl flwStep (out,w)).1.length:=by
    obtain⟨new,e1,_⟩:=flwStep_facts (scN (sucN l) x) out w
    rw[e1]
    simp only[List.length_append]
    omega
   have hlook:∃ o0 e0,((getM (numM b (sucN l)) x).map veS).getD (.slice .nil 0 []) = .slice o0 e0 ((scN (sucN l) x).map encTx)∧((scN (sucN l) x)=[]∨e0=9):=by
    rcases num_get x (sucN l) b with⟨j,vs,h1,h2,h3,h4⟩ | ⟨h1,h2,h3⟩
    ·exact⟨_,_,by rw[h1,scN,h2];rfl,.inr rfl⟩
    ·exact⟨_,_,by rw[h1,scN,h2];rfl,.inl (by rw[scN,h2];rfl)⟩
   obtain⟨o0,e0,hlk,he0⟩:=hlook
   rcases hw with rfl | ⟨k,rfl,hyk,hkk⟩
   ·have hp0:True:=trivial
    simp -implicitDefEqProofs only[go_sem,ap_get,ap_get0,ap_set,ap_set0,List.getElem?_cons_succ,List.set_cons_succ,List.cons_append,hp_get hid,look_SuW,hlk]
    intro _ _
    refine⟨fun _=>⟨by omega,by omega,?_⟩,fun h=>absurd (by omega) h⟩
    intro _ _
    refine snd_list (β:=(V×List VObj×List Nat)×(Own×List ByteArray×List ByteArray×Option Nat)) (scN (sucN l) x) (fun q b=>⟨[(26,.int .i64 q.length),(25,.int .i64 (scN (sucN l) x).length),(24,sl 9 ((scN (sucN l) x).map encTx)),(7,.slice b.2.1 9 (b.2.2.1.map encTx)),(6,b.1.1),(5,.map h.length),(4,.slice .nil 0 []),(0,.map id)],
      h ++ .map (seenM b.2.2.2.1)::b.1.2.1,a++b.1.2.2⟩)
     (fun q r b=>accW 9 (h.length+1) a.length b.1.2.1 b.1.2.2 b.1.1 (b.2.2.2.1.map encTx) b.2.2.2.2∧okW a.length b.1.2.2 b.2.2.2.2 b.2.1 b.2.2.1.length∧r.foldl flwStep (b.2.2.2.1,b.2.2.1)=(scN (sucN l) x).foldl flwStep (out,w)∧b.2.2.2.1.length≤out.length+q.length∧b.2.2.1.length≤b.2.2.2.1.length)
     ((v,z,y),(.full,w,out,kk)) ?_ ⟨hacc,.inl rfl,rfl,by simp,by simp only;omega⟩ ?_ ?_
    ·simp -implicitDefEqProofs only[go_sem,hp0]
     have he0q:List.map encTx (scN (sucN l) x)=[]∨e0=9:=he0.imp (fun h=>by rw[h];rfl) (fun h=>h)
     exact⟨⟨rfl,he0q⟩,by simp⟩
    ·rintro⟨⟨v2,z2,y2⟩,o2,w2,out2,kk2⟩ ⟨hacc2,hw2,hfo,hol2,hwl2⟩
     simp only at hacc2 hw2 hfo hol2 hwl2 ⊢
     simp -implicitDefEqProofs only[go_sem,ap_get,ap_get0,ap_set,ap_set0,List.getElem?_cons_succ,List.set_cons_succ,List.cons_append]
     have hfo':(out2,w2)=(scN (sucN l) x).foldl flwStep (out,w):=hfo
     rw[←hfo']at hstep hnf
     refine⟨((v2,z2,y2),((o2,w2,out2,kk2),f)),by simp,⟨hacc2,hw2,hstep,by simp only;omega,by simp only at hnf ⊢;omega,by simp only;rw[flwN,←hfo']at hgo;exact hgo⟩,?_⟩
     exact⟨⟨tell_rfl,tell_rfl⟩,⟨rfl,tellH_refl⟩,tellA_cut0,by simp,.inl ⟨Nat.le_refl _,Nat.le_refl _⟩⟩
    ·rintro q t r ⟨⟨v2,z2,y2⟩,o2,w2,out2,kk2⟩ hx ⟨hacc2,hw2,hfo,hol2,hwl2⟩
     simp only at hacc2 hw2 hfo hol2 hwl2 ⊢
     have hpl:(scN (sucN l) x).length=q.length+1+r.length:=by rw[hx];simp;omega
     have hgx:((scN (sucN l) x).map encTx).getD (q.length:Int).toNat []=encTx t:=by rw[hx];simp[List.getD_eq_getElem?_getD]
     have hlt:((q.length:Int)<(scN (sucN l) x).length)=True:=by simp;omega
     have hwq:IntKind.i64.wrap (↑q.length+1)=↑(q.length+1):=wrap_next (by omega)
     rw[List.foldl_cons]at hfo
     simp -implicitDefEqProofs only[go_sem,hgx,hlt,encTx,ap_get,ap_get0,ap_set,ap_set0,List.getElem?_cons_succ,List.set_cons_succ,List.cons_append,look_SW]
     refine⟨fun ha=>?_,fun ha=>?_⟩
     ·have ha':(out2.any fun y=>decide (y=t))=false:=by cases hq:(out2.any fun y=>decide (y=t)) <;> simp_all
      have hmem:t ∉ out2:=fun hm=>by
       have:(out2.any fun y=>decide (y=t))=true:=List.any_eq_true.2 ⟨t,hm,by simp⟩
       rw[ha']at this;cases this
      have hfs:flwStep (out2,w2) t=(out2++[t],w2++[t]):=by unfold flwStep;rw[if_neg hmem]
      rw[hfs]at hfo
      rw[set_S ha']
      simp -implicitDefEqProofs only[go_sem,ap_get,ap_get0,ap_set,ap_set0,List.getElem?_cons_succ,List.set_cons_succ,List.cons_append,hacc2.acc.asl]
      have happ:=@append_accW (envV 28) 9 9 .full (h++[.map (seenM (out2++[t]))]) z2 a y2 v2 (out2.map encTx) [.str t] kk2
      rw[List.append_assoc,List.length_append]at happ
      refine happ hacc2 enc_len elem_str (by rw[bytes_str,List.length_map];omega) fun v3 z3 y3 k3 hacc3 hy3=>?_
      rw[List.append_assoc]
      have hwl3:(w2.length+1) * 16≤140737488355328:=by omega
      rcases hw2 with rfl | ⟨kw,rfl,hykw,hkkw⟩
      ·simp -implicitDefEqProofs only[go_sem,ap_get,ap_get0,ap_set,ap_set0,List.getElem?_cons_succ,List.set_cons_succ,List.cons_append]
       refine⟨hwl3,((v3,z3,y3++[w2.length+1]),(.arr (a.length+y3.length),w2++[t],out2++[t],some k3)),⟨?_,.inr ⟨y3.length,rfl,by simp,fun e=>?_⟩,hfo,by simp;omega,by simp;omega⟩,⟨hwq,?_,tell_rfl⟩,⟨rfl,tellH_refl⟩,?_,by simp,.inl ⟨by simp,by simp;omega⟩⟩
       ·have:=hacc3.keep [] (y2:=y3++[w2.length+1]) fun k' hk' g hg=>by rw[List.getElem?_append_left (lt_of_get hg)];exact hg
        rw[List.append_nil]at this
        simpa[encTx]using this
       ·have h1:=hacc3.lt
        simp only[Option.some.injEq]at e
        omega
       ·rw[show(a++y3).length=a.length+y3.length by simp]
        simp only[List.map_append,List.map_cons,List.map_nil,encTx]
        exact tell_rfl
       ·rw[List.append_assoc];exact tellA_cut0
      ·have hy3w:y3[kw]? = some w2.length:=by
        rcases hy3 with⟨_,rfl,rfl⟩ | ⟨e1,g,rfl⟩
        ·rw[List.getElem?_append_left (lt_of_get hykw)];exact hykw
        ·rw[List.getElem?_set_ne (fun e=>hkkw (by rw[e1,e]))];exact hykw
       simp -implicitDefEqProofs only[go_sem,ap_get,ap_get0,ap_set,ap_set0,List.getElem?_cons_succ,List.set_cons_succ,List.cons_append,hy3w]
       have hkwl:=lt_of_get hy3w
       have hk3:k3≠kw:=by
        rcases hy3 with⟨e1,e2,e3⟩ | ⟨e1,g,_⟩
        ·have:=lt_of_get hykw;omega
        ·exact fun e=>hkkw (by rw[e1,e])
       refine⟨hwl3,((v3,z3,y3.set kw (w2.length+1)),(.arr (a.length+kw),w2++[t],out2++[t],some k3)),⟨?_,.inr ⟨kw,rfl,by simp[hkwl],fun e=>hk3 (by simpa using e)⟩,hfo,by simp;omega,by simp;omega⟩,⟨hwq,?_,tell_rfl⟩,⟨rfl,tellH_refl⟩,tellA_cut0,by simp,.inl ⟨by simp,by simp⟩⟩
       ·have:=hacc3.keep [] (y2:=y3.set kw (w2.length+1)) fun k' hk' g hg=>by
         have:k3=k':=by simpa using hk'
         rw[List.getElem?_set_ne (fun e=>hk3 (by omega))];exact hg
        rw[List.append_nil]at this
        simpa[encTx]using this
       ·simp only[List.map_append,List.map_cons,List.map_nil,encTx]
        exact tell_rfl
     ·have ha':(out2.any fun y=>decide (y=t))=true:=by cases hq:(out2.any fun y=>decide (y=t)) <;> simp_all
      have hmem:t∈out2:=by
       obtain⟨y,hy,he⟩:=List.any_eq_true.1 ha'
       have:y=t:=by simpa using he
       exact this ▸ hy
      have hfs:flwStep (out2,w2) t=(out2,w2):=by unfold flwStep;rw[if_pos hmem]
      rw[hfs]at hfo
      exact⟨((v2,z2,y2),(o2,w2,out2,kk2)),⟨hacc2,hw2,hfo,by simp only;omega,hwl2⟩,⟨hwq,tell_rfl,tell_rfl⟩,⟨rfl,tellH_refl⟩,tellA_cut0,by simp,.inl ⟨Nat.le_refl _,Nat.le_refl _⟩⟩
   ·have hp0:True:=trivial
    have hal:(a++y).length=a.length+y.length:=by simp
    simp -implicitDefEqProofs only[go_sem,ap_get,ap_get0,ap_set,ap_set0,List.getElem?_cons_succ,List.set_cons_succ,List.cons_append,hp_get hid,look_SuW,hlk,hyk,hal]
    intro _ _
    refine⟨fun _=>⟨by omega,by omega,?_⟩,fun h=>absurd (by omega) h⟩
    intro _ _
    have hkl:=lt_of_get hyk
    refine snd_list (β:=(V×List VObj×List Nat)×(Own×List ByteArray×List ByteArray×Option Nat)) (scN (sucN l) x) (fun q b=>⟨[(26,.int .i64 q.length),(25,.int .i64 (scN (sucN l) x).length),(24,sl 9 ((scN (sucN l) x).map encTx)),(7,.slice b.2.1 9 (b.2.2.1.map encTx)),(6,b.1.1),(5,.map h.length),(4,.slice .nil 0 []),(0,.map id)],
      h ++ .map (seenM b.2.2.2.1)::b.1.2.1,a++b.1.2.2⟩)
     (fun q r b=>accW 9 (h.length+1) a.length b.1.2.1 b.1.2.2 b.1.1 (b.2.2.2.1.map encTx) b.2.2.2.2∧okW a.length b.1.2.2 b.2.2.2.2 b.2.1 b.2.2.1.length∧r.foldl flwStep (b.2.2.2.1,b.2.2.1)=(scN (sucN l) x).foldl flwStep (out,w)∧b.2.2.2.1.length≤out.length+q.length∧b.2.2.1.length≤b.2.2.2.1.length)
     ((v,z,y.set k (w.length+1+1)++[w.length+1 - 1]),(.arr (a.length+y.length),w,out,kk)) ?_ ⟨by
      have:=hacc.keep [] (y2:=y.set k (w.length+1+1)++[w.length+1 - 1]) fun k' hk' g hg=>by
       rw[List.getElem?_append_left (by rw[List.length_set];exact lt_of_get hg),List.getElem?_set_ne (fun e=>hkk (by rw[hk',e]))];exact hg
      rw[List.append_nil]at this
      exact this,.inr ⟨y.length,rfl,by simp,fun e=>by
       subst e
       have:=hacc.lt
       omega⟩,rfl,by simp,by simp only;omega⟩ ?_ ?_
    ·simp -implicitDefEqProofs only[go_sem,hp0]
     have he0q:List.map encTx (scN (sucN l) x)=[]∨e0=9:=he0.imp (fun h=>by rw[h];rfl) (fun h=>h)
     exact⟨⟨rfl,he0q⟩,by rw[List.append_assoc];exact tellA_cut0,by simp,.inl (by simp;omega)⟩
    ·rintro⟨⟨v2,z2,y2⟩,o2,w2,out2,kk2⟩ ⟨hacc2,hw2,hfo,hol2,hwl2⟩
     simp only at hacc2 hw2 hfo hol2 hwl2 ⊢
     simp -implicitDefEqProofs only[go_sem,ap_get,ap_get0,ap_set,ap_set0,List.getElem?_cons_succ,List.set_cons_succ,List.cons_append]
     have hfo':(out2,w2)=(scN (sucN l) x).foldl flwStep (out,w):=hfo
     rw[←hfo']at hstep hnf
     refine⟨((v2,z2,y2),((o2,w2,out2,kk2),f)),by simp,⟨hacc2,hw2,hstep,by simp only;omega,by simp only at hnf ⊢;omega,by simp only;rw[flwN,←hfo']at hgo;exact hgo⟩,?_⟩
     exact⟨⟨tell_rfl,tell_rfl⟩,⟨rfl,tellH_refl⟩,tellA_cut0,by simp,.inl ⟨Nat.le_refl _,Nat.le_refl _⟩⟩
    ·rintro q t r ⟨⟨v2,z2,y2⟩,o2,w2,out2,kk2⟩ hx ⟨hacc2,hw2,hfo,hol2,hwl2⟩
     simp only at hacc2 hw2 hfo hol2 hwl2 ⊢
     have hpl:(scN (sucN l) x).length=q.length+1+r.length:=by rw[hx];simp;omega
     have hgx:((scN (sucN l) x).map encTx).getD (q.length:Int).toNat []=encTx t:=by rw[hx];simp[List.getD_eq_getElem?_getD]
     have hlt:((q.length:Int)<(scN (sucN l) x).length)=True:=by simp;omega
     have hwq:IntKind.i64.wrap (↑q.length+1)=↑(q.length+1):=wrap_next (by omega)
     rw[List.foldl_cons]at hfo
     simp -implicitDefEqProofs only[go_sem,hgx,hlt,encTx,ap_get,ap_get0,ap_set,ap_set0,List.getElem?_cons_succ,List.set_cons_succ,List.cons_append,look_SW]
     refine⟨fun ha=>?_,fun ha=>?_⟩
     ·have ha':(out2.any fun y=>decide (y=t))=false:=by cases hq:(out2.any fun y=>decide (y=t)) <;> simp_all
      have hmem:t ∉ out2:=fun hm=>by
       have:(out2.any fun y=>decide (y=t))=true:=List.any_eq_true.2 ⟨t,hm,by simp⟩
       rw[ha']at this;cases this
      have hfs:flwStep (out2,w2) t=(out2++[t],w2++[t]):=by unfold flwStep;rw[if_neg hmem]
      rw[hfs]at hfo
      rw[set_S ha']
      simp -implicitDefEqProofs only[go_sem,ap_get,ap_get0,ap_set,ap_set0,List.getElem?_cons_succ,List.set_cons_succ,List.cons_append,hacc2.acc.asl]
      have happ:=@append_accW (envV 28) 9 9 .full (h++[.map (seenM (out2++[t]))]) z2 a y2 v2 (out2.map encTx) [.str t] kk2
      rw[List.append_assoc,List.length_append]at happ
      refine happ hacc2 enc_len elem_str (by rw[bytes_str,List.length_map];omega) fun v3 z3 y3 k3 hacc3 hy3=>?_
      rw[List.append_assoc]
      have hwl3:(w2.length+1) * 16≤140737488355328:=by omega
      rcases hw2 with rfl | ⟨kw,rfl,hykw,hkkw⟩
      ·simp -implicitDefEqProofs only[go_sem,ap_get,ap_get0,ap_set,ap_set0,List.getElem?_cons_succ,List.set_cons_succ,List.cons_append]
       refine⟨hwl3,((v3,z3,y3++[w2.length+1]),(.arr (a.length+y3.length),w2++[t],out2++[t],some k3)),⟨?_,.inr ⟨y3.length,rfl,by simp,fun e=>?_⟩,hfo,by simp;omega,by simp;omega⟩,⟨hwq,?_,tell_rfl⟩,⟨rfl,tellH_refl⟩,?_,by simp,.inl ⟨by simp,by simp;omega⟩⟩
       ·have:=hacc3.keep [] (y2:=y3++[w2.length+1]) fun k' hk' g hg=>by rw[List.getElem?_append_left (lt_of_get hg)];exact hg
        rw[List.append_nil]at this
        simpa[encTx]using this
       ·have h1:=hacc3.lt
        simp only[Option.some.injEq]at e
        omega
       ·rw[show(a++y3).length=a.length+y3.length by simp]
        simp only[List.map_append,List.map_cons,List.map_nil,encTx]
        exact tell_rfl
       ·rw[List.append_assoc];exact tellA_cut0
      ·have hy3w:y3[kw]? = some w2.length:=by
        rcases hy3 with⟨_,rfl,rfl⟩ | ⟨e1,g,rfl⟩
        ·rw[List.getElem?_append_left (lt_of_get hykw)];exact hykw
        ·rw[List.getElem?_set_ne (fun e=>hkkw (by rw[e1,e]))];exact hykw
       simp -implicitDefEqProofs only[go_sem,ap_get,ap_get0,ap_set,ap_set0,List.getElem?_cons_succ,List.set_cons_succ,List.cons_append,hy3w]
       have hkwl:=lt_of_get hy3w
       have hk3:k3≠kw:=by
        rcases hy3 with⟨e1,e2,e3⟩ | ⟨e1,g,_⟩
        ·have:=lt_of_get hykw;omega
        ·exact fun e=>hkkw (by rw[e1,e])
       refine⟨hwl3,((v3,z3,y3.set kw (w2.length+1)),(.arr (a.length+kw),w2++[t],out2++[t],some k3)),⟨?_,.inr ⟨kw,rfl,by simp[hkwl],fun e=>hk3 (by simpa using e)⟩,hfo,by simp;omega,by simp;omega⟩,⟨hwq,?_,tell_rfl⟩,⟨rfl,tellH_refl⟩,tellA_cut0,by simp,.inl ⟨by simp,by simp⟩⟩
       ·have:=hacc3.keep [] (y2:=y3.set kw (w2.length+1)) fun k' hk' g hg=>by
         have:k3=k':=by simpa using hk'
         rw[List.getElem?_set_ne (fun e=>hk3 (by omega))];exact hg
        rw[List.append_nil]at this
        simpa[encTx]using this
       ·simp only[List.map_append,List.map_cons,List.map_nil,encTx]
        exact tell_rfl
     ·have ha':(out2.any fun y=>decide (y=t))=true:=by cases hq:(out2.any fun y=>decide (y=t)) <;> simp_all
      have hmem:t∈out2:=by
       obtain⟨y,hy,he⟩:=List.any_eq_true.1 ha'
       have:y=t:=by simpa using he
       exact this ▸ hy
      have hfs:flwStep (out2,w2) t=(out2,w2):=by unfold flwStep;rw[if_pos hmem]
      rw[hfs]at hfo
      exact⟨((v2,z2,y2),(o2,w2,out2,kk2)),⟨hacc2,hw2,hfo,by simp only;omega,hwl2⟩,⟨hwq,tell_rfl,tell_rfl⟩,⟨rfl,tellH_refl⟩,tellA_cut0,by simp,.inl ⟨Nat.le_refl _,Nat.le_refl _⟩⟩
end Go.Proofs.YtighfcpaplmaiaaGreatDoor
set_option maxRecDepth 20000
namespace Go.Proofs.YtighfcpaplmaiaaGreatDoor
open Go Go.Vg Go.Proofs
theorem flwS_facts(l:List Ed)(s:ByteArray):(flwS l s).Nodup∧(∀ t,t∈flwS l s↔Rch (scN (sucN l)) s t)∧∀ t∈flwS l s,t∈l.map Ed.to:=by
 have hT:∀ (x t:ByteArray),t∈scN (sucN l) x→t∈l.map Ed.to:=fun x t ht=>by
  rw[scN_suc]at ht
  obtain⟨e,he,rfl⟩:=List.mem_map.1 ht
  exact List.mem_map.2 ⟨e,(List.mem_filter.1 he).1,rfl⟩
 exact flwN_facts hT _ _ _ FlwI.start (by simp)
theorem flwS_len(l:List Ed)(s:ByteArray):(sortS (flwS l s)).length≤l.length:=by
 rw[sortS_len]
 have:=pigeonS _ (flwS_facts l s).1 (flwS_facts l s).2.2
 rwa [List.length_map]at this
theorem KReach(u:List Un)(l:List Ed)(hl:l.length≤1000000)(hG:VPure env 15 [sl 70 (u.map Un.enc)] (sl 38 (l.map Ed.enc)))(s:ByteArray) :
  VPure env 17 [sl 70 (u.map Un.enc),.str s] (sl 9 ((sortS (flwS l s)).map encTx)):=by
 refine vpure_vc (fn:=Tryz.f17) Tryz.func17 rfl (by rw[Tryz.ntmps17];simp) (by simp -implicitDefEqProofs only[go_sem];exact uns_pure _) (by simp -implicitDefEqProofs only[go_sem]) ?_
 simp -implicitDefEqProofs only[go_sem,Tryz.f17]
 refine hG.calls (by simp -implicitDefEqProofs only[go_sem]) ?_
 simp -implicitDefEqProofs only[go_sem]
 refine Ksucc l _ _ fun z=>?_
 simp -implicitDefEqProofs only[go_sem]
 refine Kfollow l hl 0 0 _ _ s rfl ?_
 simp -implicitDefEqProofs only[go_sem]
def recI(s:ByteArray)(o:List ByteArray)(t:ByteArray):List ByteArray:=if t=s∧o.getLast?≠some s then o++[s]else o
def recJ(l:List Ed)(o:List ByteArray)(s:ByteArray):List ByteArray:=(sortS (flwS l s)).foldl (recI s) o
def recS(u:List Un)(l:List Ed):List ByteArray:=if l=[]then []else(calS u).foldl (recJ l) []
theorem sucN_ne{l:List Ed}(h:l≠[]):(sucN l).length≠0:=by
 intro h0
 have:sucN l=[]:=List.eq_nil_of_length_eq_zero h0
 cases l with
 | nil=>exact h rfl
 | cons x r =>
  have h1:=scN_suc (x::r) x.fr
  rw[this]at h1
  simp[scN,getM]at h1
theorem num_len:∀ (N:SuM) (b:Nat),(numM b N).length=N.length
 | [],_=>rfl
 | _::r,b=>by rw[numM,List.length_cons,num_len r,List.length_cons]
theorem su_len(b:Nat)(N:SuM):(encSu b N).length=N.length:=by rw[encSu,encM,List.length_map,num_len]
theorem calS_len{u:List Un}(hu:fitU u):(calS u).length≤1000000:=by
 have h2:=declsU_len u 0 fun y hy=>(hu.2 y hy).1
 have h3:=hu.1
 have h4:=List.length_filterMap_le callN (declsU u 0)
 rw[calS,sortS_len,calN]
 omega
theorem KRecursive(u:List Un)(hu:fitU u)(l:List Ed)(hl:l.length≤1000000)(hG:VPure env 15 [sl 70 (u.map Un.enc)] (sl 38 (l.map Ed.enc))) :
  VPure env 19 [sl 70 (u.map Un.enc)] (sl 9 ((recS u l).map encTx)):=by
 refine vpure_vc (fn:=Tryz.f19) Tryz.func19 rfl (by rw[Tryz.ntmps19];simp) (by simp -implicitDefEqProofs only[go_sem];exact uns_pure _) (by simp -implicitDefEqProofs only[go_sem]) ?_
 simp -implicitDefEqProofs only[go_sem,Tryz.f19]
 refine hG.calls (by simp -implicitDefEqProofs only[go_sem]) ?_
 simp -implicitDefEqProofs only[go_sem]
 refine Ksucc l _ _ fun z=>?_
 simp -implicitDefEqProofs only[go_sem,su_len]
 refine⟨fun h0=>?_,fun h0=>?_⟩
 ·have:l=[]:=by
   rcases Classical.em (l=[])with h | h
   ·exact h
   ·exact absurd (by omega) (sucN_ne h)
  rw[recS,if_pos this];rfl
 ·have hne:l≠[]:=by rintro rfl;exact h0 rfl
  have hrs:recS u l=(calS u).foldl (recJ l) []:=by rw[recS,if_neg hne]
  refine(Kcallables u hu).calls (by simp -implicitDefEqProofs only[go_sem]) ?_
  have hcl:=calS_len hu
  generalize calS u=cs at hcl hrs
  simp -implicitDefEqProofs only[go_sem]
  intro _ _
  obtain⟨A,hA⟩:∃ A,A=(sucN l).map fun p:ByteArray×List ByteArray=>p.2.length:=⟨_,rfl⟩
  rw[←hA]
  refine snd_list (β:=List ByteArray) cs (fun q o=>⟨[(19,.int .i64 q.length),(18,.int .i64 cs.length),(17,sl 9 (cs.map encTx)),(4,.slice (.arr A.length) 9 (o.map encTx)),(3,.map 0),(2,.slice .nil 0 [])],
    .map (encSu 0 (sucN l))::z,A++[o.length]⟩) (fun q r o=>r.foldl (recJ l) o=recS u l∧o.length≤q.length * 1000001) [] ?_ ⟨hrs.symm,by simp⟩ ?_ ?_
  ·simp -implicitDefEqProofs only[go_sem]
   exact⟨⟨rfl,by omega⟩,tellA_app⟩
  ·rintro o ⟨he,_⟩
   have he':o=recS u l:=he
   simp -implicitDefEqProofs only[go_sem]
   rw[he']
  ·rintro q s r o hx ⟨he,hol⟩
   have hpl:cs.length=q.length+1+r.length:=by rw[hx];simp;omega
   have hgx:(cs.map encTx).getD (q.length:Int).toNat []=encTx s:=by rw[hx];simp[List.getD_eq_getElem?_getD]
   have hlt:((q.length:Int)<cs.length)=True:=by simp;omega
   have hw:IntKind.i64.wrap (↑q.length+1)=↑(q.length+1):=wrap_next (by omega)
   rw[List.foldl_cons]at he
   simp -implicitDefEqProofs only[go_sem,hgx,hlt,encTx]
   refine Kfollow l hl 0 0 _ _ s rfl ?_
   have hfo:recJ l o s=(sortS (flwS l s)).foldl (recI s) o:=rfl
   have hfl:(sortS (flwS l s)).length≤1000000:=Nat.le_trans (flwS_len l s) hl
   generalize sortS (flwS l s)=ts at hfo hfl
   simp -implicitDefEqProofs only[go_sem]
   intro _ _
   refine snd_list (β:=List ByteArray) ts (fun p o=>⟨[(27,.int .i64 p.length),(26,.int .i64 ts.length),(25,sl 9 (ts.map encTx)),(6,.str s),(19,.int .i64 q.length),(18,.int .i64 cs.length),(17,sl 9 (cs.map encTx)),(4,.slice (.arr A.length) 9 (o.map encTx)),(3,.map 0),(2,.slice .nil 0 [])],
    .map (encSu 0 (sucN l))::z,A++[o.length]⟩) (fun p r o'=>r.foldl (recI s) o'=recJ l o s∧o'.length≤o.length+p.length) o ?_ ⟨hfo.symm,by simp⟩ ?_ ?_
   ·simp -implicitDefEqProofs only[go_sem]
    rfl
   ·rintro o2 ⟨he2,hol2⟩
    have he2':o2=recJ l o s:=he2
    simp -implicitDefEqProofs only[go_sem]
    exact⟨o2,⟨by rw[he2'];exact he,by rw[Nat.add_mul];omega⟩,⟨hw,rfl⟩,tellA_cut0⟩
   ·rintro p t r2 o2 hx2 ⟨he2,hol2⟩
    have hpl2:ts.length=p.length+1+r2.length:=by rw[hx2];simp;omega
    have hgx2:(ts.map encTx).getD (p.length:Int).toNat []=encTx t:=by rw[hx2];simp[List.getD_eq_getElem?_getD]
    have hlt2:((p.length:Int)<ts.length)=True:=by simp;omega
    have hw2:IntKind.i64.wrap (↑p.length+1)=↑(p.length+1):=wrap_next (by omega)
    rw[List.foldl_cons]at he2
    have hAl:(A++[o2.length])[A.length]? = some o2.length:=by simp
    have hAs:(A++[o2.length]).set A.length (o2.length+1)=A++[o2.length+1]:=by simp
    simp -implicitDefEqProofs only[go_sem,hgx2,hlt2,encTx]
    refine⟨fun hts=>fun _ _=>⟨fun hne _ _=>?_,fun h0=>⟨by rw[Nat.add_mul]at *;omega,hAl,?_⟩⟩,fun hts=>?_⟩
    ·obtain⟨n,hn⟩:∃ n,o2.length=n+1:=⟨o2.length - 1,by omega⟩
     have hwm:IntKind.i64.wrap ((o2.length:Int) - 1)=(n:Int):=by rw[wrap_ok (by omega) (by omega)];omega
     have hgn:o2[n]? = some o2[n]:=List.getElem?_eq_getElem (by omega)
     have hlast:o2.getLast? = o2[n]?:=by rw[List.getLast?_eq_getElem?,hn];rfl
     generalize o2[n]=y at hgn
     have hgy:(o2.map encTx).getD (n:Int).toNat []=encTx y:=by simp[List.getD_eq_getElem?_getD,hgn]
     have hnl:((n:Int)<o2.length)=True:=by simp;omega
     have hn0:(0≤(n:Int))=True:=by simp
     rw[hwm]
     simp -implicitDefEqProofs only[go_sem,hgy,hnl,hn0,encTx]
     refine⟨fun hy=>⟨by rw[Nat.add_mul]at *;omega,hAl,?_⟩,fun hy=>?_⟩
     ·have hy':¬ y=s:=by simpa using hy
      have hrI:recI s o2 t=o2++[s]:=by unfold recI;rw[if_pos ⟨hts,by rw[hlast,hgn];simpa using hy'⟩]
      rw[hrI]at he2
      rw[hAs]
      exact⟨o2++[s],⟨he2,by simp;omega⟩,⟨hw2,by simp[encTx]⟩,by simp[tellA_cut0]⟩
     ·have hy':y=s:=by simpa using hy
      have hrI:recI s o2 t=o2:=by unfold recI;rw[if_neg (fun h=>h.2 (by rw[hlast,hgn,hy']))]
      rw[hrI]at he2
      exact⟨o2,⟨he2,by omega⟩,⟨hw2,rfl⟩,tellA_cut0⟩
    ·have hnil:o2=[]:=List.eq_nil_of_length_eq_zero (by omega)
     have hrI:recI s o2 t=o2++[s]:=by unfold recI;rw[if_pos ⟨hts,by rw[hnil];simp⟩]
     rw[hrI]at he2
     rw[hAs]
     exact⟨o2++[s],⟨he2,by simp;omega⟩,⟨hw2,by simp[encTx]⟩,by simp[tellA_cut0]⟩
    ·have hrI:recI s o2 t=o2:=by unfold recI;rw[if_neg (fun h=>hts h.1)]
     rw[hrI]at he2
     exact⟨o2,⟨he2,by omega⟩,⟨hw2,rfl⟩,tellA_cut0⟩
end Go.Proofs.YtighfcpaplmaiaaGreatDoor
