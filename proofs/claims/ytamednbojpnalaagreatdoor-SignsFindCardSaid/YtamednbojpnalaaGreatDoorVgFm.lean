/- The operations on trees, part 4b: maps, made slices, min and max, the letters of a string. -/
import Derived.Test.YtamednbojpnalaaGreatDoorVgF
import Derived.MapKept
import Derived.Laws.BytesString
set_option linter.unusedVariables false
set_option linter.unusedSimpArgs false
namespace Go.Vg
open Go.RowKit
/-! ### Maps with keys that are integers, strings or Booleans -/
def keyV:TypeDesc→V→Bool
 | .int k,.int k' _=>decide (k'=k)
 | .string,.str _=>true
 | .bool,.bool _=>true
 | _,_=>false
def sameV:TypeDesc→V→V→Option Bool
 | .int _,.int k a,.int k' b=>if k=k' then some (a == b)else none
 | .string,.str a,.str b=>some (a == b)
 | .bool,.bool a,.bool b=>some (a == b)
 | _,_,_=>none
def findV(d:TypeDesc)(k:V):List (V×V)→Nat→Option (Option (Nat×V))
 | [],_=>some none
 | (k',v)::r,i=>match sameV d k k' with
  | some true=>some (some (i,v))
  | some false=>findV d k r (i+1)
  | none=>none
def RP(P:Program)(G:Gh)(arr:List Nat)(es:List (V×V))(m:List MapEntry):Prop :=
 m.length=es.length∧∀ (j:Nat) kx vx,es[j]? = some (kx,vx)→∃ e:MapEntry,m[j]? = some e∧RV P G arr kx e.key∧RV P G arr vx e.val
theorem sameV_spec{P:Program}{G:Gh}{arr:List Nat}{d:TypeDesc}{x y:V}{vx vy:Value}{b:Bool}(hx:RV P G arr x vx)(hy:RV P G arr y vy)(h:sameV d x y=some b):Instr.sameNow d vx vy=some b:=by
 unfold sameV at h
 split at h
 ·cases hx;cases hy;exact h
 ·cases hx;cases hy;exact h
 ·cases hx;cases hy;exact h
 ·cases h
theorem sameV_true{P:Program}{G:Gh}{arr:List Nat}{d:TypeDesc}{x y:V}{vx vy:Value}(hx:RV P G arr x vx)(hy:RV P G arr y vy)(h:sameV d x y=some true):vx=vy:=by
 unfold sameV at h
 split at h
 ·cases hx;cases hy
  split at h
  ·rename_i e;subst e
   simp only[Option.some.injEq,beq_iff_eq]at h
   subst h
   rfl
  ·cases h
 ·cases hx;cases hy
  simp only[Option.some.injEq]at h
  rw[MapKept.bytes_beq]at h
  rw[h]
 ·cases hx;cases hy
  simp only[Option.some.injEq,beq_iff_eq]at h
  subst h
  rfl
 ·cases h
theorem keyV_spec{P:Program}{G:Gh}{arr:List Nat}{d:TypeDesc}{x:V}{v:Value}(hx:RV P G arr x v)(h:keyV d x=true):MapKept.IsKey d v:=by
 unfold keyV at h
 split at h
 ·cases hx;exact(of_decide_eq_true h:_=_)
 ·cases hx;trivial
 ·cases hx;trivial
 ·cases h
theorem findV_spec{P:Program}{G:Gh}{arr:List Nat}{d:TypeDesc}{k:V}{kv:Value}(hk:RV P G arr k kv):∀ (es:List (V×V)) (m:List MapEntry) (i:Nat) r,RP P G arr es m→findV d k es i=some r →
  (r=none∧Instr.findNow d kv m i=some none)∨∃ j v e,r=some (i+j,v)∧m[j]? = some e∧es[j]?.map (·.2)=some v∧Instr.findNow d kv m i=some (some (i+j,e.val))∧e.key=kv∧RV P G arr v e.val:=by
 intro es
 induction es with
 | nil =>
  intro m i r hp h
  have:m=[]:=List.eq_nil_of_length_eq_zero hp.1
  subst this
  simp only[findV,Option.some.injEq]at h
  subst h
  exact .inl ⟨rfl,rfl⟩
 | cons p es ih =>
  obtain⟨k',v⟩:=p
  intro m i r hp h
  cases m with
  | nil=>have:=hp.1;simp at this
  | cons e m =>
   obtain⟨e',he',h1,h2⟩:=hp.2 0 k' v rfl
   simp at he'
   subst he'
   simp only[findV]at h
   split at h
   ·rename_i hs
    simp only[Option.some.injEq]at h
    subst h
    exact .inr ⟨0,v,e,rfl,rfl,rfl,by simp[Instr.findNow,sameV_spec hk h1 hs],(sameV_true hk h1 hs).symm,h2⟩
   ·rename_i hs
    rcases ih m (i+1) r ⟨by have:=hp.1;simpa using this,fun j kx vx hj=>by
     obtain⟨e2,g1,g2⟩:=hp.2 (j+1) kx vx (by simpa using hj)
     exact⟨e2,by simpa using g1,g2⟩⟩ h with⟨g1,g2⟩ | ⟨j,u,e2,g1,g2,g3,g4,g5,g6⟩
    ·exact .inl ⟨g1,by simp[Instr.findNow,sameV_spec hk h1 hs,g2]⟩
    ·refine .inr ⟨j+1,u,e2,by rw[g1];congr 2;omega,by simpa using g2,by simpa using g3,?_,g5,g6⟩
     simp only[Instr.findNow,sameV_spec hk h1 hs,g4]
     congr 3;omega
   ·cases h
def mapAt(heap:List VObj):V→Option (List (V×V))
 | .nilmap=>some []
 | .map id=>match heap[id]? with
  | some (.map es)=>some es
  | _=>none
 | _=>none
def zeroVP(P:Program)(t:TypeId):V :=
 match P.info? t with
 | some i=>match i.zero with
  | some z=>ofV z
  | none => .junk
 | none => .junk
def vLook(E:Env)(heap:List VObj)(t:TypeId)(m k:V)(ok:Bool)(K:V→Prop):Prop :=
 match E.P.underlying t,mapAt heap m with
 | some (.map kt et),some es=>match E.P.underlying kt with
  | some d=>keyV d k=true∧match findV d k es 0 with
   | some (some (_,v))=>K (if ok then .tuple [v,.bool true]else v)
   | some none=>zeroOKP E.P et=true∧K (if ok then .tuple [zeroVP E.P et,.bool false]else zeroVP E.P et)
   | none=>False
  | none=>False
 | _,_=>False
theorem look_out{E:Env}{G:Gh}{heap:List VObj}{arr:List Nat}{w0:Base}{w:World}(h:RelW E G heap arr w0 w){t:TypeId}{m k:V}{vm vk:Value}{ok:Bool}{K:V→Prop}(hm:RV E.P G arr m vm)(hk:RV E.P G arr k vk)
  (hK:vLook E heap t m k ok K):∃ u y,(Instr.lookup t vm vk ok).run E.P w = .ok u w∧K y∧RV E.P G arr y u:=by
 unfold vLook at hK
 split at hK
 case h_2=>exact hK.elim
 rename_i kt et es ht hat
 split at hK
 case h_2=>exact hK.elim
 rename_i d hd
 obtain⟨hkey,hK⟩:=hK
 have hik:=keyV_spec hk hkey
 -- the entries
 have hes:∃ ms:Array MapEntry,RP E.P G arr es ms.toList∧((vm = .map none∧ms = #[])∨∃ b clk,vm = .map (some b)∧w.heap[b]? = some (.map ms clk)):=by
  unfold mapAt at hat
  split at hat
  ·cases hm
   simp only[Option.some.injEq]at hat
   subst hat
   exact⟨#[],⟨rfl,by simp⟩,.inl ⟨rfl,rfl⟩⟩
  ·rename_i id
   split at hat
   ·rename_i es' hh
    simp only[Option.some.injEq]at hat
    subst hat
    cases hm with
    | map _ b hb =>
     obtain⟨b',hb',ms,clk,g1,g2,g3⟩:=h.obj id _ hh
     rw[hb]at hb';cases hb'
     refine⟨ms,⟨by simpa using g2,fun j kx vx hj=>?_⟩,.inr ⟨b,clk,rfl,g1⟩⟩
     obtain⟨e,q1,q2⟩:=g3 j kx vx hj
     exact⟨e,by simpa using q1,q2⟩
   ·cases hat
  ·cases hat
 obtain⟨ms,hrp,hvm⟩:=hes
 have hck:=MapKept.run_checkKey (w:=w) hd hik ms.isEmpty 9999
 split at hK
 ·rename_i i v hf
  rcases findV_spec hk es ms.toList 0 _ hrp hf with⟨g1,_⟩ | ⟨j,v',e,g1,g2,g3,g4,g5,g6⟩
  ·cases g1
  ·simp only[Option.some.injEq,Prod.mk.injEq]at g1
   obtain⟨_,rfl⟩:=g1
   have hfk:=MapKept.run_findKey (w:=w) hd g4
   cases ok with
   | true =>
    refine⟨.tuple #[e.val,.bool true],_,?_,hK,?_⟩
    ·rcases hvm with⟨rfl,rfl⟩ | ⟨b,clk,rfl,hb⟩
     ·simp only[Instr.lookup,Sem.run_bind,run_und ht,Result.andThen_ok,hck,hfk,Sem.run_pure,if_true]
     ·simp only[Instr.lookup,Sem.run_bind,run_und ht,Result.andThen_ok,MapKept.run_getObj_map hb,hck,hfk,Sem.run_pure,if_true]
    ·refine .tuple _ _ rfl fun j c u hc hu=>?_
     match j with
     | 0=>simp at hc hu;subst hc hu;exact g6
     | 1=>simp at hc hu;subst hc hu;exact .bool _
     | j+2=>simp at hc
   | false =>
    refine⟨e.val,_,?_,hK,g6⟩
    rcases hvm with⟨rfl,rfl⟩ | ⟨b,clk,rfl,hb⟩
    ·simp only[Instr.lookup,Sem.run_bind,run_und ht,Result.andThen_ok,hck,hfk,Sem.run_pure,Bool.false_eq_true,if_false]
    ·simp only[Instr.lookup,Sem.run_bind,run_und ht,Result.andThen_ok,MapKept.run_getObj_map hb,hck,hfk,Sem.run_pure,Bool.false_eq_true,if_false]
 ·rename_i hf
  obtain⟨hz,hK⟩:=hK
  rcases findV_spec hk es ms.toList 0 _ hrp hf with⟨_,g2⟩ | ⟨j,v',e,g1,_⟩
  ·have hfk:=MapKept.run_findKey (w:=w) hd g2
   obtain⟨i,z,hi,hz'⟩:=zeroOK_spec (E:=E) (t:=et) hz
   have hzv:RV E.P G arr (zeroVP E.P et) z:=by
    unfold zeroVP;rw[hi];simp only[hz'];exact RV.ofV z
   have hzr:=run_zeroValue (w:=w) hi hz'
   cases ok with
   | true =>
    refine⟨.tuple #[z,.bool false],_,?_,hK,?_⟩
    ·rcases hvm with⟨rfl,rfl⟩ | ⟨b,clk,rfl,hb⟩
     ·simp only[Instr.lookup,Sem.run_bind,run_und ht,Result.andThen_ok,hck,hfk,Sem.run_pure,if_true,hzr]
     ·simp only[Instr.lookup,Sem.run_bind,run_und ht,Result.andThen_ok,MapKept.run_getObj_map hb,hck,hfk,Sem.run_pure,if_true,hzr]
    ·refine .tuple _ _ rfl fun j c u hc hu=>?_
     match j with
     | 0=>simp at hc hu;subst hc hu;exact hzv
     | 1=>simp at hc hu;subst hc hu;exact .bool _
     | j+2=>simp at hc
   | false =>
    refine⟨z,_,?_,hK,hzv⟩
    rcases hvm with⟨rfl,rfl⟩ | ⟨b,clk,rfl,hb⟩
    ·simp only[Instr.lookup,Sem.run_bind,run_und ht,Result.andThen_ok,hck,hfk,Sem.run_pure,Bool.false_eq_true,if_false,hzr]
    ·simp only[Instr.lookup,Sem.run_bind,run_und ht,Result.andThen_ok,MapKept.run_getObj_map hb,hck,hfk,Sem.run_pure,Bool.false_eq_true,if_false,hzr]
  ·cases g1
 ·exact hK.elim
def vMapSet(E:Env)(heap:List VObj)(t:TypeId)(m k v:V)(K:List VObj→Prop):Prop :=
 match E.P.underlying t,m with
 | some (.map kt _),.map id=>match heap[id]?,E.P.underlying kt with
  | some (.map es),some d=>keyV d k=true∧match findV d k es 0 with
   | some (some (j,_))=>K (heap.set id (.map (es.set j (k,v))))
   | some none=>K (heap.set id (.map (es++[(k,v)])))
   | none=>False
  | _,_=>False
 | _,_=>False
theorem mapSet_out{E:Env}{G:Gh}{heap:List VObj}{arr:List Nat}{w0:Base}{w:World}(h:RelW E G heap arr w0 w){t:TypeId}{m k x:V}{vm vk vx:Value}{K:List VObj→Prop}(hm:RV E.P G arr m vm)(hk:RV E.P G arr k vk)
  (hx:RV E.P G arr x vx) (hK:vMapSet E heap t m k x K):∃ w' heap',(Instr.mapUpdate t vm vk vx).run E.P w = .ok () w'∧K heap'∧RelW E G heap' arr w0 w':=by
 unfold vMapSet at hK
 split at hK
 case h_2=>exact hK.elim
 rename_i kt et id ht
 split at hK
 case h_2=>exact hK.elim
 rename_i es d hh hd
 obtain⟨hkey,hK⟩:=hK
 have hik:=keyV_spec hk hkey
 cases hm with
 | map _ b hb =>
  obtain⟨b',hb',ms,clk,g1,g2,g3⟩:=h.obj id _ hh
  rw[hb]at hb';cases hb'
  have hrp:RP E.P G arr es ms.toList:=⟨by simpa using g2,fun j kx vx hj=>by
   obtain⟨e,q1,q2⟩:=g3 j kx vx hj
   exact⟨e,by simpa using q1,q2⟩⟩
  have hck:=MapKept.run_checkKey (w:=w) hd hik false 9999
  have hidl:=(List.getElem?_eq_some_iff.1 hh).1
  have hbl:b<w.heap.size:=(Array.getElem?_eq_some_iff.1 g1).1
  have go:∀ (ms':Array MapEntry) (clk':Nat) (es':List (V×V)),RP E.P G arr es' ms'.toList→RelW E G (heap.set id (.map es')) arr w0 { w with heap:=w.heap.setIfInBounds b (.map ms' clk') }:=by
   intro ms' clk' es' hp
   refine h.change hb hidl (by rw[hh];simp) rfl rfl rfl (by simp) (fun k hk=>by simp[Array.getElem?_setIfInBounds_ne (Ne.symm hk)]) ⟨ms',clk',by simp[hbl],by simpa using hp.1,fun j kx vx hj=>?_⟩
   obtain⟨e,q1,q2⟩:=hp.2 j kx vx hj
   exact⟨e,by simpa using q1,q2⟩
  split at hK
  ·rename_i j v hf
   rcases findV_spec hk es ms.toList 0 _ hrp hf with⟨q1,_⟩ | ⟨j',v',e,q1,q2,q3,q4,q5,q6⟩
   ·cases q1
   ·simp only[Option.some.injEq,Prod.mk.injEq,Nat.zero_add]at q1
    obtain⟨rfl,rfl⟩:=q1
    have hj:ms[j]? = some e:=by simpa using q2
    have hfk:=MapKept.run_findKey (w:=w) hd q4
    have hkeep:=MapKept.run_keyThatStays (P:=E.P) (w:=w) hik
    refine⟨_,_,?_,hK,go (ms.modify j fun e=>{ e with key:=vk,val:=vx }) clk _ ⟨by simp[hrp.1],fun i kx ux hi=>?_⟩⟩
    ·simp only[Nat.zero_add]at hfk
     simp only[Instr.mapUpdate,Sem.run_bind,run_und ht,Result.andThen_ok,MapKept.run_getObj_map g1,hck,hfk,hj,Option.map_some,Option.getD_some,q5,hkeep,MapKept.run_setObj_map _ g1]
    ·by_cases hij:i=j
     ·subst hij
      have hjl:i<es.length:=by
       rcases Nat.lt_or_ge i es.length with h' | h'
       ·exact h'
       ·rw[List.getElem?_eq_none (by simpa using h')]at hi;cases hi
      rw[List.getElem?_set_self hjl]at hi
      cases hi
      exact⟨{ e with key:=vk,val:=vx },by simp[hj],hk,hx⟩
     ·rw[List.getElem?_set_ne (Ne.symm hij)]at hi
      obtain⟨e2,r1,r2⟩:=hrp.2 i kx ux hi
      refine⟨e2,?_,r2⟩
      simp only[Array.getElem?_toList]at r1 ⊢
      rw[Array.getElem?_modify,if_neg (Ne.symm hij)];exact r1
  ·rename_i hf
   rcases findV_spec hk es ms.toList 0 _ hrp hf with⟨_,q2⟩ | ⟨j',v',e,q1,_⟩
   ·have hfk:=MapKept.run_findKey (w:=w) hd q2
    refine⟨_,_,?_,hK,go (ms.push { key:=vk,val:=vx,born:=clk }) (clk+1) _ ⟨by simp[hrp.1],fun i kx ux hi=>?_⟩⟩
    ·simp only[Instr.mapUpdate,Sem.run_bind,run_und ht,Result.andThen_ok,MapKept.run_getObj_map g1,hck,hfk,MapKept.run_setObj_map _ g1]
    ·have hl:=hrp.1
     simp only[Array.toList_push]
     by_cases hil:i<es.length
     ·rw[List.getElem?_append_left hil]at hi
      obtain⟨e2,r1,r2⟩:=hrp.2 i kx ux hi
      exact⟨e2,by rw[List.getElem?_append_left (by omega)];exact r1,r2⟩
     ·rw[List.getElem?_append_right (by omega)]at hi
      have hi0:i - es.length=0:=by
       rcases Nat.eq_zero_or_pos (i - es.length)with h' | h'
       ·exact h'
       ·rw[List.getElem?_eq_none (by simp;omega)]at hi;cases hi
      rw[hi0]at hi
      simp at hi
      obtain⟨rfl,rfl⟩:=hi
      exact⟨{ key:=vk,val:=vx,born:=clk },by rw[List.getElem?_append_right (by omega),hl,hi0];rfl,hk,hx⟩
   ·cases q1
  ·exact hK.elim
theorem makeMap_out{E:Env}{G:Gh}{heap:List VObj}{arr:List Nat}{w0:Base}{w:World}(h:RelW E G heap arr w0 w){t:TypeId} :
  (Instr.makeMap t none).run E.P w = .ok (.map (some w.heap.size)) (w.alloc (.map #[] 0))∧RelW E (G.newObj w.heap.size) (heap++[.map []]) arr w0 (w.alloc (.map #[] 0))∧RV E.P (G.newObj w.heap.size) arr (.map heap.length) (.map (some w.heap.size)):=by
 refine⟨by simp[Instr.makeMap,Result.andThen],h.allocM _ _ ⟨#[],0,by rw[heap_alloc,if_pos rfl],rfl,by simp⟩,.map _ _ ?_⟩
 simp[Gh.newObj,h.lenφ]
/-! ### Made slices -/
def vMakeSlice(E:Env)(heap:List VObj)(t:TypeId)(l c:V)(K:V→List VObj→Prop):Prop :=
 match E.P.underlying t,l,c with
 | some (.slice e),.int _ n,.int _ n'=>(n=n'∧elemOK E.P e=true∧0≤n∧n.toNat * E.P.bytesOf e≤140737488355328) ∧
   K (.mslice heap.length 0 n.toNat n.toNat e) (heap++[.cells (List.replicate n.toNat (zeroL E e)).flatten])
 | _,_,_=>False
theorem wrap_ok{x:Int}(h : -9223372036854775808≤x)(h':x≤9223372036854775807):IntKind.i64.wrap x=x:=by
 simp only[IntKind.wrap,IntKind.signed,IntKind.bits];simp;omega
theorem flat_get{α:Type}(l:List α)(hl:0<l.length):∀ (n j:Nat) x,(List.replicate n l).flatten[j]? = some x→l[j % l.length]? = some x:=by
 intro n
 induction n with
 | zero=>intro j x h;simp at h
 | succ n ih =>
  intro j x h
  simp only[List.replicate_succ,List.flatten_cons]at h
  by_cases hj:j<l.length
  ·rw[List.getElem?_append_left hj]at h
   rw[Nat.mod_eq_of_lt hj];exact h
  ·rw[List.getElem?_append_right (by omega)]at h
   rw[Nat.mod_eq_sub_mod (by omega)]
   exact ih _ _ h
theorem askR{P:Program}{n:Nat}{w:World}:(askRoom n).run P w = .ok () w:=by unfold askRoom;split <;> rfl
theorem makeSlice_out{E:Env}{G:Gh}{heap:List VObj}{arr:List Nat}{w0:Base}{w:World}(h:RelW E G heap arr w0 w){t:TypeId}{l c:V}{vl vc:Value}{K:V→List VObj→Prop}(hl:RV E.P G arr l vl)(hc:RV E.P G arr c vc)
  (hK:vMakeSlice E heap t l c K):∃ u y heap' G' w',(Instr.makeSlice t vl vc).run E.P w = .ok u w'∧K y heap'∧Ext G arr G' arr∧RelW E G' heap' arr w0 w'∧RV E.P G' arr y u:=by
 unfold vMakeSlice at hK
 split at hK
 case h_2=>exact hK.elim
 rename_i e k1 n k2 n' ht
 obtain⟨⟨rfl,hok,h0,hb⟩,hK⟩:=hK
 cases hl;cases hc
 obtain⟨i,z,hi,hz,hz1,hzs,his,hib,hs1,hb1,hb2⟩:=elemOK_spec hok
 have hzl:=zeroL_rel (G:=G) (arr:=arr) (E:=E) hi hz
 have hzl0:(zeroL E e).length=E.P.cellsOf e:=by rw[←hzl.1];exact hzs
 have hn47:n.toNat≤140737488355328:=Nat.le_trans (Nat.le_mul_of_pos_right _ hb1) hb
 have hw:IntKind.i64.wrap n=n:=wrap_ok (by omega) (by omega)
 have hnot:¬ ((2:Int) ^ 48<(i.bytes:Int) * n):=by
  rw[hib]
  have h1:((n.toNat:Int))=n:=by omega
  have h2:((n.toNat * E.P.bytesOf e:Nat):Int)=(E.P.bytesOf e:Int) * n:=by rw[Int.natCast_mul,h1,Int.mul_comm]
  rw[←h2]
  have h48:(2:Int) ^ 48=281474976710656:=by decide
  rw[h48]
  generalize n.toNat * E.P.bytesOf e=q at hb
  omega
 let cells:=(Array.range (n.toNat * E.P.cellsOf e)).map (z.cells[· % z.cells.size]!)
 refine⟨.slice (some ⟨w.heap.size,0,none⟩) n.toNat n.toNat,_,_,G.newObj w.heap.size,w.alloc (.cells cells e),?_,hK,G.ext_newObj _ _,h.allocM _ _ ⟨cells,e,by rw[heap_alloc,if_pos rfl],?_,fun j x hj=>?_⟩,.mslice _ _ _ _ _ w.heap.size ?_ hn47 (Nat.le_refl _) hb⟩
 ·simp only[Instr.makeSlice,Sem.run_bind,run_und ht,Result.andThen_ok,asInt,asIntOf,Sem.run_pure,run_info hi,hw]
  have hc1:decide ((2:Int) ^ 48<(i.bytes:Int) * n)=false:=decide_eq_false hnot
  have hc2:(decide (n<0))=false:=by simpa using h0
  simp only[gt_iff_lt,hc1,Bool.false_or,Int.lt_irrefl,decide_false,Bool.or_false,hc2,Bool.false_eq_true,if_false,Sem.run_bind,askR,Result.andThen_ok,run_sizeOf hi]
  by_cases h0':n.toNat * E.P.cellsOf e=0
  ·simp only[if_pos h0',Sem.run_bind,Sem.run_pure,Result.andThen_ok,newRow,newObj,Sem.run]
   have:cells=(Array.range (n.toNat * E.P.cellsOf e)).map ((#[]:Array Value)[· % (#[]:Array Value).size]!):=by simp only[cells,h0'];simp
   rw[this];rfl
  ·simp only[if_neg h0',Sem.run_bind,run_zeroValue hi hz,Sem.run_pure,Result.andThen_ok,newRow,newObj,Sem.run]
   rfl
 ·simp[cells,List.length_flatten,hzl0]
 ·have hjl:=(List.getElem?_eq_some_iff.1 hj).1
  have hlen:((List.replicate n.toNat (zeroL E e)).flatten).length=n.toNat * E.P.cellsOf e:=by simp[List.length_flatten,hzl0]
  rw[hlen]at hjl
  have hg:=flat_get (zeroL E e) (by omega) _ _ _ hj
  rw[hzl0]at hg
  have hm:j % E.P.cellsOf e<z.cells.size:=by rw[hzs];exact Nat.mod_lt _ (by omega)
  refine⟨z.cells[j % E.P.cellsOf e],?_,hzl.2 _ x _ hg (Array.getElem?_eq_getElem hm)⟩
  have hm':j % z.cells.size<z.cells.size:=by rw[hzs];rw[hzs]at hm;exact hm
  simp only[cells,Array.getElem?_map,Array.getElem?_range,hjl,if_true,Option.map_some,Option.some.injEq]
  rw[getElem!_pos z.cells _ hm']
  simp only[hzs]
 ·simp[Gh.newObj,h.lenφ]
/-! ### The letters of a string -/
def vNext(heap:List VObj)(x:V)(K:V→List VObj→Prop):Prop :=
 match x with
 | .ptr id 0=>match heap[id]? with
  | some (.siter s pos)=>if pos<s.size then K (.tuple [.bool true,.int .i64 pos,.int .i32 (Utf8.decode s pos).1]) (heap.set id (.siter s (pos+(Utf8.decode s pos).2)))else K (.tuple [.bool false]) heap
  | _=>False
 | _=>False
theorem next_out{E:Env}{G:Gh}{heap:List VObj}{arr:List Nat}{w0:Base}{w:World}(h:RelW E G heap arr w0 w){ty:TypeId}{x:V}{vx:Value}{K:V→List VObj→Prop}(hx:RV E.P G arr x vx)(hK:vNext heap x K) :
  ∃ u y heap' w',(Instr.next vx true ty).run E.P w = .ok u w'∧K y heap'∧RelW E G heap' arr w0 w'∧RV E.P G arr y u:=by
 unfold vNext at hK
 split at hK
 case h_2=>exact hK.elim
 rename_i id
 split at hK
 case h_2=>exact hK.elim
 rename_i s pos hh
 cases hx with
 | ptr _ _ b hb =>
  obtain⟨b',hb',g1,g2⟩:=h.obj id _ hh
  rw[hb]at hb';cases hb'
  have hbl:b<w.heap.size:=(Array.getElem?_eq_some_iff.1 g1).1
  have hg:(getObj b).run E.P w = .ok (.stringIter s pos) w:=by simp[getObj,Sem.run,g1]
  split at hK
  ·rename_i hp
   refine⟨.tuple #[.bool true,goInt pos,.int .i32 (Utf8.decode s pos).1],_,_,{ w with heap:=w.heap.setIfInBounds b (.stringIter s (pos+(Utf8.decode s pos).2)) },?_,hK,?_,?_⟩
   ·have hso:(setObj b (.stringIter s (pos+(Utf8.decode s pos).2))).run E.P w = .ok () { w with heap:=w.heap.setIfInBounds b (.stringIter s (pos+(Utf8.decode s pos).2)) }:=by simp[setObj,Sem.run,g1]
    simp only[Instr.next,Sem.run_bind,hg,Result.andThen_ok,if_pos hp,hso,Sem.run_pure]
   ·exact h.change hb (List.getElem?_eq_some_iff.1 hh).1 (by rw[hh];simp) rfl rfl rfl (by simp) (fun k hk=>by simp[Array.getElem?_setIfInBounds_ne (Ne.symm hk)]) ⟨by simp[hbl],g2⟩
   ·refine .tuple _ _ rfl fun j c u hc hu=>?_
    match j with
    | 0=>simp at hc hu;subst hc hu;exact .bool _
    | 1=>simp[goInt]at hc hu;subst hc hu;exact .int _ _
    | 2=>simp at hc hu;subst hc hu;exact .int _ _
    | j+3=>simp at hc
  ·rename_i hp
   refine⟨.tuple #[.bool false],_,_,w,?_,hK,h,?_⟩
   ·simp only[Instr.next,Sem.run_bind,hg,Result.andThen_ok,if_neg hp,Sem.run_pure]
   ·refine .tuple _ _ rfl fun j c u hc hu=>?_
    match j with
    | 0=>simp at hc hu;subst hc hu;exact .bool _
    | j+1=>simp at hc
def vRange(E:Env)(heap:List VObj)(t:TypeId)(x:V)(K:V→List VObj→Prop):Prop :=
 match E.P.underlying t,x with
 | some .string,.str s=>K (.ptr heap.length 0) (heap++[.siter s 0])
 | _,_=>False
theorem range_out{E:Env}{G:Gh}{heap:List VObj}{arr:List Nat}{w0:Base}{w:World}(h:RelW E G heap arr w0 w){t:TypeId}{x:V}{vx:Value}{K:V→List VObj→Prop}(hx:RV E.P G arr x vx)(hK:vRange E heap t x K) :
  ∃ u y heap' G' w',(Instr.range t vx).run E.P w = .ok u w'∧K y heap'∧Ext G arr G' arr∧RelW E G' heap' arr w0 w'∧RV E.P G' arr y u:=by
 unfold vRange at hK
 split at hK
 case h_2=>exact hK.elim
 rename_i s ht
 cases hx with
 | str _ hs =>
  refine⟨.pointer (some ⟨w.heap.size,0,none⟩),_,_,G.newObj w.heap.size,w.alloc (.stringIter s 0),?_,hK,G.ext_newObj _ _,h.allocM _ _ ⟨by rw[heap_alloc,if_pos rfl],hs⟩,.ptr _ _ _ (by simp[Gh.newObj,h.lenφ])⟩
  simp only[Instr.range,Sem.run_bind,run_und ht,Result.andThen_ok,Sem.run_pure,newObj,Sem.run]
  rfl
/-! ### The lesser and the greater of two integers -/
def vMin(x y:V)(K:V→Prop):Prop :=
 match x,y with
 | .int k a,.int _ b=>K (.int k (if b<a then b else a))
 | _,_=>False
def vMax3(x y z:V)(K:V→Prop):Prop :=
 match x,y,z with
 | .int k a,.int _ b,.int _ c=>K (.int k (if(if a<b then b else a)<c then c else(if a<b then b else a)))
 | _,_,_=>False
def vMax(x y:V)(K:V→Prop):Prop :=
 match x,y with
 | .int k a,.int _ b=>K (.int k (if b > a then b else a))
 | _,_=>False
/-! ### Bytes to a string -/
def intsOf:List (List V)→Option (List Int)
 | []=>some []
 | [.int .u8 n]::r=>(intsOf r).map (n::·)
 | _=>none
def strOf(ns:List Int):ByteArray:=⟨(ns.map fun n=>UInt8.ofNat n.toNat).toArray⟩
theorem intsOf_get:∀ {es:List (List V)} {ns:List Int},intsOf es=some ns→ns.length=es.length∧∀ (i:Nat) n,ns[i]? = some n→es[i]? = some [.int .u8 n]:=by
 intro es
 induction es with
 | nil=>intro ns h;simp only[intsOf,Option.some.injEq]at h;subst h;exact⟨rfl,by simp⟩
 | cons x r ih =>
  intro ns h
  unfold intsOf at h
  split at h
  ·rename_i heq;cases heq
  ·rename_i n r' heq
   injection heq with h1 h2
   subst h1 h2
   obtain⟨ms,hms,rfl⟩:=Option.map_eq_some_iff.1 h
   obtain⟨g1,g2⟩:=ih hms
   refine⟨by simp[g1],fun i m hi=>?_⟩
   cases i with
   | zero=>simp at hi;subst hi;rfl
   | succ i=>simpa using g2 i m (by simpa using hi)
  ·cases h
theorem fold_push:∀ (ns:List Int) (s:ByteArray),ns.foldl (fun r n=>r.push (UInt8.ofNat n.toNat)) s=⟨s.data++(ns.map fun n=>UInt8.ofNat n.toNat).toArray⟩:=by
 intro ns
 induction ns with
 | nil=>intro s;simp
 | cons n r ih =>
  intro s
  simp only[List.foldl_cons,ih,List.map_cons]
  congr 1
  show(s.data.push _)++_=_
  apply Array.ext'
  simp
theorem bytes_out{E:Env}{G:Gh}{heap:List VObj}{arr:List Nat}{w0:Base}{w:World}(h:RelW E G heap arr w0 w){o:Own}{e:TypeId}{es:List (List V)}{v:Value}{ns:List Int}
  (hv:RV E.P G arr (.slice o e es) v) (he:E.P.cellsOf e=1) (hn:intsOf es=some ns):(Conv.bytesToString v).run E.P w = .ok (.string (strOf ns)) w∧(strOf ns).size≤1152921504606846976:=by
 obtain⟨hl,hg⟩:=intsOf_get hn
 obtain⟨vs,⟨a,cap,rfl⟩,h2,h3,h4⟩:=elems_read h hv
 have hle:es.length≤140737488355328:=by
  cases hv with
  | snil=>simp
  | sodd=>simp
  | slice _ _ _ b off cap ho g1 g2 g3 g4 g5 g6=>exact g3
 have hvs:vs=(ns.map (Value.int .u8)).toArray:=by
  apply Array.ext_getElem?
  intro i
  by_cases hi:i<ns.length
  ·have hes:=hg i _ (List.getElem?_eq_getElem hi)
   obtain⟨u,hu,hr⟩:=h4 i _ 0 _ hes rfl
   rw[he,Nat.mul_one,Nat.add_zero]at hu
   cases hr
   rw[hu];simp[hi]
  ·rw[Array.getElem?_eq_none (by rw[h3,he];omega),Array.getElem?_eq_none (by simp;omega)]
 refine⟨?_,by simp[strOf,ByteArray.size];omega⟩
 cases a with
 | none =>
  have hz:ns=[]:=by
   cases hv <;> (simp at hl;exact hl)
  subst hz
  rfl
 | some a =>
  rw[he]at h2
  simp only[Builtin.firstCells,Nat.mul_one]at h2
  rw[hvs]at h2
  rw[run_bytesToString w a es.length cap ns h2,fold_push]
  congr 2
  simp[strOf]
end Go.Vg
