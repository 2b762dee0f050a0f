import Derived.Test.YtighfcpaplmaiaaGreatDoorVgF
import Derived.MapKept
import Derived.Laws.BytesString
import Derived.Lib.ConvBytes
set_option linter.unusedVariables false
set_option linter.unusedSimpArgs false
namespace Go.Vg
open Go.RowKit
def d3i:TypeDesc→V→Bool
 | .int k,.int k' _=>decide (k'=k)
 | .string,.str _=>true
 | .bool,.bool _=>true
 | _,_=>false
def b7o:TypeDesc→V→V→Option Bool
 | .int _,.int k a,.int k' b=>if k=k' then some (a == b)else none
 | .string,.str a,.str b=>some (a == b)
 | .bool,.bool a,.bool b=>some (a == b)
 | _,_,_=>none
def b1t(d:TypeDesc)(k:V):List (V×V)→Nat→Option (Option (Nat×V))
 | [],_=>some none
 | (k',v)::r,i=>match b7o d k k' with
  | some true=>some (some (i,v))
  | some false=>b1t d k r (i+1)
  | none=>none
def RP(P:Program)(G:Gh)(arr:List Nat)(es:List (V×V))(m:List MapEntry):Prop :=
 m.length=es.length∧∀ (j:Nat) kx vx,es[j]? = some (kx,vx)→∃ e:MapEntry,m[j]? = some e∧RV P G arr kx e.key∧RV P G arr vx e.val
theorem b7u{P:Program}{G:Gh}{arr:List Nat}{d:TypeDesc}{x y:V}{vx vy:Value}{b:Bool}(hx:RV P G arr x vx)(hy:RV P G arr y vy)(h:b7o d x y=some b):Instr.sameNow d vx vy=some b:=by
 unfold b7o at h
 split at h
 ·cases hx;cases hy;exact h
 ·cases hx;cases hy;exact h
 ·cases hx;cases hy;exact h
 ·cases h
theorem c8r{P:Program}{G:Gh}{arr:List Nat}{d:TypeDesc}{x y:V}{vx vy:Value}(hx:RV P G arr x vx)(hy:RV P G arr y vy)(h:b7o d x y=some true):vx=vy:=by
 unfold b7o at h
 split at h
 ·cases hx;cases hy
  split at h
  ·rename_i e;subst e
   simp only[Option.some.injEq,beq_iff_eq]at h
   subst h
   rfl
  ·cases h
 ·cases hx;cases hy
  simp only[Option.some.injEq]at h
  rw[MapKept.bytes_beq]at h
  rw[h]
 ·cases hx;cases hy
  simp only[Option.some.injEq,beq_iff_eq]at h
  subst h
  rfl
 ·cases h
theorem c4b{P:Program}{G:Gh}{arr:List Nat}{d:TypeDesc}{x:V}{v:Value}(hx:RV P G arr x v)(h:d3i d x=true):MapKept.IsKey d v:=by
 unfold d3i at h
 split at h
 ·cases hx;exact(of_decide_eq_true h:_=_)
 ·cases hx;trivial
 ·cases hx;trivial
 ·cases h
theorem b5Z{P:Program}{G:Gh}{arr:List Nat}{d:TypeDesc}{k:V}{kv:Value}(hk:RV P G arr k kv):∀ (es:List (V×V)) (m:List MapEntry) (i:Nat) r,RP P G arr es m→b1t d k es i=some r →
  (r=none∧Instr.findNow d kv m i=some none)∨∃ j v e,r=some (i+j,v)∧m[j]? = some e∧es[j]?.map (·.2)=some v∧Instr.findNow d kv m i=some (some (i+j,e.val))∧e.key=kv∧RV P G arr v e.val:=by
 intro es
 induction es with
 | nil =>
  intro m i r hp h
  have:m=[]:=g9C hp.1
  subst this
  simp only[b1t,Option.some.injEq]at h
  subst h
  exact .inl ⟨rfl,rfl⟩
 | cons p es ih =>
  obtain⟨k',v⟩:=p
  intro m i r hp h
  cases m with
  | nil=>have:=hp.1;simp at this
  | cons e m =>
   obtain⟨e',he',h1,h2⟩:=hp.2 0 k' v rfl
   simp at he'
   subst he'
   simp only[b1t]at h
   split at h
   ·rename_i hs
    simp only[Option.some.injEq]at h
    subst h
    exact .inr ⟨0,v,e,rfl,rfl,rfl,by simp[Instr.findNow,b7u hk h1 hs],(c8r hk h1 hs).symm,h2⟩
   ·rename_i hs
    rcases ih m (i+1) r ⟨by have:=hp.1;simpa using this,fun j kx vx hj=>by
     obtain⟨e2,g1,g2⟩:=hp.2 (j+1) kx vx (by simpa using hj)
     exact⟨e2,by simpa using g1,g2⟩⟩ h with⟨g1,g2⟩ | ⟨j,u,e2,g1,g2,g3,g4,g5,g6⟩
    ·exact .inl ⟨g1,by simp[Instr.findNow,b7u hk h1 hs,g2]⟩
    ·refine .inr ⟨j+1,u,e2,by rw[g1];congr 2;omega,by simpa using g2,by simpa using g3,?_,g5,g6⟩
     simp only[Instr.findNow,b7u hk h1 hs,g4]
     congr 3;omega
   ·cases h
def b8n(heap:List VObj):V→Option (List (V×V))
 | .nilmap=>some []
 | .map id=>match heap[id]? with
  | some (.map es)=>some es
  | _=>none
 | _=>none
def b2Q(P:Program)(t:TypeId):V :=
 match P.info? t with
 | some i=>match i.zero with
  | some z=>ofV z
  | none => .junk
 | none => .junk
def vLook(E:Env)(heap:List VObj)(t:TypeId)(m k:V)(ok:Bool)(K:V→Prop):Prop :=
 match E.P.underlying t,b8n heap m with
 | some (.map kt et),some es=>match E.P.underlying kt with
  | some d=>d3i d k=true∧match b1t d k es 0 with
   | some (some (_,v))=>K (if ok then .tuple [v,.bool true]else v)
   | some none=>b0S E.P et=true∧K (if ok then .tuple [b2Q E.P et,.bool false]else b2Q E.P et)
   | none=>False
  | none=>False
 | _,_=>False
theorem d3V{E:Env}{G:Gh}{heap:List VObj}{arr:List Nat}{w0:Base}{w:World}(h:RelW E G heap arr w0 w){t:TypeId}{m k:V}{vm vk:Value}{ok:Bool}{K:V→Prop}(hm:RV E.P G arr m vm)(hk:RV E.P G arr k vk)
  (hK:vLook E heap t m k ok K):∃ u y,(Instr.lookup t vm vk ok).run E.P w = .ok u w∧K y∧RV E.P G arr y u:=by
 unfold vLook at hK
 split at hK
 case h_2=>exact hK.elim
 rename_i kt et es ht hat
 split at hK
 case h_2=>exact hK.elim
 rename_i d hd
 obtain⟨hkey,hK⟩:=hK
 have hik:=c4b hk hkey
 -- the entries
 have hes:∃ ms:Array MapEntry,RP E.P G arr es ms.toList∧((vm = .map none∧ms = #[])∨∃ b clk,vm = .map (some b)∧w.heap[b]? = some (.map ms clk)):=by
  unfold b8n at hat
  split at hat
  ·cases hm
   simp only[Option.some.injEq]at hat
   subst hat
   exact⟨#[],⟨rfl,by simp⟩,.inl ⟨rfl,rfl⟩⟩
  ·rename_i id
   split at hat
   ·rename_i es' hh
    simp only[Option.some.injEq]at hat
    subst hat
    cases hm with
    | map _ b hb =>
     obtain⟨b',hb',ms,clk,g1,g2,g3⟩:=h.obj id _ hh
     rw[hb]at hb';cases hb'
     refine⟨ms,⟨by simpa using g2,fun j kx vx hj=>?_⟩,.inr ⟨b,clk,rfl,g1⟩⟩
     obtain⟨e,q1,q2⟩:=g3 j kx vx hj
     exact⟨e,by simpa using q1,q2⟩
   ·cases hat
  ·cases hat
 obtain⟨ms,hrp,hvm⟩:=hes
 have hck:=MapKept.run_checkKey (w:=w) hd hik ms.isEmpty 9999
 split at hK
 ·rename_i i v hf
  rcases b5Z hk es ms.toList 0 _ hrp hf with⟨g1,_⟩ | ⟨j,v',e,g1,g2,g3,g4,g5,g6⟩
  ·cases g1
  ·simp only[Option.some.injEq,Prod.mk.injEq]at g1
   obtain⟨_,rfl⟩:=g1
   have hfk:=MapKept.run_findKey (w:=w) hd g4
   cases ok with
   | true =>
    refine⟨.tuple #[e.val,.bool true],_,?_,hK,?_⟩
    ·rcases hvm with⟨rfl,rfl⟩ | ⟨b,clk,rfl,hb⟩
     ·simp only[Instr.lookup,h0z,b0y ht,h0y,hck,hfk,h0A,if_true]
     ·simp only[Instr.lookup,h0z,b0y ht,h0y,MapKept.run_getObj_map hb,hck,hfk,h0A,if_true]
    ·refine .tuple _ _ rfl fun j c u hc hu=>?_
     match j with
     | 0=>simp at hc hu;subst hc hu;exact g6
     | 1=>simp at hc hu;subst hc hu;exact .bool _
     | j+2=>simp at hc
   | false =>
    refine⟨e.val,_,?_,hK,g6⟩
    rcases hvm with⟨rfl,rfl⟩ | ⟨b,clk,rfl,hb⟩
    ·simp only[Instr.lookup,h0z,b0y ht,h0y,hck,hfk,h0A,g9n,if_false]
    ·simp only[Instr.lookup,h0z,b0y ht,h0y,MapKept.run_getObj_map hb,hck,hfk,h0A,g9n,if_false]
 ·rename_i hf
  obtain⟨hz,hK⟩:=hK
  rcases b5Z hk es ms.toList 0 _ hrp hf with⟨_,g2⟩ | ⟨j,v',e,g1,_⟩
  ·have hfk:=MapKept.run_findKey (w:=w) hd g2
   obtain⟨i,z,hi,hz'⟩:=b3R (E:=E) (t:=et) hz
   have hzv:RV E.P G arr (b2Q E.P et) z:=by
    unfold b2Q;rw[hi];simp only[hz'];exact RV.ofV z
   have hzr:=b1K (w:=w) hi hz'
   cases ok with
   | true =>
    refine⟨.tuple #[z,.bool false],_,?_,hK,?_⟩
    ·rcases hvm with⟨rfl,rfl⟩ | ⟨b,clk,rfl,hb⟩
     ·simp only[Instr.lookup,h0z,b0y ht,h0y,hck,hfk,h0A,if_true,hzr]
     ·simp only[Instr.lookup,h0z,b0y ht,h0y,MapKept.run_getObj_map hb,hck,hfk,h0A,if_true,hzr]
    ·refine .tuple _ _ rfl fun j c u hc hu=>?_
     match j with
     | 0=>simp at hc hu;subst hc hu;exact hzv
     | 1=>simp at hc hu;subst hc hu;exact .bool _
     | j+2=>simp at hc
   | false =>
    refine⟨z,_,?_,hK,hzv⟩
    rcases hvm with⟨rfl,rfl⟩ | ⟨b,clk,rfl,hb⟩
    ·simp only[Instr.lookup,h0z,b0y ht,h0y,hck,hfk,h0A,g9n,if_false,hzr]
    ·simp only[Instr.lookup,h0z,b0y ht,h0y,MapKept.run_getObj_map hb,hck,hfk,h0A,g9n,if_false,hzr]
  ·cases g1
 ·exact hK.elim
def vMapSet(E:Env)(heap:List VObj)(t:TypeId)(m k v:V)(K:List VObj→Prop):Prop :=
 match E.P.underlying t,m with
 | some (.map kt _),.map id=>match heap[id]?,E.P.underlying kt with
  | some (.map es),some d=>d3i d k=true∧match b1t d k es 0 with
   | some (some (j,_))=>K (heap.set id (.map (es.set j (k,v))))
   | some none=>K (heap.set id (.map (es++[(k,v)])))
   | none=>False
  | _,_=>False
 | _,_=>False
theorem c9k{E:Env}{G:Gh}{heap:List VObj}{arr:List Nat}{w0:Base}{w:World}(h:RelW E G heap arr w0 w){t:TypeId}{m k x:V}{vm vk vx:Value}{K:List VObj→Prop}(hm:RV E.P G arr m vm)(hk:RV E.P G arr k vk)
  (hx:RV E.P G arr x vx) (hK:vMapSet E heap t m k x K):∃ w' heap',(Instr.mapUpdate t vm vk vx).run E.P w = .ok () w'∧K heap'∧RelW E G heap' arr w0 w':=by
 unfold vMapSet at hK
 split at hK
 case h_2=>exact hK.elim
 rename_i kt et id ht
 split at hK
 case h_2=>exact hK.elim
 rename_i es d hh hd
 obtain⟨hkey,hK⟩:=hK
 have hik:=c4b hk hkey
 cases hm with
 | map _ b hb =>
  obtain⟨b',hb',ms,clk,g1,g2,g3⟩:=h.obj id _ hh
  rw[hb]at hb';cases hb'
  have hrp:RP E.P G arr es ms.toList:=⟨by simpa using g2,fun j kx vx hj=>by
   obtain⟨e,q1,q2⟩:=g3 j kx vx hj
   exact⟨e,by simpa using q1,q2⟩⟩
  have hck:=MapKept.run_checkKey (w:=w) hd hik false 9999
  have hidl:=(g8Y.1 hh).1
  have hbl:b<w.heap.size:=(g9x.1 g1).1
  have go:∀ (ms':Array MapEntry) (clk':Nat) (es':List (V×V)),RP E.P G arr es' ms'.toList→RelW E G (heap.set id (.map es')) arr w0 { w with heap:=w.heap.setIfInBounds b (.map ms' clk') }:=by
   intro ms' clk' es' hp
   refine h.change hb hidl (by rw[hh];simp) rfl rfl rfl (by simp) (fun k hk=>by simp[Array.getElem?_setIfInBounds_ne (Ne.symm hk)]) ⟨ms',clk',by simp[hbl],by simpa using hp.1,fun j kx vx hj=>?_⟩
   obtain⟨e,q1,q2⟩:=hp.2 j kx vx hj
   exact⟨e,by simpa using q1,q2⟩
  split at hK
  ·rename_i j v hf
   rcases b5Z hk es ms.toList 0 _ hrp hf with⟨q1,_⟩ | ⟨j',v',e,q1,q2,q3,q4,q5,q6⟩
   ·cases q1
   ·simp only[Option.some.injEq,Prod.mk.injEq,g9s]at q1
    obtain⟨rfl,rfl⟩:=q1
    have hj:ms[j]? = some e:=by simpa using q2
    have hfk:=MapKept.run_findKey (w:=w) hd q4
    have hkeep:=MapKept.run_keyThatStays (P:=E.P) (w:=w) hik
    refine⟨_,_,?_,hK,go (ms.modify j fun e=>{ e with key:=vk,val:=vx }) clk _ ⟨by simp[hrp.1],fun i kx ux hi=>?_⟩⟩
    ·simp only[g9s]at hfk
     simp only[Instr.mapUpdate,h0z,b0y ht,h0y,MapKept.run_getObj_map g1,hck,hfk,hj,g9z,g9w,q5,hkeep,MapKept.run_setObj_map _ g1]
    ·by_cases hij:i=j
     ·subst hij
      have hjl:i<es.length:=by
       rcases h0v i es.length with h' | h'
       ·exact h'
       ·rw[g9K (by simpa using h')]at hi;cases hi
      rw[g9e hjl]at hi
      cases hi
      exact⟨{ e with key:=vk,val:=vx },by simp[hj],hk,hx⟩
     ·rw[g9i (Ne.symm hij)]at hi
      obtain⟨e2,r1,r2⟩:=hrp.2 i kx ux hi
      refine⟨e2,?_,r2⟩
      simp only[Array.getElem?_toList]at r1 ⊢
      rw[Array.getElem?_modify,if_neg (Ne.symm hij)];exact r1
  ·rename_i hf
   rcases b5Z hk es ms.toList 0 _ hrp hf with⟨_,q2⟩ | ⟨j',v',e,q1,_⟩
   ·have hfk:=MapKept.run_findKey (w:=w) hd q2
    refine⟨_,_,?_,hK,go (ms.push { key:=vk,val:=vx,born:=clk }) (clk+1) _ ⟨by simp[hrp.1],fun i kx ux hi=>?_⟩⟩
    ·simp only[Instr.mapUpdate,h0z,b0y ht,h0y,MapKept.run_getObj_map g1,hck,hfk,MapKept.run_setObj_map _ g1]
    ·have hl:=hrp.1
     simp only[Array.toList_push]
     by_cases hil:i<es.length
     ·rw[g9a hil]at hi
      obtain⟨e2,r1,r2⟩:=hrp.2 i kx ux hi
      exact⟨e2,by rw[g9a (by omega)];exact r1,r2⟩
     ·rw[g9c (by omega)]at hi
      have hi0:i - es.length=0:=by
       rcases Nat.eq_zero_or_pos (i - es.length)with h' | h'
       ·exact h'
       ·rw[g9K (by simp;omega)]at hi;cases hi
      rw[hi0]at hi
      simp at hi
      obtain⟨rfl,rfl⟩:=hi
      exact⟨{ key:=vk,val:=vx,born:=clk },by rw[g9c (by omega),hl,hi0];rfl,hk,hx⟩
   ·cases q1
  ·exact hK.elim
theorem c4G{E:Env}{G:Gh}{heap:List VObj}{arr:List Nat}{w0:Base}{w:World}(h:RelW E G heap arr w0 w){t:TypeId} :
  (Instr.makeMap t none).run E.P w = .ok (.map (some w.heap.size)) (w.alloc (.map #[] 0))∧RelW E (G.newObj w.heap.size) (heap++[.map []]) arr w0 (w.alloc (.map #[] 0))∧RV E.P (G.newObj w.heap.size) arr (.map heap.length) (.map (some w.heap.size)):=by
 refine⟨by simp[Instr.makeMap,Result.andThen],h.allocM _ _ ⟨#[],0,by rw[b0Q,if_pos rfl],rfl,by simp⟩,.map _ _ ?_⟩
 simp[Gh.newObj,h.lenφ]
def b2Z(E:Env)(heap:List VObj)(t:TypeId)(l c:V)(K:V→List VObj→Prop):Prop :=
 match E.P.underlying t,l,c with
 | some (.slice e),.int _ n,.int _ n'=>(n=n'∧b0W E.P e=true∧0≤n∧n.toNat * E.P.bytesOf e≤140737488355328) ∧
   K (.mslice heap.length 0 n.toNat n.toNat e) (heap++[.cells (List.replicate n.toNat (b3t E e)).flatten])
 | _,_,_=>False
theorem b1H{x:Int}(h : -9223372036854775808≤x)(h':x≤9223372036854775807):IntKind.i64.wrap x=x:=by
 simp only[IntKind.wrap,IntKind.signed,IntKind.bits];simp;omega
theorem d4S{α:Type}(l:List α)(hl:0<l.length):∀ (n j:Nat) x,(List.replicate n l).flatten[j]? = some x→l[j % l.length]? = some x:=by
 intro n
 induction n with
 | zero=>intro j x h;simp at h
 | succ n ih =>
  intro j x h
  simp only[List.replicate_succ,g9X]at h
  by_cases hj:j<l.length
  ·rw[g9a hj]at h
   rw[Nat.mod_eq_of_lt hj];exact h
  ·rw[g9c (by omega)]at h
   rw[Nat.mod_eq_sub_mod (by omega)]
   exact ih _ _ h
theorem g8b{P:Program}{n:Nat}{w:World}:(askRoom n).run P w = .ok () w:=by unfold askRoom;split <;> rfl
theorem c2c{E:Env}{G:Gh}{heap:List VObj}{arr:List Nat}{w0:Base}{w:World}(h:RelW E G heap arr w0 w){t:TypeId}{l c:V}{vl vc:Value}{K:V→List VObj→Prop}(hl:RV E.P G arr l vl)(hc:RV E.P G arr c vc)
  (hK:b2Z E heap t l c K):∃ u y heap' G' w',(Instr.makeSlice t vl vc).run E.P w = .ok u w'∧K y heap'∧Ext G arr G' arr∧RelW E G' heap' arr w0 w'∧RV E.P G' arr y u:=by
 unfold b2Z at hK
 split at hK
 case h_2=>exact hK.elim
 rename_i e k1 n k2 n' ht
 obtain⟨⟨rfl,hok,h0,hb⟩,hK⟩:=hK
 cases hl;cases hc
 obtain⟨i,z,hi,hz,hz1,hzs,his,hib,hs1,hb1,hb2⟩:=b2F hok
 have hzl:=b6U (G:=G) (arr:=arr) (E:=E) hi hz
 have hzl0:(b3t E e).length=E.P.cellsOf e:=by rw[←hzl.1];exact hzs
 have hn47:n.toNat≤140737488355328:=h0i (Nat.le_mul_of_pos_right _ hb1) hb
 have hw:IntKind.i64.wrap n=n:=b1H (by omega) (by omega)
 have hnot:¬ ((2:Int) ^ 48<(i.bytes:Int) * n):=by
  rw[hib]
  have h1:((n.toNat:Int))=n:=by omega
  have h2:((n.toNat * E.P.bytesOf e:Nat):Int)=(E.P.bytesOf e:Int) * n:=by rw[Int.natCast_mul,h1,Int.mul_comm]
  rw[←h2]
  have h48:(2:Int) ^ 48=281474976710656:=by decide
  rw[h48]
  generalize n.toNat * E.P.bytesOf e=q at hb
  omega
 let cells:=(Array.range (n.toNat * E.P.cellsOf e)).map (z.cells[· % z.cells.size]!)
 refine⟨.slice (some ⟨w.heap.size,0,none⟩) n.toNat n.toNat,_,_,G.newObj w.heap.size,w.alloc (.cells cells e),?_,hK,G.ext_newObj _ _,h.allocM _ _ ⟨cells,e,by rw[b0Q,if_pos rfl],?_,fun j x hj=>?_⟩,.mslice _ _ _ _ _ w.heap.size ?_ hn47 (g9m _) hb⟩
 ·simp only[Instr.makeSlice,h0z,b0y ht,h0y,asInt,asIntOf,h0A,c2k hi,hw]
  have hc1:decide ((2:Int) ^ 48<(i.bytes:Int) * n)=false:=g9v hnot
  have hc2:(decide (n<0))=false:=by simpa using h0
  simp only[gt_iff_lt,hc1,g9U,Int.lt_irrefl,decide_false,Bool.or_false,hc2,g9n,if_false,h0z,g8b,h0y,b0O hi]
  by_cases h0':n.toNat * E.P.cellsOf e=0
  ·simp only[if_pos h0',h0z,h0A,h0y,newRow,newObj,Sem.run]
   have:cells=(Array.range (n.toNat * E.P.cellsOf e)).map ((#[]:Array Value)[· % (#[]:Array Value).size]!):=by simp only[cells,h0'];simp
   rw[this];rfl
  ·simp only[if_neg h0',h0z,b1K hi hz,h0A,h0y,newRow,newObj,Sem.run]
   rfl
 ·simp[cells,List.length_flatten,hzl0]
 ·have hjl:=(g8Y.1 hj).1
  have hlen:((List.replicate n.toNat (b3t E e)).flatten).length=n.toNat * E.P.cellsOf e:=by simp[List.length_flatten,hzl0]
  rw[hlen]at hjl
  have hg:=d4S (b3t E e) (by omega) _ _ _ hj
  rw[hzl0]at hg
  have hm:j % E.P.cellsOf e<z.cells.size:=by rw[hzs];exact Nat.mod_lt _ (by omega)
  refine⟨z.cells[j % E.P.cellsOf e],?_,hzl.2 _ x _ hg (g9p hm)⟩
  have hm':j % z.cells.size<z.cells.size:=by rw[hzs];rw[hzs]at hm;exact hm
  simp only[cells,Array.getElem?_map,Array.getElem?_range,hjl,if_true,g9z,Option.some.injEq]
  rw[getElem!_pos z.cells _ hm']
  simp only[hzs]
 ·simp[Gh.newObj,h.lenφ]
def c7L(heap:List VObj)(x:V)(K:V→List VObj→Prop):Prop :=
 match x with
 | .ptr id 0=>match heap[id]? with
  | some (.siter s pos)=>if pos<s.size then K (.tuple [.bool true,.int .i64 pos,.int .i32 (Utf8.decode s pos).1]) (heap.set id (.siter s (pos+(Utf8.decode s pos).2)))else K (.tuple [.bool false]) heap
  | _=>False
 | _=>False
theorem d5B{E:Env}{G:Gh}{heap:List VObj}{arr:List Nat}{w0:Base}{w:World}(h:RelW E G heap arr w0 w){ty:TypeId}{x:V}{vx:Value}{K:V→List VObj→Prop}(hx:RV E.P G arr x vx)(hK:c7L heap x K) :
  ∃ u y heap' w',(Instr.next vx true ty).run E.P w = .ok u w'∧K y heap'∧RelW E G heap' arr w0 w'∧RV E.P G arr y u:=by
 unfold c7L at hK
 split at hK
 case h_2=>exact hK.elim
 rename_i id
 split at hK
 case h_2=>exact hK.elim
 rename_i s pos hh
 cases hx with
 | ptr _ _ b hb =>
  obtain⟨b',hb',g1,g2⟩:=h.obj id _ hh
  rw[hb]at hb';cases hb'
  have hbl:b<w.heap.size:=(g9x.1 g1).1
  have hg:(getObj b).run E.P w = .ok (.stringIter s pos) w:=by simp[getObj,Sem.run,g1]
  split at hK
  ·rename_i hp
   refine⟨.tuple #[.bool true,goInt pos,.int .i32 (Utf8.decode s pos).1],_,_,{ w with heap:=w.heap.setIfInBounds b (.stringIter s (pos+(Utf8.decode s pos).2)) },?_,hK,?_,?_⟩
   ·have hso:(setObj b (.stringIter s (pos+(Utf8.decode s pos).2))).run E.P w = .ok () { w with heap:=w.heap.setIfInBounds b (.stringIter s (pos+(Utf8.decode s pos).2)) }:=by simp[setObj,Sem.run,g1]
    simp only[Instr.next,h0z,hg,h0y,if_pos hp,hso,h0A]
   ·exact h.change hb (g8Y.1 hh).1 (by rw[hh];simp) rfl rfl rfl (by simp) (fun k hk=>by simp[Array.getElem?_setIfInBounds_ne (Ne.symm hk)]) ⟨by simp[hbl],g2⟩
   ·refine .tuple _ _ rfl fun j c u hc hu=>?_
    match j with
    | 0=>simp at hc hu;subst hc hu;exact .bool _
    | 1=>simp[goInt]at hc hu;subst hc hu;exact .int _ _
    | 2=>simp at hc hu;subst hc hu;exact .int _ _
    | j+3=>simp at hc
  ·rename_i hp
   refine⟨.tuple #[.bool false],_,_,w,?_,hK,h,?_⟩
   ·simp only[Instr.next,h0z,hg,h0y,if_neg hp,h0A]
   ·refine .tuple _ _ rfl fun j c u hc hu=>?_
    match j with
    | 0=>simp at hc hu;subst hc hu;exact .bool _
    | j+1=>simp at hc
def c1u(E:Env)(heap:List VObj)(t:TypeId)(x:V)(K:V→List VObj→Prop):Prop :=
 match E.P.underlying t,x with
 | some .string,.str s=>K (.ptr heap.length 0) (heap++[.siter s 0])
 | _,_=>False
theorem c9x{E:Env}{G:Gh}{heap:List VObj}{arr:List Nat}{w0:Base}{w:World}(h:RelW E G heap arr w0 w){t:TypeId}{x:V}{vx:Value}{K:V→List VObj→Prop}(hx:RV E.P G arr x vx)(hK:c1u E heap t x K) :
  ∃ u y heap' G' w',(Instr.range t vx).run E.P w = .ok u w'∧K y heap'∧Ext G arr G' arr∧RelW E G' heap' arr w0 w'∧RV E.P G' arr y u:=by
 unfold c1u at hK
 split at hK
 case h_2=>exact hK.elim
 rename_i s ht
 cases hx with
 | str _ hs =>
  refine⟨.pointer (some ⟨w.heap.size,0,none⟩),_,_,G.newObj w.heap.size,w.alloc (.stringIter s 0),?_,hK,G.ext_newObj _ _,h.allocM _ _ ⟨by rw[b0Q,if_pos rfl],hs⟩,.ptr _ _ _ (by simp[Gh.newObj,h.lenφ])⟩
  simp only[Instr.range,h0z,b0y ht,h0y,h0A,newObj,Sem.run]
  rfl
def vMin(x y:V)(K:V→Prop):Prop :=
 match x,y with
 | .int k a,.int _ b=>K (.int k (if b<a then b else a))
 | _,_=>False
def vMax3(x y z:V)(K:V→Prop):Prop :=
 match x,y,z with
 | .int k a,.int _ b,.int _ c=>K (.int k (if(if a<b then b else a)<c then c else(if a<b then b else a)))
 | _,_,_=>False
def vMax(x y:V)(K:V→Prop):Prop :=
 match x,y with
 | .int k a,.int _ b=>K (.int k (if b > a then b else a))
 | _,_=>False
def b9t:List (List V)→Option (List Int)
 | []=>some []
 | [.int .u8 n]::r=>(b9t r).map (n::·)
 | _=>none
def b9e(ns:List Int):ByteArray:=⟨(ns.map fun n=>UInt8.ofNat n.toNat).toArray⟩
theorem c7Z:∀ {es:List (List V)} {ns:List Int},b9t es=some ns→ns.length=es.length∧∀ (i:Nat) n,ns[i]? = some n→es[i]? = some [.int .u8 n]:=by
 intro es
 induction es with
 | nil=>intro ns h;simp only[b9t,Option.some.injEq]at h;subst h;exact⟨rfl,by simp⟩
 | cons x r ih =>
  intro ns h
  unfold b9t at h
  split at h
  ·rename_i heq;cases heq
  ·rename_i n r' heq
   injection heq with h1 h2
   subst h1 h2
   obtain⟨ms,hms,rfl⟩:=g9l.1 h
   obtain⟨g1,g2⟩:=ih hms
   refine⟨by simp[g1],fun i m hi=>?_⟩
   cases i with
   | zero=>simp at hi;subst hi;rfl
   | succ i=>simpa using g2 i m (by simpa using hi)
  ·cases h
theorem d1w:∀ (ns:List Int) (s:ByteArray),ns.foldl (fun r n=>r.push (UInt8.ofNat n.toNat)) s=⟨s.data++(ns.map fun n=>UInt8.ofNat n.toNat).toArray⟩:=by
 intro ns
 induction ns with
 | nil=>intro s;simp
 | cons n r ih =>
  intro s
  simp only[g9G,ih,g9o]
  congr 1
  show(s.data.push _)++_=_
  apply Array.ext'
  simp
theorem d0r{E:Env}{G:Gh}{heap:List VObj}{arr:List Nat}{w0:Base}{w:World}(h:RelW E G heap arr w0 w){o:Own}{e:TypeId}{es:List (List V)}{v:Value}{ns:List Int}
  (hv:RV E.P G arr (.slice o e es) v) (he:E.P.cellsOf e=1) (hn:b9t es=some ns):(Conv.bytesToString v).run E.P w = .ok (.string (b9e ns)) w∧(b9e ns).size≤1152921504606846976:=by
 obtain⟨hl,hg⟩:=c7Z hn
 obtain⟨vs,⟨a,cap,rfl⟩,h2,h3,h4⟩:=c8f h hv
 have hle:es.length≤140737488355328:=by
  cases hv with
  | snil=>simp
  | sodd=>simp
  | slice _ _ _ b off cap ho g1 g2 g3 g4 g5 g6=>exact g3
 have hvs:vs=(ns.map (Value.int .u8)).toArray:=by
  apply Array.ext_getElem?
  intro i
  by_cases hi:i<ns.length
  ·have hes:=hg i _ (g9b hi)
   obtain⟨u,hu,hr⟩:=h4 i _ 0 _ hes rfl
   rw[he,Nat.mul_one,h0h]at hu
   cases hr
   rw[hu];simp[hi]
  ·rw[h0x (by rw[h3,he];omega),h0x (by simp;omega)]
 refine⟨?_,by simp[b9e,ByteArray.size];omega⟩
 cases a with
 | none =>
  have hz:ns=[]:=by
   cases hv <;> (simp at hl;exact hl)
  subst hz
  rfl
 | some a =>
  rw[he]at h2
  simp only[Builtin.firstCells,Nat.mul_one]at h2
  rw[hvs]at h2
  rw[run_bytesToString w a es.length cap ns h2,d1w]
  congr 2
  simp[b9e]
def eq1:V→V→Option Bool
 | .str a,.str b=>some (decide (a=b))
 | .int k a,.int k' b=>if k=k' then some (decide (a=b))else none
 | .bool a,.bool b=>some (a == b)
 | _,_=>none
def eqL:List V→List V→Option Bool
 | [],[]=>some true
 | x::r,y::q=>match eq1 x y,eqL r q with
  | some a,some b=>some (a && b)
  | _,_=>none
 | _,_=>none
def d5f:Option TypeDesc→Option Nat
 | some .string=>some 0
 | some (.int _)=>some 1
 | some .bool=>some 2
 | _=>none
def c0n(P:Program)(sub:TypeId→Option (List Nat)):Nat→List Field→Option (List Nat)
 | _,[]=>some []
 | o,f::fs=>if f.name != "_" && decide (f.offset=o)then match sub f.type,c0n P sub (o+P.cellsOf f.type) fs with
   | some ks,some r=>if ks.length=P.cellsOf f.type∧0<ks.length then some (ks++r)else none
   | _,_=>none
  else none
def b5a(P:Program):Nat→TypeId→Option (List Nat)
 | 0,_=>none
 | f+1,t=>match P.underlying t with
  | some .string=>some [0]
  | some (.int _)=>some [1]
  | some .bool=>some [2]
  | some (.struct fs)=>if P.stoodInHeld t then none else c0n P (b5a P f) 0 fs.toList
  | some (.array n e)=>match b5a P f e with
   | some ks=>if ks.length=P.cellsOf e∧0<ks.length then some (List.replicate n ks).flatten else none
   | none=>none
  | _=>none
def b3f(P:Program)(t:TypeId):Option (List Nat):=match P.underlying t with
 | some (.struct _) | some (.array _ _)=>if P.eqGuardType P.depth t then none else b5a P 20 t
 | _=>none
def d2D:Nat→V→V→Bool
 | 0,.str _,.str _=>true
 | 1,.int k _,.int k' _=>decide (k=k')
 | 2,.bool _,.bool _=>true
 | _,_,_=>false
def b3A:List Nat→List V→List V→Bool
 | [],[],[]=>true
 | k::ks,x::xs,y::ys=>d2D k x y && b3A ks xs ys
 | _,_,_=>false
theorem c0k{P:Program}{w:World}{t:TypeId}(a b:Bool)(ht:P.underlying t=some .bool):(Op.equal t (.bool a) (.bool b)).run P w = .ok (a == b) w:=by
 have:∀ d,(Op.equalIn (d+1) t (.bool a) (.bool b)).run P w = .ok (a == b) w:=fun d=>by
  simp only[Op.equalIn,h0z,b0y ht,h0y,h0A]
 exact this 9999
theorem b5Y:∀ {ks:List Nat} {xs ys:List V},b3A ks xs ys=true→xs.length=ks.length∧ys.length=ks.length
 | [],[],[],_=>⟨rfl,rfl⟩
 | k::ks,x::xs,y::ys,h=>by
  simp only[b3A,g9g]at h
  obtain⟨h1,h2⟩:=b5Y h.2
  exact⟨by simp[h1],by simp[h2]⟩
 | [],_::_,_,h=>by simp[b3A]at h
 | [],[],_::_,h=>by simp[b3A]at h
 | _::_,[],_,h=>by simp[b3A]at h
 | _::_,_::_,[],h=>by simp[b3A]at h
theorem b7z:∀ {k1 k2:List Nat} {xs ys:List V},b3A (k1++k2) xs ys=true→b3A k1 (xs.take k1.length) (ys.take k1.length)=true∧b3A k2 (xs.drop k1.length) (ys.drop k1.length)=true
 | [],k2,xs,ys,h=>by simpa[b3A]using h
 | k::k1,k2,xs,ys,h=>by
  cases xs with
  | nil=>simp[b3A]at h
  | cons x xs =>
   cases ys with
   | nil=>simp[b3A]at h
   | cons y ys =>
    simp only[g8X,b3A,g9g]at h
    obtain⟨g1,g2⟩:=b7z h.2
    simp only[g9k,List.take_succ_cons,List.drop_succ_cons,b3A,g9g]
    exact⟨⟨h.1,g1⟩,g2⟩
theorem b9f:∀ (n:Nat) {xs ys:List V} {a b:Bool},n≤xs.length→n≤ys.length→eqL (xs.take n) (ys.take n)=some a→eqL (xs.drop n) (ys.drop n)=some b→eqL xs ys=some (a && b)
 | 0,xs,ys,a,b,_,_,h1,h2=>by
  simp only[List.take_zero,eqL,Option.some.injEq]at h1
  subst h1
  simpa using h2
 | n+1,[],_,_,_,h,_,_,_=>by simp at h
 | n+1,_::_,[],_,_,_,h,_,_=>by simp at h
 | n+1,x::xs,y::ys,a,b,l1,l2,h1,h2=>by
  simp only[List.take_succ_cons,List.drop_succ_cons,eqL]at h1 h2 ⊢
  split at h1
  ·rename_i c d hc hd
   cases h1
   rw[hc,b9f n (by simpa using l1) (by simpa using l2) hd h2]
   simp[Bool.and_assoc]
  ·cases h1
theorem c3T{P:Program}{w:World}{t:TypeId}(a b:Bool)(ht:P.underlying t=some .bool)(d:Nat):(Op.equalIn (d+1) t (.bool a) (.bool b)).run P w = .ok (a == b) w:=by
 simp only[Op.equalIn,h0z,b0y ht,h0y,h0A]
theorem f0z{P:Program}{G:Gh}{arr:List Nat}{w:World}{t:TypeId}{x y:V}{vx vy:Value}{k:Nat}(hx:RV P G arr x vx)(hy:RV P G arr y vy)(ht:d5f (P.underlying t)=some k)(hk:d2D k x y=true)(d:Nat) :
  ∃ b,eq1 x y=some b∧(Op.equalIn (d+1) t vx vy).run P w = .ok b w:=by
 unfold d5f at ht
 split at ht
 ·rename_i hu
  cases ht
  cases x <;> cases y <;> simp only[d2D,g9n]at hk
  cases hx;cases hy
  rename_i a b _ _
  refine⟨decide (a=b),rfl,?_⟩
  simp only[Op.equalIn,h0z,b0y hu,h0y,h0A]
  congr 1
  rw[h0g]
  obtain⟨a⟩:=a
  obtain⟨b⟩:=b
  show((a == b)=true)↔_
  simp
 ·rename_i k' hu
  cases ht
  cases x <;> cases y <;> simp only[d2D,g9n]at hk
  cases hx;cases hy
  have hk:=of_decide_eq_true hk
  subst hk
  rename_i kk a b
  refine⟨decide (a=b),by simp[eq1],?_⟩
  simp only[Op.equalIn,h0z,b0y hu,h0y,h0A,if_true]
  congr 1
 ·rename_i hu
  cases ht
  cases x <;> cases y <;> simp only[d2D,g9n]at hk
  cases hx;cases hy
  exact⟨_,rfl,c3T _ _ hu d⟩
 ·cases ht
def c2R(P:Program)(G:Gh)(arr:List Nat)(t:TypeId)(xs:List V)(v:Value):Prop:=∃ d,P.underlying t=some d∧((c0t d=true∧RV P G arr (.agg xs) v)∨(c0t d=false∧∃ x,xs=[x]∧RV P G arr x v))
theorem b5N{P:Program}{f:Nat}{t:TypeId}{ks:List Nat}(h:b5a P f t=some ks):∃ d,P.underlying t=some d∧(c0t d=false→ks.length=1):=by
 cases f with
 | zero=>cases h
 | succ f =>
  rw[b5a]at h
  split at h
  ·rename_i e;cases h;exact⟨_,e,fun _=>rfl⟩
  ·rename_i e;cases h;exact⟨_,e,fun _=>rfl⟩
  ·rename_i e;cases h;exact⟨_,e,fun _=>rfl⟩
  ·rename_i e;exact⟨_,e,fun h=>by simp[c0t]at h⟩
  ·rename_i e;exact⟨_,e,fun h=>by simp[c0t]at h⟩
  ·cases h
theorem b3F{P:Program}{G:Gh}{arr:List Nat}{w:World}{t:TypeId}{d:TypeDesc}{xs:List V}{vs:Array Value}{o:Nat}(hd:P.underlying t=some d)(hl:xs.length=vs.size)(hr:∀ (j:Nat) c v,xs[j]? = some c→vs[j]? = some v→RV P G arr c v)
  (ho:o+P.cellsOf t≤xs.length) (h1:c0t d=false→P.cellsOf t=1):∃ v,(part t vs o).run P w = .ok v w∧c2R P G arr t ((xs.drop o).take (P.cellsOf t)) v:=by
 cases hag:c0t d with
 | true =>
  obtain⟨i,hi⟩:=b2C hd
  refine⟨.agg (vs.extract o (o+P.cellsOf t)),by simp only[part,h0z,b4E hd,hag,h0y,if_true,b0O hi,h0A],d,hd,.inl ⟨hag,.agg _ _ (by simp;omega) fun j c v hc hv=>?_⟩⟩
  have hjl:=(g8Y.1 hc).1
  simp only[List.length_take,h0e]at hjl
  rw[List.getElem?_take,if_pos (by omega),g9Y]at hc
  rw[Array.getElem?_extract]at hv
  have:j<min (o+P.cellsOf t) vs.size - o:=by omega
  rw[if_pos this]at hv
  exact hr _ _ _ hc hv
 | false =>
  have h1:=h1 hag
  have hlo:o<vs.size:=by omega
  have hxo:o<xs.length:=by omega
  refine⟨vs[o],by simp only[part,h0z,b4E hd,hag,h0y,g9n,if_false,g9p hlo,h0A],d,hd,.inr ⟨hag,xs[o],?_,hr o _ _ (g9b hxo) (g9p hlo)⟩⟩
  rw[h1,List.drop_eq_getElem_cons hxo];rfl
theorem b9Q{P:Program}{w:World}{α:Type}{body:α→Option Bool×PUnit→Sem (ForInStep (Option Bool×PUnit))}:∀ {fs:List α} {e:List Bool},
  fs.length=e.length→(∀ (i:Nat) f b,fs[i]? = some f→e[i]? = some b→(body f (none,())).run P w = .ok (if b then .yield (none,())else .done (some false,())) w)→(forIn fs (none,()) body).run P w = .ok (if e.all id then(none,())else(some false,())) w
 | [],[],_,_=>by simp
 | [],_::_,h,_=>by simp at h
 | _::_,[],h,_=>by simp at h
 | f::fs,b::e,hl,h=>by
  have h1:=h 0 f b rfl rfl
  have ih:=b9Q (fs:=fs) (e:=e) (by simpa using hl) fun i g c hg hc=>h (i+1) g c (by simpa using hg) (by simpa using hc)
  rw[List.forIn_cons,h0z,h1]
  cases b
  ·simp
  ·simp only[if_true,h0y,List.all_cons,id,g9O]
   exact ih
theorem eqT{P:Program}{G:Gh}{arr:List Nat}{w:World}:∀ (f:Nat) (t:TypeId) (ks:List Nat),b5a P f t=some ks→∀ (xs ys:List V) (vx vy:Value),b3A ks xs ys=true→c2R P G arr t xs vx→c2R P G arr t ys vy→∀ d:Nat,
  ∃ b,eqL xs ys=some b∧(Op.equalIn (d+f) t vx vy).run P w = .ok b w:=by
 have hprog:(program:Sem Program).run P w = .ok P w:=rfl
 intro f
 induction f with
 | zero=>intro t ks h;cases h
 | succ f ih =>
  intro t ks h xs ys vx vy hf hx hy d
  have one:∀ k,ks=[k]→d5f (P.underlying t)=some k→∃ b,eqL xs ys=some b∧(Op.equalIn (d+(f+1)) t vx vy).run P w = .ok b w:=by
   intro k hk hkd
   subst hk
   obtain⟨d1,hd1,hx⟩:=hx
   obtain⟨d2,hd2,hy⟩:=hy
   rw[hd1]at hd2;cases hd2
   have hag:c0t d1=false:=by
    rw[hd1]at hkd
    unfold d5f at hkd
    split at hkd <;> first | (rename_i e;cases e;rfl) | cases hkd
   rcases hx with⟨h1,_⟩ | ⟨_,x,rfl,hx⟩
   ·rw[hag]at h1;cases h1
   rcases hy with⟨h1,_⟩ | ⟨_,y,rfl,hy⟩
   ·rw[hag]at h1;cases h1
   simp only[b3A,h0b]at hf
   obtain⟨b,hb,hrun⟩:=f0z (w:=w) hx hy hkd hf (d+f)
   exact⟨b,by simp[eqL,hb],hrun⟩
  rw[b5a]at h
  split at h
  ·rename_i e;cases h;exact one 0 rfl (by rw[e];rfl)
  ·rename_i e;cases h;exact one 1 rfl (by rw[e];rfl)
  ·rename_i e;cases h;exact one 2 rfl (by rw[e];rfl)
  ·rename_i fs hu
   split at h
   ·cases h
   rename_i hst
   obtain⟨d1,hd1,hx⟩:=hx
   obtain⟨d2,hd2,hy⟩:=hy
   rw[hu]at hd1 hd2;cases hd1;cases hd2
   rcases hx with⟨_,hx⟩ | ⟨h1,_⟩
   case inr=>simp[c0t]at h1
   rcases hy with⟨_,hy⟩ | ⟨h1,_⟩
   case inr=>simp[c0t]at h1
   cases hx with
   | agg _ vxs hlx hrx =>
   cases hy with
   | agg _ vys hly hry =>
   -- the fields,one after the other
   have key:∀ (fs:List Field) (o:Nat) (kk:List Nat),c0n P (b5a P f) o fs=some kk→b3A kk (xs.drop o) (ys.drop o)=true →
     ∃ e:List Bool,fs.length=e.length∧eqL (xs.drop o) (ys.drop o)=some (e.all id)∧∀ (i:Nat) g b,fs[i]? = some g→e[i]? = some b→g.name ≠ "_" ∧ ∃ v1 v2,(part g.type vxs g.offset).run P w = .ok v1 w∧(part g.type vys g.offset).run P w = .ok v2 w∧(Op.equalIn (d+f) g.type v1 v2).run P w = .ok b w:=by
    intro fs
    induction fs with
    | nil =>
     intro o kk hkk hff
     simp only[c0n,Option.some.injEq]at hkk
     subst hkk
     obtain⟨q1,q2⟩:=b5Y hff
     rw[List.length_eq_zero_iff.1 q1,List.length_eq_zero_iff.1 q2]
     exact⟨[],rfl,rfl,by simp⟩
    | cons g fs ihf =>
     intro o kk hkk hff
     simp only[c0n]at hkk
     split at hkk
     case isFalse=>cases hkk
     rename_i hc
     simp only[g9g,bne_iff_ne,ne_eq,g9h]at hc
     obtain⟨hn,ho⟩:=hc
     split at hkk
     case h_2=>cases hkk
     rename_i k1 r hk1 hkr
     split at hkk
     case isFalse=>cases hkk
     rename_i hkl
     obtain⟨hkl,hkp⟩:=hkl
     simp only[Option.some.injEq]at hkk
     subst hkk
     obtain⟨s1,s2⟩:=b7z hff
     rw[hkl,h0t,h0t]at s2
     rw[hkl]at s1
     obtain⟨l1,l2⟩:=b5Y hff
     rw[g9d,hkl,h0e]at l1 l2
     obtain⟨e,he1,he2,he3⟩:=ihf _ _ hkr s2
     obtain⟨dd,hdd,hone⟩:=b5N hk1
     have hone':c0t dd=false→P.cellsOf g.type=1:=fun h=>by rw[←hkl];exact hone h
     have hpos:o+P.cellsOf g.type≤xs.length∨P.cellsOf g.type=0:=by omega
     have hle:P.cellsOf g.type≤xs.length - o:=by omega
     have hle2:P.cellsOf g.type≤ys.length - o:=by omega
     obtain⟨v1,p1,c1⟩:=b3F (w:=w) (o:=o) hdd hlx hrx (by omega) hone'
     obtain⟨v2,p2,c2⟩:=b3F (w:=w) (o:=o) hdd hly hry (by omega) hone'
     obtain⟨b,hb,hrun⟩:=ih _ _ hk1 _ _ _ _ s1 c1 c2 d
     refine⟨b::e,by simp[he1],?_,fun i g' b' hg hb'=>?_⟩
     ·rw[List.all_cons]
      exact b9f (P.cellsOf g.type) (by rw[h0e];exact hle) (by rw[h0e];exact hle2) hb (by rw[h0t,h0t];exact he2)
     ·cases i with
      | zero =>
       simp at hg hb'
       subst hg hb'
       exact⟨hn,v1,v2,by rw[ho];exact p1,by rw[ho];exact p2,hrun⟩
      | succ i=>exact he3 i g' b' (by simpa using hg) (by simpa using hb')
   obtain⟨e,he1,he2,he3⟩:=key fs.toList 0 ks h hf
   refine⟨e.all id,he2,?_⟩
   rw[show d+(f+1)=d+f+1 from rfl,Op.equalIn]
   simp only[h0z,b0y hu,h0y,hprog,hst,g9n,if_false]
   rw[←Array.forIn_toList,b9Q (e:=e) he1 (fun i g b hg hb=>?_)]
   ·simp only[h0y]
    cases e.all id <;> rfl
   ·obtain⟨hn,v1,v2,p1,p2,hrun⟩:=he3 i g b hg hb
    simp only[ne_eq,hn,not_false_eq_true,if_true,h0z,p1,p2,h0y,hrun]
    cases b <;> simp
  ·rename_i n el hu
   split at h
   case h_2=>cases h
   rename_i k1 hk1
   split at h
   case isFalse=>cases h
   rename_i hkl
   obtain⟨hkl,hkp⟩:=hkl
   simp only[Option.some.injEq]at h
   subst h
   obtain⟨d1,hd1,hx⟩:=hx
   obtain⟨d2,hd2,hy⟩:=hy
   rw[hu]at hd1 hd2;cases hd1;cases hd2
   rcases hx with⟨_,hx⟩ | ⟨h1,_⟩
   case inr=>simp[c0t]at h1
   rcases hy with⟨_,hy⟩ | ⟨h1,_⟩
   case inr=>simp[c0t]at h1
   cases hx with
   | agg _ vxs hlx hrx =>
   cases hy with
   | agg _ vys hly hry =>
   obtain⟨dd,hdd,hone⟩:=b5N hk1
   have hone':c0t dd=false→P.cellsOf el=1:=fun h=>by rw[←hkl];exact hone h
   have key:∀ (m o:Nat),b3A (List.replicate m k1).flatten (xs.drop o) (ys.drop o)=true →
     ∃ e:List Bool,e.length=m∧eqL (xs.drop o) (ys.drop o)=some (e.all id)∧∀ (i:Nat) b,e[i]? = some b→∃ v1 v2,(part el vxs (o+i * P.cellsOf el)).run P w = .ok v1 w∧(part el vys (o+i * P.cellsOf el)).run P w = .ok v2 w∧(Op.equalIn (d+f) el v1 v2).run P w = .ok b w:=by
    intro m
    induction m with
    | zero =>
     intro o hff
     obtain⟨q1,q2⟩:=b5Y hff
     rw[List.length_eq_zero_iff.1 q1,List.length_eq_zero_iff.1 q2]
     exact⟨[],rfl,rfl,by simp⟩
    | succ m ihm =>
     intro o hff
     rw[List.replicate_succ,g9X]at hff
     obtain⟨s1,s2⟩:=b7z hff
     rw[hkl,h0t,h0t]at s2
     rw[hkl]at s1
     obtain⟨l1,l2⟩:=b5Y hff
     rw[g9d,hkl,h0e]at l1 l2
     obtain⟨e,he1,he2,he3⟩:=ihm _ s2
     have hle:P.cellsOf el≤xs.length - o:=by omega
     have hle2:P.cellsOf el≤ys.length - o:=by omega
     obtain⟨v1,p1,c1⟩:=b3F (w:=w) (o:=o) hdd hlx hrx (by omega) hone'
     obtain⟨v2,p2,c2⟩:=b3F (w:=w) (o:=o) hdd hly hry (by omega) hone'
     obtain⟨b,hb,hrun⟩:=ih _ _ hk1 _ _ _ _ s1 c1 c2 d
     refine⟨b::e,by simp[he1],?_,fun i b' hb'=>?_⟩
     ·rw[List.all_cons]
      exact b9f (P.cellsOf el) (by rw[h0e];exact hle) (by rw[h0e];exact hle2) hb (by rw[h0t,h0t];exact he2)
     ·cases i with
      | zero =>
       simp at hb'
       subst hb'
       exact⟨v1,v2,by rw[Nat.zero_mul,h0h];exact p1,by rw[Nat.zero_mul,h0h];exact p2,hrun⟩
      | succ i =>
       have:=he3 i b' (by simpa using hb')
       rw[show o+(i+1) * P.cellsOf el=o+P.cellsOf el+i * P.cellsOf el by rw[g9R];omega]
       exact this
   obtain⟨e,he1,he2,he3⟩:=key n 0 hf
   refine⟨e.all id,he2,?_⟩
   obtain⟨ie,hie⟩:=b2C hdd
   rw[show d+(f+1)=d+f+1 from rfl,Op.equalIn]
   simp only[h0z,b0y hu,h0y,b0O hie,Std.Legacy.Range.forIn_eq_forIn_range',Std.Legacy.Range.size,Nat.sub_zero,Nat.add_sub_cancel,Nat.div_one]
   rw[b9Q (e:=e) (by simp[he1]) (fun i g b hg hb=>?_)]
   ·simp only[h0y]
    cases e.all id <;> rfl
   ·have hgi:g=i:=by
     have hil:=(g8Y.1 hb).1
     rw[List.getElem?_range' (by omega)]at hg
     simp at hg;omega
    subst hgi
    obtain⟨v1,v2,p1,p2,hrun⟩:=he3 g b hb
    rw[g9s]at p1 p2
    simp only[h0z,p1,p2,h0y,hrun]
    cases b <;> simp
  ·cases h
theorem c2E{P:Program}{t:TypeId}{ks:List Nat}(hks:b3f P t=some ks):(∃ d,P.underlying t=some d∧c0t d=true∧((∃ fs,d = .struct fs)∨∃ n e,d = .array n e))∧P.eqGuardType P.depth t=false∧b5a P 20 t=some ks:=by
 unfold b3f at hks
 split at hks
 ·rename_i fs hu
  split at hks
  ·cases hks
  ·rename_i hg
   exact⟨⟨_,hu,rfl,.inl ⟨_,rfl⟩⟩,by simpa using hg,hks⟩
 ·rename_i n e hu
  split at hks
  ·cases hks
  ·rename_i hg
   exact⟨⟨_,hu,rfl,.inr ⟨_,_,rfl⟩⟩,by simpa using hg,hks⟩
 ·cases hks
theorem d1s{P:Program}{G:Gh}{arr:List Nat}{w:World}{t:TypeId}{xs ys:List V}{vxs vys:Array Value}{ks:List Nat}(hks:b3f P t=some ks)(h1:b3A ks xs ys=true)(hx:RV P G arr (.agg xs) (.agg vxs))(hy:RV P G arr (.agg ys) (.agg vys)) :
  ∃ b,eqL xs ys=some b∧(Op.equal t (.agg vxs) (.agg vys)).run P w = .ok b w:=by
 obtain⟨⟨d,hd,ha,_⟩,_,hk⟩:=c2E hks
 exact eqT 20 t ks hk xs ys _ _ h1 ⟨d,hd,.inl ⟨ha,hx⟩⟩ ⟨d,hd,.inl ⟨ha,hy⟩⟩ 9980
theorem RelW.belowF{E:Env}{G:Gh}{heap:List VObj}{arr:List Nat}{w0:Base}{w w':World}(h:RelW E G heap arr w0 w)(hb:Below w.heap.size w w')(c:Array Value)(h1:∀ (j:Nat) v,c[j]? = some v→v.oneCell'=true)
  (hc:∀ (j:Nat) v,c[j]? = some v→w'.cell? ⟨w.heap.size,j,none⟩=some v):RelW E (G.freezeNew w.heap.size c) heap arr w0 w':=by
 have hs:=hb.size
 have hx:=h.extF c
 refine⟨fun b o v hv hlt=>h.newF b o v (by
   simp only[Gh.freezeNew]at hv
   rwa [if_neg (by have:=h.below.size;omega)]at hv) hlt,fun g cs hg=>⟨(h.glob g cs hg).1,(h.glob g cs hg).2.mono hx⟩,h.below.trans (hb.mono h.below.size),?_,fun b o v hv=>by
   simp only[Gh.freezeNew]at hv
   split at hv
   ·exact h1 _ _ hv
   ·exact h.one _ _ _ hv,?_,h.lenφ,h.nod,?_,?_,h.lenρ,?_,h.regd,h.fre,h.bldA hb.block fun g hg ⟨s1,s2,s3⟩=>⟨fun o=>by
    simp only[Gh.freezeNew];rw[if_neg (by omega)];exact s1 o,s2,s3⟩,h.ini,h.vsK hx (fun _ _ _ _ _ h=>h) (fun _ _ h _=>h) hb.block⟩
 ·intro b o v hv
  simp only[Gh.freezeNew]at hv
  by_cases eb:b=w.heap.size
  ·rw[if_pos eb]at hv;subst eb;exact hc _ _ hv
  ·rw[if_neg eb]at hv
   have hcc:=h.frz _ _ _ hv
   have hlt:b<w.heap.size:=by
    rcases h0v b w.heap.size with h' | h'
    ·exact h'
    ·simp[World.cell?,h0x h']at hcc
   rw[hb.cell (p:=⟨b,o,none⟩) hlt];exact hcc
 ·intro id ob hid
  obtain⟨b,hb',hr⟩:=h.obj id ob hid
  exact⟨b,hb',hr.keep hx (hb.block b (h.geφ id b hb').2)⟩
 ·intro id b o hb' hd
  simp only[Gh.freezeNew]
  rw[if_neg (by have:=(h.geφ id b hb').2;omega)]
  exact h.sep id b o hb' hd
 ·intro id b hb'
  obtain⟨g1,g2⟩:=h.geφ id b hb'
  exact⟨g1,by omega⟩
 ·intro k b lo hi hk hlt
  obtain⟨⟨c',e',r0,r1⟩,r2,r3,r4⟩:=h.reg k b lo hi hk hlt
  have hlt':b<w.heap.size:=(g9x.1 r0).1
  refine⟨⟨c',e',by rw[hb.block b hlt'];exact r0,r1⟩,r2,fun o ho1 ho2=>?_,r4⟩
  simp only[Gh.freezeNew]
  rw[if_neg (by omega)]
  exact r3 o ho1 ho2
theorem d4q{E:Env}{G:Gh}{heap:List VObj}{arr:List Nat}{w0:Base}{w:World}(h:RelW E G heap arr w0 w){src dst e:TypeId}{s:ByteArray}{u:TypeDesc}
  (hs:E.P.underlying src=some u) (hd:E.P.underlying dst=some (.slice e)) (he:E.P.underlying e=some (.int .u8)) (h1:E.P.cellsOf e=1) (h2:E.P.bytesOf e=1) (h3:s.size≤140737488355328) :
  ∃ v w' G',(convert src dst (.string s)).run E.P w = .ok v w'∧Ext G arr G' arr∧RelW E G' heap arr w0 w'∧RV E.P G' arr (sl e (b2o s)) v:=by
 have hl:(b2o s).length=s.size:=by simp[b2o]
 have hget:∀ (i:Nat) el,(b2o s)[i]? = some el→∃ y:UInt8,s.data[i]? = some y∧el=[.int .u8 y.toNat]:=fun i el hi=>by
  unfold b2o at hi
  rw[g9q]at hi
  obtain⟨y,hy,rfl⟩:=g9l.1 hi
  exact⟨y,by simpa using hy,rfl⟩
 have hcap:s.size≤grownCap w s.size 0 e:=by
  exact grownCap_ge _ _ _ _
 have hv:RV E.P (G.freezeNew w.heap.size (s.data.map fun b=>Value.int .u8 b.toNat)) arr (.slice .shared e (b2o s)) (.slice (some ⟨w.heap.size,0,none⟩) (b2o s).length (grownCap w s.size 0 e)):=by
  refine RV.ofCells (o := .shared) trivial (fun i el hi=>?_) ?_ (by omega) (by omega) fun i el j c hi hj=>?_
  ·obtain⟨y,_,rfl⟩:=hget i el hi
   rw[h1];rfl
  ·rw[hl,h2];omega
  ·obtain⟨y,hy,rfl⟩:=hget i el hi
   match j with
   | 0 =>
    simp at hj;subst hj
    refine⟨.int .u8 y.toNat,?_,.int _ _⟩
    simp only[Gh.freezeNew,if_true,h1,Nat.mul_one,h0h,g9s,Array.getElem?_map,hy,g9z]
   | j+1=>simp at hj
 rw[hl]at hv
 refine⟨_,_,G.freezeNew w.heap.size (s.data.map fun b=>Value.int .u8 b.toNat),Lib.run_convert_string_bytes w src dst e s hs hd he,h.extF _,h.belowF (w':=Lib.bytesWorld w e s) ⟨rfl,rfl,rfl,?_,fun k hk=>Lib.bytesWorld_at_old w e s k hk⟩ _ (fun j v hv=>?_) (fun j v hv=>?_),RV.sl hv⟩
 ·rw[Lib.bytesWorld_size];omega
 ·simp only[Array.getElem?_map]at hv
  obtain⟨y,_,rfl⟩:=g9l.1 hv
  rfl
 ·simp only[Array.getElem?_map]at hv
  obtain⟨y,hy,rfl⟩:=g9l.1 hv
  have hj:j<s.size:=by
   have:=(g9x.1 hy).1;exact this
  rw[Lib.bytesWorld_cell w e s j hj]
  simp[List.getD,hy]
end Go.Vg
