/- Regions that draw their order, part 3: the rules for simp. -/
import Derived.Test.YtellnbgljmocgaaGreatDoorVgN
set_option linter.unusedVariables false
set_option linter.unusedSimpArgs false
namespace Go.Vg
open Go.RowKit

def kopD (E : Env) (n : Nat) (ops : List Oper) (cs : List Nat) (k : Nat) (r : List Oper) (d : Option Nat) (M : St → Prop) (tm : List (Nat × V)) : Cont := fun v h a => vopsD E n ops cs k r (St.put ⟨tm, h, a⟩ d v) M
def kgdD (E : Env) (n : Nat) (ops : List Oper) (cs : List Nat) (k : Nat) (r : List Oper) (op : Op) (dst : Option Nat) (s : St) (M : St → Prop) (d : Nat) (want : Bool) (x : V) : Prop :=
  match x with
  | .bool b => (b = want → vopD E (cs.contains k) ⟨(d, .bool want) :: s.tmps, s.heap, s.arr⟩ op (kopD E n ops cs (k + 1) r dst M ((d, .bool want) :: s.tmps))) ∧
      (b = !want → kopD E n ops cs (k + 1) r dst M ((d, .bool (!want)) :: s.tmps) (.tuple []) s.heap s.arr)
  | .tuple [] => kopD E n ops cs (k + 1) r dst M s.tmps (.tuple []) s.heap s.arr
  | _ => False
def kgoD (E : Env) (n : Nat) (ops : List Oper) (cs : List Nat) (k : Nat) (r : List Oper) (op : Op) (dst : Option Nat) (s : St) (M : St → Prop) (want : Bool) (o : Option Nat) : Prop :=
  match o with
  | some d => d < n ∧ kgdD E n ops cs k r op dst s M d want (look s.tmps d)
  | none => False
def vFnD (E : Env) (c : Bool) (x : V) (args : List V) (heap : List VObj) (arr : List Nat) (K : Cont) : Prop := match x with
  | .func fid caps => callB E.P fid = true ∧ if c = true then VCalls E fid (args ++ caps) heap arr K else vPC E fid (args ++ caps) heap arr K
  | _ => False
def vLenCD (d : Option TypeDesc) (x : V) (K : V → Prop) : Prop := match d, x with
  | some .string, .str s => K (.int .i64 s.size)
  | some (.slice _), .slice _ _ es => K (.int .i64 es.length)
  | some (.slice _), .mslice _ _ len _ _ => K (.int .i64 len)
  | _, _ => False

theorem vPC_of {E : Env} {f : FuncId} {args cargs : List V} {h : List VObj} {a : List Nat} {r : V} {K : Cont} (hp : VPure E f cargs r) (ha : args.map share = cargs) (hk : K r h a) : vPC E f args h a K := ⟨r, ha ▸ hp, hk⟩

section
variable {E : Env} {n k j d : Nat} {ops r : List Oper} {cs : List Nat} {M : St → Prop} {tm : List (Nat × V)} {h : List VObj} {ar : List Nat} {K : Cont} {v : V} {op : Op} {dst : Option Nat} {b c want : Bool} {t t' : TypeId} {x y z : Operand}
theorem vopsD_nil {s : St} : vopsD E n ops cs k [] s M = M s := rfl
theorem vopsD_cons {ty : TypeId} {pos : String} {after : Array Edge} : vopsD E n ops cs k (⟨dst, op, ty, pos, after, none⟩ :: r) ⟨tm, h, ar⟩ M =
    (dstB n ⟨dst, .move (.tmp 0), ty, pos, after, none⟩ = true ∧ vopD E (cs.contains k) ⟨tm, h, ar⟩ op (kopD E n ops cs (k + 1) r dst M tm)) := rfl
theorem vopsD_guard {ty : TypeId} {pos : String} {after : Array Edge} : vopsD E n ops cs k (⟨dst, op, ty, pos, after, some (j, want)⟩ :: r) ⟨tm, h, ar⟩ M =
    (dstB n ⟨dst, .move (.tmp 0), ty, pos, after, none⟩ = true ∧ kgoD E n ops cs k r op dst ⟨tm, h, ar⟩ M want (dstOf ops j)) := by
  simp only [vopsD, kgoD]
  congr 1
@[go_sem] theorem kopD_none : kopD E n ops cs k r none M tm v h ar = vopsD E n ops cs k r ⟨tm, h, ar⟩ M := rfl
@[go_sem] theorem kopD_some : kopD E n ops cs k r (some d) M tm v h ar = vopsD E n ops cs k r ⟨(d, v) :: tm, h, ar⟩ M := rfl
@[go_sem] theorem kgoD_some : kgoD E n ops cs k r op dst ⟨tm, h, ar⟩ M want (some d) = (d < n ∧ kgdD E n ops cs k r op dst ⟨tm, h, ar⟩ M d want (look tm d)) := rfl
@[go_sem] theorem kgdD_t : kgdD E n ops cs k r op dst ⟨tm, h, ar⟩ M d true (.bool b) = ((b = true → vopD E (cs.contains k) ⟨(d, .bool true) :: tm, h, ar⟩ op (kopD E n ops cs (k + 1) r dst M ((d, .bool true) :: tm))) ∧
  (b = false → kopD E n ops cs (k + 1) r dst M ((d, .bool false) :: tm) (.tuple []) h ar)) := rfl
@[go_sem] theorem kgdD_f : kgdD E n ops cs k r op dst ⟨tm, h, ar⟩ M d false (.bool b) = ((b = false → vopD E (cs.contains k) ⟨(d, .bool false) :: tm, h, ar⟩ op (kopD E n ops cs (k + 1) r dst M ((d, .bool false) :: tm))) ∧
  (b = true → kopD E n ops cs (k + 1) r dst M ((d, .bool true) :: tm) (.tuple []) h ar)) := rfl
@[go_sem] theorem kgdD_u : kgdD E n ops cs k r op dst ⟨tm, h, ar⟩ M d want (.tuple []) = kopD E n ops cs (k + 1) r dst M tm (.tuple []) h ar := rfl
@[go_sem high] theorem kgdD_tt : kgdD E n ops cs k r op dst ⟨tm, h, ar⟩ M d true (.bool true) = vopD E (cs.contains k) ⟨(d, .bool true) :: tm, h, ar⟩ op (kopD E n ops cs (k + 1) r dst M ((d, .bool true) :: tm)) := by simp [kgdD]
@[go_sem high] theorem kgdD_tf : kgdD E n ops cs k r op dst ⟨tm, h, ar⟩ M d true (.bool false) = kopD E n ops cs (k + 1) r dst M ((d, .bool false) :: tm) (.tuple []) h ar := by simp [kgdD]
@[go_sem high] theorem kgdD_ff : kgdD E n ops cs k r op dst ⟨tm, h, ar⟩ M d false (.bool false) = vopD E (cs.contains k) ⟨(d, .bool false) :: tm, h, ar⟩ op (kopD E n ops cs (k + 1) r dst M ((d, .bool false) :: tm)) := by simp [kgdD]
@[go_sem high] theorem kgdD_ft : kgdD E n ops cs k r op dst ⟨tm, h, ar⟩ M d false (.bool true) = kopD E n ops cs (k + 1) r dst M ((d, .bool true) :: tm) (.tuple []) h ar := by simp [kgdD]
attribute [go_sem ↓] vopsD_nil vopsD_cons vopsD_guard
variable {s : St}
theorem dop_move : vopD E c s (.move x) K = vop E s (.move x) K := rfl
theorem dop_assign : vopD E c s (.assign x) K = vop E s (.assign x) K := rfl
theorem dop_pick : vopD E c s (.pick x y z) K = vop E s (.pick x y z) K := rfl
theorem dop_alloc : vopD E c s (.alloc t) K = vop E s (.alloc t) K := rfl
theorem dop_box : vopD E c s (.box t x) K = vop E s (.box t x) K := rfl
theorem dop_build {ps : Array (Nat × Operand)} : vopD E c s (.build t ps) K = vop E s (.build t ps) K := rfl
theorem dop_buildSlice {m : Nat} {ps : Array (Nat × Operand)} : vopD E c s (.buildSlice t m ps) K = vop E s (.buildSlice t m ps) K := rfl
theorem dop_load : vopD E c s (.load t x) K = vop E s (.load t x) K := rfl
theorem dop_store : vopD E c s (.store t x y) K = vop E s (.store t x y) K := rfl
theorem dop_nilCheck : vopD E c s (.nilCheck x) K = vop E s (.nilCheck x) K := rfl
theorem dop_bin {o : BinOp} : vopD E c s (.binOp o t x y t') K = vop E s (.binOp o t x y t') K := rfl
theorem dop_un {o : UnOp} : vopD E c s (.unOp o t x) K = vop E s (.unOp o t x) K := rfl
theorem dop_convert : vopD E c s (.convert t t' x) K = vop E s (.convert t t' x) K := rfl
theorem dop_makeFunc {f : Fn} {l m : Array Operand} : vopD E c s (.makeFunc f l m) K = vop E s (.makeFunc f l m) K := rfl
theorem dop_slice {lo hi mx : Option Operand} : vopD E c s (.slice t x lo hi mx) K = vop E s (.slice t x lo hi mx) K := rfl
theorem dop_fieldAddr {f : Nat} : vopD E c s (.fieldAddr t x f) K = vop E s (.fieldAddr t x f) K := rfl
theorem dop_field {f : Nat} : vopD E c s (.field t x f) K = vop E s (.field t x f) K := rfl
theorem dop_indexAddr : vopD E c s (.indexAddr t x y) K = vop E s (.indexAddr t x y) K := rfl
theorem dop_index : vopD E c s (.index t x y) K = vop E s (.index t x y) K := rfl
theorem dop_extract {f : Nat} : vopD E c s (.extract x f) K = vop E s (.extract x f) K := rfl
theorem dop_call {f : Operand} {as : List Operand} {tys : Array TypeId} : vopD E c ⟨tm, h, ar⟩ (.call ⟨.value f, as.toArray, tys⟩) K = vFnD E c (ev E tm f) (evL E tm as) h ar K := rfl
theorem dop_len {ty : TypeId} {tys : List TypeId} : vopD E c ⟨tm, h, ar⟩ (.call ⟨.builtin .len, #[x], (ty :: tys).toArray⟩) K = vLenC E ty (ev E tm x) (kv K h ar) := by
  simp only [vopD, List.getElem?_toArray, List.getElem?_cons_zero]; rfl
theorem dop_append : vopD E c ⟨tm, h, ar⟩ (.call ⟨.builtin .append, #[x, y], #[t, t']⟩) K = vAppend E ar t t' (ev E tm x) (ev E tm y) (ka K h) := rfl
theorem dop_lookup {ok : Bool} : vopD E c s (.lookup t x y ok) K = vop E s (.lookup t x y ok) K := rfl
theorem dop_mapUpdate : vopD E c s (.mapUpdate t x y z) K = vop E s (.mapUpdate t x y z) K := rfl
theorem dop_insert : vopD E c s (.insert t x y z) K = vop E s (.insert t x y z) K := rfl
theorem dop_makeMap {r : Option Operand} : vopD E c s (.makeMap t r) K = vop E s (.makeMap t r) K := rfl
theorem dop_makeSlice : vopD E c s (.makeSlice t x y) K = vop E s (.makeSlice t x y) K := rfl
theorem dop_min {tys : Array TypeId} : vopD E c ⟨tm, h, ar⟩ (.call ⟨.builtin .min, #[x, y], tys⟩) K = vMin (ev E tm x) (ev E tm y) (kv K h ar) := rfl
theorem dop_max {tys : Array TypeId} : vopD E c ⟨tm, h, ar⟩ (.call ⟨.builtin .max, #[x, y], tys⟩) K = vMax (ev E tm x) (ev E tm y) (kv K h ar) := rfl
theorem dop_mkif : vopD E c s (.makeInterface t x) K = vop E s (.makeInterface t x) K := rfl
attribute [go_sem ↓] dop_mkif
attribute [go_sem ↓] dop_lookup dop_mapUpdate dop_insert dop_makeMap dop_makeSlice dop_min dop_max dop_move dop_assign dop_pick dop_alloc dop_box dop_build dop_buildSlice dop_load dop_store dop_nilCheck dop_bin dop_un dop_convert dop_makeFunc dop_slice dop_fieldAddr dop_field dop_indexAddr dop_index dop_extract dop_call dop_len dop_append
variable {K : V → Prop} {caps as : List V} {f : FuncId}
@[go_sem] theorem vFnD_pure {K : Cont} : vFnD E false (.func f caps) as h ar K = (callB E.P f = true ∧ vPC E f (as ++ caps) h ar K) := by simp [vFnD]
@[go_sem] theorem vFnD_full {K : Cont} : vFnD E true (.func f caps) as h ar K = (callB E.P f = true ∧ VCalls E f (as ++ caps) h ar K) := by simp [vFnD]
@[go_sem] theorem vLenC_d {x : V} : vLenC E t x K = vLenCD (E.P.underlying t) x K := rfl
@[go_sem] theorem vLenCD_str {s : ByteArray} : vLenCD (some .string) (.str s) K = K (.int .i64 s.size) := rfl
@[go_sem] theorem vLenCD_slice {e e' : Nat} {o : Own} {es : List (List V)} : vLenCD (some (.slice e)) (.slice o e' es) K = K (.int .i64 es.length) := rfl
@[go_sem] theorem vLenCD_sl {e e' : Nat} {es : List (List V)} : vLenCD (some (.slice e)) (sl e' es) K = K (.int .i64 es.length) := rfl
@[go_sem] theorem vLenCD_mslice {e e' i o l q : Nat} : vLenCD (some (.slice e)) (.mslice i o l q e') K = K (.int .i64 l) := rfl
end
attribute [go_sem] List.contains_nil List.contains_cons Bool.or_false Bool.or_true Bool.false_or Bool.true_or Bool.false_eq_true Bool.true_eq_false

end Go.Vg
