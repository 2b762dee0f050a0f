/- The findings about one call: calls of methods; the reference. -/
import Derived.Test.YtamednbojpnalaaGreatDoorToF
set_option linter.unusedVariables false
set_option linter.unusedSimpArgs false
set_option maxRecDepth 20000
namespace Go.Vg
open Go
def fitsT (u : List Un) (a b : ByteArray) : Bool := decide (a = b) || (supU u a).any fun x => decide (x = b)
def argT (u : List Un) : Nat → List Nd → List ByteArray → ByteArray
  | i, x :: ks, p :: ps => if plainT x ≠ ⟨#[]⟩ ∧ fitsT u (plainT x) p = false then ⟨#[97, 114, 103, 117, 109, 101, 110, 116, 32]⟩ ++ decN (i + 1) ++ ⟨#[32, 105, 115, 32]⟩ ++ plainT x ++ ⟨#[44, 32, 110, 101, 101, 100, 115, 32]⟩ ++ p else argT u (i + 1) ks ps
  | _, _, _ => ⟨#[]⟩
def hasT (a b : Nat) : ByteArray := ⟨#[104, 97, 115, 32]⟩ ++ decN a ++ ⟨#[32, 97, 114, 103, 117, 109, 101, 110, 116, 115, 44, 32, 110, 101, 101, 100, 115, 32]⟩ ++ decN b
def binOK (n : Nd) : Prop := ∀ x ∈ nodes n, x.kind = 24 → 0 < opLevel x.text
theorem binOK_kid {k t g} {ks : List Nd} {x : Nd} (h : binOK (.mk k t g ks)) (hx : x ∈ ks) : binOK x := fun y hy => h y (mem_kid hx hy)
theorem contains_op {t : ByteArray} (h : 0 < opLevel t) : Lib.contains [43, 45, 42, 47] t.data.toList = decide (t = ⟨#[43]⟩ ∨ t = ⟨#[45]⟩ ∨ t = ⟨#[42]⟩ ∨ t = ⟨#[47]⟩) := by
  have : t = ⟨#[124]⟩ ∨ t = ⟨#[38]⟩ ∨ t = ⟨#[61, 61]⟩ ∨ t = ⟨#[60]⟩ ∨ t = ⟨#[43]⟩ ∨ t = ⟨#[45]⟩ ∨ t = ⟨#[42]⟩ ∨ t = ⟨#[47]⟩ := by
    unfold opLevel at h
    repeat' split at h
    all_goals first | omega | (simp_all; done) | (rename_i h1; rcases h1 with h1 | h1 <;> simp [h1])
  rcases this with rfl | rfl | rfl | rfl | rfl | rfl | rfl | rfl <;> decide +kernel
theorem ba_append {a b : ByteArray} : (a ++ b).data.toList = a.data.toList ++ b.data.toList := by simp
open Lib in
theorem decN_itoa (n : Nat) : decN n = itoaB n := by
  have : ∀ n : Nat, (decN n).data.toList = decDigits n := by
    intro n
    induction n using Nat.strongRecOn with
    | _ n ih =>
    have hs : ∀ k : Nat, k < 10 → (strOf [48 + (k : Int)]).data.toList = [UInt8.ofNat (48 + k)] := by
      intro k hk
      simp only [strOf, List.map_cons, List.map_nil]
      congr 1
    rw [decN, decDigits]
    split
    · rename_i h
      rw [Nat.mod_eq_of_lt h]
      exact hs n h
    · rw [ba_append, ih (n / 10) (by omega), hs (n % 10) (by omega)]
  apply ba_ext
  rw [this]
  simp [itoaB, itoa]
end Go.Vg
namespace Go.Proofs.YtamednbojpnalaaGreatDoor
open Go Go.Vg Go.Proofs
structure sgOK (u : List Un) : Prop where
  fit : fitU u
  gaps : gapsU u
  ok : ∀ o n d, findD (declsU (u.map Un.sound) 0) (kindOf o) o n = some d → declOK (u.map Un.sound) d
def callT (u : List Un) (n : Nd) : ByteArray := match sigU u ⟨#[]⟩ n.text with
  | none => ⟨#[]⟩
  | some s => if n.kids.length = s.params.length then argT u 0 n.kids s.params else hasT n.kids.length s.params.length
def sentK (u : List Un) (n : Nat) (d : Dl) : Bool := match sigU u d.owner d.name with
  | none => false
  | some s => decide (s.params.length + 1 = n)
def sendK (u : List Un) (ms : List Dl) (t : ByteArray) (n : Nat) : ByteArray := if (ms.any fun d => decide (d.name = t) && sentK u n d) = true then ⟨#[]⟩ else if (ms.any fun d => decide (d.name = t)) = true then ⟨#[104, 97, 115, 32]⟩ ++ decN (n - 1) ++ ⟨#[32, 97, 114, 103, 117, 109, 101, 110, 116, 115]⟩ else ⟨#[105, 115, 32, 110, 111, 32, 109, 101, 116, 104, 111, 100]⟩
def sendT (u : List Un) (ms : List Dl) (n : Nd) : ByteArray := sendK u ms n.text n.kids.length
theorem rw_short {n : Nd} (h : short n) (i : Nat) : (rwAt (rowsN n (-1) 0) i).text.size ≤ 1000000 := by
  unfold rwAt
  rw [List.getD_eq_getElem?_getD]
  cases hr : (rowsN n (-1) 0)[i]? with
  | none => exact Nat.zero_le _
  | some r =>
    have h1 : r.text ∈ (rowsN n (-1) 0).map Rw.text := List.mem_map_of_mem (List.mem_of_getElem? hr)
    rw [rowsN_text] at h1
    obtain ⟨y, hy, e⟩ := List.mem_map.1 h1
    show r.text.size ≤ _
    rw [← e]; exact h y hy
theorem sig_short {u : List Un} (h : sgOK u) {o n : ByteArray} {s : Sg} (hs : sigU u o n = some s) : (∀ p ∈ s.params, p.size ≤ 1000000) ∧ s.params.length ≤ 1000000 := by
  unfold sigU ofU at hs
  cases hf : findD (declsU (u.map Un.sound) 0) (kindOf o) o n with
  | none => rw [hf] at hs; cases hs
  | some d =>
    obtain ⟨a1, a2, x, hx, hso⟩ := h.ok o n d hf
    rw [hf] at hs
    simp only [Option.bind_some, hx, Option.map_some, Option.some.injEq] at hs
    subst hs
    have hxm : x ∈ u.map Un.sound := List.mem_of_getElem? hx
    have hsh := ((fit_sound h.fit).2 x hxm).2
    refine ⟨fun p hp => ?_, ?_⟩
    · simp only [signR, parsR] at hp
      obtain ⟨k, hk, rfl⟩ := List.mem_map.1 hp
      exact rw_short hsh _
    · simp only [signR, parsR, List.length_map]
      exact hso.2.2.2.2.2.1
theorem ItoaN (n : Nat) (hn : n < 1000000000) : VPure env 57 [.int .i64 n] (.str (decN n)) := by
  have hsz := decN_size n 9 hn
  have h := Itoa n (by omega) (by omega) (by rw [← decN_itoa]; omega)
  rw [← decN_itoa] at h; exact h
theorem plain_short : ∀ n : Nd, short n → (plainT n).size ≤ 1000000 := by
  refine Nd.all fun k t g ks ih hs => ?_
  have ht := short_text hs
  have h1 : sInt.size ≤ 1000000 := by decide
  have h2 : sBool.size ≤ 1000000 := by decide
  have h3 : (⟨#[]⟩ : ByteArray).size ≤ 1000000 := by decide
  rw [plainT.eq_def]
  simp only
  repeat' split
  all_goals first | assumption | exact ih _ (by simp) (short_kid hs (by simp))
theorem Splain : (n : Nd) → parOK n → binOK n → VPure env 58 [.agg n.enc] (.str (plainT n)) := by
  refine Nd.all fun k t g ks ih hp hb => ?_
  refine vpure_vc (fn := Tryz.f58) Tryz.func58 rfl (by rw [Tryz.ntmps58]; simp) (by simp -implicitDefEqProofs only [go_sem]) (by simp -implicitDefEqProofs only [go_sem]) ?_
  simp -implicitDefEqProofs only [go_sem, Tryz.f58]
  rw [plainT.eq_def]
  simp only
  unfold sInt sBool
  refine ⟨fun h1 => by rw [if_pos h1], fun h1 => ?_⟩
  rw [if_neg h1]
  refine ⟨fun h2 => by rw [if_pos h2], fun h2 => ?_⟩
  rw [if_neg h2]
  refine ⟨fun h3 => by rw [if_pos h3], fun h3 => ?_⟩
  rw [if_neg h3]
  refine ⟨fun h4 => ?_, fun h4 => ?_⟩
  · rw [if_pos h4]
    cases ks with
    | nil => exact absurd rfl (hp (.mk k t g []) (by rw [nodes]; exact List.mem_cons_self ..) h4)
    | cons x r =>
      refine ⟨by simp, by simp [enc_len], ?_⟩
      have e : List.take 4 ((List.map Nd.enc (x :: r)).getD 0 []) = x.enc := by simp [List.getD_eq_getElem?_getD, enc_take]
      rw [e]
      refine (ih x (by simp) (parOK_kid hp (by simp)) (binOK_kid hb (by simp))).calls (by simp -implicitDefEqProofs only [go_sem]) ?_
      simp -implicitDefEqProofs only [go_sem]
  rw [if_neg h4]
  refine ⟨fun h5 => ?_, fun h5 => ?_⟩
  · rw [if_pos h5]
    have hop : 0 < opLevel t := hb (.mk k t g ks) (by rw [nodes]; exact List.mem_cons_self ..) h5
    refine (Contains ⟨#[43, 45, 42, 47]⟩ t (by decide)).calls (by simp -implicitDefEqProofs only [go_sem]) ?_
    rw [show (⟨#[43, 45, 42, 47]⟩ : ByteArray).data.toList = [43, 45, 42, 47] from rfl, contains_op hop]
    simp -implicitDefEqProofs only [go_sem]
    exact ⟨fun c => by rw [if_pos c], fun c => by rw [if_neg c]⟩
  rw [if_neg h5]
  refine ⟨fun h6 => ?_, fun h6 => by rw [if_neg h6]⟩
  rw [if_pos h6]
  exact ⟨fun c => by rw [if_pos c], fun c => by rw [if_neg c]⟩
theorem Scall (u : List Un) (hu : sgOK u) (n : Nd) (hs : short n) (hp : parOK n) (hb : binOK n) (hl : n.kids.length ≤ 1000000) : VPure env 33 [sl 34 (u.map Un.enc), .agg n.enc] (.str (callT u n)) := by
  obtain ⟨k, t, g, ks⟩ := n
  have hS := Tsig u hu.fit hu.gaps ⟨#[]⟩ t (hu.ok _ _)
  refine vpure_vc (fn := Tryz.f33) Tryz.func33 rfl (by rw [Tryz.ntmps33]; simp) (by simp -implicitDefEqProofs only [go_sem]; exact uns_pure _) (by simp -implicitDefEqProofs only [go_sem]) ?_
  simp -implicitDefEqProofs only [go_sem, Tryz.f33]
  refine hS.calls (by simp -implicitDefEqProofs only [go_sem]) ?_
  have hct : callT u (.mk k t g ks) = match sigU u ⟨#[]⟩ t with
    | none => ⟨#[]⟩
    | some s => if ks.length = s.params.length then argT u 0 ks s.params else hasT ks.length s.params.length := rfl
  rw [hct]
  cases hsg : sigU u ⟨#[]⟩ t with
  | none =>
    simp -implicitDefEqProofs only [go_sem, encSig]
  | some s =>
    obtain ⟨hs1, hs2⟩ := sig_short hu hsg
    simp -implicitDefEqProofs only [go_sem, encSig, Sg.enc]
    intro _ _ _ _
    refine ⟨fun hne => ?_, fun he _ _ => ?_⟩
    · have hne' : ¬ ks.length = s.params.length := by simp at hne; omega
      simp only [if_neg hne']
      have hz1 := decN_size ks.length 9 (by simp only [Nd.kids] at hl; omega)
      have hz2 := decN_size s.params.length 9 (by omega)
      have hk1 : (⟨#[104, 97, 115, 32]⟩ : ByteArray).size = 4 := rfl
      have hk2 : (⟨#[32, 97, 114, 103, 117, 109, 101, 110, 116, 115, 44, 32, 110, 101, 101, 100, 115, 32]⟩ : ByteArray).size = 18 := rfl
      refine snd_draw (cs := []) mixed (by kernel_rfl) ?_
      simp -implicitDefEqProofs only [go_sem]
      refine vPC_of (ItoaN ks.length (by simp only [Nd.kids] at hl; omega)) (by simp -implicitDefEqProofs only [go_sem]) ?_
      simp -implicitDefEqProofs only [go_sem]
      refine ⟨by simp; omega, by simp; omega, ?_⟩
      refine vPC_of (ItoaN s.params.length (by omega)) (by simp -implicitDefEqProofs only [go_sem]) ?_
      simp -implicitDefEqProofs only [go_sem]
      exact ⟨by simp; omega, rfl⟩
    · have he' : ks.length = s.params.length := by simp at he; omega
      simp only [if_pos he']
      generalize hA : argT u 0 ks s.params = A
      refine snd_list (β := Unit) ks (fun pre _ => ⟨[(40, .int .i64 pre.length), (39, .int .i64 ks.length), (38, sl 32 (ks.map Nd.enc)), (5, .ptr 1 0), (0, sl 34 (u.map Un.enc))], [.dead, .cells [sl 9 (s.params.map encS), .str s.result]], []⟩)
        (fun pre post _ => A = argT u pre.length post (s.params.drop pre.length)) () ?_ hA.symm ?_ ?_
      · simp -implicitDefEqProofs only [go_sem]
        try rfl
      · intro _ hi
        simp -implicitDefEqProofs only [go_sem]
        rw [hi]; rfl
      · intro pre x post _ hx hi
        have hpl : ks.length = pre.length + 1 + post.length := by rw [hx]; simp; omega
        have hgx : (ks.map Nd.enc).getD (pre.length : Int).toNat [] = x.enc := by rw [hx]; simp [List.getD_eq_getElem?_getD]
        have hw : IntKind.i64.wrap (↑pre.length + 1) = ↑(pre.length + 1) := wrap_next (by omega)
        have hlt : ((pre.length : Int) < ks.length) = True := by simp; omega
        have hxm : x ∈ ks := by rw [hx]; simp
        have hpp : pre.length < s.params.length := by omega
        have hdr : s.params.drop pre.length = s.params[pre.length] :: s.params.drop (pre.length + 1) := List.drop_eq_getElem_cons hpp
        have hps := hs1 _ (List.getElem_mem hpp)
        have hgp : (s.params.map encS).getD (pre.length : Int).toNat [] = [.str s.params[pre.length]] := by simp [List.getD_eq_getElem?_getD, hpp, encS]
        have hltp : ((pre.length : Int) < s.params.length) = True := by simp; omega
        rw [hdr, argT] at hi
        generalize s.params[pre.length] = p at hi hps hgp
        have hts := plain_short x (short_kid hs hxm)
        simp -implicitDefEqProofs only [go_sem, hgx, hlt]
        refine (Splain x (parOK_kid hp hxm) (binOK_kid hb hxm)).calls (by simp -implicitDefEqProofs only [go_sem]) ?_
        simp -implicitDefEqProofs only [go_sem]
        generalize plainT x = pt at hts hi ⊢
        refine ⟨fun h1 => ⟨by omega, ?_⟩, fun h1 => ⟨(), ?_, hw, .inr (ltLL_pure _ _ _ (uns_pure _))⟩⟩
        rotate_left
        · have : pt = ⟨#[]⟩ := by simpa using h1
          rw [hi, if_neg (by simp [this])]
        have h1' : ¬ pt = ⟨#[]⟩ := by simpa using h1
        rw [hgp]
        simp -implicitDefEqProofs only [go_sem]
        refine (TFits u hu.fit pt p).calls (by simp -implicitDefEqProofs only [go_sem]) ?_
        rw [show (decide (pt = p) || (supU u pt).any fun x => decide (x = p)) = fitsT u pt p from rfl]
        simp -implicitDefEqProofs only [go_sem]
        refine ⟨fun h2 => ?_, fun h2 => ⟨(), ?_, hw, .inr (ltLL_pure _ _ _ (uns_pure _))⟩⟩
        rotate_left
        · have h2' : fitsT u pt p = true := by simpa using h2
          rw [hi, if_neg (by rw [h2']; simp)]
        have h2' : fitsT u pt p = false := by simpa using h2
        rw [if_pos ⟨h1', h2'⟩] at hi
        have hz1 := decN_size (pre.length + 1) 9 (by simp only [Nd.kids] at hl; omega)
        have hk1 : (⟨#[97, 114, 103, 117, 109, 101, 110, 116, 32]⟩ : ByteArray).size = 9 := rfl
        have hk2 : (⟨#[32, 105, 115, 32]⟩ : ByteArray).size = 4 := rfl
        have hk3 : (⟨#[44, 32, 110, 101, 101, 100, 115, 32]⟩ : ByteArray).size = 8 := rfl
        rw [hi]
        refine snd_draw (cs := []) mixed (by kernel_rfl) ?_
        simp -implicitDefEqProofs only [go_sem, hgp, hltp, hw]
        refine vPC_of (ItoaN (pre.length + 1) (by simp only [Nd.kids] at hl; omega)) (by simp -implicitDefEqProofs only [go_sem]) ?_
        simp -implicitDefEqProofs only [go_sem, hgp, hltp, hw]
        refine ⟨?_, ?_, ?_, ?_, ?_⟩ <;> (simp; omega)
end Go.Proofs.YtamednbojpnalaaGreatDoor
set_option linter.unusedVariables false
set_option linter.unusedSimpArgs false
set_option maxRecDepth 20000
namespace Go.Proofs.YtamednbojpnalaaGreatDoor
open Go Go.Vg Go.Proofs
theorem Ssend (u : List Un) (hu : sgOK u) (ms : List Dl) (n : Nd) (hk0 : 1 ≤ n.kids.length) (hl : n.kids.length ≤ 1000000) : VPure env 34 [sl 34 (u.map Un.enc), sl 61 (ms.map Dl.enc), .agg n.enc] (.str (sendT u ms n)) := by
  obtain ⟨k, t, g, ks⟩ := n
  simp only [Nd.kids] at hk0 hl
  rw [show sendT u ms (.mk k t g ks) = sendK u ms t ks.length from rfl]
  refine vpure_vc (fn := Tryz.f34) Tryz.func34 rfl (by rw [Tryz.ntmps34]; simp) (by simp -implicitDefEqProofs only [go_sem]; simp only [uns_pure, dls_pure]; rfl) (by simp -implicitDefEqProofs only [go_sem]) ?_
  simp -implicitDefEqProofs only [go_sem, Tryz.f34]
  intro _ _
  generalize hst : sendK u ms t ks.length = A
  rw [sendK] at hst
  refine snd_list (β := Bool) ms (fun pre b => ⟨[(14, .int .i64 pre.length), (13, .int .i64 ms.length), (12, sl 61 (ms.map Dl.enc)), (7, .bool b), (5, .ptr 0 0), (0, sl 34 (u.map Un.enc))], [.cells (Nd.mk k t g ks).enc], []⟩)
    (fun pre post b => b = (pre.any fun d => decide (d.name = t)) ∧ (pre.any fun d => decide (d.name = t) && sentK u ks.length d) = false) false ?_ ⟨rfl, rfl⟩ ?_ ?_
  · simp -implicitDefEqProofs only [go_sem]
    try rfl
  · rintro b ⟨h1, h2⟩
    rw [h2, if_neg (by simp), ← h1] at hst
    have hwk : IntKind.i64.wrap ((ks.length : Int) - 1) = ((ks.length - 1 : Nat) : Int) := by rw [wrap_ok (by omega) (by omega)]; omega
    have hz1 := decN_size (ks.length - 1) 9 (by omega)
    simp -implicitDefEqProofs only [go_sem, hwk]
    refine ⟨fun hb => ?_, fun hb _ _ => ?_⟩
    · have hb' : b = false := by simpa using hb
      rw [hb', if_neg (by simp)] at hst; rw [← hst]
    · have hb' : b = true := by simpa using hb
      rw [hb', if_pos rfl] at hst
      refine (ItoaN (ks.length - 1) (by omega)).calls (by simp -implicitDefEqProofs only [go_sem]) ?_
      simp -implicitDefEqProofs only [go_sem]
      exact ⟨by simp; omega, by simp; omega, by rw [← hst]⟩
  · rintro pre d post b hx ⟨h1, h2⟩
    have hpl : ms.length = pre.length + 1 + post.length := by rw [hx]; simp; omega
    have hgx : (ms.map Dl.enc).getD (pre.length : Int).toNat [] = d.enc := by rw [hx]; simp [List.getD_eq_getElem?_getD]
    have hw : IntKind.i64.wrap (↑pre.length + 1) = ↑(pre.length + 1) := wrap_next (by omega)
    have hlt : ((pre.length : Int) < ms.length) = True := by simp; omega
    have hlp : (ltLL 1 0 (List.map Dl.enc ms) && ltLL 1 0 (List.map Un.enc u)) = true := by
      rw [ltLL_pure _ _ _ (dls_pure _), ltLL_pure _ _ _ (uns_pure _)]; rfl
    have hS := Tsig u hu.fit hu.gaps d.owner d.name (hu.ok _ _)
    simp -implicitDefEqProofs only [go_sem, hgx, hlt]
    refine ⟨fun hn => ⟨b, ⟨?_, ?_⟩, ⟨hw, rfl⟩, .inr hlp⟩, fun hn => ?_⟩
    · have hn' : ¬ d.name = t := by simpa using hn
      rw [h1]; simp [hn']
    · have hn' : ¬ d.name = t := by simpa using hn
      simp only [List.any_append, h2, List.any_cons, List.any_nil, hn', decide_false, Bool.false_and, Bool.or_false]
    have hn' : d.name = t := by simpa using hn
    refine hS.calls (by simp -implicitDefEqProofs only [go_sem]) ?_
    have hok : sentK u ks.length d = match sigU u d.owner d.name with
      | none => false
      | some s => decide (s.params.length + 1 = ks.length) := rfl
    have hp1 : ((pre ++ [d]).any fun d => decide (d.name = t)) = true := by simp [hn']
    cases hsg : sigU u d.owner d.name with
    | none =>
      rw [hsg] at hok
      simp only at hok
      simp -implicitDefEqProofs only [go_sem, encSig]
      refine ⟨true, ⟨hp1.symm, ?_⟩, ⟨hw, rfl⟩, .inr hlp⟩
      simp only [List.any_append, h2, List.any_cons, List.any_nil, hok, Bool.and_false, Bool.or_false]
    | some s =>
      rw [hsg] at hok
      simp only at hok
      have hwk : IntKind.i64.wrap ((ks.length : Int) - 1) = ((ks.length - 1 : Nat) : Int) := by rw [wrap_ok (by omega) (by omega)]; omega
      simp -implicitDefEqProofs only [go_sem, encSig, Sg.enc, hwk]
      intro _ _ _ _
      refine ⟨fun he => ?_, fun he => ⟨true, ⟨hp1.symm, ?_⟩, ⟨hw, rfl⟩, .inr hlp⟩⟩
      · have he' : s.params.length + 1 = ks.length := by omega
        rw [← hst, if_pos]
        rw [hx, List.any_append, List.any_cons, hok]
        simp [hn', he']
      · have he' : ¬ s.params.length + 1 = ks.length := by omega
        simp only [List.any_append, h2, List.any_cons, List.any_nil, hok, he', decide_false, Bool.and_false, Bool.or_false]
theorem R40called (u : List Un) (hu : sgOK u) (n : Nd) (hs : short n) (hp : parOK n) (hl : n.kids.length ≤ 1000000) : VPure env 37 [sl 34 (u.map Un.enc), .agg n.enc] (.str (callT u n)) := by
  obtain ⟨k, t, g, ks⟩ := n
  have hS := R14Signature u hu.fit hu.gaps ⟨#[]⟩ t (hu.ok _ _)
  refine vpure_vc (fn := Tryz.f37) Tryz.func37 rfl (by rw [Tryz.ntmps37]; simp) (by simp -implicitDefEqProofs only [go_sem]; exact uns_pure _) (by simp -implicitDefEqProofs only [go_sem]) ?_
  simp -implicitDefEqProofs only [go_sem, Tryz.f37]
  refine hS.calls (by simp -implicitDefEqProofs only [go_sem]) ?_
  have hct : callT u (.mk k t g ks) = match sigU u ⟨#[]⟩ t with
    | none => ⟨#[]⟩
    | some s => if ks.length = s.params.length then argT u 0 ks s.params else hasT ks.length s.params.length := rfl
  rw [hct]
  cases hsg : sigU u ⟨#[]⟩ t with
  | none =>
    simp -implicitDefEqProofs only [go_sem, encSig]
  | some s =>
    obtain ⟨hs1, hs2⟩ := sig_short hu hsg
    simp -implicitDefEqProofs only [go_sem, encSig, Sg.enc]
    intro _ _ _ _
    refine ⟨fun hne => ?_, fun he => ?_⟩
    · have hne' : ¬ ks.length = s.params.length := by simp at hne; omega
      simp only [if_neg hne']
      have hz1 := decN_size ks.length 9 (by simp only [Nd.kids] at hl; omega)
      have hz2 := decN_size s.params.length 9 (by omega)
      refine snd_draw (cs := []) mixed (by kernel_rfl) ?_
      simp -implicitDefEqProofs only [go_sem]
      refine vPC_of (R03Number ks.length (by simp only [Nd.kids] at hl; omega)) (by simp -implicitDefEqProofs only [go_sem]) ?_
      simp -implicitDefEqProofs only [go_sem]
      refine ⟨by simp; omega, by simp; omega, ?_⟩
      refine vPC_of (R03Number s.params.length (by omega)) (by simp -implicitDefEqProofs only [go_sem]) ?_
      simp -implicitDefEqProofs only [go_sem]
      exact ⟨by simp; omega, rfl⟩
    · have he' : ks.length = s.params.length := by simp at he; omega
      simp only [if_pos he']
      generalize hA : argT u 0 ks s.params = A
      refine snd_list (β := Unit) ks (fun pre _ => ⟨[(7, .int .i64 pre.length), (5, .ptr 1 0), (3, .ptr 0 0), (0, sl 34 (u.map Un.enc))], [.cells (Nd.mk k t g ks).enc, .cells [sl 9 (s.params.map encS), .str s.result]], []⟩)
        (fun pre post _ => A = argT u pre.length post (s.params.drop pre.length)) () ?_ hA.symm ?_ ?_
      · simp -implicitDefEqProofs only [go_sem]
        try rfl
      · intro _ hi
        simp -implicitDefEqProofs only [go_sem]
        intro _ _
        rw [hi]; rfl
      · intro pre x post _ hx hi
        have hpl : ks.length = pre.length + 1 + post.length := by rw [hx]; simp; omega
        have hgx : (ks.map Nd.enc).getD (pre.length : Int).toNat [] = x.enc := by rw [hx]; simp [List.getD_eq_getElem?_getD]
        have hw' : pre.length ≤ 1000000 → IntKind.i64.wrap (↑pre.length + 1) = ↑(pre.length + 1) := fun h => wrap_next (by omega)
        have hlt : ((pre.length : Int) < ks.length) = True := by simp; omega
        have hxm : x ∈ ks := by rw [hx]; simp
        have hpp : pre.length < s.params.length := by omega
        have hw := hw' (by omega)
        have hdr : s.params.drop pre.length = s.params[pre.length] :: s.params.drop (pre.length + 1) := List.drop_eq_getElem_cons hpp
        have hps := hs1 _ (List.getElem_mem hpp)
        have hgp : (s.params.map encS).getD (pre.length : Int).toNat [] = [.str s.params[pre.length]] := by simp [List.getD_eq_getElem?_getD, hpp, encS]
        have hltp : ((pre.length : Int) < s.params.length) = True := by simp; omega
        rw [hdr, argT] at hi
        generalize s.params[pre.length] = p at hi hps hgp
        have hts := plain_short x (short_kid hs hxm)
        simp -implicitDefEqProofs only [go_sem, hgx, hlt]
        intro _ _
        refine (R40Plain x (parOK_kid hp hxm)).calls (by simp -implicitDefEqProofs only [go_sem]) ?_
        simp -implicitDefEqProofs only [go_sem]
        generalize plainT x = pt at hts hi ⊢
        refine ⟨fun h1 => ⟨by omega, ?_⟩, fun h1 => ⟨(), ?_, hw⟩⟩
        rotate_left
        · have : pt = ⟨#[]⟩ := by simpa using h1
          rw [hi, if_neg (by simp [this])]
        have h1' : ¬ pt = ⟨#[]⟩ := by simpa using h1
        rw [hgp]
        simp -implicitDefEqProofs only [go_sem]
        refine (R14Fits u hu.fit pt p).calls (by simp -implicitDefEqProofs only [go_sem]) ?_
        rw [show (decide (pt = p) || (supU u pt).any fun x => decide (x = p)) = fitsT u pt p from rfl]
        simp -implicitDefEqProofs only [go_sem]
        refine ⟨fun h2 => ?_, fun h2 => ⟨(), ?_, hw⟩⟩
        rotate_left
        · have h2' : fitsT u pt p = true := by simpa using h2
          rw [hi, if_neg (by rw [h2']; simp)]
        have h2' : fitsT u pt p = false := by simpa using h2
        rw [if_pos ⟨h1', h2'⟩] at hi
        have hz1 := decN_size (pre.length + 1) 9 (by simp only [Nd.kids] at hl; omega)
        rw [hi]
        refine snd_draw (cs := []) mixed (by kernel_rfl) ?_
        simp -implicitDefEqProofs only [go_sem, hgp, hltp, hw]
        refine vPC_of (R03Number (pre.length + 1) (by simp only [Nd.kids] at hl; omega)) (by simp -implicitDefEqProofs only [go_sem]) ?_
        simp -implicitDefEqProofs only [go_sem, hgp, hltp, hw]
        refine ⟨?_, ?_, ?_, ?_, ?_⟩ <;> (simp; omega)
theorem R40sent (u : List Un) (hu : sgOK u) (ms : List Dl) (n : Nd) (hk0 : 1 ≤ n.kids.length) (hl : n.kids.length ≤ 1000000) : VPure env 38 [sl 34 (u.map Un.enc), sl 61 (ms.map Dl.enc), .agg n.enc] (.str (sendT u (ms.filter fun d => decide (d.kind = 4)) n)) := by
  obtain ⟨k, t, g, ks⟩ := n
  simp only [Nd.kids] at hk0 hl
  rw [show sendT u (ms.filter fun d => decide (d.kind = 4)) (.mk k t g ks) = sendK u (ms.filter fun d => decide (d.kind = 4)) t ks.length from rfl]
  refine vpure_vc (fn := Tryz.f38) Tryz.func38 rfl (by rw [Tryz.ntmps38]; simp) (by simp -implicitDefEqProofs only [go_sem]; simp only [uns_pure, dls_pure]; rfl) (by simp -implicitDefEqProofs only [go_sem]) ?_
  simp -implicitDefEqProofs only [go_sem, Tryz.f38]
  generalize hst : sendK u (ms.filter fun d => decide (d.kind = 4)) t ks.length = A
  rw [sendK] at hst
  simp only [List.any_filter] at hst
  refine snd_list (β := Bool) ms (fun pre b => ⟨[(8, .int .i64 pre.length), (7, .bool b), (5, .ptr 0 0), (0, sl 34 (u.map Un.enc)), (1, sl 61 (ms.map Dl.enc))], [.cells (Nd.mk k t g ks).enc], []⟩)
    (fun pre post b => b = (pre.any fun d => decide (d.kind = 4) && decide (d.name = t)) ∧ (pre.any fun d => decide (d.kind = 4) && (decide (d.name = t) && sentK u ks.length d)) = false) false ?_ ⟨rfl, rfl⟩ ?_ ?_
  · simp -implicitDefEqProofs only [go_sem]
    try rfl
  · rintro b ⟨h1, h2⟩
    have hwk : IntKind.i64.wrap ((ks.length : Int) - 1) = ((ks.length - 1 : Nat) : Int) := by rw [wrap_ok (by omega) (by omega)]; omega
    have hz1 := decN_size (ks.length - 1) 9 (by omega)
    rw [if_neg (by rw [h2]; simp), ← h1] at hst
    simp -implicitDefEqProofs only [go_sem, hwk]
    intro _ _
    refine ⟨fun hb => ?_, fun hb _ _ => ?_⟩
    · have hb' : b = false := by simpa using hb
      rw [hb', if_neg (by simp)] at hst; rw [← hst]
    · have hb' : b = true := by simpa using hb
      rw [hb', if_pos rfl] at hst
      refine (R03Number (ks.length - 1) (by omega)).calls (by simp -implicitDefEqProofs only [go_sem]) ?_
      simp -implicitDefEqProofs only [go_sem]
      exact ⟨by simp; omega, by simp; omega, by rw [← hst]⟩
  · rintro pre d post b hx ⟨h1, h2⟩
    have hpl : ms.length = pre.length + 1 + post.length := by rw [hx]; simp; omega
    have hgx : (ms.map Dl.enc).getD (pre.length : Int).toNat [] = d.enc := by rw [hx]; simp [List.getD_eq_getElem?_getD]
    have hw' : pre.length ≤ 140737488355328 → IntKind.i64.wrap (↑pre.length + 1) = ↑(pre.length + 1) := fun h => wrap_next (by omega)
    have hlt : ((pre.length : Int) < ms.length) = True := by simp; omega
    have hS := R14Signature u hu.fit hu.gaps d.owner d.name (hu.ok _ _)
    simp -implicitDefEqProofs only [go_sem, hgx, hlt]
    intro _ _
    have hw := hw' (by omega)
    refine snd_draw (cs := []) mixed (by kernel_rfl) ?_
    simp -implicitDefEqProofs only [go_sem, hgx, hlt]
    have hno : (d.kind = 4 ∧ d.name = t → False) → ((pre ++ [d]).any fun d => decide (d.kind = 4) && decide (d.name = t)) = b ∧ ((pre ++ [d]).any fun d => decide (d.kind = 4) && (decide (d.name = t) && sentK u ks.length d)) = false := fun h => by
      simp only [List.any_append, h2, List.any_cons, List.any_nil, ← h1, Bool.or_false, Bool.false_or]
      by_cases hk : d.kind = 4
      · have hn : ¬ d.name = t := fun hn => h ⟨hk, hn⟩
        simp [hn]
      · simp [hk]
    refine ⟨fun hk => ⟨fun hn => ⟨b, ⟨(hno fun h => by simp [h.2] at hn).1.symm, (hno fun h => by simp [h.2] at hn).2⟩, hw, rfl⟩, fun hn => ?_⟩, fun hk => ⟨b, ⟨(hno fun h => by simp [h.1] at hk).1.symm, (hno fun h => by simp [h.1] at hk).2⟩, hw, rfl⟩⟩
    have hk' : d.kind = 4 := by simpa using hk
    have hn' : d.name = t := by simpa using hn
    have hok : sentK u ks.length d = match sigU u d.owner d.name with
      | none => false
      | some s => decide (s.params.length + 1 = ks.length) := rfl
    have hp1 : ((pre ++ [d]).any fun d => decide (d.kind = 4) && decide (d.name = t)) = true := by simp [hn', hk']
    have hwk : IntKind.i64.wrap ((ks.length : Int) - 1) = ((ks.length - 1 : Nat) : Int) := by rw [wrap_ok (by omega) (by omega)]; omega
    refine snd_draw (cs := []) mixed (by kernel_rfl) ?_
    simp -implicitDefEqProofs only [go_sem, hgx, hlt]
    refine vPC_of hS (by simp -implicitDefEqProofs only [go_sem]) ?_
    cases hsg : sigU u d.owner d.name with
    | none =>
      rw [hsg] at hok
      simp only at hok
      simp -implicitDefEqProofs only [go_sem, encSig]
      have hlp : (ltLL 1 0 (List.map Un.enc u) && ltLL 1 0 (List.map Dl.enc ms)) = true := by
        rw [ltLL_pure _ _ _ (dls_pure _), ltLL_pure _ _ _ (uns_pure _)]; rfl
      refine ⟨true, ⟨hp1.symm, ?_⟩, ⟨hw, rfl⟩, .inr hlp⟩
      simp only [List.any_append, h2, List.any_cons, List.any_nil, hok, Bool.and_false, Bool.or_false]
    | some s =>
      rw [hsg] at hok
      simp only at hok
      simp -implicitDefEqProofs only [go_sem, encSig, Sg.enc, hwk]
      intro _ _ _ _
      have hlp : (ltLL 1 0 (List.map Un.enc u) && ltLL 1 0 (List.map Dl.enc ms)) = true := by
        rw [ltLL_pure _ _ _ (dls_pure _), ltLL_pure _ _ _ (uns_pure _)]; rfl
      refine ⟨fun he => ?_, fun he => ⟨true, ⟨hp1.symm, ?_⟩, ⟨hw, rfl⟩, .inr hlp⟩⟩
      · have he' : s.params.length + 1 = ks.length := by omega
        rw [← hst, if_pos]
        rw [hx, List.any_append, List.any_cons, hok]
        simp [hn', he', hk']
      · have he' : ¬ s.params.length + 1 = ks.length := by omega
        simp only [List.any_append, h2, List.any_cons, List.any_nil, hok, he', decide_false, Bool.and_false, Bool.or_false]
end Go.Proofs.YtamednbojpnalaaGreatDoor
