/- The law of the counts. -/
import Derived.Test.YtamednbojpnalaaGreatDoorToN
set_option linter.unusedVariables false
set_option linter.unusedSimpArgs false
set_option maxRecDepth 20000
namespace Go.Proofs.YtamednbojpnalaaGreatDoor
open Go Go.Vg Go.Proofs
theorem sig_filter (u : List Un) (o n : ByteArray) : sigU u o n = sigU (u.filter soundB) o n := by
  rw [← (both u).1]
  exact sigU_X (by rw [sounds_fix]) o n
theorem misR_mem {s : List Un} {ms : List Dl} {f : Fi} : ∀ {l : List Un} {x : Un} {y : Nd}, x ∈ l → y ∈ nodes x.tree → f ∈ fiN s ms x.path y → f ∈ misR s ms l
  | [], _, _, h, _, _ => by cases h
  | z :: r, x, y, h, hy, hf => by
    rw [misR, List.mem_append]
    rcases List.mem_cons.1 h with rfl | h
    · exact .inl (List.mem_flatMap.2 ⟨y, hy, hf⟩)
    · exact .inr (misR_mem h hy hf)
theorem hasT_ne (a b : Nat) : hasT a b ≠ ⟨#[]⟩ := by
  intro h
  have h1 := congrArg ByteArray.size h
  unfold hasT at h1
  rw [ByteArray.size_append, ByteArray.size_append, ByteArray.size_append] at h1
  have h2 : (⟨#[104, 97, 115, 32]⟩ : ByteArray).size = 4 := rfl
  have h3 : (⟨#[]⟩ : ByteArray).size = 0 := rfl
  omega
theorem counts_met {u : List Un} {x : Un} {y : Nd} {s : Sg} (hx : x ∈ u) (hb : soundB x = true) (hy : y ∈ nodes x.tree) (hk : y.kind = 20) (hs : sigU u ⟨#[]⟩ y.text = some s) (hn : ¬ s.params.length = y.kids.length) :
    ((misR (u.filter soundB) (methU (u.filter soundB)) (u.filter soundB)).any fun f => decide (f.path = x.path) && decide (f.name = y.text)) = true := by
  rw [List.any_eq_true]
  have ht : textT (u.filter soundB) (methU (u.filter soundB)) y = hasT y.kids.length s.params.length := by
    rw [textT, if_pos hk, callT, ← sig_filter, hs]
    show (if y.kids.length = s.params.length then _ else _) = _
    rw [if_neg (fun e => hn e.symm)]
  refine ⟨⟨4, x.path, y.text, hasT y.kids.length s.params.length⟩, misR_mem (List.mem_filter.2 ⟨hx, hb⟩) hy ?_, by simp⟩
  rw [fiN, ht, if_neg (hasT_ne _ _)]
  exact List.mem_singleton.2 rfl
theorem SignsCounts_law (u : List Un) : VPure env 4 [sl 34 (u.map Un.enc)] (.bool true) := by
  refine vpure_vc (fn := Tryz.f4) Tryz.func4 rfl (by rw [Tryz.ntmps4]; simp) (by simp -implicitDefEqProofs only [go_sem]; exact uns_pure _) rfl ?_
  simp -implicitDefEqProofs only [go_sem, Tryz.f4]
  refine (Lfit u).calls (by simp -implicitDefEqProofs only [go_sem]) ?_
  cases hf : fitB u with
  | false =>
    simp -implicitDefEqProofs only [go_sem]
    refine Lawake.calls (by simp -implicitDefEqProofs only [go_sem]) ?_
    simp -implicitDefEqProofs only [go_sem]
  | true =>
    have hfu : fitsU u 3 160 6000 = true := by
      unfold fitB at hf
      exact (Bool.and_eq_true_iff.1 hf).1
    obtain ⟨hu, hg⟩ := fits_of hfu
    have hok := sg_of hu hg
    simp -implicitDefEqProofs only [go_sem]
    refine (Smismatches u hu hg).calls (by simp -implicitDefEqProofs only [go_sem]) ?_
    simp -implicitDefEqProofs only [go_sem]
    have hmet := @counts_met u
    generalize misR (u.filter soundB) (methU (u.filter soundB)) (u.filter soundB) = fs at hmet ⊢
    refine snd_list (β := Unit) u (fun pre _ => ⟨[(4, .int .i64 pre.length), (3, sl 42 (fs.map Fi.enc)), (2, .bool false), (0, sl 34 (u.map Un.enc))], [], []⟩) (fun _ _ _ => True) () ?_ trivial ?_ ?_
    · simp -implicitDefEqProofs only [go_sem]
      try rfl
    · intro _ _
      simp -implicitDefEqProofs only [go_sem]
      intro _ _
      refine Lawake.calls (by simp -implicitDefEqProofs only [go_sem]) ?_
      simp -implicitDefEqProofs only [go_sem]
    · rintro pre x post _ hx _
      have hpl : u.length = pre.length + 1 + post.length := by rw [hx]; simp; omega
      have hul := hu.1
      have hgx : (u.map Un.enc).getD (pre.length : Int).toNat [] = x.enc := by rw [hx]; simp [List.getD_eq_getElem?_getD]
      have hw : IntKind.i64.wrap (↑pre.length + 1) = ↑(pre.length + 1) := wrap_next (by omega)
      have hlt : ((pre.length : Int) < u.length) = True := by simp; omega
      have hxm : x ∈ u := by rw [hx]; simp
      simp -implicitDefEqProofs only [go_sem, hgx, hlt]
      intro _ _
      refine (R14Sound x (hg x hxm)).calls (by simp -implicitDefEqProofs only [go_sem]) ?_
      cases hb : soundB x with
      | false =>
        simp -implicitDefEqProofs only [go_sem]
        exact ⟨(), hw⟩
      | true =>
        simp -implicitDefEqProofs only [go_sem, hgx, hlt]
        have hxn := (hu.2 x hxm).1
        have hsh := (hu.2 x hxm).2
        refine (R06List x.tree (by omega)).calls (by simp -implicitDefEqProofs only [go_sem]) ?_
        simp -implicitDefEqProofs only [go_sem]
        have hmx := fun y s => @hmet x y s hxm hb
        have hns : ∀ y ∈ nodes x.tree, short y := fun y hy z hz => hsh z (nodes_trans _ _ hy z hz)
        generalize nodes x.tree = ns at hxn hmx hns ⊢
        refine snd_list (β := Unit) ns (fun q _ => ⟨[(6, .int .i64 q.length), (5, sl 32 (ns.map Nd.enc)), (4, .int .i64 pre.length), (3, sl 42 (fs.map Fi.enc)), (2, .bool false), (0, sl 34 (u.map Un.enc))], [], []⟩) (fun _ _ _ => True) () ?_ trivial ?_ ?_
        · simp -implicitDefEqProofs only [go_sem]
          try rfl
        · intro _ _
          simp -implicitDefEqProofs only [go_sem]
          exact fun _ _ => ⟨(), hw⟩
        · rintro q n r _ hq _
          have hpq : ns.length = q.length + 1 + r.length := by rw [hq]; simp; omega
          have hgn : (ns.map Nd.enc).getD (q.length : Int).toNat [] = n.enc := by rw [hq]; simp [List.getD_eq_getElem?_getD]
          have hwq : IntKind.i64.wrap (↑q.length + 1) = ↑(q.length + 1) := wrap_next (by omega)
          have hltq : ((q.length : Int) < ns.length) = True := by simp; omega
          have hnm : n ∈ ns := by rw [hq]; simp
          have hmn := fun s => hmx n s hnm
          have hsg := Tsig u hu hg ⟨#[]⟩ n.text fun z hz => hok.ok _ _ z hz
          obtain ⟨k, t, g, ks⟩ := n
          simp only [enc_mk] at hgn
          replace hsg : VPure env 15 [sl 34 (u.map Un.enc), .str ⟨#[]⟩, .str t] (encSig (sigU u ⟨#[]⟩ t)) := hsg
          simp -implicitDefEqProofs only [go_sem, hgn, hltq]
          intro _ _
          refine hsg.calls (by simp -implicitDefEqProofs only [go_sem]) ?_
          cases hs : sigU u ⟨#[]⟩ t with
          | none =>
            simp -implicitDefEqProofs only [go_sem, encSig, hgn, hltq]
            refine snd_draw (cs := []) mixed (by kernel_rfl) ?_
            simp -implicitDefEqProofs only [go_sem, hgn, hltq]
            have hlp : (ltLL 0 0 (fs.map Fi.enc) && ltLL 0 0 (u.map Un.enc)) = true := by rw [ltLL_pure _ _ _ (uns_pure _), ltLL_pure _ _ _ (fis_pure _)]; rfl
            exact ⟨fun _ => ⟨(), hwq, .inr hlp⟩, fun _ => ⟨(), hwq, .inr hlp⟩⟩
          | some s =>
            simp -implicitDefEqProofs only [go_sem, encSig, hgn, hltq, Sg.enc]
            refine snd_draw (cs := []) mixed (by kernel_rfl) ?_
            simp -implicitDefEqProofs only [go_sem, hgn, hltq]
            have hlp : (ltLL 0 0 (fs.map Fi.enc) && ltLL 0 0 (u.map Un.enc)) = true := by rw [ltLL_pure _ _ _ (uns_pure _), ltLL_pure _ _ _ (fis_pure _)]; rfl
            refine ⟨fun hk => ⟨fun _ => ⟨(), hwq, .inr hlp⟩, fun hne => ?_⟩, fun _ => ⟨(), hwq, .inr hlp⟩⟩
            have hk : k = 20 := by simpa using hk
            have hall : (fs.any fun f => decide (f.path = x.path) && decide (f.name = t)) = true := hmn s hk hs fun e => hne (congrArg Int.ofNat e)
            refine snd_list (β := Unit) fs (fun j _ => ⟨[(10, .int .i64 j.length), (9, .bool (j.any fun f => decide (f.path = x.path) && decide (f.name = t))), (6, .int .i64 q.length), (5, sl 32 (ns.map Nd.enc)), (4, .int .i64 pre.length), (3, sl 42 (fs.map Fi.enc)), (2, .bool false), (0, sl 34 (u.map Un.enc))], [.cells [sl 9 (s.params.map encS), .str s.result]], []⟩) (fun _ _ _ => True) () ?_ trivial ?_ ?_
            · simp -implicitDefEqProofs only [go_sem]
              exact ⟨rfl, rfl⟩
            · intro _ _
              rw [hall]
              simp -implicitDefEqProofs only [go_sem]
              exact fun _ _ => ⟨(), hwq, .inr hlp⟩
            · rintro p f v _ hp _
              have hpp : fs.length = p.length + 1 + v.length := by rw [hp]; simp; omega
              have hgp : (fs.map Fi.enc).getD (p.length : Int).toNat [] = f.enc := by rw [hp]; simp [List.getD_eq_getElem?_getD]
              have hltp : ((p.length : Int) < fs.length) = True := by simp; omega
              simp -implicitDefEqProofs only [go_sem, hgn, hltq, hgx, hlt, hgp, hltp, Fi.enc]
              intro _ _
              have hwp : IntKind.i64.wrap (↑p.length + 1) = ↑(p.length + 1) := wrap_next (by omega)
              have hany : ((p ++ [f]).any fun f => decide (f.path = x.path) && decide (f.name = t)) = ((p.any fun f => decide (f.path = x.path) && decide (f.name = t)) || (decide (f.path = x.path) && decide (f.name = t))) := by simp
              generalize (p.any fun f => decide (f.path = x.path) && decide (f.name = t)) = mt at hany ⊢
              refine snd_draw (cs := []) mixed (by kernel_rfl) ?_
              simp -implicitDefEqProofs only [go_sem, hgn, hltq, hgx, hlt, hgp, hltp, Fi.enc, Un.enc]
              rw [hany]
              refine ⟨fun hm => ⟨fun he => ⟨(), hwp, ?_⟩, fun he => ⟨(), hwp, ?_⟩⟩, fun hm => ⟨(), hwp, ?_⟩⟩
              · rw [hm]; simp [he]
              · rw [hm]; simp [he]
              · rw [hm]; rfl
end Go.Proofs.YtamednbojpnalaaGreatDoor
