/- get's walk. -/
import Derived.Test.YtnddcicadmbmkaaGreatDoorD8
import Derived.Test.YtnddcicadmbmkaaGreatDoorE3
namespace Go.Proofs.YtnddcicadmbmkaaGreatDoor
open Go.RowKit Go.Maps

mutual
/-- a value's number by get, the error, the store as it was -/
def getV : V → St → Int × Int × St
  | .mk k n s ps, st =>
    if k = 1 then (n, 0, st)
    else if k = 2 then (if Sy.hasB st.1 s then ((Sy.num st.1 s : Int), 0, st) else (0, 6, st))
    else if (getVs ps st).2.1 ≠ 0 then (0, (getVs ps st).2.1, (getVs ps st).2.2)
    else if nhas (getVs ps st).2.2.2 (s, (getVs ps st).1) then ((nidx (getVs ps st).2.2.2 (s, (getVs ps st).1) : Int), 0, (getVs ps st).2.2) else (0, 6, (getVs ps st).2.2)
def getVs : List V → St → List (Int × Int) × Int × St
  | [], st => ([], 0, st)
  | x :: r, st =>
    if (getV x st).2.1 ≠ 0 then ([], (getV x st).2.1, (getV x st).2.2)
    else ((x.k, (getV x st).1) :: (getVs r (getV x st).2.2).1, (getVs r (getV x st).2.2).2.1, (getVs r (getV x st).2.2).2.2)
end
theorem getVs_fold : ∀ (l : List V) (st : St), getVs l st = foldVs getV l st
  | [], st => by unfold getVs foldVs; rfl
  | x :: r, st => by unfold getVs foldVs; rw [getVs_fold r]
theorem getV_num (v : V) (st : St) (h : v.k = 1) : getV v st = (v.n, 0, st) := by cases v; simp only [V.k] at h; unfold getV; rw [if_pos h]; rfl
theorem getV_sym (v : V) (st : St) (h : v.k = 2) : getV v st = (if Sy.hasB st.1 v.s then ((Sy.num st.1 v.s : Int), 0, st) else (0, 6, st)) := by cases v; simp only [V.k] at h; unfold getV; rw [if_neg (by omega), if_pos h]; rfl
theorem getV_con (v : V) (st : St) (h1 : v.k ≠ 1) (h2 : v.k ≠ 2) : getV v st = if (getVs v.ps st).2.1 ≠ 0 then (0, (getVs v.ps st).2.1, (getVs v.ps st).2.2) else if nhas (getVs v.ps st).2.2.2 (v.s, (getVs v.ps st).1) then ((nidx (getVs v.ps st).2.2.2 (v.s, (getVs v.ps st).1) : Int), 0, (getVs v.ps st).2.2) else (0, 6, (getVs v.ps st).2.2) := by cases v; simp only [V.k] at h1 h2; unfold getV; rw [if_neg h1, if_neg h2]; rfl
mutual
theorem getV_st : ∀ (v : V) (st : St), (getV v st).2.2 = st
  | .mk k n s ps, st => by
    have h := getVs_st ps st
    unfold getV
    by_cases h1 : k = 1
    · rw [if_pos h1]
    · rw [if_neg h1]
      by_cases h2 : k = 2
      · rw [if_pos h2]; split <;> rfl
      · rw [if_neg h2]
        split
        · exact h
        · split <;> exact h
theorem getVs_st : ∀ (l : List V) (st : St), (getVs l st).2.2 = st
  | [], st => by unfold getVs; rfl
  | x :: r, st => by
    have hx := getV_st x st
    have hr := getVs_st r (getV x st).2.2
    unfold getVs
    split
    · exact hx
    · exact hr.trans hx
end
mutual
theorem getV_wf : ∀ (v : V) {st : St}, v.Ok → Lens st → (Lit.int .i64 (getV v st).1).wf = true
  | .mk k n s ps, st, hok, hl => by
    unfold V.Ok at hok
    have hst := getVs_st ps st
    unfold getV
    by_cases h1 : k = 1
    · rw [if_pos h1]; exact hok.2.1
    · rw [if_neg h1]
      by_cases h2 : k = 2
      · rw [if_pos h2]
        by_cases hb : Sy.hasB st.1 s = true
        · rw [if_pos hb]
          have h3 := idx_lt' hb
          have h4 : Sy.num st.1 s = Sy.idx st.1 s := Sy.num_yes (Sy.hasB_iff.1 hb)
          have := hl.1
          exact WalkArith.wf_i64 (by omega)
        · rw [if_neg hb]; exact WalkArith.wf_i64 (by simp)
      · rw [if_neg h2]
        split
        · exact WalkArith.wf_i64 (by simp)
        · split
          · rename_i hb
            have h3 := nidx_lt (nhas_iff.1 hb)
            rw [hst] at h3 ⊢
            have := hl.2
            exact WalkArith.wf_i64 (by omega)
          · exact WalkArith.wf_i64 (by simp)
theorem getVs_wf : ∀ (l : List V) {st : St}, OkL l → Lens st → (∀ p ∈ (getVs l st).1, wfP p)
  | [], st, _, _ => by unfold getVs; simp
  | x :: r, st, hok, hl => by
    unfold OkL at hok
    have hx := getV_wf x hok.1 hl
    have hr := getVs_wf r (st := (getV x st).2.2) hok.2 (by rw [getV_st]; exact hl)
    unfold getVs
    by_cases he : (getV x st).2.1 ≠ 0
    · rw [if_pos he]; simp
    · rw [if_neg he]
      intro p hp
      rcases List.mem_cons.1 hp with rfl | hp
      · refine ⟨?_, hx⟩
        have h0 := hok.1
        cases x
        unfold V.Ok at h0
        exact h0.1
      · exact hr p hp
end
set_option maxRecDepth 100000 in
set_option maxHeartbeats 1000000 in
theorem get_con (v : V) (x : Value) (m : Nat) (P : Nat → Prop) (d : Int) (st : St) (rb nb : Option Nat) (w : World) (hst : Stor w m st rb nb) (hx : IsVP P w v x) (hfar : Far P w m rb nb) (hok : v.Ok) (hmay : mayV v d = true) (h3 : v.k = 3)
    (hrec : ∀ y ∈ v.ps, ∀ (z : Value) (st : St) (rb nb : Option Nat) (w : World), Stor w m st rb nb → IsVP P w y z → Far P w m rb nb → Calls Tryz.prog 45 #[.pointer (some ⟨m + 3, 0, none⟩), z] w (GPost getV m y st rb nb w)) :
    Calls Tryz.prog 45 #[.pointer (some ⟨m + 3, 0, none⟩), x] w (GPost getV m v st rb nb w) := by
  obtain ⟨a, cap, rfl, hcap, hel⟩ := hx.open
  have hrows := hst.rows
  have hlen := ok_len hok
  have HX := Lib.hid hx
  have HOK := Lib.hid hok
  have HST := Lib.hid hst
  obtain ⟨W0, hW0⟩ : ∃ W0, W0 = w.alloc (.cells #[.int .i64 v.k, .int .i64 v.n, .string v.s, .slice a v.ps.length cap] 24) := ⟨_, rfl⟩
  have hb0 : W0.heap[w.heap.size]? = some (.cells #[.int .i64 v.k, .int .i64 v.n, .string v.s, .slice a v.ps.length cap] 24 (0, 0)) := by rw [hW0]; exact heap_alloc_new _ _
  have hB0 : Below w.heap.size w W0 := by rw [hW0]; exact (Below.refl _ _).alloc (Nat.le_refl _) _
  have HW0 := Lib.hid hW0
  have Hb0 := Lib.hid hb0
  have HB0 := Lib.hid hB0
  have hz0 : w.heap.size < W0.heap.size := heap_lt hb0
  have HS0 := Lib.hid (stor_new hst hB0)
  have hk1 : (v.k == 1) = false := by simp [h3]
  have hk2 : (v.k == 2) = false := by simp [h3]
  have hmc := mayV_con v d h3
  rw [hmay] at hmc
  simp only [Bool.and_eq_true, decide_eq_true_eq, eq_comm (a := true)] at hmc
  obtain ⟨⟨⟨⟨-, -⟩, h8⟩, -⟩, -⟩ := hmc
  have hp := Lib.hid (getV_con v st (by omega) (by omega))
  have hkey := key_get getV v _ m P st rb nb W0 HS0.out (HX.out.below hfar HB0.out) (hfar.size HB0.out.size) HOK.out h8 hrec
  rw [← getVs_fold] at hkey
  obtain ⟨c0, c1, c2, c3⟩ := block4 Hb0.out
  have HKEY := Lib.hid hkey
  clear hkey h3 hst hel hx hok hmay hrec hW0 hB0 hb0 hfar
  go_enter Tryz.func45, Tryz.ntmps45
  go_wp2_with fail
  rw [← HW0.out]
  refine HKEY.out.mono ?_
  rintro e w1 ⟨q, rfl, hq, rb1, nb1, hst1, hl1, hl2, hf1⟩
  have HQ := Lib.hid hq
  have HST1 := Lib.hid hst1
  have HL1 := Lib.hid hl1
  have HL2 := Lib.hid hl2
  have HF1 := Lib.hid hf1
  clear hq hst1 hl1 hl2 hf1 c0 c1 c2 c3
  obtain ⟨er, her⟩ : ∃ er, (getVs v.ps st).2.1 = er := ⟨_, rfl⟩
  rw [her]
  have HER := Lib.hid her
  clear her hrows
  obtain ⟨cs, hnd⟩ : ∃ cs : List Value, ndP v.s v.ps.length q = cs.toArray := ⟨(ndP v.s v.ps.length q).toList, by simp⟩
  have hCs : cs.toArray.size = 18 := by rw [← hnd]; rfl
  have hone : cs.toArray.all (·.oneCell') = true := by rw [← hnd]; exact all_oneCell_toArray (ndP_one v.s v.ps.length q)
  have hth : (w1.alloc (.cells #[.string ⟨#[]⟩, .int .i64 0, .int .i64 0, .int .i64 0, .int .i64 0, .int .i64 0, .int .i64 0, .int .i64 0, .int .i64 0, .int .i64 0, .int .i64 0, .int .i64 0, .int .i64 0, .int .i64 0, .int .i64 0, .int .i64 0, .int .i64 0, .int .i64 0] 77)).there w1.heap.size 0 cs.toArray.size := by rw [hCs]; exact there_new w1 #[.string ⟨#[]⟩, .int .i64 0, .int .i64 0, .int .i64 0, .int .i64 0, .int .i64 0, .int .i64 0, .int .i64 0, .int .i64 0, .int .i64 0, .int .i64 0, .int .i64 0, .int .i64 0, .int .i64 0, .int .i64 0, .int .i64 0, .int .i64 0, .int .i64 0] 77
  have hz77 : (Tryz.prog.info? 77).map (·.size) = some cs.toArray.size := by rw [hCs]; exact size77
  obtain ⟨W2, hW2⟩ : ∃ W2, W2 = (w1.alloc (.cells #[.string ⟨#[]⟩, .int .i64 0, .int .i64 0, .int .i64 0, .int .i64 0, .int .i64 0, .int .i64 0, .int .i64 0, .int .i64 0, .int .i64 0, .int .i64 0, .int .i64 0, .int .i64 0, .int .i64 0, .int .i64 0, .int .i64 0, .int .i64 0, .int .i64 0] 77)).setCells w1.heap.size 0 cs.toArray.toList := ⟨_, rfl⟩
  obtain ⟨hb2, hB2⟩ := new_store w1 #[.string ⟨#[]⟩, .int .i64 0, .int .i64 0, .int .i64 0, .int .i64 0, .int .i64 0, .int .i64 0, .int .i64 0, .int .i64 0, .int .i64 0, .int .i64 0, .int .i64 0, .int .i64 0, .int .i64 0, .int .i64 0, .int .i64 0, .int .i64 0, .int .i64 0] cs.toArray 77 (by rw [hCs]; rfl)
  rw [← hW2] at hb2 hB2
  rw [hnd]
  have HND := Lib.hid hnd
  have HCS := Lib.hid hCs
  have HONE := Lib.hid hone
  have HTH := Lib.hid hth
  have HZ := Lib.hid hz77
  have HW2 := Lib.hid hW2
  have Hb2 := Lib.hid hb2
  have HB2 := Lib.hid hB2
  clear hnd hCs hone hth hz77 hW2 hb2 hB2
  by_cases he : er = 0
  · have he1 : (er != 0) = false := by simp [he]
    have HEZ := Lib.hid he
    clear he
    have HQE := Lib.hid (HQ.out (HER.out.trans HEZ.out))
    have hlq : q.length = v.ps.length := by rw [HQE.out, getVs_fold]; exact fold_len getV v.ps st (by rw [← getVs_fold]; exact HER.out.trans HEZ.out)
    have HLQ := Lib.hid hlq
    clear hlq
    go_wp2_with (refine wpList_store_mid rfl 77 (.tmp 8) (.tmp 18) rfl w1.heap.size 0 cs.toArray (by rfl) (by rfl) HTH.out HZ.out HONE.out ?_)
    rw [← HW2.out]
    obtain ⟨sv2, nv2, D2, D2', n2, n2', hsto⟩ := stor_new HST1.out HB2.out
    have HSTO := Lib.hid hsto
    have hnok : NdOk (v.s, q) := ⟨by show v.s.size ≤ _; unfold maxLen; have := ok_str HOK.out; omega, by show q.length ≤ 8; rw [HLQ.out]; exact h8, by
      obtain ⟨_, _, _, _, _, _, h0⟩ := HST.out
      have := getVs_wf v.ps (ok_parts HOK.out) h0.lens
      rw [← HQE.out] at this
      exact this⟩
    have hdr : Sto W2.drew m (getVs v.ps st).2.2.1 (getVs v.ps st).2.2.2 rb1 nb1 sv2 nv2 D2 D2' n2 n2' := hsto.syms_put (Sy.Fr.of_below (Below.refl W2.heap.size W2).drew) (hsto.syms.kept (Sy.Fr.of_below (S := fun _ => False) (Below.refl W2.heap.size W2).drew) (fun _ _ h => h))
    have hlk := look77 hdr hnok
    rw [← ndP_all, HLQ.out, HND.out] at hlk
    have hld : W2.drew.heap[w1.heap.size]? = some (.cells cs.toArray 77 (0, 0)) := Hb2.out
    obtain ⟨c, hc⟩ : ∃ c : Nat, nnum (getVs v.ps st).2.2.2 (v.s, q) = c := ⟨_, rfl⟩
    obtain ⟨b, hb⟩ : ∃ b, nhas (getVs v.ps st).2.2.2 (v.s, q) = b := ⟨_, rfl⟩
    rw [hc, hb] at hlk
    have hrg := range_of hld
    rw [List.toList_toArray] at hrg
    have hl55 : W2.drew.cell? ⟨m + 3, 2, none⟩ = some (.map (some (m + 2))) := hdr.c.2.2
    have HLK := Lib.hid hlk
    have hld2 := load77 (W := W2.drew) (b := w1.heap.size) (show W2.drew.heap[w1.heap.size]? = some (.cells (ndP v.s v.ps.length q) 77 (0, 0)) from by rw [HND.out]; exact Hb2.out)
    rw [HND.out] at hld2
    have HLD := Lib.hid hld2
    have HLDA := Lib.hid (show ∀ W' : World, W'.heap[w1.heap.size]? = some (.cells cs.toArray 77 (0, 0)) → (Instr.loadAt 77 (.pointer (some ⟨w1.heap.size, 0, none⟩))).run Tryz.prog W' = .ok (.agg cs.toArray) W' from fun W' hW' => by
      have := load77 (W := W') (b := w1.heap.size) (s := v.s) (n := v.ps.length) (l := q) (t := 77) (z := (0, 0)) (by rw [HND.out]; exact hW')
      rwa [HND.out] at this)
    have HKEYQ := Lib.hid (show keyOf Tryz.prog 77 (.agg cs.toArray) = some (nk (v.s, q)) from by rw [← HND.out]; have := nk_eq hnok; rwa [← ndP_all, HLQ.out] at this)
    have HDR := Lib.hid hdr
    have HNOK := Lib.hid hnok
    have HC := Lib.hid hc
    have HBB := Lib.hid hb
    obtain ⟨s0, s1, s2⟩ := hsto.c
    have HSTO := Lib.hid hsto
    clear hlk hld hdr hc hb hsto hnok hrg hl55 hld2
    refine wp_region_still_lit (by kernel_rfl) (by kernel_rfl) ?_
    iterate 4 still_step
    refine wpStill_load rfl 77 (.tmp 8) rfl _ _ (by rfl) HLD.out ?_
    refine wpStill_lookup rfl 55 (.tmp 27) (.tmp 28) true rfl _ _ _ (by rfl) (by rfl) HLK.out ?_
    iterate 5 still_step
    refine wpStill_nil ?_
    have hp' := hp.out
    rw [HER.out, if_neg (by simp [HEZ.out]), ← HQE.out] at hp'
    have HPP := Lib.hid hp'
    have HFR := Lib.hid (((Sy.Fr.of_below (S := SFoot m rb nb) HB0.out).trans HF1.out).trans (Sy.Fr.of_below HB2.out))
    have HLR1 := Lib.hid (show Later w.heap.size rb rb1 from by
      rcases HL1.out with h | ⟨k, h, hk⟩
      · exact .inl h
      · exact .inr ⟨k, h, by omega⟩)
    have HLR2 := Lib.hid (show Later w.heap.size nb nb1 from by
      rcases HL2.out with h | ⟨k, h, hk⟩
      · exact .inl h
      · exact .inr ⟨k, h, by omega⟩)
    clear hp'
    cases b with
    | true =>
      go_wp2_with fail
      go_ret2
      have hp' := HPP.out
      rw [if_pos HBB.out] at hp'
      have hcn := HC.out
      rw [nnum_yes (nhas_iff.1 HBB.out)] at hcn
      refine ⟨by rw [hp', hcn]; rfl, rb1, nb1, ?_, HLR1.out, HLR2.out, HFR.out.trans (Sy.Fr.of_below (Below.refl _ _).drew)⟩
      rw [hp']
      exact ⟨_, _, _, _, _, _, HDR.out⟩
    | false =>
      go_wp2_with fail
      go_ret2
      have hp' := HPP.out
      rw [HBB.out, if_neg (by simp)] at hp'
      refine ⟨by rw [hp']; rfl, rb1, nb1, ?_, HLR1.out, HLR2.out, HFR.out.trans (Sy.Fr.of_below (Below.refl _ _).drew)⟩
      rw [hp']
      exact ⟨_, _, _, _, _, _, HDR.out⟩
  · have he1 : (er != 0) = true := by simp [he]
    have HEZ := Lib.hid he
    clear he
    go_wp2_with (refine wpList_store_mid rfl 77 (.tmp 8) (.tmp 18) rfl w1.heap.size 0 cs.toArray (by rfl) (by rfl) HTH.out HZ.out HONE.out ?_)
    rw [← HW2.out]
    go_ret2
    have hp' := hp.out
    rw [HER.out, if_pos HEZ.out] at hp'
    refine ⟨by rw [hp']; rfl, rb1, nb1, ?_, ?_, ?_, ?_⟩
    · rw [hp']; exact stor_new HST1.out HB2.out
    · rcases HL1.out with h | ⟨k, h, hk⟩
      · exact .inl h
      · exact .inr ⟨k, h, by omega⟩
    · rcases HL2.out with h | ⟨k, h, hk⟩
      · exact .inl h
      · exact .inr ⟨k, h, by omega⟩
    · exact ((Sy.Fr.of_below HB0.out).trans HF1.out).trans (Sy.Fr.of_below HB2.out)

set_option maxRecDepth 100000 in
set_option maxHeartbeats 1000000 in
theorem get_flat (v : V) (x : Value) (m : Nat) (P : Nat → Prop) (d : Int) (st : St) (rb nb : Option Nat) (w : World) (hst : Stor w m st rb nb) (hx : IsVP P w v x) (hok : v.Ok) (hmay : mayV v d = true) (h3 : v.k ≠ 3) :
    Calls Tryz.prog 45 #[.pointer (some ⟨m + 3, 0, none⟩), x] w (GPost getV m v st rb nb w) := by
  obtain ⟨a, cap, rfl, hcap, hel⟩ := hx.open
  obtain ⟨sv, nv, D, D', n, n', hsto⟩ := hst
  obtain ⟨s0, s1, s2⟩ := hsto.c
  have hrows := Stor.rows ⟨sv, nv, D, D', n, n', hsto⟩
  have hlen := ok_len hok
  have HX := Lib.hid hx
  have HOK := Lib.hid hok
  have HST := Lib.hid hsto
  obtain ⟨W0, hW0⟩ : ∃ W0, W0 = w.alloc (.cells #[.int .i64 v.k, .int .i64 v.n, .string v.s, .slice a v.ps.length cap] 24) := ⟨_, rfl⟩
  have hb0 : W0.heap[w.heap.size]? = some (.cells #[.int .i64 v.k, .int .i64 v.n, .string v.s, .slice a v.ps.length cap] 24 (0, 0)) := by rw [hW0]; exact heap_alloc_new _ _
  have hB0 : Below w.heap.size w W0 := by rw [hW0]; exact (Below.refl _ _).alloc (Nat.le_refl _) _
  have HW0 := Lib.hid hW0
  have Hb0 := Lib.hid hb0
  have HB0 := Lib.hid hB0
  have hz0 : w.heap.size < W0.heap.size := heap_lt hb0
  clear hW0 hB0 hb0 hel hx hok hsto
  have HS0 := Lib.hid (Sto.syms_put HST.out (Sy.Fr.of_below HB0.out) (HST.out.syms.kept (Sy.Fr.of_below (S := fun _ => False) HB0.out) (fun _ _ h => h)))
  by_cases h1 : v.k = 1
  · have hp := Lib.hid (getV_num v st h1)
    have hk1 : (v.k == 1) = true := by simp [h1]
    have H1 := Lib.hid h1
    clear h1 h3 hmay
    go_enter Tryz.func45, Tryz.ntmps45
    go_wp2_with fail
    go_ret2
    refine ⟨by rw [hp.out]; rfl, rb, nb, ?_, .inl rfl, .inl rfl, Sy.Fr.of_alloc _ _ _⟩
    rw [hp.out]
    exact stor_new ⟨sv, nv, D, D', n, n', HST.out⟩ ((Below.refl _ _).alloc (Nat.le_refl _) _)
  · have hk1 : (v.k == 1) = false := by simp [h1]
    have h2 : v.k = 2 := by
      by_cases h2 : v.k = 2
      · exact h2
      · rw [mayV_other v d h1 h2 h3] at hmay; cases hmay
    have hp := Lib.hid (getV_sym v st h2)
    have hk2 : (v.k == 2) = true := by simp [h2]
    have H1 := Lib.hid h1
    have H2 := Lib.hid h2
    have HK := Lib.hid (show ∀ w', Sy.Fr (Sy.Foot m rb) W0 w' → w'.cell? ⟨m + 3, 0, none⟩ = some (.pointer (some ⟨m + 1, 0, none⟩)) ∧ w'.cell? ⟨w.heap.size, 2, none⟩ = some (.string v.s) from fun w' hf => by
      have hap := HST.out.apart
      refine ⟨?_, ?_⟩
      · rw [cell_of ((hf.block (m + 3) (by omega) (by rintro (h | h | h); omega; omega; have := hap _ h; omega)).trans ((HB0.out.block _ (by omega)).trans HST.out.cells))]; rfl
      · rw [cell_of ((hf.block w.heap.size (by omega) (by rintro (h | h | h); omega; omega; have := hap _ h; omega)).trans Hb0.out)]; rfl)
    have HT0 := Lib.hid (HS0.out.syms.kept (Sy.Fr.of_below (S := fun _ => False) (Below.refl W0.heap.size W0).drew) (fun _ _ h => h))
    clear h1 h2 h3 hmay s0 s1 s2
    go_enter Tryz.func45, Tryz.ntmps45
    go_wp2_with fail
    rw [← HW0.out]
    obtain ⟨hb, hhb⟩ : ∃ hb, Sy.hasB st.1 v.s = hb := ⟨_, rfl⟩
    have HHB := Lib.hid hhb
    clear hhb
    go_region_held3 (fun w' => w'.cell? ⟨m + 3, 0, none⟩ = some (.pointer (some ⟨m + 1, 0, none⟩)) ∧ w'.cell? ⟨w.heap.size, 2, none⟩ = some (.string v.s)) (first | exact HK.out _ (Sy.Fr.of_below (Below.refl _ _).drew) | assumption) (first | (go_at_call 64; refine (Sy.get_any m n st.1 rb sv D v.s _ HT0.out (by unfold maxLen; have := ok_str HOK.out; omega)).mono ?_; rintro e w7 ⟨rfl, rfl⟩; rw [HHB.out]))
    cases hb with
    | true =>
      go_wp2_with fail
      go_ret2
      have hp' := hp.out
      rw [if_pos HHB.out] at hp'
      refine ⟨by rw [hp']; rfl, rb, nb, ?_, .inl rfl, .inl rfl, (Sy.Fr.of_below HB0.out).trans (Sy.Fr.of_below (Below.refl _ _).drew)⟩
      rw [hp']
      exact stor_new ⟨_, _, _, _, _, _, HS0.out⟩ (Below.refl _ _).drew
    | false =>
      go_wp2_with fail
      go_ret2
      have hp' := hp.out
      rw [if_neg (by rw [HHB.out]; simp)] at hp'
      refine ⟨by rw [hp']; rfl, rb, nb, ?_, .inl rfl, .inl rfl, (Sy.Fr.of_below HB0.out).trans (Sy.Fr.of_below (Below.refl _ _).drew)⟩
      rw [hp']
      exact stor_new ⟨_, _, _, _, _, _, HS0.out⟩ (Below.refl _ _).drew

theorem get_any (N : Nat) : ∀ (v : V) (x : Value) (m : Nat) (P : Nat → Prop) (d : Int) (st : St) (rb nb : Option Nat) (w : World), v.sz < N → Stor w m st rb nb → IsVP P w v x → Far P w m rb nb → v.Ok → mayV v d = true →
    Calls Tryz.prog 45 #[.pointer (some ⟨m + 3, 0, none⟩), x] w (GPost getV m v st rb nb w) := by
  induction N with
  | zero => intro v x m P d st rb nb w h; omega
  | succ N ih =>
    intro v x m P d st rb nb w hN hst hx hfar hok hmay
    by_cases h3 : v.k = 3
    · have hms : mayVs v.ps (d + 1) = true := by
        have := mayV_con v d h3
        rw [hmay] at this
        simp only [eq_comm (a := true), Bool.and_eq_true] at this
        exact this.2
      exact get_con v x m P d st rb nb w hst hx hfar hok hmay h3 (fun y hy z st' rb' nb' w' hs hz hf => ih y z m P (d + 1) st' rb' nb' w' (by have := size_part hy; omega) hs hz hf (ok_part hok hy) (mayVs_mem hms y hy))
    · exact get_flat v x m P d st rb nb w hst hx hok hmay h3
end Go.Proofs.YtnddcicadmbmkaaGreatDoor
