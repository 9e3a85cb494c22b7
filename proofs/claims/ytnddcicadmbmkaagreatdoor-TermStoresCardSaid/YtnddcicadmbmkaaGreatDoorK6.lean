/- The document's Put (22), Get (29), Back (26). The document's Back (26); the program's Back (25) where there is nothing. The two stores beside one another, played the same values. TermStores' walk. -/
import Derived.Test.YtnddcicadmbmkaaGreatDoorK5
import Derived.Test.YtnddcicadmbmkaaGreatDoorK
namespace Go.Proofs.YtnddcicadmbmkaaGreatDoor
open Go.RowKit Go.Maps

theorem later_le {s t : Nat} {a b : Option Nat} (h : Later t a b) (hs : s ≤ t) : Later s a b := by
  rcases h with h | ⟨k, h, hk⟩
  · exact .inl h
  · exact .inr ⟨k, h, by omega⟩

set_option maxRecDepth 100000 in
set_option maxHeartbeats 1000000 in
theorem rsput_any (B b : Nat) (v : V) (x : Value) (rs : RS) (rb cb : Option Nat) (w : World) (hst : RStor B w b rs rb cb) (hx : IsVP (fun k => k < B) w v x) (hok : v.Ok) (hr : rightV v = true) :
    Calls Tryz.prog 22 #[.pointer (some ⟨b, 0, none⟩), x] w (RPost B b v rs rb cb w) := by
  obtain ⟨a, cap, rfl, hcap, hel⟩ := hx.open
  have hrows := hst.rows
  have hmay : mayV v 0 = true := right_may hr
  have HX := Lib.hid hx
  have HOK := Lib.hid hok
  have HR := Lib.hid hr
  have HM := Lib.hid hmay
  obtain ⟨W0, hW0⟩ : ∃ W0, W0 = w.alloc (.cells #[.int .i64 v.k, .int .i64 v.n, .string v.s, .slice a v.ps.length cap] 24) := ⟨_, rfl⟩
  have hb0 : W0.heap[w.heap.size]? = some (.cells #[.int .i64 v.k, .int .i64 v.n, .string v.s, .slice a v.ps.length cap] 24 (0, 0)) := by rw [hW0]; exact heap_alloc_new _ _
  have hB0 : Below w.heap.size w W0 := by rw [hW0]; exact (Below.refl _ _).alloc (Nat.le_refl _) _
  have HS0 := Lib.hid (hst.new hB0)
  have HW0 := Lib.hid hW0
  have Hb0 := Lib.hid hb0
  have HB0 := Lib.hid hB0
  have hz0 : w.heap.size < W0.heap.size := heap_lt hb0
  clear hW0 hb0 hB0 hx hok hr hmay hst hel
  go_enter Tryz.func22, Tryz.ntmps22
  go_wp2_with fail
  rw [← HW0.out]
  refine (rright_at HR.out _ B _ ((IsV.of_p HX.out (fun k hk => hk)).below (HB0.out.mono (by omega))) (by omega) HOK.out).mono ?_
  rintro e w1 ⟨rfl, hb1⟩
  have HB1 := Lib.hid hb1
  obtain ⟨d0, d1, d2, d3⟩ := block4 ((hb1.block w.heap.size hz0).trans Hb0.out)
  have hz1 := hb1.size
  have HC := Lib.hid (rput_any (v.sz + 1) B b v _ 0 rs rb cb w1 (Nat.lt_succ_self _) (HS0.out.new hb1) (HX.out.blocks (fun j hj => (hb1.block j (by omega)).trans (HB0.out.block j (by omega)))) HOK.out HM.out)
  clear hb1
  go_wp2_with fail
  refine HC.out.mono ?_
  rintro e w2 ⟨rfl, rb', nb', hst2, hl1, hl2, hf2⟩
  have HST2 := Lib.hid hst2
  have HL1 := Lib.hid hl1
  have HL2 := Lib.hid hl2
  have HF2 := Lib.hid hf2
  clear hst2 hl1 hl2 hf2 d0 d1 d2 d3 HC
  go_wp2_with fail
  go_ret2
  exact ⟨rfl, rb', nb', HST2.out, later_le HL1.out (by omega), later_le HL2.out (by omega), ((Sy.Fr.of_below HB0.out).trans (Sy.Fr.of_below HB1.out)).trans HF2.out⟩

set_option maxRecDepth 100000 in
set_option maxHeartbeats 1000000 in
theorem rsput_bad (B b : Nat) (v : V) (x : Value) (w : World) (hx : IsVP (fun k => k < B) w v x) (hB : B ≤ w.heap.size) (hok : v.Ok) (hr : rightV v = false) :
    Calls Tryz.prog 22 #[.pointer (some ⟨b, 0, none⟩), x] w fun e w' => e = .returned (.tuple #[.int .i64 0, .int .i64 1]) ∧ Below w.heap.size w w' := by
  obtain ⟨a, cap, rfl, hcap, hel⟩ := hx.open
  have HX := Lib.hid hx
  have HOK := Lib.hid hok
  have HR := Lib.hid hr
  obtain ⟨W0, hW0⟩ : ∃ W0, W0 = w.alloc (.cells #[.int .i64 v.k, .int .i64 v.n, .string v.s, .slice a v.ps.length cap] 24) := ⟨_, rfl⟩
  have hB0 : Below w.heap.size w W0 := by rw [hW0]; exact (Below.refl _ _).alloc (Nat.le_refl _) _
  have hz0 := hB0.size
  have HW0 := Lib.hid hW0
  have HB0 := Lib.hid hB0
  clear hW0 hB0 hx hok hr hel
  go_enter Tryz.func22, Tryz.ntmps22
  go_wp2_with fail
  rw [← HW0.out]
  refine (rright_at HR.out _ B _ ((IsV.of_p HX.out (fun k hk => hk)).below (HB0.out.mono (by omega))) (by omega) HOK.out).mono ?_
  rintro e w1 ⟨rfl, hb1⟩
  have HB1 := Lib.hid hb1
  clear hb1
  go_wp2_with fail
  go_ret2
  exact ⟨rfl, HB0.out.trans (HB1.out.mono (by omega))⟩

def rgetV (v : V) (rs : RS) : Int × Bool :=
  if v.k = 1 then (v.n, true) else if v.k = 2 then (((Sy.num rs.1 v.s : Nat) : Int), Sy.hasB rs.1 v.s) else (max (conN rs.2 v) 0, decide (0 ≤ conN rs.2 v))
theorem rget_agree {v : V} {d : Int} {st : St} {rs : RS} (hm : mayV v d = true) (hr : Rel st rs) : rgetV v rs = ((getV v st).1, (getV v st).2.1 == 0) := by
  unfold rgetV
  by_cases h1 : v.k = 1
  · rw [if_pos h1, getV_num v st h1]; rfl
  · rw [if_neg h1]
    by_cases h2 : v.k = 2
    · rw [if_pos h2, getV_sym v st h2, hr.1]
      by_cases hh : Sy.hasB st.1 v.s = true
      · rw [if_pos hh, hh]; rfl
      · have h0 : Sy.hasB st.1 v.s = false := by simpa using hh
        rw [if_neg hh, h0, Sy.num_no (Sy.hasB_no.1 h0)]; rfl
    · rw [if_neg h2]
      have h3 : v.k = 3 := by
        by_cases h3 : v.k = 3
        · exact h3
        · rcases may_kind hm h3 with h | h
          · exact absurd h h1
          · exact absurd h h2
      obtain ⟨a1, a2⟩ := agree_get v d st rs hm h3 hr
      by_cases he : (getV v st).2.1 = 0
      · have hc := a1 he
        have hge := conN_ge rs.2 v
        have h5 := get_back v d st hm he
        have h6 : 0 ≤ (getV v st).1 := by
          rw [h3] at h5
          cases hs : v.sz with
          | zero => rw [hs] at h5; unfold backV at h5; cases h5
          | succ g =>
            rw [hs] at h5
            unfold backV at h5
            rw [if_neg (by omega), if_neg (by omega), if_pos rfl] at h5
            by_cases hn : 0 ≤ (getV v st).1
            · exact hn
            · rw [if_neg hn] at h5; cases h5
        rw [hc, he]
        simp [h6]
        omega
      · obtain ⟨b1, b2⟩ := a2 he
        rw [b1, b2, show ((getV v st).2.1 == 0) = false from by simp [he]]
        rfl

set_option maxRecDepth 100000 in
set_option maxHeartbeats 1000000 in
theorem rsget_any (B b : Nat) (v : V) (x : Value) (rs : RS) (rb cb : Option Nat) (w : World) (hst : RStor B w b rs rb cb) (hx : IsVP (fun k => k < B) w v x) (hok : v.Ok) (hr : rightV v = true) :
    Calls Tryz.prog 29 #[.pointer (some ⟨b, 0, none⟩), x] w fun e w' => e = .returned (.tuple #[.int .i64 (rgetV v rs).1, .bool (rgetV v rs).2]) ∧ Below w.heap.size w w' := by
  obtain ⟨a, cap, rfl, hcap, hel⟩ := hx.open
  have hrows := hst.rows
  have hmay : mayV v 0 = true := right_may hr
  have HX := Lib.hid hx
  have HOK := Lib.hid hok
  have HR := Lib.hid hr
  obtain ⟨W0, hW0⟩ : ∃ W0, W0 = w.alloc (.cells #[.int .i64 v.k, .int .i64 v.n, .string v.s, .slice a v.ps.length cap] 24) := ⟨_, rfl⟩
  have hb0 : W0.heap[w.heap.size]? = some (.cells #[.int .i64 v.k, .int .i64 v.n, .string v.s, .slice a v.ps.length cap] 24 (0, 0)) := by rw [hW0]; exact heap_alloc_new _ _
  have hB0 : Below w.heap.size w W0 := by rw [hW0]; exact (Below.refl _ _).alloc (Nat.le_refl _) _
  have HS0 := Lib.hid (hst.new hB0)
  have HW0 := Lib.hid hW0
  have Hb0 := Lib.hid hb0
  have HB0 := Lib.hid hB0
  have hz0 : w.heap.size < W0.heap.size := heap_lt hb0
  have hkk : v.k = 1 ∨ v.k = 2 ∨ v.k = 3 := by
    by_cases h3 : v.k = 3
    · exact .inr (.inr h3)
    · rcases may_kind hmay h3 with h | h
      · exact .inl h
      · exact .inr (.inl h)
  clear hW0 hb0 hB0 hx hok hr hmay hst hel
  rcases hkk with hk | hk | hk
  · have hk1 : (v.k == 1) = true := by simp [hk]
    have hg := Lib.hid (show rgetV v rs = (v.n, true) from by unfold rgetV; rw [if_pos hk])
    clear hk
    go_enter Tryz.func29, Tryz.ntmps29
    go_wp2_with fail
    rw [← HW0.out]
    refine (rright_at HR.out _ B _ ((IsV.of_p HX.out (fun k hk => hk)).below (HB0.out.mono (by omega))) (by omega) HOK.out).mono ?_
    rintro e w1 ⟨rfl, hb1⟩
    have HB1 := Lib.hid hb1
    obtain ⟨d0, d1, d2, d3⟩ := block4 ((hb1.block w.heap.size hz0).trans Hb0.out)
    clear hb1
    go_wp2_with fail
    go_ret2
    exact ⟨by rw [hg.out]; rfl, HB0.out.trans (HB1.out.mono (by omega))⟩
  · have hk1 : (v.k == 1) = false := by simp [hk]
    have hk2 : (v.k == 2) = true := by simp [hk]
    have hg := Lib.hid (show rgetV v rs = (((Sy.num rs.1 v.s : Nat) : Int), Sy.hasB rs.1 v.s) from by unfold rgetV; rw [if_neg (by omega), if_pos hk])
    clear hk
    go_enter Tryz.func29, Tryz.ntmps29
    go_wp2_with fail
    rw [← HW0.out]
    refine (rright_at HR.out _ B _ ((IsV.of_p HX.out (fun k hk => hk)).below (HB0.out.mono (by omega))) (by omega) HOK.out).mono ?_
    rintro e w1 ⟨rfl, hb1⟩
    have HB1 := Lib.hid hb1
    obtain ⟨d0, d1, d2, d3⟩ := block4 ((hb1.block w.heap.size hz0).trans Hb0.out)
    obtain ⟨C, tv, cv, hC, hsto⟩ := (HS0.out.new hb1).new ((Below.refl _ _).drew : Below w1.heap.size w1 w1.drew)
    have HT := Lib.hid hsto.rtab
    have HD2 : Hid (w1.drew.cell? ⟨w.heap.size, 2, none⟩ = some (.string v.s)) := Lib.hid d2
    clear hb1 hsto hC
    go_wp2_with fail
    go_region_held3 (fun w' => w'.cell? ⟨w.heap.size, 2, none⟩ = some (.string v.s)) (first | exact HD2.out | assumption) (first | (go_at_call 46; refine (Sy.rget_any b rs.1 rb tv v.s _ HT.out).mono ?_; rintro e w7 ⟨rfl, rfl⟩))
    go_wp2_with fail
    go_ret2
    exact ⟨by rw [hg.out]; rfl, (HB0.out.trans (HB1.out.mono (by omega))).drew⟩
  · have hk1 : (v.k == 1) = false := by simp [hk]
    have hk2 : (v.k == 2) = false := by simp [hk]
    have hg := Lib.hid (show rgetV v rs = (max (conN rs.2 v) 0, decide (0 ≤ conN rs.2 v)) from by unfold rgetV; rw [if_neg (by omega), if_neg (by omega)])
    clear hk
    go_enter Tryz.func29, Tryz.ntmps29
    go_wp2_with fail
    rw [← HW0.out]
    refine (rright_at HR.out _ B _ ((IsV.of_p HX.out (fun k hk => hk)).below (HB0.out.mono (by omega))) (by omega) HOK.out).mono ?_
    rintro e w1 ⟨rfl, hb1⟩
    have HB1 := Lib.hid hb1
    have hz1 := hb1.size
    obtain ⟨d0, d1, d2, d3⟩ := block4 ((hb1.block w.heap.size hz0).trans Hb0.out)
    obtain ⟨C, tv, cv, hC, hsto⟩ := HS0.out.new hb1
    have HC := Lib.hid (rcon_any B b rs.1 C rb cb tv cv v _ w1 hsto (IsV.of_p (HX.out.blocks (fun j hj => (hb1.block j (by omega)).trans (HB0.out.block j (by omega)))) (fun _ h => h)) HOK.out)
    have HCC := Lib.hid hC
    clear hb1 hsto hC
    go_wp2_with fail
    refine HC.out.mono ?_
    rintro e w2 ⟨rfl, hb2⟩
    rw [HCC.out]
    have HB2 := Lib.hid (HB0.out.trans ((HB1.out.trans (hb2.mono hz1)).mono (by omega)))
    clear hb2 d0 d1 d2 d3 HC
    go_wp2_with fail
    go_ret2
    exact ⟨by rw [hg.out]; rfl, HB2.out⟩

set_option maxRecDepth 100000 in
set_option maxHeartbeats 1000000 in
theorem rsget_bad (B b : Nat) (v : V) (x : Value) (w : World) (hx : IsVP (fun k => k < B) w v x) (hB : B ≤ w.heap.size) (hok : v.Ok) (hr : rightV v = false) :
    Calls Tryz.prog 29 #[.pointer (some ⟨b, 0, none⟩), x] w fun e w' => e = .returned (.tuple #[.int .i64 0, .bool false]) ∧ Below w.heap.size w w' := by
  obtain ⟨a, cap, rfl, hcap, hel⟩ := hx.open
  have HX := Lib.hid hx
  have HOK := Lib.hid hok
  have HR := Lib.hid hr
  obtain ⟨W0, hW0⟩ : ∃ W0, W0 = w.alloc (.cells #[.int .i64 v.k, .int .i64 v.n, .string v.s, .slice a v.ps.length cap] 24) := ⟨_, rfl⟩
  have hB0 : Below w.heap.size w W0 := by rw [hW0]; exact (Below.refl _ _).alloc (Nat.le_refl _) _
  have hz0 := hB0.size
  have HW0 := Lib.hid hW0
  have HB0 := Lib.hid hB0
  clear hW0 hB0 hx hok hr hel
  go_enter Tryz.func29, Tryz.ntmps29
  go_wp2_with fail
  rw [← HW0.out]
  refine (rright_at HR.out _ B _ ((IsV.of_p HX.out (fun k hk => hk)).below (HB0.out.mono (by omega))) (by omega) HOK.out).mono ?_
  rintro e w1 ⟨rfl, hb1⟩
  have HB1 := Lib.hid hb1
  clear hb1
  go_wp2_with fail
  go_ret2
  exact ⟨rfl, HB0.out.trans (HB1.out.mono (by omega))⟩

def zeroV : V := .mk 0 0 ⟨#[]⟩ []
def rbackV (rs : RS) (k n : Int) : Option V :=
  if k = 1 then some (.mk 1 n ⟨#[]⟩ [])
  else if k = 2 then (if Sy.isTxt rs.1 n then some (.mk 2 0 (Sy.txt rs.1 n) []) else none)
  else if k = 3 then (if 0 ≤ n then rs.2[n.toNat]? else none)
  else none
/-- what the document's Back answers -/
def RBack (B : Nat) (rs : RS) (k n : Int) (w : World) (e : Ending) (w' : World) : Prop :=
  Below w.heap.size w w' ∧ ∃ x, e = .returned (.tuple #[x, .bool (rbackV rs k n).isSome]) ∧ IsV B w' ((rbackV rs k n).getD zeroV) x
theorem flat_v (B : Nat) (w : World) (k n : Int) (s : ByteArray) : IsV B w (.mk k n s []) (.agg #[.int .i64 k, .int .i64 n, .string s, .slice none 0 0]) := IsV.of_p (flat_vp (fun j => j < B) w k n s) (fun _ h => h)

set_option maxRecDepth 100000 in
set_option maxHeartbeats 2000000 in
theorem rsback_flat (B b : Nat) (rs : RS) (rb cb : Option Nat) (k n : Int) (w : World) (hst : RStor B w b rs rb cb) (h3 : k ≠ 3 ∨ n < 0 ∨ (rs.2.length : Int) ≤ n) :
    Calls Tryz.prog 26 #[.pointer (some ⟨b, 0, none⟩), .int .i64 k, .int .i64 n] w (RBack B rs k n w) := by
  obtain ⟨C, tv, cv, hC, hsto⟩ := hst.new ((Below.refl _ _).alloc (Nat.le_refl _) (.cells #[.int .i64 0, .int .i64 0, .string ⟨#[]⟩, .slice none 0 0] 24))
  have hB0 : Hid (Below w.heap.size w (w.alloc (.cells #[.int .i64 0, .int .i64 0, .string ⟨#[]⟩, .slice none 0 0] 24))) := Lib.hid ((Below.refl _ _).alloc (Nat.le_refl _) _)
  by_cases h1 : k = 1
  · subst h1
    have hr := Lib.hid (show rbackV rs 1 n = some (.mk 1 n ⟨#[]⟩ []) from by unfold rbackV; rw [if_pos rfl])
    clear hsto h3
    go_enter Tryz.func26, Tryz.ntmps26
    go_wp2_with fail
    (try simp only [Exit.inBlock, Exit.then])
    refine bodyPost_ret (results_cell2 rfl _ _ w.heap.size 24 #[.int .i64 1, .int .i64 n, .string ⟨#[]⟩, .slice none 0 0] (0, 0) _ rfl ?_ Tryz.underlying24 rfl size24) rfl ?_
    · exact heap_alloc_new w _
    · exact ⟨(Below.refl _ _).alloc (Nat.le_refl _) _, _, by rw [hr.out]; rfl, by rw [hr.out]; exact flat_v _ _ _ _ _⟩
  · have z1 : (k == 1) = false := by simp [h1]
    by_cases h2 : k = 2
    · subst h2
      have HT := Lib.hid hsto.rtab
      cases hi : Sy.isTxt rs.1 n with
      | true =>
        have hr := Lib.hid (show rbackV rs 2 n = some (.mk 2 0 (Sy.txt rs.1 n) []) from by unfold rbackV; rw [if_neg (by omega), if_pos rfl, if_pos hi])
        clear hsto h3 h1 z1
        go_enter Tryz.func26, Tryz.ntmps26
        go_wp2_with fail
        refine (Sy.rtext_any b _ _ _ n _ HT.out).mono ?_
        rintro e w1 ⟨rfl, rfl⟩
        rw [hi]
        go_wp2_with fail
        (try simp only [Exit.inBlock, Exit.then])
        refine bodyPost_ret (results_cell2 rfl _ _ w.heap.size 24 #[.int .i64 2, .int .i64 0, .string (Sy.txt rs.1 n), .slice none 0 0] (0, 0) _ rfl ?_ Tryz.underlying24 rfl size24) rfl ?_
        · exact heap_alloc_new w _
        · exact ⟨(Below.refl _ _).alloc (Nat.le_refl _) _, _, by rw [hr.out]; rfl, by rw [hr.out]; exact flat_v _ _ _ _ _⟩
      | false =>
        have hr := Lib.hid (show rbackV rs 2 n = none from by unfold rbackV; rw [if_neg (by omega), if_pos rfl, if_neg (by simp [hi])])
        clear hsto h3 h1 z1
        go_enter Tryz.func26, Tryz.ntmps26
        go_wp2_with fail
        refine (Sy.rtext_any b _ _ _ n _ HT.out).mono ?_
        rintro e w1 ⟨rfl, rfl⟩
        rw [hi]
        go_wp2_with fail
        (try simp only [Exit.inBlock, Exit.then])
        refine bodyPost_ret (results_cell2 rfl _ _ w.heap.size 24 #[.int .i64 0, .int .i64 0, .string ⟨#[]⟩, .slice none 0 0] (0, 0) _ rfl ?_ Tryz.underlying24 rfl size24) rfl ?_
        · exact heap_alloc_new w _
        · exact ⟨(Below.refl _ _).alloc (Nat.le_refl _) _, _, by rw [hr.out]; rfl, by rw [hr.out]; exact flat_v _ _ _ _ _⟩
    · have z2 : (k == 2) = false := by simp [h2]
      by_cases h4 : k = 3
      · subst h4
        have hlen : C.length = rs.2.length := by rw [← hC]; simp
        have hr := Lib.hid (show rbackV rs 3 n = none from by
          unfold rbackV
          rw [if_neg (by omega), if_neg (by omega), if_pos rfl]
          by_cases hn : 0 ≤ n
          · rw [if_pos hn, List.getElem?_eq_none (by omega)]
          · rw [if_neg hn])
        have c1 := hsto.c1
        have hcl := hsto.clen
        obtain ⟨ac, capc, rfl⟩ := hsto.slice
        by_cases hn : 0 ≤ n
        · have y1 : decide (0 ≤ n) = true := by simp [hn]
          have y2 : decide (n < (C.length : Int)) = false := by simp; omega
          have y3 : ¬ n < (C.length : Int) := by omega
          clear hsto h3 h1 z1 h2 z2 hlen
          go_enter Tryz.func26, Tryz.ntmps26
          go_wp2_with fail
          (try simp only [Exit.inBlock, Exit.then])
          refine bodyPost_ret (results_cell2 rfl _ _ w.heap.size 24 #[.int .i64 0, .int .i64 0, .string ⟨#[]⟩, .slice none 0 0] (0, 0) _ rfl ?_ Tryz.underlying24 rfl size24) rfl ?_
          · exact heap_alloc_new w _
          · exact ⟨(Below.refl _ _).alloc (Nat.le_refl _) _, _, by rw [hr.out]; rfl, by rw [hr.out]; exact flat_v _ _ _ _ _⟩
        · have y1 : decide (0 ≤ n) = false := by simp; omega
          clear hsto h3 h1 z1 h2 z2 c1
          go_enter Tryz.func26, Tryz.ntmps26
          go_wp2_with fail
          (try simp only [Exit.inBlock, Exit.then])
          refine bodyPost_ret (results_cell2 rfl _ _ w.heap.size 24 #[.int .i64 0, .int .i64 0, .string ⟨#[]⟩, .slice none 0 0] (0, 0) _ rfl ?_ Tryz.underlying24 rfl size24) rfl ?_
          · exact heap_alloc_new w _
          · exact ⟨(Below.refl _ _).alloc (Nat.le_refl _) _, _, by rw [hr.out]; rfl, by rw [hr.out]; exact flat_v _ _ _ _ _⟩
      · have z3 : (k == 3) = false := by simp [h4]
        have hr := Lib.hid (show rbackV rs k n = none from by unfold rbackV; rw [if_neg h1, if_neg h2, if_neg h4])
        clear hsto h3 h1 h2 h4
        go_enter Tryz.func26, Tryz.ntmps26
        go_wp2_with fail
        (try simp only [Exit.inBlock, Exit.then])
        refine bodyPost_ret (results_cell2 rfl _ _ w.heap.size 24 #[.int .i64 0, .int .i64 0, .string ⟨#[]⟩, .slice none 0 0] (0, 0) _ rfl ?_ Tryz.underlying24 rfl size24) rfl ?_
        · exact heap_alloc_new w _
        · exact ⟨(Below.refl _ _).alloc (Nat.le_refl _) _, _, by rw [hr.out]; rfl, by rw [hr.out]; exact flat_v _ _ _ _ _⟩

set_option maxRecDepth 100000 in
set_option maxHeartbeats 2000000 in
theorem rsback_con (B b : Nat) (rs : RS) (rb cb : Option Nat) (n : Nat) (w : World) (hst : RStor B w b rs rb cb) (hn : n < rs.2.length) :
    Calls Tryz.prog 26 #[.pointer (some ⟨b, 0, none⟩), .int .i64 3, .int .i64 n] w (RBack B rs 3 n w) := by
  have hrows := hst.rows
  obtain ⟨C, tv, cv, hC, hsto⟩ := hst.new ((Below.refl _ _).alloc (Nat.le_refl _) (.cells #[.int .i64 0, .int .i64 0, .string ⟨#[]⟩, .slice none 0 0] 24))
  have hlen : C.length = rs.2.length := by rw [← hC]; simp
  have hr := Lib.hid (show rbackV rs 3 n = some (nthV rs.2 n) from by
    unfold rbackV
    rw [if_neg (by omega), if_neg (by omega), if_pos rfl, if_pos (by omega), Int.toNat_natCast]
    exact nthV_some hn)
  have c1 := hsto.c1
  have hcl := hsto.clen
  obtain ⟨g, cap, hsv, hels⟩ := hsto.elts.resolve_left (by intro e; rw [e] at hlen; simp at hlen; omega)
  subst hsv
  rw [hC] at hels
  obtain ⟨sl, e0, e1, e2, e3, hsub⟩ := hels.at hn
  obtain ⟨a2, cap2, rfl⟩ := subP_slice hsub
  rw [Nat.zero_add] at e0 e1 e2 e3
  have HSUB := Lib.hid hsub
  have y1 : decide ((0 : Int) ≤ (n : Int)) = true := by simp
  have y2 : decide ((n : Int) < (C.length : Int)) = true := by simp; omega
  have hnC : n < C.length := by omega
  clear hsto hels hsub
  go_enter Tryz.func26, Tryz.ntmps26
  go_wp2_with fail
  (try simp only [Exit.inBlock, Exit.then])
  refine bodyPost_ret (results_cell2 rfl _ _ w.heap.size 24 #[.int .i64 (nthV rs.2 n).k, .int .i64 (nthV rs.2 n).n, .string (nthV rs.2 n).s, .slice a2 (nthV rs.2 n).ps.length cap2] (0, 0) _ rfl ?_ Tryz.underlying24 rfl size24) rfl ?_
  · exact heap_alloc_new w _
  · refine ⟨(Below.refl _ _).alloc (Nat.le_refl _) _, _, by rw [hr.out]; rfl, ?_⟩
    rw [hr.out]
    refine IsV.of_p ((subP_isV HSUB.out).move (Q := fun k => k < B) (fun k hk => ⟨hk, fun j => ?_⟩)) (fun _ h => h)
    have hk' : k < w.heap.size := by have hk : k < B := hk; omega
    exact (World.cell?_of_block (a := ⟨k, j, none⟩) (heap_alloc_old w _ hk')).trans (World.cell?_of_block (a := ⟨k, j, none⟩) (heap_alloc_old w _ hk')).symm
theorem rsback_any (B b : Nat) (rs : RS) (rb cb : Option Nat) (k n : Int) (w : World) (hst : RStor B w b rs rb cb) :
    Calls Tryz.prog 26 #[.pointer (some ⟨b, 0, none⟩), .int .i64 k, .int .i64 n] w (RBack B rs k n w) := by
  by_cases h : k ≠ 3 ∨ n < 0 ∨ (rs.2.length : Int) ≤ n
  · exact rsback_flat B b rs rb cb k n w hst h
  · have h3 : k = 3 := by by_cases h3 : k = 3; exact h3; exact absurd (.inl h3) h
    have hn : 0 ≤ n := by by_cases hn : n < 0; exact absurd (.inr (.inl hn)) h; omega
    have hl : n < (rs.2.length : Int) := by by_cases hn : (rs.2.length : Int) ≤ n; exact absurd (.inr (.inr hn)) h; omega
    obtain ⟨m, rfl⟩ := Int.eq_ofNat_of_zero_le hn
    subst h3
    exact rsback_con B b rs rb cb m w hst (by omega)

set_option maxRecDepth 100000 in
set_option maxHeartbeats 2000000 in
theorem back_none (k n : Int) (m : Nat) (st : St) (rb nb : Option Nat) (w : World) (hst : Stor w m st rb nb) (h1 : k ≠ 1) (h2 : k = 2 → Sy.isTxt st.1 n = false) (h3 : k = 3 → n < 0 ∨ (st.2.length : Int) ≤ n) :
    Calls Tryz.prog 25 #[.pointer (some ⟨m + 3, 0, none⟩), .int .i64 k, .int .i64 n] w fun e w' => e = .returned (.tuple #[.agg #[.int .i64 0, .int .i64 0, .string ⟨#[]⟩, .slice none 0 0], .bool false]) ∧ Below w.heap.size w w' := by
  have h2' := stor_new hst ((Below.refl _ _).alloc (Nat.le_refl _) zeroO)
  unfold zeroO at h2'
  obtain ⟨sv, nv, D, D', n0, n', hsto⟩ := h2'
  obtain ⟨s0, s1, s2⟩ := hsto.c
  have HT := Lib.hid hsto.syms
  have hl := hsto.len
  obtain ⟨cap2, a2, rfl⟩ : ∃ cap a, nv = .slice a st.2.length cap := by
    rcases hsto.row.2 with ⟨h1, h2⟩ | ⟨g, cap, cur, h1, _⟩
    · exact ⟨0, none, by rw [h1, h2]⟩
    · exact ⟨cap, _, h1⟩
  clear hsto
  have z1 : (k == 1) = false := by simp [h1]
  have qT : ∀ (w : World) (r : Option Nat), (binOp .eql 55 (.map r) (.map none)).run Tryz.prog w = .ok (.bool r.isNone) w := fun w r => run_eql_map_nil w _ _ _ r Tryz.underlying55
  by_cases e2 : k = 2
  · subst e2
    have hi := h2 rfl
    clear h1 h2 h3 z1
    go_enter Tryz.func25, Tryz.ntmps25
    go_wp2_with fail
    refine (Sy.text_any _ _ _ _ _ _ n _ HT.out).mono ?_
    rintro e w1 ⟨rfl, rfl⟩
    rw [hi]
    go_wp2_with fail
    (try simp only [Exit.inBlock, Exit.then])
    refine bodyPost_ret (results_cell2 rfl _ _ w.heap.size 24 #[.int .i64 0, .int .i64 0, .string ⟨#[]⟩, .slice none 0 0] (0, 0) _ rfl ?_ Tryz.underlying24 rfl size24) rfl ?_
    · exact heap_alloc_new w _
    · exact ⟨rfl, (Below.refl _ _).alloc (Nat.le_refl _) _⟩
  · have z2 : (k == 2) = false := by simp [e2]
    by_cases e3 : k = 3
    · subst e3
      have h3 := h3 rfl
      clear h1 h2 z1 z2 e2
      by_cases hn : n < 0
      · have y1 : decide (n < 0) = true := by simp [hn]
        clear h3
        go_enter Tryz.func25, Tryz.ntmps25
        go_wp2_with fail
        (try simp only [Exit.inBlock, Exit.then])
        refine bodyPost_ret (results_cell2 rfl _ _ w.heap.size 24 #[.int .i64 0, .int .i64 0, .string ⟨#[]⟩, .slice none 0 0] (0, 0) _ rfl ?_ Tryz.underlying24 rfl size24) rfl ?_
        · exact heap_alloc_new w _
        · exact ⟨rfl, (Below.refl _ _).alloc (Nat.le_refl _) _⟩
      · have y1 : decide (n < 0) = false := by simp; omega
        have y2 : decide ((st.2.length : Int) ≤ n) = true := by simp; omega
        have y3 : (st.2.length : Int) ≤ n := by omega
        clear h3
        go_enter Tryz.func25, Tryz.ntmps25
        go_wp2_with fail
        (try simp only [Exit.inBlock, Exit.then])
        refine bodyPost_ret (results_cell2 rfl _ _ w.heap.size 24 #[.int .i64 0, .int .i64 0, .string ⟨#[]⟩, .slice none 0 0] (0, 0) _ rfl ?_ Tryz.underlying24 rfl size24) rfl ?_
        · exact heap_alloc_new w _
        · exact ⟨rfl, (Below.refl _ _).alloc (Nat.le_refl _) _⟩
    · have z3 : (k == 3) = false := by simp [e3]
      clear h1 h2 h3 e2 e3
      go_enter Tryz.func25, Tryz.ntmps25
      go_wp2_with fail
      (try simp only [Exit.inBlock, Exit.then])
      refine bodyPost_ret (results_cell2 rfl _ _ w.heap.size 24 #[.int .i64 0, .int .i64 0, .string ⟨#[]⟩, .slice none 0 0] (0, 0) _ rfl ?_ Tryz.underlying24 rfl size24) rfl ?_
      · exact heap_alloc_new w _
      · exact ⟨rfl, (Below.refl _ _).alloc (Nat.le_refl _) _⟩

def TwoN (w0 w : World) (b : Nat) (st : St) (rs : RS) : Prop := ∃ rb nb r2 c2, Stor w w0.heap.size st rb nb ∧ RStor w0.heap.size w b rs r2 c2 ∧ (∀ k, RF b r2 c2 k → ¬ SFoot w0.heap.size rb nb k) ∧ Below w0.heap.size w0 w
/-- the program's store at w0's end, the document's in block b, and a box j that is neither's -/
def Two (w0 w : World) (b j : Nat) (cs : Array Value) (st : St) (rs : RS) : Prop := ∃ rb nb r2 c2, Stor w w0.heap.size st rb nb ∧ RStor w0.heap.size w b rs r2 c2 ∧ (∀ k, RF b r2 c2 k → ¬ SFoot w0.heap.size rb nb k) ∧ Below w0.heap.size w0 w ∧ w.heap[j]? = some (.cells cs 24 (0, 0)) ∧ ¬ SFoot w0.heap.size rb nb j ∧ ¬ RF b r2 c2 j
theorem Two.toN {w0 w : World} {b j : Nat} {cs : Array Value} {st : St} {rs : RS} (h : Two w0 w b j cs st rs) : TwoN w0 w b st rs := by
  obtain ⟨rb, nb, r2, c2, h1, h2, h3, h4, _⟩ := h
  exact ⟨rb, nb, r2, c2, h1, h2, h3, h4⟩
theorem Two.box {w0 w : World} {b j : Nat} {cs : Array Value} {st : St} {rs : RS} (h : Two w0 w b j cs st rs) : w.heap[j]? = some (.cells cs 24 (0, 0)) := by
  obtain ⟨rb, nb, r2, c2, h1, h2, h3, h4, h5, _⟩ := h
  exact h5
theorem Two.bel {w0 w : World} {b j : Nat} {cs : Array Value} {st : St} {rs : RS} (h : Two w0 w b j cs st rs) : Below w0.heap.size w0 w := by
  obtain ⟨rb, nb, r2, c2, h1, h2, h3, h4, h5, _⟩ := h
  exact h4
theorem TwoN.bel {w0 w : World} {b : Nat} {st : St} {rs : RS} (h : TwoN w0 w b st rs) : Below w0.heap.size w0 w := by
  obtain ⟨rb, nb, r2, c2, h1, h2, h3, h4⟩ := h
  exact h4
theorem TwoN.below {w0 w w' : World} {b : Nat} {st : St} {rs : RS} (h : TwoN w0 w b st rs) (hb : Below w.heap.size w w') : TwoN w0 w' b st rs := by
  obtain ⟨rb, nb, r2, c2, h1, h2, h3, h4⟩ := h
  exact ⟨rb, nb, r2, c2, stor_new h1 hb, h2.new hb, h3, h4.trans (hb.mono h4.size)⟩
theorem Two.below {w0 w w' : World} {b j : Nat} {cs : Array Value} {st : St} {rs : RS} (h : Two w0 w b j cs st rs) (hb : Below w.heap.size w w') : Two w0 w' b j cs st rs := by
  obtain ⟨rb, nb, r2, c2, h1, h2, h3, h4, h5, h6⟩ := h
  exact ⟨rb, nb, r2, c2, stor_new h1 hb, h2.new hb, h3, h4.trans (hb.mono h4.size), (hb.block j (heap_lt h5)).trans h5, h6⟩
theorem TwoN.boxed {w0 w : World} {b : Nat} {st : St} {rs : RS} (h : TwoN w0 w b st rs) (cs : Array Value) : Two w0 (w.alloc (.cells cs 24)) b w.heap.size cs st rs := by
  obtain ⟨rb, nb, r2, c2, h1, h2, h3, h4⟩ := h
  have hb : Below w.heap.size w (w.alloc (.cells cs 24)) := (Below.refl _ _).alloc (Nat.le_refl _) _
  exact ⟨rb, nb, r2, c2, stor_new h1 hb, h2.new hb, h3, h4.trans (hb.mono h4.size), heap_alloc_new _ _, h1.apart (Nat.le_refl _), h2.apart (Nat.le_refl _)⟩
theorem two_prog {w0 w w' : World} {b j : Nat} {cs : Array Value} {st st' : St} {rs : RS} {rb nb rb' nb' r2 c2 : Option Nat} (hst' : Stor w' w0.heap.size st' rb' nb') (hl1 : Later w.heap.size rb rb') (hl2 : Later w.heap.size nb nb') (hf : Sy.Fr (SFoot w0.heap.size rb nb) w w')
    (h1 : Stor w w0.heap.size st rb nb) (h2 : RStor w0.heap.size w b rs r2 c2) (h3 : ∀ k, RF b r2 c2 k → ¬ SFoot w0.heap.size rb nb k) (h4 : Below w0.heap.size w0 w) (h5 : w.heap[j]? = some (.cells cs 24 (0, 0))) (h6 : ¬ SFoot w0.heap.size rb nb j) (h7 : ¬ RF b r2 c2 j) : Two w0 w' b j cs st' rs := by
  have hrr := h2.rows
  refine ⟨rb', nb', r2, c2, hst', ?_, fun k hk hs => ?_, h4.trans (h1.below hf (Nat.le_refl _)), (hf.block j (heap_lt h5) h6).trans h5, fun hs => ?_, h7⟩
  · obtain ⟨C, tv, cv, hC, hs⟩ := h2
    exact ⟨C, tv, cv, hC, hs.kept hf (fun k hk => h3 k hk) (fun k hk => ((Far.low h1 (Nat.le_refl _)) k hk).2)⟩
  · rcases foot_later hl1 hl2 hs with h | h
    · exact h3 k hk h
    · rcases hk with e | e | e
      · omega
      · have := hrr.1 k e; omega
      · have := hrr.2.1 k e; omega
  · rcases foot_later hl1 hl2 hs with h | h
    · exact h6 h
    · have := heap_lt h5; omega
theorem two_ref {w0 w w' : World} {b j : Nat} {cs : Array Value} {st : St} {rs rs' : RS} {rb nb r2 c2 r2' c2' : Option Nat} (hrs' : RStor w0.heap.size w' b rs' r2' c2') (hl1 : Later w.heap.size r2 r2') (hl2 : Later w.heap.size c2 c2') (hf : Sy.Fr (RF b r2 c2) w w')
    (h1 : Stor w w0.heap.size st rb nb) (h2 : RStor w0.heap.size w b rs r2 c2) (h3 : ∀ k, RF b r2 c2 k → ¬ SFoot w0.heap.size rb nb k) (h4 : Below w0.heap.size w0 w) (h5 : w.heap[j]? = some (.cells cs 24 (0, 0))) (h6 : ¬ SFoot w0.heap.size rb nb j) (h7 : ¬ RF b r2 c2 j) : Two w0 w' b j cs st rs' := by
  have hr := h1.rows
  refine ⟨rb, nb, r2', c2', h1.kept hf (fun k hk hs => h3 k hs hk), hrs', fun k hk hs => ?_, h4.trans (h2.below hf h2.rows.2.2.2), (hf.block j (heap_lt h5) h7).trans h5, h6, fun hs => ?_⟩
  · rcases rfoot_later hl1 hl2 hk with h | h
    · exact h3 k h hs
    · rcases hs with e | e | e | e | e | e
      · omega
      · omega
      · omega
      · omega
      · have := hr.1 k e; omega
      · have := hr.2.1 k e; omega
  · rcases rfoot_later hl1 hl2 hs with h | h
    · exact h7 h
    · have := heap_lt h5; omega
def gV (v : V) (st : St) : Int × Bool := if rightV v then ((getV v st).1, (getV v st).2.1 == 0) else (0, false)
def pV (v : V) (st : St) : Int × Int × St := if rightV v then putV v st else (0, 1, st)
def rpV (v : V) (rs : RS) : RS := if rightV v then (rputV v rs).2.2 else rs
theorem rel_step {v : V} {st : St} {rs : RS} (h : Rel st rs) : Rel (pV v st).2.2 (rpV v rs) := by
  unfold pV rpV
  by_cases hr : rightV v = true
  · rw [if_pos hr, if_pos hr]
    exact (agree_put v 0 st rs (right_may hr) h).2.2
  · rw [if_neg hr, if_neg hr]; exact h
theorem at_w {w0 w : World} {v : V} {x : Value} (hx : IsVP (fun k => k < w0.heap.size) w0 v x) (hb : Below w0.heap.size w0 w) : IsVP (fun k => k < w0.heap.size) w v x := hx.blocks (fun k hk => hb.block k hk)
theorem bget (v : V) (x : Value) (w0 w : World) (b j : Nat) (cs : Array Value) (st : St) (rs : RS) (h : Two w0 w b j cs st rs) (hx : IsVP (fun k => k < w0.heap.size) w0 v x) (hok : v.Ok) :
    Calls Tryz.prog 28 #[.pointer (some ⟨w0.heap.size + 3, 0, none⟩), x] w fun e w' => e = .returned (.tuple #[.int .i64 (gV v st).1, .bool (gV v st).2]) ∧ Two w0 w' b j cs st rs := by
  obtain ⟨rb, nb, r2, c2, h1, h2, h3, h4, h5, h6, h7⟩ := id h
  have hfar := Far.low h1 (Nat.le_refl _)
  unfold gV
  by_cases hr : rightV v = true
  · rw [if_pos hr]
    refine (sget_any v x w0.heap.size _ st rb nb w h1 (at_w hx h4) hfar hok hr).mono ?_
    rintro e w' ⟨he, rb', nb', a1, a2, a3, a4⟩
    exact ⟨he, two_prog a1 a2 a3 a4 h1 h2 h3 h4 h5 h6 h7⟩
  · rw [if_neg hr]
    refine (sget_bad v x w0.heap.size _ st rb nb w h1 (at_w hx h4) hfar hok (by simpa using hr)).mono ?_
    rintro e w' ⟨he, hb⟩
    exact ⟨he, h.below hb⟩
theorem brget (v : V) (x : Value) (w0 w : World) (b j : Nat) (cs : Array Value) (st : St) (rs : RS) (hrel : Rel st rs) (h : Two w0 w b j cs st rs) (hx : IsVP (fun k => k < w0.heap.size) w0 v x) (hok : v.Ok) :
    Calls Tryz.prog 29 #[.pointer (some ⟨b, 0, none⟩), x] w fun e w' => e = .returned (.tuple #[.int .i64 (gV v st).1, .bool (gV v st).2]) ∧ Two w0 w' b j cs st rs := by
  obtain ⟨rb, nb, r2, c2, h1, h2, h3, h4, h5, h6, h7⟩ := id h
  unfold gV
  by_cases hr : rightV v = true
  · rw [if_pos hr]
    refine (rsget_any w0.heap.size b v x rs r2 c2 w h2 (at_w hx h4) hok hr).mono ?_
    rintro e w' ⟨he, hb⟩
    rw [rget_agree (right_may hr) hrel] at he
    exact ⟨he, h.below hb⟩
  · rw [if_neg hr]
    refine (rsget_bad w0.heap.size b v x w (at_w hx h4) h4.size hok (by simpa using hr)).mono ?_
    rintro e w' ⟨he, hb⟩
    exact ⟨he, h.below hb⟩
theorem bput (v : V) (x : Value) (w0 w : World) (b j : Nat) (cs : Array Value) (st : St) (rs : RS) (h : Two w0 w b j cs st rs) (hx : IsVP (fun k => k < w0.heap.size) w0 v x) (hok : v.Ok) :
    Calls Tryz.prog 21 #[.pointer (some ⟨w0.heap.size + 3, 0, none⟩), x] w fun e w' => e = .returned (.tuple #[.int .i64 (pV v st).1, .int .i64 (pV v st).2.1]) ∧ Two w0 w' b j cs (pV v st).2.2 rs := by
  obtain ⟨rb, nb, r2, c2, h1, h2, h3, h4, h5, h6, h7⟩ := id h
  have hfar := Far.low h1 (Nat.le_refl _)
  unfold pV
  by_cases hr : rightV v = true
  · rw [if_pos hr]
    refine (sput_any v x w0.heap.size _ st rb nb w h1 (at_w hx h4) hfar hok hr).mono ?_
    rintro e w' ⟨he, rb', nb', a1, a2, a3, a4⟩
    exact ⟨he, two_prog a1 a2 a3 a4 h1 h2 h3 h4 h5 h6 h7⟩
  · rw [if_neg hr]
    refine (sput_bad v x w0.heap.size _ st rb nb w h1 (at_w hx h4) hfar hok (by simpa using hr)).mono ?_
    rintro e w' ⟨he, hb⟩
    exact ⟨he, h.below hb⟩
theorem brput (v : V) (x : Value) (w0 w : World) (b j : Nat) (cs : Array Value) (st st1 : St) (rs : RS) (hrel : Rel st rs) (h : Two w0 w b j cs st1 rs) (hx : IsVP (fun k => k < w0.heap.size) w0 v x) (hok : v.Ok) :
    Calls Tryz.prog 22 #[.pointer (some ⟨b, 0, none⟩), x] w fun e w' => e = .returned (.tuple #[.int .i64 (pV v st).1, .int .i64 (pV v st).2.1]) ∧ Two w0 w' b j cs st1 (rpV v rs) := by
  obtain ⟨rb, nb, r2, c2, h1, h2, h3, h4, h5, h6, h7⟩ := id h
  unfold pV rpV
  by_cases hr : rightV v = true
  · rw [if_pos hr, if_pos hr]
    obtain ⟨g1, g2, _⟩ := agree_put v 0 st rs (right_may hr) hrel
    refine (rsput_any w0.heap.size b v x rs r2 c2 w h2 (at_w hx h4) hok hr).mono ?_
    rintro e w' ⟨he, r2', c2', a1, a2, a3, a4⟩
    rw [g1, g2] at he
    exact ⟨he, two_ref a1 a2 a3 a4 h1 h2 h3 h4 h5 h6 h7⟩
  · rw [if_neg hr, if_neg hr]
    refine (rsput_bad w0.heap.size b v x w (at_w hx h4) h4.size hok (by simpa using hr)).mono ?_
    rintro e w' ⟨he, hb⟩
    exact ⟨he, h.below hb⟩
/-- the program's Back answers as the document's -/
theorem bback (k n : Int) (w0 w : World) (b : Nat) (st : St) (rs : RS) (hrel : Rel st rs) (h : TwoN w0 w b st rs) :
    Calls Tryz.prog 25 #[.pointer (some ⟨w0.heap.size + 3, 0, none⟩), .int .i64 k, .int .i64 n] w fun e w' => Below w.heap.size w w' ∧ ∃ x, e = .returned (.tuple #[x, .bool (rbackV rs k n).isSome]) ∧ IsV w'.heap.size w' ((rbackV rs k n).getD zeroV) x := by
  obtain ⟨rb, nb, r2, c2, h1, h2, h3, h4⟩ := h
  have hyes : ∀ (f : Nat) (y : V), rbackV rs k n = some y → backV f st k n = some y → Calls Tryz.prog 25 #[.pointer (some ⟨w0.heap.size + 3, 0, none⟩), .int .i64 k, .int .i64 n] w fun e w' => Below w.heap.size w w' ∧ ∃ x, e = .returned (.tuple #[x, .bool (rbackV rs k n).isSome]) ∧ IsV w'.heap.size w' ((rbackV rs k n).getD zeroV) x := fun f y hr hb => by
    refine (back_any f w0.heap.size st rb nb w k n y h1 hb).mono ?_
    rintro e w' ⟨x, he, hx, hbel⟩
    rw [hr]
    exact ⟨hbel, x, he, IsV.of_p hx (fun j hj => hj.2)⟩
  cases hr : rbackV rs k n with
  | some y =>
    rw [← hr]
    unfold rbackV at hr
    by_cases e1 : k = 1
    · subst e1
      rw [if_pos rfl] at hr
      exact hyes 1 y (by unfold rbackV; rw [if_pos rfl]; exact hr) (by rw [back_num]; exact hr)
    · by_cases e2 : k = 2
      · subst e2
        have hr0 := hr
        rw [if_neg (by omega), if_pos rfl] at hr
        by_cases hi : Sy.isTxt rs.1 n = true
        · rw [if_pos hi] at hr
          have hn : 0 ≤ n ∧ n < rs.1.length := by unfold Sy.isTxt at hi; simpa using hi
          obtain ⟨j, rfl⟩ := Int.eq_ofNat_of_zero_le hn.1
          refine hyes 1 y (by unfold rbackV; exact hr0) ?_
          rw [back_sym, ← hrel.1, List.getElem?_eq_getElem (by omega : j < rs.1.length)]
          have ht : Sy.txt rs.1 (j : Int) = rs.1[j]'(by omega) := by
            unfold Sy.txt
            rw [if_pos ⟨hn.1, hn.2⟩, Int.toNat_natCast]
            unfold Sy.nth
            rw [List.getD_eq_getElem?_getD, List.getElem?_eq_getElem (by omega : j < rs.1.length)]
            rfl
          rw [ht] at hr
          exact hr
        · rw [if_neg hi] at hr; cases hr
      · have hr0 := hr
        rw [if_neg e1, if_neg e2] at hr
        by_cases e3 : k = 3
        · subst e3
          rw [if_pos rfl] at hr
          by_cases hn : 0 ≤ n
          · rw [if_pos hn] at hr
            obtain ⟨hb, _⟩ := hrel.2.2.1 _ _ hr
            rw [Int.toNat_of_nonneg hn] at hb
            exact hyes y.sz y (by unfold rbackV; exact hr0) hb
          · rw [if_neg hn] at hr; cases hr
        · rw [if_neg e3] at hr; cases hr
  | none =>
    unfold rbackV at hr
    have e1 : k ≠ 1 := by rintro rfl; rw [if_pos rfl] at hr; cases hr
    refine (back_none k n w0.heap.size st rb nb w h1 e1 (fun e2 => ?_) (fun e3 => ?_)).mono ?_
    · subst e2
      rw [if_neg (by omega), if_pos rfl] at hr
      rw [← hrel.1]
      by_cases hi : Sy.isTxt rs.1 n = true
      · rw [if_pos hi] at hr; cases hr
      · simpa using hi
    · subst e3
      rw [if_neg (by omega), if_neg (by omega), if_pos rfl] at hr
      by_cases hn : 0 ≤ n
      · rw [if_pos hn] at hr
        have := List.getElem?_eq_none_iff.1 hr
        have := hrel.2.1
        exact .inr (by omega)
      · exact .inl (by omega)
    · rintro e w' ⟨he, hb⟩
      exact ⟨hb, _, he, flat_v _ _ _ _ _⟩
/-- the texts are no longer than a text may be -/
def TxtOk (L : List ByteArray) : Prop := ∀ t ∈ L, t.size ≤ 140737488351232
theorem pL_txt {L : List ByteArray} {s : ByteArray} (h : TxtOk L) (hs : s.size ≤ 140737488351232) : TxtOk (Sy.pL L s) := by
  unfold Sy.pL
  split
  · exact h
  · split
    · exact h
    · intro t ht
      rcases List.mem_append.1 ht with ht | ht
      · exact h t ht
      · simp at ht; rw [ht]; exact hs
theorem ok_string {k n : Int} {s : ByteArray} {ps : List V} (h : (V.mk k n s ps).Ok) : s.size ≤ 140737488351232 ∧ OkL ps := by
  unfold V.Ok at h
  exact ⟨h.2.2.1, h.2.2.2.2⟩
mutual
theorem putV_txt : ∀ (v : V) (st : St), v.Ok → TxtOk st.1 → TxtOk (putV v st).2.2.1
  | .mk k n s ps, st, hok, h => by
    obtain ⟨hs, hps⟩ := ok_string hok
    have h1 := putVs_txt ps st hps h
    unfold putV
    by_cases e1 : k = 1
    · rw [if_pos e1]; exact h
    · rw [if_neg e1]
      by_cases e2 : k = 2
      · rw [if_pos e2]; exact pL_txt h hs
      · rw [if_neg e2]
        split
        · exact h1
        · unfold nput
          split
          · exact h1
          · split
            · exact h1
            · exact h1
theorem putVs_txt : ∀ (l : List V) (st : St), OkL l → TxtOk st.1 → TxtOk (putVs l st).2.2.1
  | [], st, _, h => by unfold putVs; exact h
  | x :: r, st, hok, h => by
    unfold OkL at hok
    have h1 := putV_txt x st hok.1 h
    have h2 := putVs_txt r (putV x st).2.2 hok.2 h1
    unfold putVs
    split
    · exact h1
    · exact h2
end
theorem pV_txt {v : V} {st : St} (hok : v.Ok) (h : TxtOk st.1) : TxtOk (pV v st).2.2.1 := by
  unfold pV
  split
  · exact putV_txt v st hok h
  · exact h
theorem zero_ok : zeroV.Ok := by unfold zeroV V.Ok; exact ⟨by decide, by decide, Nat.zero_le _, Nat.zero_le _, by unfold OkL; trivial⟩
theorem back_ok {w0 w : World} {b : Nat} {st : St} {rs : RS} {k n : Int} (h : TwoN w0 w b st rs) (hrel : Rel st rs) (ht : TxtOk st.1) (hn : (Lit.int .i64 n).wf = true) : ((rbackV rs k n).getD zeroV).Ok := by
  obtain ⟨rb, nb, r2, c2, _, h2, _, _⟩ := h
  obtain ⟨C, tv, cv, hC, hs⟩ := h2
  unfold rbackV
  by_cases e1 : k = 1
  · rw [if_pos e1]
    show (V.mk 1 n ⟨#[]⟩ []).Ok
    unfold V.Ok
    exact ⟨by decide, hn, Nat.zero_le _, Nat.zero_le _, by unfold OkL; trivial⟩
  · rw [if_neg e1]
    by_cases e2 : k = 2
    · rw [if_pos e2]
      by_cases hi : Sy.isTxt rs.1 n = true
      · rw [if_pos hi]
        show (V.mk 2 0 (Sy.txt rs.1 n) []).Ok
        unfold V.Ok
        refine ⟨by decide, by decide, ?_, by simp, by unfold OkL; trivial⟩
        have hn : 0 ≤ n ∧ n < rs.1.length := by unfold Sy.isTxt at hi; simpa using hi
        refine ht _ ?_
        rw [← hrel.1]
        unfold Sy.txt
        rw [if_pos hn]
        unfold Sy.nth
        rw [List.getD_eq_getElem?_getD, List.getElem?_eq_getElem (by omega : n.toNat < rs.1.length)]
        exact List.getElem_mem _
      · rw [if_neg hi]; exact zero_ok
    · rw [if_neg e2]
      by_cases e3 : k = 3
      · rw [if_pos e3]
        by_cases hn : 0 ≤ n
        · rw [if_pos hn]
          cases hd : rs.2[n.toNat]? with
          | none => exact zero_ok
          | some y =>
            have hm := List.mem_of_getElem? hd
            rw [← hC] at hm
            obtain ⟨p, hp, rfl⟩ := List.mem_map.1 hm
            exact hs.ok p hp
        · rw [if_neg hn]; exact zero_ok
      · rw [if_neg e3]; exact zero_ok

theorem two_start {w w1 : World} (hst : Stor w1 w.heap.size ([], []) none none) (hb : Below w.heap.size w w1) (hz : w1.heap.size = w.heap.size + 4) :
    TwoN w (w1.alloc (.cells #[.slice none 0 0, .slice none 0 0] 37)) (w.heap.size + 4) ([], []) ([], []) := by
  refine ⟨none, none, none, none, stor_new hst ((Below.refl _ _).alloc (Nat.le_refl _) _), ⟨[], .slice none 0 0, .slice none 0 0, rfl, ?_⟩, fun k hk hs => ?_, hb.trans ((Below.refl _ _).alloc (by omega) _)⟩
  · refine ⟨by rw [← hz]; exact heap_alloc_new _ _, World.ownsRow_nil _ _ _ _, rfl, by simp, World.ownsRow_nil _ _ _ _, rfl, by simp, by simp, by omega, by simp⟩
  · rcases hk with e | e | e
    · rcases hs with e1 | e1 | e1 | e1 | e1 | e1
      · omega
      · omega
      · omega
      · omega
      · cases e1
      · cases e1
    · cases e
    · cases e

set_option maxRecDepth 100000 in
set_option maxHeartbeats 8000000 in
theorem stores_walk (l : List V) (kd nn : Int) (x : Value) (w : World) (hx : IsVs w.heap.size w l x) (_hk : (Lit.int .i64 kd).wf = true) (hn : (Lit.int .i64 nn).wf = true) (hok : l.length ≤ 140737488351232 ∧ OkL l) (htab : ∀ w', Below w.heap.size w w' → Tab w') :
    Calls Tryz.prog 9 #[x, .int .i64 kd, .int .i64 nn] w fun e w' => e = .returned (.bool true) ∧ Below w.heap.size w w' := by
  obtain ⟨a, cap, rfl, hcap, hel⟩ := hx
  obtain ⟨hlen, hok⟩ := hok
  have HEL := Lib.hid hel
  have HOK := Lib.hid hok
  have HTAB := Lib.hid htab
  have HNN := Lib.hid hn
  clear hel hok htab hn
  obtain ⟨N, hN⟩ : ∃ N : Nat, N = min l.length 12 := ⟨_, rfl⟩
  have hN2 : N ≤ 12 := by omega
  have hNl : N ≤ l.length := by omega
  have hmin : min (l.length : Int) 12 = N := by omega
  clear hN
  go_enter Tryz.func9, Tryz.ntmps9
  go_wp2_with fail
  refine (snew_any w).mono ?_
  rintro e w1 ⟨rfl, hst1, hb1, hz1⟩
  obtain ⟨b, hb⟩ : ∃ b, w1.heap.size = b := ⟨_, rfl⟩
  have HBE := Lib.hid (show b = w.heap.size + 4 from by omega)
  have HT1 := Lib.hid (two_start (w := w) (w1 := w1) ⟨_, _, _, _, _, _, hst1⟩ hb1 hz1)
  rw [← HBE.out] at HT1
  clear hst1 hb1 hz1
  go_wp2_with fail
  obtain ⟨W2, hW2⟩ : ∃ W2, W2 = w1.alloc (.cells #[.slice none 0 0, .slice none 0 0] 37) := ⟨_, rfl⟩
  rw [← hW2] at HT1 ⊢
  clear hW2
  refine (alive_any _ (fun w' h => HTAB.out _ (HT1.out.bel.trans (h.mono HT1.out.bel.size)))).mono ?_
  rintro e w2 ⟨rfl, hb2⟩
  have HT2 := Lib.hid (HT1.out.below hb2)
  clear hb2
  go_wp2_with fail
  go_loopw [37] (fun i wr => ∃ (k : Nat) (st : St) (rs : RS), k ≤ N ∧ i = .int .i64 k ∧ TwoN w wr b st rs ∧ Rel st rs ∧ TxtOk st.1) (fun i _ => N - (intOf i).toNat)
  case atStart => exact ⟨0, ([], []), ([], []), Nat.zero_le _, rfl, HT2.out, Rel.nil, fun t ht => by simp at ht⟩
  case round =>
    obtain ⟨k, st, rs, hk, rfl, htw, hrel, htx⟩ := hrel
    have HTW := Lib.hid htw
    have HREL := Lib.hid hrel
    have HTX := Lib.hid htx
    clear htw hrel htx
    by_cases hlt : k < N
    · have hlt' : k < l.length := by omega
      obtain ⟨be, off, rfl, hbB, hels⟩ := HEL.out.resolve_left (by intro e; rw [e] at hlt'; simp at hlt')
      have hcell : ∀ (j : Nat) (u : Value), w.cell? ⟨be, j, none⟩ = some u → wr.cell? ⟨be, j, none⟩ = some u := fun j u h => (World.cell?_of_block (a := ⟨be, j, none⟩) (HTW.out.bel.block be hbB)).trans h
      obtain ⟨sl, e0, e1, e2, e3, hsub⟩ := hels.at hlt'
      obtain ⟨a2, cap2, rfl⟩ := subP_slice hsub
      have HX := Lib.hid (subP_isV hsub)
      have HVO := Lib.hid (okL_nth HOK.out hlt')
      have e0 := hcell _ _ e0
      have e1 := hcell _ _ e1
      have e2 := hcell _ _ e2
      have e3 := hcell _ _ e3
      clear hsub hels hcell
      obtain ⟨v, hv⟩ : ∃ v, nthV l k = v := ⟨_, rfl⟩
      rw [hv] at e0 e1 e2 e3 HX HVO
      clear hv
      have hvlen := ok_len HVO.out
      obtain ⟨W4, hW4⟩ : ∃ W4, W4 = wr.alloc (.cells #[.int .i64 v.k, .int .i64 v.n, .string v.s, .slice a2 v.ps.length cap2] 24) := ⟨_, rfl⟩
      have HT4 := Lib.hid (HTW.out.boxed #[.int .i64 v.k, .int .i64 v.n, .string v.s, .slice a2 v.ps.length cap2])
      rw [← hW4] at HT4
      have HW4 := Lib.hid hW4
      clear hW4
      obtain ⟨gx, hgx⟩ : ∃ g, (gV v st).1 = g := ⟨_, rfl⟩
      obtain ⟨go, hgo⟩ : ∃ g, (gV v st).2 = g := ⟨_, rfl⟩
      obtain ⟨px, hpx⟩ : ∃ g, (pV v st).1 = g := ⟨_, rfl⟩
      obtain ⟨pe, hpe⟩ : ∃ g, (pV v st).2.1 = g := ⟨_, rfl⟩
      have HC1 := Lib.hid (bget v _ w W4 b wr.heap.size _ st rs HT4.out HX.out HVO.out)
      rw [hgx, hgo] at HC1
      go_wp2_with fail
      rw [← HW4.out]
      refine HC1.out.mono ?_
      rintro e w5 ⟨rfl, ht5⟩
      have HT5 := Lib.hid ht5
      obtain ⟨c0, c1, c2, c3⟩ := block4 ht5.box
      have HC2 := Lib.hid (brget v _ w w5 b wr.heap.size _ st rs HREL.out ht5 HX.out HVO.out)
      rw [hgx, hgo] at HC2
      clear ht5 HC1 e0 e1 e2 e3
      go_wp2_with fail
      refine HC2.out.mono ?_
      rintro e w6 ⟨rfl, ht6⟩
      have HT6 := Lib.hid ht6
      clear c0 c1 c2 c3
      obtain ⟨c0, c1, c2, c3⟩ := block4 ht6.box
      have HC3 := Lib.hid (bput v _ w w6 b wr.heap.size _ st rs ht6 HX.out HVO.out)
      rw [hpx, hpe] at HC3
      clear ht6 HC2
      go_wp2_with fail
      refine HC3.out.mono ?_
      rintro e w7 ⟨rfl, ht7⟩
      have HT7 := Lib.hid ht7
      clear c0 c1 c2 c3
      obtain ⟨c0, c1, c2, c3⟩ := block4 ht7.box
      have HC4 := Lib.hid (brput v _ w w7 b wr.heap.size _ st (pV v st).2.2 rs HREL.out ht7 HX.out HVO.out)
      rw [hpx, hpe] at HC4
      clear ht7 HC3
      go_wp2_with fail
      refine HC4.out.mono ?_
      rintro e w8 ⟨rfl, ht8⟩
      have HT8 := Lib.hid ht8
      have HREL8 := Lib.hid (rel_step (v := v) HREL.out)
      have HTX8 := Lib.hid (pV_txt HVO.out HTX.out)
      obtain ⟨rb, nb, r2, c2', hsto, hrst, _⟩ := ht8
      obtain ⟨C, tv, cv, hC, hrs⟩ := hrst
      have hlen8 : (C.length : Int) = (pV v st).2.2.2.length := by
        have := HREL8.out.2.1
        rw [← hC] at this
        simp at this
        omega
      obtain ⟨ac, capc, rfl⟩ := hrs.slice
      have HSTO := Lib.hid hsto
      have HRS := Lib.hid hrs
      clear c0 c1 c2 c3 HC4 hC hsto hrs hgx hgo hpx hpe
      go_wp2_with fail
      have HK := Lib.hid (show ∀ w', Below w8.heap.size w8 w' → Below w8.heap.size w8 w' ∧ w'.cell? ⟨b, 1, none⟩ = some (.slice ac C.length capc) from fun w' h => ⟨h, below_cell h HRS.out.c1⟩)
      go_region_held3 (fun w' => Below w8.heap.size w8 w' ∧ w'.cell? ⟨b, 1, none⟩ = some (.slice ac C.length capc)) (first | exact HK.out _ (Below.refl _ _).drew | exact HK.out _ (by assumption) | assumption) (first | (go_at_call 24; obtain ⟨hSB, hSr⟩ := ‹Below w8.heap.size w8 _ ∧ _›; refine (slen_any w.heap.size _ rb nb _ (stor_new HSTO.out hSB)).mono ?_; rintro e w9 ⟨rfl, rfl⟩))
      all_goals
        have hN8 := ‹Below w8.heap.size w8 _ ∧ _›.1
        go_wp2_with fail
        go_roundw
        case rel => exact ⟨k + 1, (pV v st).2.2, rpV v rs, by omega, by go_num, HT8.out.toN.below hN8, HREL8.out, HTX8.out⟩
        case measure => simp [intOf]; omega
    · have HC := Lib.hid (bback kd nn w wr b st rs HREL.out HTW.out)
      have HYO := Lib.hid (back_ok (k := kd) (n := nn) HTW.out HREL.out HTX.out HNN.out)
      obtain ⟨y, hy⟩ : ∃ y, (rbackV rs kd nn).getD zeroV = y := ⟨_, rfl⟩
      obtain ⟨ok, hokk⟩ : ∃ ok, (rbackV rs kd nn).isSome = ok := ⟨_, rfl⟩
      rw [hy] at HYO
      rw [hy, hokk] at HC
      have HY := Lib.hid hy
      have HOKK := Lib.hid hokk
      clear hy hokk
      go_wp2_with fail
      refine HC.out.mono ?_
      rintro e w5 ⟨hb5, z, rfl, hz⟩
      obtain ⟨a5, cap5, rfl, _, _⟩ := hz.open
      have hylen := ok_len HYO.out
      have HT5 := Lib.hid (HTW.out.below hb5)
      have HZ5 := Lib.hid hz
      clear hb5 hz HC
      go_wp2_with fail
      obtain ⟨W6, hW6⟩ : ∃ W6, W6 = w5.alloc (.cells #[.int .i64 y.k, .int .i64 y.n, .string y.s, .slice a5 y.ps.length cap5] 24) := ⟨_, rfl⟩
      rw [← hW6]
      have hB6 : Below w5.heap.size w5 W6 := by rw [hW6]; exact (Below.refl _ _).alloc (Nat.le_refl _) _
      have hb6 : W6.heap[w5.heap.size]? = some (.cells #[.int .i64 y.k, .int .i64 y.n, .string y.s, .slice a5 y.ps.length cap5] 24 (0, 0)) := by rw [hW6]; exact heap_alloc_new _ _
      have HT6 := Lib.hid (HT5.out.below hB6)
      have HZ6 := Lib.hid (HZ5.out.below hB6)
      have Hb6 := Lib.hid hb6
      have hz6 := hB6.size
      clear hB6 hb6 hW6
      obtain ⟨rb, nb, r2, c2', hsto, hrst, _⟩ := HT6.out
      have HC2 := Lib.hid (rsback_any w.heap.size b rs r2 c2' kd nn W6 hrst)
      unfold RBack at HC2
      rw [HY.out, HOKK.out] at HC2
      clear hsto hrst
      refine HC2.out.mono ?_
      rintro e w7 ⟨hb7, z, rfl, hz⟩
      obtain ⟨a7, cap7, rfl, _, _⟩ := hz.open
      have HT7 := Lib.hid (HT6.out.below hb7)
      have HZ7 := Lib.hid hz
      have HZY7 := Lib.hid (HZ6.out.below (hb7.mono hz6))
      have hz7 := hb7.size
      have Hb7 := Lib.hid ((hb7.block _ (heap_lt Hb6.out)).trans Hb6.out)
      clear hb7 hz HC2
      obtain ⟨W8, hW8⟩ : ∃ W8, W8 = w7.alloc (.cells #[.int .i64 y.k, .int .i64 y.n, .string y.s, .slice a7 y.ps.length cap7] 24) := ⟨_, rfl⟩
      have hB8 : Below w7.heap.size w7 W8 := by rw [hW8]; exact (Below.refl _ _).alloc (Nat.le_refl _) _
      have hb8 : W8.heap[w7.heap.size]? = some (.cells #[.int .i64 y.k, .int .i64 y.n, .string y.s, .slice a7 y.ps.length cap7] 24 (0, 0)) := by rw [hW8]; exact heap_alloc_new _ _
      have HT8 := Lib.hid (HT7.out.below hB8)
      have hz8 := hB8.size
      have HZ8 := Lib.hid ((HZ7.out.below (hB8.mono HT7.out.bel.size)).mono (show w.heap.size ≤ W8.heap.size from HT8.out.bel.size))
      have HZY8 := Lib.hid ((HZY7.out.below (hB8.mono (by omega))).mono (show w5.heap.size ≤ W8.heap.size by omega))
      obtain ⟨q0, q1, q2, q3⟩ := block4 hb8
      obtain ⟨p0, p1, p2, p3⟩ := block4 ((hB8.block _ (heap_lt Hb7.out)).trans Hb7.out)
      have HW8 := Lib.hid hW8
      have heq : (ok == ok) = true := by simp
      clear hB8 hb8 hW8
      go_upto_region 17 with fail
      rw [← HW8.out]
      go_wp2_with fail
      refine (raw_any (y.sz + 1) y y _ _ W8.heap.size W8 (Nat.lt_succ_self _) HZY8.out HZ8.out (Nat.le_refl _) HYO.out HYO.out).mono ?_
      rintro e w9 ⟨rfl, hb9⟩
      rw [rawV_refl]
      have HB9 := Lib.hid (HT8.out.below hb9).bel
      clear hb9 p0 p1 p2 p3 q0 q1 q2 q3
      go_wp2_with fail
      go_ret
      exact ⟨rfl, HB9.out⟩
end Go.Proofs.YtnddcicadmbmkaaGreatDoor
