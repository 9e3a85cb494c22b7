/- Values of layer 3 in memory: what a struct or a slice of them reads as. -/
import Derived.Test.YtnddcicadmbmkaaGreatDoorA1
import Derived.ProofKit
import Derived.Lib.Hide
import Derived.OneCell
namespace Go.Proofs.YtnddcicadmbmkaaGreatDoor
open Go.RowKit

def V.none : V := .mk 0 0 ⟨#[]⟩ []
def nthV (l : List V) (i : Nat) : V := l.getD i V.none

mutual
/-- sl is the slice of v's parts, all of it in blocks below B. -/
def Sub (B : Nat) (w : World) : V → Value → Prop
  | .mk _ _ _ ps, sl => ∃ a cap, sl = .slice a ps.length cap ∧ ps.length ≤ cap ∧ (ps = [] ∨ ∃ b off, a = some ⟨b, off, none⟩ ∧ b < B ∧ Elts B w b off ps)
/-- The values l lie behind one another from the cell off of block b on. -/
def Elts (B : Nat) (w : World) (b : Nat) : Nat → List V → Prop
  | _, [] => True
  | off, x :: r => (∃ sl, w.cell? ⟨b, off, none⟩ = some (.int .i64 x.k) ∧ w.cell? ⟨b, off + 1, none⟩ = some (.int .i64 x.n) ∧ w.cell? ⟨b, off + 2, none⟩ = some (.string x.s) ∧ w.cell? ⟨b, off + 3, none⟩ = some sl ∧ Sub B w x sl) ∧ Elts B w b (off + 4) r
end

/-- x is the struct v. -/
def IsV (B : Nat) (w : World) (v : V) (x : Value) : Prop := ∃ sl, x = .agg #[.int .i64 v.k, .int .i64 v.n, .string v.s, sl] ∧ Sub B w v sl

mutual
/-- every number fits, every text and list is of a size that memory holds -/
def V.Ok : V → Prop
  | .mk k n s ps => (Lit.int .i64 k).wf = true ∧ (Lit.int .i64 n).wf = true ∧ s.size ≤ 140737488351232 ∧ ps.length ≤ 140737488351232 ∧ OkL ps
def OkL : List V → Prop
  | [] => True
  | x :: r => x.Ok ∧ OkL r
end

theorem OkL.mem : ∀ {l : List V}, OkL l → ∀ x ∈ l, x.Ok
  | [], _, x, hx => by simp at hx
  | y :: r, h, x, hx => by
    unfold OkL at h
    rcases List.mem_cons.1 hx with rfl | hx
    · exact h.1
    · exact h.2.mem x hx

mutual
theorem Sub.below {B : Nat} {w w' : World} (hb : Below B w w') : ∀ {v : V} {sl : Value}, Sub B w v sl → Sub B w' v sl
  | .mk _ _ _ ps, sl, h => by
    unfold Sub at h ⊢
    obtain ⟨a, cap, h1, h2, h3⟩ := h
    refine ⟨a, cap, h1, h2, ?_⟩
    rcases h3 with h3 | ⟨b, off, h3, h4, h5⟩
    · exact .inl h3
    · exact .inr ⟨b, off, h3, h4, Elts.below hb h4 h5⟩
theorem Elts.below {B : Nat} {w w' : World} (hb : Below B w w') {b : Nat} (hlt : b < B) : ∀ {l : List V} {off : Nat}, Elts B w b off l → Elts B w' b off l
  | [], _, _ => by unfold Elts; trivial
  | x :: r, off, h => by
    unfold Elts at h ⊢
    obtain ⟨⟨sl, h1, h2, h3, h4, h5⟩, h6⟩ := h
    exact ⟨⟨sl, (hb.cell (p := ⟨b, off, none⟩) hlt).trans h1, (hb.cell (p := ⟨b, off + 1, none⟩) hlt).trans h2, (hb.cell (p := ⟨b, off + 2, none⟩) hlt).trans h3, (hb.cell (p := ⟨b, off + 3, none⟩) hlt).trans h4, Sub.below hb h5⟩, Elts.below hb hlt h6⟩
end
theorem IsV.below {B : Nat} {w w' : World} (hb : Below B w w') {v : V} {x : Value} (h : IsV B w v x) : IsV B w' v x := by
  obtain ⟨sl, h1, h2⟩ := h
  exact ⟨sl, h1, h2.below hb⟩

mutual
theorem Sub.mono {B B' : Nat} {w : World} (hb : B ≤ B') : ∀ {v : V} {sl : Value}, Sub B w v sl → Sub B' w v sl
  | .mk _ _ _ ps, sl, h => by
    unfold Sub at h ⊢
    obtain ⟨a, cap, h1, h2, h3⟩ := h
    refine ⟨a, cap, h1, h2, ?_⟩
    rcases h3 with h3 | ⟨b, off, h3, h4, h5⟩
    · exact .inl h3
    · exact .inr ⟨b, off, h3, by omega, Elts.mono hb h5⟩
theorem Elts.mono {B B' : Nat} {w : World} (hb : B ≤ B') {b : Nat} : ∀ {l : List V} {off : Nat}, Elts B w b off l → Elts B' w b off l
  | [], _, _ => by unfold Elts; trivial
  | x :: r, off, h => by
    unfold Elts at h ⊢
    obtain ⟨⟨sl, h1, h2, h3, h4, h5⟩, h6⟩ := h
    exact ⟨⟨sl, h1, h2, h3, h4, h5.mono hb⟩, h6.mono hb⟩
end
theorem IsV.mono {B B' : Nat} {w : World} (hb : B ≤ B') {v : V} {x : Value} (h : IsV B w v x) : IsV B' w v x := by
  obtain ⟨sl, h1, h2⟩ := h
  exact ⟨sl, h1, h2.mono hb⟩

theorem Elts.at {B : Nat} {w : World} {b : Nat} : ∀ {l : List V} {off i : Nat}, Elts B w b off l → i < l.length →
    ∃ sl, w.cell? ⟨b, off + i * 4, none⟩ = some (.int .i64 (nthV l i).k) ∧ w.cell? ⟨b, off + i * 4 + 1, none⟩ = some (.int .i64 (nthV l i).n) ∧ w.cell? ⟨b, off + i * 4 + 2, none⟩ = some (.string (nthV l i).s) ∧ w.cell? ⟨b, off + i * 4 + 3, none⟩ = some sl ∧ Sub B w (nthV l i) sl
  | [], _, _, _, h => by simp at h
  | x :: r, off, 0, h, _ => by
    unfold Elts at h
    exact h.1
  | x :: r, off, i + 1, h, hi => by
    unfold Elts at h
    obtain ⟨sl, h1⟩ := Elts.at h.2 (i := i) (by simpa using hi)
    refine ⟨sl, ?_⟩
    rw [show off + (i + 1) * 4 = off + 4 + i * 4 by omega]
    exact h1

/-- the parts of a value, in memory -/
theorem IsV.open {B : Nat} {w : World} {v : V} {x : Value} (h : IsV B w v x) : ∃ a cap, x = .agg #[.int .i64 v.k, .int .i64 v.n, .string v.s, .slice a v.ps.length cap] ∧ v.ps.length ≤ cap ∧ (v.ps = [] ∨ ∃ b off, a = some ⟨b, off, none⟩ ∧ b < B ∧ Elts B w b off v.ps) := by
  obtain ⟨sl, rfl, h2⟩ := h
  cases v with
  | mk k n s ps =>
    unfold Sub at h2
    obtain ⟨a, cap, rfl, h3, h4⟩ := h2
    exact ⟨a, cap, rfl, h3, h4⟩

theorem sub_isV {B : Nat} {w : World} {v : V} {sl : Value} (h : Sub B w v sl) : IsV B w v (.agg #[.int .i64 v.k, .int .i64 v.n, .string v.s, sl]) := ⟨sl, rfl, h⟩

theorem nthV_mem {l : List V} {i : Nat} (h : i < l.length) : nthV l i ∈ l := by unfold nthV; simp [h]
mutual
def V.sz : V → Nat
  | .mk _ _ _ ps => szL ps + 1
def szL : List V → Nat
  | [] => 0
  | x :: r => x.sz + szL r
end
theorem szL_mem : ∀ {l : List V} {x : V}, x ∈ l → x.sz ≤ szL l
  | [], _, h => by simp at h
  | y :: r, x, h => by
    unfold szL
    rcases List.mem_cons.1 h with rfl | h
    · omega
    · have := szL_mem h; omega
theorem size_part {v x : V} (h : x ∈ v.ps) : x.sz < v.sz := by
  cases v with
  | mk k n s ps =>
    have : x.sz ≤ szL ps := szL_mem h
    show _ < szL ps + 1
    omega

/-! ### how many parts -/
theorem leftVs_neg : ∀ (l : List V) {n : Int}, n < 0 → leftVs l n = n
  | [], _, _ => rfl
  | x :: r, n, h => by unfold leftVs; rw [if_neg (by omega)]
theorem leftV_eq (v : V) (n : Int) : leftV v n = leftVs v.ps (n - 1) := by cases v; rfl

mutual
theorem left_bdV : ∀ (v : V) {n : Int}, -1 ≤ n → 0 ≤ n → leftV v n ≤ n - 1 ∧ -1 ≤ leftV v n
  | .mk _ _ _ ps, n, _, h0 => by
    unfold leftV
    exact left_bdL ps (by omega)
theorem left_bdL : ∀ (l : List V) {n : Int}, -1 ≤ n → leftVs l n ≤ n ∧ -1 ≤ leftVs l n
  | [], n, h => by unfold leftVs; omega
  | x :: r, n, h => by
    unfold leftVs
    by_cases h0 : 0 ≤ n
    · rw [if_pos h0]
      have h1 := left_bdV x h h0
      have h2 := left_bdL r (n := leftV x n) h1.2
      omega
    · rw [if_neg h0]; omega
end
theorem ok_len {v : V} (h : v.Ok) : v.ps.length ≤ 140737488351232 := by
  cases v; unfold V.Ok at h; exact h.2.2.2.1
theorem ok_part {v : V} (h : v.Ok) {x : V} (hx : x ∈ v.ps) : x.Ok := by
  cases v; unfold V.Ok at h; exact h.2.2.2.2.mem x hx
theorem drop_nth {l : List V} {k : Nat} (h : k < l.length) : l.drop k = nthV l k :: l.drop (k + 1) := by
  rw [List.drop_eq_getElem_cons h]
  simp [nthV, h]

set_option maxRecDepth 100000 in
set_option maxHeartbeats 1000000 in
theorem left_any (N : Nat) : ∀ (v : V) (x : Value) (n : Int) (B : Nat) (w : World), v.sz < N → IsV B w v x → B ≤ w.heap.size → v.Ok → 0 ≤ n → n ≤ 1024 →
    Calls Tryz.prog 35 #[x, .int .i64 n] w fun e w' => e = .returned (.int .i64 (leftV v n)) ∧ Below w.heap.size w w' := by
  induction N with
  | zero => intro v x n B w h; omega
  | succ N ih =>
    intro v x n B w hN hx hB hok h0 h1
    obtain ⟨a, cap, rfl, hcap, hel⟩ := hx.open
    have hlen := ok_len hok
    have HIH := Lib.hid ih
    have HE := Lib.hid hel
    have HOK := Lib.hid hok
    have heq := Lib.hid (leftV_eq v n)
    clear ih hel hok hx
    go_enter Tryz.func35, Tryz.ntmps35
    go_wp2_with fail
    obtain ⟨W0, hW0⟩ : ∃ W0, W0 = w.alloc (.cells #[.int .i64 v.k, .int .i64 v.n, .string v.s, .slice a v.ps.length cap] 24) := ⟨_, rfl⟩
    have hb0 : W0.heap[w.heap.size]? = some (.cells #[.int .i64 v.k, .int .i64 v.n, .string v.s, .slice a v.ps.length cap] 24 (0, 0)) := by rw [hW0]; exact heap_alloc_new _ _
    have hz0 : W0.heap.size = w.heap.size + 1 := by rw [hW0]; simp
    have hB0 : Below w.heap.size w W0 := by rw [hW0]; exact (Below.refl _ _).alloc (Nat.le_refl _) _
    rw [← hW0]
    have HB0 := Lib.hid hB0
    have Hb0 := Lib.hid hb0
    clear hW0 hB0 hb0
    go_loopw [1, 5] (fun m i wr => ∃ (k : Nat) (q : Int), k ≤ v.ps.length ∧ i = .int .i64 k ∧ m = .int .i64 q ∧ -1 ≤ q ∧ q ≤ 1024 ∧ leftVs (v.ps.drop k) q = leftV v n ∧ Below W0.heap.size W0 wr) (fun _ i _ => v.ps.length - (intOf i).toNat)
    case atStart => exact ⟨0, n - 1, Nat.zero_le _, rfl, rfl, by omega, by omega, by rw [heq.out]; rfl, Below.refl _ _⟩
    case round =>
      obtain ⟨k, q, hk, rfl, rfl, hq0, hq1, hq2, hBw⟩ := hrel
      have hbx : wr.heap[w.heap.size]? = some (.cells #[.int .i64 v.k, .int .i64 v.n, .string v.s, .slice a v.ps.length cap] 24 (0, 0)) := (hBw.block _ (by omega)).trans Hb0.out
      have hc3 : wr.cell? ⟨w.heap.size, 3, none⟩ = some (.slice a v.ps.length cap) := by simp [World.cell?, hbx]
      have HQ := Lib.hid hq2
      have HBw := Lib.hid hBw
      clear hq2 hBw hbx
      by_cases hlt : k < v.ps.length
      · by_cases hq : 0 ≤ q
        · obtain ⟨b, off, rfl, hbB, hels⟩ := HE.out.resolve_left (by intro e; rw [e] at hlt; simp at hlt)
          have hBall : Below B w wr := (HB0.out.mono hB).trans (HBw.out.mono (by omega))
          obtain ⟨sl, e0, e1, e2, e3, hsub⟩ := (hels.below hBall hbB).at hlt
          have HS := Lib.hid (sub_isV hsub)
          have hm := Lib.hid (nthV_mem hlt)
          clear hsub hels hBall
          have hlq : leftV (nthV v.ps k) q ≤ 1024 ∧ -1 ≤ leftV (nthV v.ps k) q := by have := left_bdV (nthV v.ps k) hq0 hq; omega
          have hbz := HBw.out.size
          go_wp2_with fail
          refine (HIH.out (nthV v.ps k) _ q B wr (by have := size_part hm.out; omega) HS.out (by omega) (ok_part HOK.out hm.out) hq hq1).mono ?_
          rintro e w3 ⟨rfl, hb3⟩
          have HB3 := Lib.hid hb3
          clear hb3
          go_wp2_with fail
          go_roundw
          case rel => exact ⟨k + 1, _, by omega, by go_num, rfl, by omega, by omega, by rw [← HQ.out, drop_nth hlt, leftVs, if_pos hq], HBw.out.trans (HB3.out.mono hbz)⟩
          case measure => simp [intOf]; omega
        · have hq' : q = -1 := by omega
          have hfin : q = leftV v n := by rw [← HQ.out, leftVs_neg _ (by omega)]
          have HF := Lib.hid hfin
          have hqn : q < 0 := by omega
          clear hfin hq hq'
          go_wp2_with fail
          go_ret
          exact ⟨congrArg (fun z => Ending.returned (.int .i64 z)) HF.out, HB0.out.trans (HBw.out.mono (by omega))⟩
      · have hfin : q = leftV v n := by rw [← HQ.out, List.drop_eq_nil_of_le (by omega)]; rfl
        have HF := Lib.hid hfin
        clear hfin
        go_wp2_with fail
        go_ret
        exact ⟨congrArg (fun z => Ending.returned (.int .i64 z)) HF.out, HB0.out.trans (HBw.out.mono (by omega))⟩

set_option maxRecDepth 100000 in
set_option maxHeartbeats 1000000 in
theorem rleft_any (N : Nat) : ∀ (v : V) (x : Value) (n : Int) (B : Nat) (w : World), v.sz < N → IsV B w v x → B ≤ w.heap.size → v.Ok → 0 ≤ n → n ≤ 1024 →
    Calls Tryz.prog 37 #[x, .int .i64 n] w fun e w' => e = .returned (.int .i64 (leftV v n)) ∧ Below w.heap.size w w' := by
  induction N with
  | zero => intro v x n B w h; omega
  | succ N ih =>
    intro v x n B w hN hx hB hok h0 h1
    obtain ⟨a, cap, rfl, hcap, hel⟩ := hx.open
    have hlen := ok_len hok
    have HIH := Lib.hid ih
    have HE := Lib.hid hel
    have HOK := Lib.hid hok
    have heq := Lib.hid (leftV_eq v n)
    clear ih hel hok hx
    go_enter Tryz.func37, Tryz.ntmps37
    go_wp2_with fail
    obtain ⟨W0, hW0⟩ : ∃ W0, W0 = w.alloc (.cells #[.int .i64 v.k, .int .i64 v.n, .string v.s, .slice a v.ps.length cap] 24) := ⟨_, rfl⟩
    have hb0 : W0.heap[w.heap.size]? = some (.cells #[.int .i64 v.k, .int .i64 v.n, .string v.s, .slice a v.ps.length cap] 24 (0, 0)) := by rw [hW0]; exact heap_alloc_new _ _
    have hz0 : W0.heap.size = w.heap.size + 1 := by rw [hW0]; simp
    have hB0 : Below w.heap.size w W0 := by rw [hW0]; exact (Below.refl _ _).alloc (Nat.le_refl _) _
    rw [← hW0]
    have HB0 := Lib.hid hB0
    have Hb0 := Lib.hid hb0
    clear hW0 hB0 hb0
    go_loopw [1, 5] (fun m i wr => ∃ (k : Nat) (q : Int), k ≤ v.ps.length ∧ i = .int .i64 k ∧ m = .int .i64 q ∧ -1 ≤ q ∧ q ≤ 1024 ∧ leftVs (v.ps.drop k) q = leftV v n ∧ Below W0.heap.size W0 wr) (fun _ i _ => v.ps.length - (intOf i).toNat)
    case atStart => exact ⟨0, n - 1, Nat.zero_le _, rfl, rfl, by omega, by omega, by rw [heq.out]; rfl, Below.refl _ _⟩
    case round =>
      obtain ⟨k, q, hk, rfl, rfl, hq0, hq1, hq2, hBw⟩ := hrel
      have hbx : wr.heap[w.heap.size]? = some (.cells #[.int .i64 v.k, .int .i64 v.n, .string v.s, .slice a v.ps.length cap] 24 (0, 0)) := (hBw.block _ (by omega)).trans Hb0.out
      have hc3 : wr.cell? ⟨w.heap.size, 3, none⟩ = some (.slice a v.ps.length cap) := by simp [World.cell?, hbx]
      have HQ := Lib.hid hq2
      have HBw := Lib.hid hBw
      clear hq2 hBw hbx
      by_cases hlt : k < v.ps.length
      · by_cases hq : 0 ≤ q
        · obtain ⟨b, off, rfl, hbB, hels⟩ := HE.out.resolve_left (by intro e; rw [e] at hlt; simp at hlt)
          have hBall : Below B w wr := (HB0.out.mono hB).trans (HBw.out.mono (by omega))
          obtain ⟨sl, e0, e1, e2, e3, hsub⟩ := (hels.below hBall hbB).at hlt
          have HS := Lib.hid (sub_isV hsub)
          have hm := Lib.hid (nthV_mem hlt)
          clear hsub hels hBall
          have hlq : leftV (nthV v.ps k) q ≤ 1024 ∧ -1 ≤ leftV (nthV v.ps k) q := by have := left_bdV (nthV v.ps k) hq0 hq; omega
          have hbz := HBw.out.size
          go_wp2_with fail
          refine (HIH.out (nthV v.ps k) _ q B wr (by have := size_part hm.out; omega) HS.out (by omega) (ok_part HOK.out hm.out) hq hq1).mono ?_
          rintro e w3 ⟨rfl, hb3⟩
          have HB3 := Lib.hid hb3
          clear hb3
          go_wp2_with fail
          go_roundw
          case rel => exact ⟨k + 1, _, by omega, by go_num, rfl, by omega, by omega, by rw [← HQ.out, drop_nth hlt, leftVs, if_pos hq], HBw.out.trans (HB3.out.mono hbz)⟩
          case measure => simp [intOf]; omega
        · have hq' : q = -1 := by omega
          have hfin : q = leftV v n := by rw [← HQ.out, leftVs_neg _ (by omega)]
          have HF := Lib.hid hfin
          have hqn : q < 0 := by omega
          clear hfin hq hq'
          go_wp2_with fail
          go_ret
          exact ⟨congrArg (fun z => Ending.returned (.int .i64 z)) HF.out, HB0.out.trans (HBw.out.mono (by omega))⟩
      · have hfin : q = leftV v n := by rw [← HQ.out, List.drop_eq_nil_of_le (by omega)]; rfl
        have HF := Lib.hid hfin
        clear hfin
        go_wp2_with fail
        go_ret
        exact ⟨congrArg (fun z => Ending.returned (.int .i64 z)) HF.out, HB0.out.trans (HBw.out.mono (by omega))⟩

end Go.Proofs.YtnddcicadmbmkaaGreatDoor
