/- Values by numbers: what put makes of a store. -/
import Derived.Test.YtnddcicadmbmkaaGreatDoorD2
namespace Go.Proofs.YtnddcicadmbmkaaGreatDoor
open Go.RowKit Go.Maps

theorem NMap.put {D : DataW Unit} {L : List Nd} (h : NMap D L) {s : Nd} (hok : NdOk s) (hs : s ∉ L) : NMap (D.put (nk s) (.lit (.int .i64 L.length))) (L ++ [s]) := by
  refine ⟨h.1.put _ _, fun t ht => ?_⟩
  by_cases e : t = s
  · subst e
    refine ⟨?_, ?_⟩
    · rw [has_put_same h.1 (nk_isKey hok), nhas_iff.2 (by simp)]
    · rw [atKey_put_same h.1 (nk_isKey hok), nnum_new hs]
  · have hne : nk t ≠ nk s := fun h => e (nk_inj ht hok h)
    refine ⟨?_, ?_⟩
    · rw [has_put_other hne, (h.2 t ht).1, Bool.eq_iff_iff, nhas_iff, nhas_iff]; simp [e]
    · rw [atKey_put_other hne, (h.2 t ht).2, nnum_old e]

/-- a store's texts and nodes -/
abbrev St := List ByteArray × List Nd
def nput (n : Nd) (st : St) : Int × Int × St :=
  if nhas st.2 n then (nidx st.2 n, 0, st) else if 16384 ≤ st.2.length then (0, 18, st) else (st.2.length, 0, (st.1, st.2 ++ [n]))
mutual
/-- a value's number, the error, the store behind it -/
def putV : V → St → Int × Int × St
  | .mk k n s ps, st =>
    if k = 1 then (n, 0, st)
    else if k = 2 then (Sy.pN st.1 s, Sy.pE st.1 s, (Sy.pL st.1 s, st.2))
    else if (putVs ps st).2.1 ≠ 0 then (0, (putVs ps st).2.1, (putVs ps st).2.2)
    else nput (s, (putVs ps st).1) (putVs ps st).2.2
def putVs : List V → St → List (Int × Int) × Int × St
  | [], st => ([], 0, st)
  | x :: r, st =>
    if (putV x st).2.1 ≠ 0 then ([], (putV x st).2.1, (putV x st).2.2)
    else ((x.k, (putV x st).1) :: (putVs r (putV x st).2.2).1, (putVs r (putV x st).2.2).2.1, (putVs r (putV x st).2.2).2.2)
end
theorem putV_num (v : V) (st : St) (h : v.k = 1) : putV v st = (v.n, 0, st) := by cases v; simp only [V.k] at h; unfold putV; rw [if_pos h]; rfl
theorem putV_sym (v : V) (st : St) (h : v.k = 2) : putV v st = ((Sy.pN st.1 v.s : Int), (Sy.pE st.1 v.s : Int), (Sy.pL st.1 v.s, st.2)) := by cases v; simp only [V.k] at h; unfold putV; rw [if_neg (by omega), if_pos h]; rfl
theorem putV_con (v : V) (st : St) (h1 : v.k ≠ 1) (h2 : v.k ≠ 2) : putV v st = if (putVs v.ps st).2.1 ≠ 0 then (0, (putVs v.ps st).2.1, (putVs v.ps st).2.2) else nput (v.s, (putVs v.ps st).1) (putVs v.ps st).2.2 := by cases v; simp only [V.k] at h1 h2; unfold putV; rw [if_neg h1, if_neg h2]; rfl
theorem putVs_drop {l : List V} {k : Nat} (h : k < l.length) (st : St) : putVs (l.drop k) st =
    if (putV (nthV l k) st).2.1 ≠ 0 then ([], (putV (nthV l k) st).2.1, (putV (nthV l k) st).2.2)
    else (((nthV l k).k, (putV (nthV l k) st).1) :: (putVs (l.drop (k + 1)) (putV (nthV l k) st).2.2).1, (putVs (l.drop (k + 1)) (putV (nthV l k) st).2.2).2.1, (putVs (l.drop (k + 1)) (putV (nthV l k) st).2.2).2.2) := by
  rw [drop_nth h, putVs]
theorem putVs_end {l : List V} {k : Nat} (h : ¬ k < l.length) (st : St) : putVs (l.drop k) st = ([], 0, st) := by
  rw [List.drop_eq_nil_of_le (by omega), putVs]

/-- Blocks m to m + 3 of w are a store: the texts L, the nodes Ns. -/
structure Sto (w : World) (m : Nat) (L : List ByteArray) (Ns : List Nd) (rb nb : Option Nat) (sv nv : Value) (D D' : DataW Unit) (n n' : Nat) : Prop where
  cells : w.heap[m + 3]? = some (.cells #[.pointer (some ⟨m + 1, 0, none⟩), nv, .map (some (m + 2))] 57 (0, 0))
  syms : Sy.Tab w m L rb sv D n
  map : w.ownsMap Tryz.prog 77 (plainElem (H := Unit) Tryz.prog 3) (m + 2) n' D'
  few : n' ≤ Ns.length
  is : NMap D' Ns
  row : w.ownsRow (m + 4) 77 18 nv Ns.length (Ns.flatMap fun n => (ndC n).toList)
  blk : nv.ownBlock = nb
  len : Ns.length ≤ 16384
  ok : ∀ n ∈ Ns, NdOk n

set_option maxHeartbeats 400000 in
theorem snew_any (w : World) : Calls Tryz.prog 19 #[] w fun e w' => e = .returned (.pointer (some ⟨w.heap.size + 3, 0, none⟩)) ∧ Sto w' w.heap.size [] [] none none (.slice none 0 0) (.slice none 0 0) (.map []) (.map []) 0 0 ∧ Below w.heap.size w w' ∧ w'.heap.size = w.heap.size + 4 := by
  have hmm := @run_makeMap Tryz.prog
  go_enter Tryz.func19, Tryz.ntmps19
  go_wp2_with fail
  refine (Sy.new_any w).mono ?_
  rintro e w1 ⟨rfl, ht, hb, hz⟩
  have HT := Lib.hid ht
  have HB := Lib.hid hb
  clear ht hb
  go_wp2_with fail
  go_ret
  have hz2 : (w1.alloc (.map #[] 0)).heap.size = w.heap.size + 3 := by simp; omega
  have hk := heap_alloc_new (w1.alloc (.map #[] 0)) (.cells #[.pointer (some ⟨w.heap.size + 1, 0, none⟩), .slice none 0 0, .map (some (w.heap.size + 2))] 57)
  rw [hz2] at hk
  have hm := World.ownsMap_made w1 Tryz.prog 77 (plainElem (H := Unit) Tryz.prog 3)
  rw [hz] at hm
  refine ⟨rfl, ⟨hk, ?_, hm.alloc _, Nat.le_refl _, nmap_nil, World.ownsRow_nil _ _ _ _, rfl, by simp, by simp⟩, (HB.out.alloc (by omega) _).alloc (by omega) _, by simp; omega⟩
  exact HT.out.kept ((Sy.Fr.of_alloc (fun _ => False) _ _).trans (Sy.Fr.of_alloc _ _ _)) (fun _ _ h => h)
end Go.Proofs.YtnddcicadmbmkaaGreatDoor
