/- A constructor's value by numbers: what key's walk leans on (printed by genkey.py). -/
import Derived.Test.YtnddcicadmbmkaaGreatDoorD11
import Derived.Test.YtnddcicadmbmkaaGreatDoorA5
import Derived.Test.YtnddcicadmbmkaaGreatDoorW1
import Derived.Deep.MidRow
namespace Go.Proofs.YtnddcicadmbmkaaGreatDoor
open Go.RowKit Go.Maps

/-- the parts by numbers, one behind the other, by g -/
def foldVs (g : V → St → Int × Int × St) : List V → St → List (Int × Int) × Int × St
  | [], st => ([], 0, st)
  | x :: r, st =>
    if (g x st).2.1 ≠ 0 then ([], (g x st).2.1, (g x st).2.2)
    else ((x.k, (g x st).1) :: (foldVs g r (g x st).2.2).1, (foldVs g r (g x st).2.2).2.1, (foldVs g r (g x st).2.2).2.2)
theorem putVs_fold : ∀ (l : List V) (st : St), putVs l st = foldVs putV l st
  | [], st => by unfold putVs foldVs; rfl
  | x :: r, st => by unfold putVs foldVs; rw [putVs_fold r]
theorem fold_drop (g : V → St → Int × Int × St) {l : List V} {k : Nat} (h : k < l.length) (st : St) : foldVs g (l.drop k) st =
    if (g (nthV l k) st).2.1 ≠ 0 then ([], (g (nthV l k) st).2.1, (g (nthV l k) st).2.2)
    else (((nthV l k).k, (g (nthV l k) st).1) :: (foldVs g (l.drop (k + 1)) (g (nthV l k) st).2.2).1, (foldVs g (l.drop (k + 1)) (g (nthV l k) st).2.2).2.1, (foldVs g (l.drop (k + 1)) (g (nthV l k) st).2.2).2.2) := by
  rw [drop_nth h, foldVs]
theorem fold_end (g : V → St → Int × Int × St) {l : List V} {k : Nat} (h : ¬ k < l.length) (st : St) : foldVs g (l.drop k) st = ([], 0, st) := by
  rw [List.drop_eq_nil_of_le (by omega), foldVs]
/-- what a call leaves that answers as g does -/
def GPost (g : V → St → Int × Int × St) (m : Nat) (v : V) (st : St) (rb nb : Option Nat) (w : World) (e : Ending) (w' : World) : Prop :=
  e = .returned (.tuple #[.int .i64 (g v st).1, .int .i64 (g v st).2.1]) ∧ ∃ rb' nb', Stor w' m (g v st).2.2 rb' nb' ∧ Later w.heap.size rb rb' ∧ Later w.heap.size nb nb' ∧ Sy.Fr (SFoot m rb nb) w w'
theorem fr_extra {S : Nat → Prop} {w w1 w2 : World} (h1 : Sy.Fr S w w1) (h2 : Sy.Fr (fun j => w.heap.size ≤ j) w1 w2) : Sy.Fr S w w2 := by
  have a : Sy.Fr (fun k => S k ∨ w.heap.size ≤ k) w w1 := h1.mono (fun k _ h => .inl h)
  have b : Sy.Fr (fun k => S k ∨ w.heap.size ≤ k) w1 w2 := h2.mono (fun k _ h => .inr h)
  exact (a.trans b).mono (fun k hk h => by rcases h with h | h; exact h; omega)
theorem size77 : (Tryz.prog.info? 77).map (·.size) = some 18 := by kernel_rfl
theorem range_of {w : World} {b : Nat} {cs : Array Value} {t : TypeId} {z : Nat × Nat} (h : w.heap[b]? = some (.cells cs t z)) : w.rangeAt b 0 cs.toList := by
  intro j v hv
  rw [cell_of h, Nat.zero_add]
  simpa using hv
theorem there_of {w : World} {b : Nat} {cs : Array Value} {t : TypeId} (h : w.heap[b]? = some (.cells cs t (0, 0))) : w.there b 0 cs.size := by
  intro j hj
  refine ⟨?_, free_of h⟩
  rw [cell_of h, Nat.zero_add, Array.getElem?_eq_getElem hj]
  rfl
theorem three_new (w : World) (o1 o2 o3 : Obj) : (((w.alloc o1).alloc o2).alloc o3).heap.size = w.heap.size + 3 ∧ Below w.heap.size w (((w.alloc o1).alloc o2).alloc o3) ∧
    (((w.alloc o1).alloc o2).alloc o3).heap[w.heap.size]? = some o1 ∧ (((w.alloc o1).alloc o2).alloc o3).heap[w.heap.size + 1]? = some o2 ∧ (((w.alloc o1).alloc o2).alloc o3).heap[w.heap.size + 1 + 1]? = some o3 := by
  have z1 : (w.alloc o1).heap.size = w.heap.size + 1 := by simp
  have z2 : ((w.alloc o1).alloc o2).heap.size = w.heap.size + 1 + 1 := by simp
  have h1 := heap_alloc_new w o1
  have h2 := heap_alloc_new (w.alloc o1) o2
  have h3 := heap_alloc_new ((w.alloc o1).alloc o2) o3
  rw [z1] at h2
  rw [z2] at h3
  refine ⟨by simp, (((Below.refl _ _).alloc (Nat.le_refl _) _).alloc (by simp) _).alloc (by rw [z2]; omega) _, ?_, ?_, h3⟩
  · rw [Below.heap_alloc _ _ _ (by rw [z2]; omega), Below.heap_alloc _ _ _ (by rw [z1]; omega)]; exact h1
  · rw [Below.heap_alloc _ _ _ (by rw [z2]; omega)]; exact h2
theorem ndP_size (s : ByteArray) (m : Int) (l : List (Int × Int)) : (ndP s m l).size = 18 := rfl
theorem ndP_one (s : ByteArray) (m : Int) (l : List (Int × Int)) : ∀ v ∈ (ndP s m l).toList, v.oneCell' = true := by
  intro v hv
  unfold ndP nodeC at hv
  simp at hv
  rcases hv with rfl | rfl | rfl | rfl | rfl | rfl | rfl | rfl | rfl | rfl | rfl | rfl | rfl | rfl | rfl | rfl | rfl | rfl <;> rfl

theorem results_row2 {fn : Func} {t u : Tmp} {ty : TypeId} (h : fn.results = #[.cell t ty, .tmp u]) (tmps : Array Value) (w : World) (b : Nat) (cs : List Value) (y : Value) (ht : tmps.getD t undef = .pointer (some ⟨b, 0, none⟩)) (hu : tmps.getD u undef = y)
    (hl : (loadVar ty ⟨b, 0, none⟩).run Tryz.prog w = .ok (.agg cs.toArray) w) : (results fn tmps).run Tryz.prog w = .ok (.tuple #[.agg cs.toArray, y]) w := by
  simp only [Array.getD_eq_getD_getElem?] at ht hu
  simp [results, h, ht, hu, asAddr, hl]
theorem sets_other {b k : Nat} : ∀ (vs : List Value) (o : Nat) (w : World), k ≠ b → (w.setCells b o vs).heap[k]? = w.heap[k]?
  | [], _, _, _ => rfl
  | v :: r, o, w, h => by
    show ((w.setCell ⟨b, o, none⟩ v).setCells b (o + 1) r).heap[k]? = _
    rw [sets_other r (o + 1) _ h, Below.heap_setCell _ _ _ _ (by exact h)]
theorem fr_setCells {S : Nat → Prop} {b : Nat} (hb : S b) : ∀ (vs : List Value) (o : Nat) (w : World), Sy.Fr S w (w.setCells b o vs)
  | [], _, w => Sy.Fr.refl S w
  | v :: r, o, w => (Sy.Fr.of_setCell w (p := ⟨b, o, none⟩) hb v).trans (fr_setCells hb r (o + 1) _)
theorem key_end {W : World} {b : Nat} {tmps : Array Value} {y : Value} {s : ByteArray} {n : Int} {l : List (Int × Int)} (ht : tmps.getD 6 undef = .pointer (some ⟨b, 0, none⟩)) (hy : tmps.getD 7 undef = y) (hth : W.there b 0 (ndP s n l).size) :
    (results Tryz.f61 tmps).run Tryz.prog (W.setCells b 0 (ndP s n l).toList) = .ok (.tuple #[.agg (ndP s n l), y]) (W.setCells b 0 (ndP s n l).toList) := by
  have hz77 : (Tryz.prog.info? 77).map (·.size) = some (ndP s n l).toList.length := by rw [Array.length_toList, ndP_size]; exact size77
  have hl := run_loadVar_mid (P := Tryz.prog) (W.setCells b 0 (ndP s n l).toList) b 0 77 (ndP s n l).toList _ (World.rangeAt_setCells_same W b 0 _ (by simpa using hth)) Tryz.underlying77 rfl hz77
  have := results_row2 Tryz.results61 tmps _ b (ndP s n l).toList y ht hy hl
  simpa using this

end Go.Proofs.YtnddcicadmbmkaaGreatDoor
