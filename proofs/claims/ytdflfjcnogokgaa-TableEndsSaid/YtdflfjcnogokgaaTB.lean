/- The table: New, Publish, Lookup. -/
import Derived.Test.YtdflfjcnogokgaaTA
import Derived.Test.YtdflfjcnogokgaaLocks
import Derived.Conc.MuLone
import Derived.Outline
set_option linter.unusedVariables false
set_option linter.unusedSimpArgs false
namespace Go.Proofs.Ytdflfjcnogokgaa.PTableEnds
open Go.RowKit Go.Proofs.YtdflfjcnogokgaaW.PrintWords Go.Proofs.YtdflfjcnogokgaaW.PrintLast Go.Proofs.YtdflfjcnogokgaaW.PrintMore
open Go.FT Go.MuLone
open Go.ChangeMaps (setBlock)

/-- The cells of a table whose stripes' maps are M 0 .. M 7; at stripe i the lock's state is s i. -/
def tabCells (s : Nat → Int) (M : Nat → Value) : Array Value :=
  #[.int .i32 (s 0), .int .u32 0, M 0, .int .i32 (s 1), .int .u32 0, M 1, .int .i32 (s 2), .int .u32 0, M 2, .int .i32 (s 3), .int .u32 0, M 3,
    .int .i32 (s 4), .int .u32 0, M 4, .int .i32 (s 5), .int .u32 0, M 5, .int .i32 (s 6), .int .u32 0, M 6, .int .i32 (s 7), .int .u32 0, M 7]
theorem lt8 {i : Nat} (h : i < 8) : i = 0 ∨ i = 1 ∨ i = 2 ∨ i = 3 ∨ i = 4 ∨ i = 5 ∨ i = 6 ∨ i = 7 := by omega
theorem tabCells_lock (s : Nat → Int) (M : Nat → Value) (i : Nat) (hi : i < 8) : (tabCells s M)[i * 3]? = some (.int .i32 (s i)) := by
  rcases lt8 hi with rfl | rfl | rfl | rfl | rfl | rfl | rfl | rfl <;> rfl
theorem tabCells_map (s : Nat → Int) (M : Nat → Value) (i : Nat) (hi : i < 8) : (tabCells s M)[i * 3 + 2]? = some (M i) := by
  rcases lt8 hi with rfl | rfl | rfl | rfl | rfl | rfl | rfl | rfl <;> rfl
theorem tabCells_setLock (s : Nat → Int) (M : Nat → Value) (i : Nat) (hi : i < 8) (v : Int) : (tabCells s M).setIfInBounds (i * 3) (.int .i32 v) = tabCells (fun j => if j = i then v else s j) M := by
  rcases lt8 hi with rfl | rfl | rfl | rfl | rfl | rfl | rfl | rfl <;> rfl
theorem tabCells_setMap (s : Nat → Int) (M : Nat → Value) (i : Nat) (hi : i < 8) (v : Value) : (tabCells s M).setIfInBounds (i * 3 + 2) v = tabCells s (fun j => if j = i then v else M j) := by
  rcases lt8 hi with rfl | rfl | rfl | rfl | rfl | rfl | rfl | rfl <;> rfl
theorem tabCells_congr {s s' : Nat → Int} {M M' : Nat → Value} (h : ∀ i, i < 8 → s i = s' i) (h' : ∀ i, i < 8 → M i = M' i) : tabCells s M = tabCells s' M' := by
  simp only [tabCells, h 0 (by omega), h 1 (by omega), h 2 (by omega), h 3 (by omega), h 4 (by omega), h 5 (by omega), h 6 (by omega), h 7 (by omega), h' 0 (by omega), h' 1 (by omega), h' 2 (by omega), h' 3 (by omega), h' 4 (by omega), h' 5 (by omega), h' 6 (by omega), h' 7 (by omega)]

def mapV (M : Nat → Nat) (j : Nat) : Value := .map (some (M j))
/-- A table in memory, all its locks free: its block, its stripes' blocks, what is in each. -/
structure tabAt (w : World) (tb : Nat) (M : Nat → Nat) (T : Nat → List Ent) : Prop where
  cells : w.heap[tb]? = some (.cells (tabCells (fun _ => 0) (mapV M)) 121 (0, 0))
  stripe : ∀ i, i < 8 → stripeAt w (M i) (T i)
  apart : ∀ i j, i < 8 → j < 8 → M i = M j → i = j

structure NewAt (w wr : World) (i : Nat) : Prop where
  cells : wr.heap[w.heap.size]? = some (.cells (tabCells (fun _ => 0) (fun j => if j < i then .map (some (w.heap.size + 1 + j)) else .map none)) 121 (0, 0))
  maps : ∀ j, j < i → wr.heap[w.heap.size + 1 + j]? = some (.map #[] 0)
  size : wr.heap.size = w.heap.size + 1 + i
  below : Below w.heap.size w wr

set_option maxRecDepth 100000 in
set_option maxHeartbeats 1000000 in
theorem table_new (w : World) :
    Calls Try.prog 27 #[] w fun e w' => e = .returned (.pointer (some ⟨w.heap.size, 0, none⟩)) ∧ tabAt w' w.heap.size (fun j => w.heap.size + 1 + j) (fun _ => []) ∧ Below w.heap.size w w' := by
  have hmm := @run_makeMap Try.prog
  go_enter Try.func27, Try.ntmps27
  go_wp2
  go_loopw [5] (fun v w' => ∃ i : Nat, i ≤ 8 ∧ v = .int .i64 i ∧ Aside0 (NewAt w w' i)) (fun v _ => 8 - (intOf v).toNat)
  case atStart =>
    refine ⟨0, by omega, rfl, ⟨⟨?_, fun j hj => absurd hj (by omega), ?_, ?_⟩⟩⟩
    · rw [heap_alloc_at]; rfl
    · rw [size_alloc]
    · exact (Below.refl _ _).alloc (Nat.le_refl _) _
  case round =>
    obtain ⟨i, hi, rfl, HA⟩ := hrel
    by_cases hlt : i < 8
    · have hA := HA.out
      have hlt' : w.heap.size < wr.heap.size := lt_of_heap hA.cells
      have e1 := (Below.heap_alloc wr (Obj.map #[] 0) _ hlt').trans hA.cells
      have hc : (wr.alloc (Obj.map #[] 0)).cell? ⟨w.heap.size, i * 3 + 2, none⟩ = some (.map none) := by
        rw [cell_of_blk e1, tabCells_map _ _ _ hlt]; simp
      have hf : (wr.alloc (Obj.map #[] 0)).frozen? ⟨w.heap.size, i * 3 + 2, none⟩ = false := frozen_of_blk e1 _
      have HE := Aside0.mk e1
      clear hA e1 hlt'
      go_wp2
      go_roundw
      case rel =>
        have hA := HA.out
        refine ⟨i + 1, by omega, by go_num, ⟨⟨?_, fun j hj => ?_, ?_, ?_⟩⟩⟩
        · rw [heap_set_same HE.out, tabCells_setMap _ _ _ hlt, hA.size]
          congr 2
          apply tabCells_congr
          · intros; rfl
          · intro j hj
            by_cases h : j = i
            · subst h; simp
            · have : (j < i + 1) = (j < i) := by apply propext; omega
              simp only [if_neg h, this]
        · rw [Below.heap_setCell _ _ _ _ (by simp; omega)]
          by_cases h : j = i
          · subst h
            rw [← hA.size]
            exact heap_alloc_at _ _
          · rw [Below.heap_alloc _ _ _ (by rw [hA.size]; omega)]
            exact hA.maps j (by omega)
        · rw [size_set, size_alloc, hA.size]; omega
        · exact (hA.below.alloc (by rw [hA.size]; omega) _).setCell (Nat.le_refl _) _
      case measure => simp [intOf]; omega
    · have : i = 8 := by omega
      subst this
      go_wp2
      go_ret
      have hA := HA.out
      refine ⟨rfl, ⟨?_, fun j hj => ⟨hA.maps j hj, fun e he => by simp at he⟩, fun a b _ _ h => by omega⟩, hA.below⟩
      rw [hA.cells]
      rw [tabCells_congr (s' := fun _ => 0) (M' := mapV (fun j => w.heap.size + 1 + j)) (fun _ _ => rfl) (fun j hj => by simp [hj, mapV])]

def plc (k : Int) : Nat := (k % 8).toNat
theorem plc_lt (k : Int) : plc k < 8 := by unfold plc; omega
theorem plc_go (k : Int) : (wrap64 (k.tmod 8 + 8)).tmod 8 = (plc k : Int) := by
  have h : k.tmod 8 = if 0 ≤ k ∨ k % 8 = 0 then k % 8 else k % 8 - 8 := by
    rw [Int.tmod_eq_emod]
    by_cases h0 : 0 ≤ k
    · simp [h0]
    · by_cases h1 : k % 8 = 0
      · have : (8 : Int) ∣ k := Int.dvd_of_emod_eq_zero h1
        simp [h1, this]
      · have : ¬ (8 : Int) ∣ k := fun hd => h1 (Int.emod_eq_zero_of_dvd hd)
        simp [h0, h1, this]
  rw [h]
  have hw : wrap64 ((if 0 ≤ k ∨ k % 8 = 0 then k % 8 else k % 8 - 8) + 8) = (if 0 ≤ k ∨ k % 8 = 0 then k % 8 else k % 8 - 8) + 8 := by
    unfold wrap64
    split <;> omega
  rw [hw, Int.tmod_eq_emod_of_nonneg (by split <;> omega)]
  unfold plc
  split <;> omega
theorem place_any (k : Int) (w : World) : Calls Try.prog 60 #[.int .i64 k] w fun e w' => e = .returned (.int .i64 (plc k)) ∧ w' = w := by
  have H := Aside0.mk (plc_go k)
  go_enter Try.func60, Try.ntmps60
  go_wp2
  go_ret
  exact ⟨congrArg (fun n => Ending.returned (.int .i64 n)) H.out, rfl⟩

/-- A cell set, and set back. -/
theorem set_back {w : World} {b o : Nat} {u v : Value} {c : Array Value} {t : TypeId} {z : Nat × Nat} (hb : w.heap[b]? = some (.cells c t z)) (hc : c[o]? = some v) :
    (w.setCell ⟨b, o, none⟩ u).setCell ⟨b, o, none⟩ v = w := by
  have : ((w.setCell ⟨b, o, none⟩ u).setCell ⟨b, o, none⟩ v).heap = w.heap := by
    apply Array.ext_getElem?
    intro j
    by_cases hj : j = b
    · subst hj
      rw [heap_set_same (heap_set_same hb o u) o v, hb]
      congr 2
      rw [Array.setIfInBounds_setIfInBounds]
      apply Array.ext_getElem?
      intro i
      rw [Array.getElem?_setIfInBounds]
      obtain ⟨ho, hv⟩ := Array.getElem?_eq_some_iff.1 hc
      split
      · rename_i e
        subst e
        simp [ho, hv]
      · rfl
    · rw [Below.heap_setCell _ _ _ _ (by simpa using hj), Below.heap_setCell _ _ _ _ (by simpa using hj)]
  cases w
  simp only [World.setCell] at this ⊢
  rw [this]

set_option maxRecDepth 100000 in
set_option maxHeartbeats 1000000 in
theorem table_lookup (tb : Nat) (M : Nat → Nat) (T : Nat → List Ent) (k : Int) (w : World) (hT : tabAt w tb M T) :
    Calls Try.prog 36 #[.pointer (some ⟨tb, 0, none⟩), .int .i64 k] w fun e w' => e = .returned (.tuple #[.string (((getE (T (plc k)) k).map (·.val)).getD ⟨#[]⟩), .bool (getE (T (plc k)) k).isSome]) ∧ Drawn0 w w' := by
  have hp := plc_lt k
  have HT := Aside0.mk hT
  have HP := Aside0.mk hp
  clear hT
  go_enter_defers Try.func36, Try.ntmps36
  go_wp2
  go_quiet ((go_at_call 60; exact Calls.quiet_of_same (place_any k _)))
  go_wp2_with fail
  have hc := HT.out.cells
  have hl0 := tabCells_lock (fun _ => 0) (mapV M) (plc k) HP.out
  have hm0 := tabCells_map (fun _ => 0) (mapV M) (plc k) HP.out
  have k0 : (w.drewN nq).cell? ⟨tb, plc k * 3, none⟩ = some (.int .i32 0) := (cell_of_blk (w := w.drewN nq) hc _).trans hl0
  have f0 : (w.drewN nq).frozen? ⟨tb, plc k * 3, none⟩ = false := frozen_of_blk (w := w.drewN nq) hc _
  refine (lock_free Try.muLib ⟨tb, plc k * 3, none⟩ _ k0 f0).mono ?_
  rintro e w1 ⟨rfl, hw1⟩
  have hc1 : w1.heap[tb]? = some (.cells (tabCells (fun j => if j = plc k then 1 else 0) (mapV M)) 121 (0, 0)) := by
    rw [hw1, heap_set_same (w := w.drewN nq) hc, tabCells_setLock _ _ _ HP.out]
  have k1 : w1.cell? ⟨tb, plc k * 3 + 2, none⟩ = some (.map (some (M (plc k)))) := (cell_of_blk hc1 _).trans (tabCells_map _ _ _ HP.out)
  have hS : stripeAt w1 (M (plc k)) (T (plc k)) := by
    rw [hw1]
    have hs := HT.out.stripe _ HP.out
    have hne : ∀ b x, w.heap[b]? = some x → (∀ c t z, x = .cells c t z → t ≠ 121) → b ≠ tb := by
      intro b x hb hx e
      subst e
      rw [hc] at hb
      injection hb with hb
      exact hx _ _ _ hb.symm rfl
    refine ⟨?_, fun e he => ?_⟩
    · rw [Below.heap_setCell _ _ _ _ (hne _ _ hs.1 (by intro c t z h; cases h))]; exact hs.1
    · rw [Below.heap_setCell _ _ _ _ (hne _ _ (hs.2 e he) (by intro c t z h; cases h; decide))]; exact hs.2 e he
  have HW := Aside0.mk hw1
  have HC := Aside0.mk hc
  have HC1 := Aside0.mk hc1
  have HS := Aside0.mk hS
  have HL := Aside0.mk hl0
  clear hw1 hc hc1 hS hl0 hm0 k0 f0
  go_wp2_with (go_at_call 64; (with_reducible refine (stripe_lookup tb (plc k * 3) (M (plc k)) k (T (plc k)) _ k1 HS.out).mono ?_); rintro e' w' ⟨rfl, rfl⟩)
  refine leaves_cons (f := 62) (args := #[.pointer (some ⟨tb, plc k * 3, none⟩)]) (by simp) (by simp [go_sem]) ?_
  refine (unlock_deferred Try.muLib ⟨tb, plc k * 3, none⟩ .returning _ ?_ ?_).mono ?_
  · rw [cell_of_blk HC1.out, tabCells_lock _ _ _ HP.out]; simp
  · exact frozen_of_blk HC1.out _
  rintro e u' w'' ⟨rfl, rfl, rfl⟩
  refine ⟨_, results_tmp2 rfl _ _ _, rfl, ?_⟩
  rw [HW.out, set_back (w := w.drewN nq) HC.out HL.out]
  exact ⟨⟨nq, rfl⟩⟩

/-- What a publish makes of a table's stripes. -/
def pubT (T : Nat → List Ent) (k : Int) (b : Nat) (v : ByteArray) : Nat → List Ent := fun i => if i = plc k then T i ++ [⟨k, b, v⟩] else T i

theorem type_ne {w : World} {b b' : Nat} {c : Array Value} {t : TypeId} {z : Nat × Nat} {x : Obj} (h : w.heap[b]? = some (.cells c t z)) (h' : w.heap[b']? = some x) (hx : ∀ c z, x ≠ .cells c t z) : b' ≠ b := by
  intro e
  subst e
  rw [h] at h'
  injection h' with h'
  exact hx _ _ h'.symm

/-- A stripe stays where its blocks stay. -/
theorem stripeAt.move {w w' : World} {mb : Nat} {L : List Ent} (h : stripeAt w mb L) (hm : w'.heap[mb]? = w.heap[mb]?) (he : ∀ (b : Nat) (c : Array Value), w.heap[b]? = some (Obj.cells c 162 (0, 0)) → w'.heap[b]? = w.heap[b]?) : stripeAt w' mb L :=
  ⟨hm.trans h.1, fun e hh => (he _ _ (h.2 e hh)).trans (h.2 e hh)⟩

set_option maxRecDepth 100000 in
set_option maxHeartbeats 1000000 in
theorem table_publish_old (tb : Nat) (M : Nat → Nat) (T : Nat → List Ent) (k : Int) (v : ByteArray) (e0 : Ent) (w : World) (hT : tabAt w tb M T) (hg : getE (T (plc k)) k = some e0) :
    Calls Try.prog 35 #[.pointer (some ⟨tb, 0, none⟩), .int .i64 k, .string v] w fun e w' => e = .returned (.bool false) ∧ Drawn0 w w' := by
  have hp := plc_lt k
  have HT := Aside0.mk hT
  have HP := Aside0.mk hp
  have HG := Aside0.mk hg
  clear hT hg
  go_enter_defers Try.func35, Try.ntmps35
  go_wp2
  go_quiet ((go_at_call 60; exact Calls.quiet_of_same (place_any k _)))
  go_wp2_with fail
  have hc := HT.out.cells
  have hl0 := tabCells_lock (fun _ => 0) (mapV M) (plc k) HP.out
  have k0 : (w.drewN nq).cell? ⟨tb, plc k * 3, none⟩ = some (.int .i32 0) := (cell_of_blk (w := w.drewN nq) hc _).trans hl0
  have f0 : (w.drewN nq).frozen? ⟨tb, plc k * 3, none⟩ = false := frozen_of_blk (w := w.drewN nq) hc _
  refine (lock_free Try.muLib ⟨tb, plc k * 3, none⟩ _ k0 f0).mono ?_
  rintro e w1 ⟨rfl, hw1⟩
  have hc1 : w1.heap[tb]? = some (.cells (tabCells (fun j => if j = plc k then 1 else 0) (mapV M)) 121 (0, 0)) := by
    rw [hw1, heap_set_same (w := w.drewN nq) hc, tabCells_setLock _ _ _ HP.out]
  have k1 : w1.cell? ⟨tb, plc k * 3 + 2, none⟩ = some (.map (some (M (plc k)))) := (cell_of_blk hc1 _).trans (tabCells_map _ _ _ HP.out)
  have hS : stripeAt w1 (M (plc k)) (T (plc k)) := by
    rw [hw1]
    have hs := HT.out.stripe _ HP.out
    refine hs.move (Below.heap_setCell _ _ _ _ (type_ne hc hs.1 (by intro c z h; cases h))) (fun b c hb => Below.heap_setCell _ _ _ _ (type_ne hc hb (by intro c z h; cases h)))
  have HW := Aside0.mk hw1
  have HC := Aside0.mk hc
  have HC1 := Aside0.mk hc1
  have HS := Aside0.mk hS
  have HL := Aside0.mk hl0
  clear hw1 hc hc1 hS hl0 k0 f0
  go_wp2_with (go_at_call 63; (with_reducible refine (stripe_publish_old tb (plc k * 3) (M (plc k)) k v (T (plc k)) e0 _ k1 HS.out HG.out).mono ?_); rintro e' w' ⟨rfl, rfl⟩)
  refine leaves_cons (f := 62) (args := #[.pointer (some ⟨tb, plc k * 3, none⟩)]) (by simp) (by simp [go_sem]) ?_
  refine (unlock_deferred Try.muLib ⟨tb, plc k * 3, none⟩ .returning _ ?_ ?_).mono ?_
  · rw [cell_of_blk HC1.out, tabCells_lock _ _ _ HP.out]; simp
  · exact frozen_of_blk HC1.out _
  rintro e u' w'' ⟨rfl, rfl, rfl⟩
  refine ⟨_, results_tmp rfl _ _ _, rfl, ?_⟩
  rw [HW.out, set_back (w := w.drewN nq) HC.out HL.out]
  exact ⟨⟨nq, rfl⟩⟩

set_option maxRecDepth 100000 in
set_option maxHeartbeats 1000000 in
theorem table_publish_new (tb : Nat) (M : Nat → Nat) (T : Nat → List Ent) (k : Int) (v : ByteArray) (w : World) (hT : tabAt w tb M T) (hg : getE (T (plc k)) k = none) :
    Calls Try.prog 35 #[.pointer (some ⟨tb, 0, none⟩), .int .i64 k, .string v] w fun e w' => e = .returned (.bool true) ∧ tabAt w' tb M (pubT T k w.heap.size v) ∧ w.grownBy w' (some (M (plc k))) := by
  have hp := plc_lt k
  have HT := Aside0.mk hT
  have HP := Aside0.mk hp
  have HG := Aside0.mk hg
  clear hT hg
  go_enter_defers Try.func35, Try.ntmps35
  go_wp2
  go_quiet ((go_at_call 60; exact Calls.quiet_of_same (place_any k _)))
  go_wp2_with fail
  have hc := HT.out.cells
  have hl0 := tabCells_lock (fun _ => 0) (mapV M) (plc k) HP.out
  have k0 : (w.drewN nq).cell? ⟨tb, plc k * 3, none⟩ = some (.int .i32 0) := (cell_of_blk (w := w.drewN nq) hc _).trans hl0
  have f0 : (w.drewN nq).frozen? ⟨tb, plc k * 3, none⟩ = false := frozen_of_blk (w := w.drewN nq) hc _
  refine (lock_free Try.muLib ⟨tb, plc k * 3, none⟩ _ k0 f0).mono ?_
  rintro e w1 ⟨rfl, hw1⟩
  have hc1 : w1.heap[tb]? = some (.cells (tabCells (fun j => if j = plc k then 1 else 0) (mapV M)) 121 (0, 0)) := by
    rw [hw1, heap_set_same (w := w.drewN nq) hc, tabCells_setLock _ _ _ HP.out]
  have k1 : w1.cell? ⟨tb, plc k * 3 + 2, none⟩ = some (.map (some (M (plc k)))) := (cell_of_blk hc1 _).trans (tabCells_map _ _ _ HP.out)
  have hother : ∀ b, b ≠ tb → w1.heap[b]? = w.heap[b]? := fun b hb => by rw [hw1]; exact Below.heap_setCell _ _ _ _ hb
  have hS : stripeAt w1 (M (plc k)) (T (plc k)) := by
    have hs := HT.out.stripe _ HP.out
    exact hs.move (hother _ (type_ne hc hs.1 (by intro c z h; cases h))) (fun b c hb => hother _ (type_ne hc hb (by intro c z h; cases h)))
  have hsz : w1.heap.size = w.heap.size := by rw [hw1]; exact size_set _ _ _
  have hst : w1.os = w.os ∧ w1.tape = w.tape ∧ w1.output = w.output := by rw [hw1]; exact ⟨rfl, rfl, rfl⟩
  have HO := Aside0.mk hother
  have HC := Aside0.mk hc
  have HC1 := Aside0.mk hc1
  have HS := Aside0.mk hS
  have HL := Aside0.mk hl0
  have HZ := Aside0.mk hsz
  have HT2 := Aside0.mk hst
  clear hw1 hc hc1 hS hl0 k0 f0 hother hsz hst
  go_wp2_with (go_at_call 63; (with_reducible refine (stripe_publish_new tb (plc k * 3) (M (plc k)) k v (T (plc k)) _ k1 (lt_of_heap HC1.out) HS.out HG.out).mono ?_); rintro e' w2 ⟨rfl, h2, hg2⟩)
  have hne : tb ≠ M (plc k) := fun e => type_ne HC.out (HT.out.stripe _ HP.out).1 (by intro c z h; cases h) e.symm
  have hc2 := (hg2.block tb (lt_of_heap HC1.out) (fun e => hne (by injection e))).trans HC1.out
  refine leaves_cons (f := 62) (args := #[.pointer (some ⟨tb, plc k * 3, none⟩)]) (by simp) (by simp [go_sem]) ?_
  refine (unlock_deferred Try.muLib ⟨tb, plc k * 3, none⟩ .returning _ ?_ ?_).mono ?_
  · rw [cell_of_blk hc2, tabCells_lock _ _ _ HP.out]; simp
  · exact frozen_of_blk hc2 _
  rintro e u' w'' ⟨rfl, rfl, rfl⟩
  refine ⟨_, results_tmp rfl _ _ _, rfl, ?_⟩
  have hc3 : (w2.setCell ⟨tb, plc k * 3, none⟩ (.int .i32 0)).heap[tb]? = some (.cells (tabCells (fun _ => 0) (mapV M)) 121 (0, 0)) := by
    rw [heap_set_same hc2, tabCells_setLock _ _ _ HP.out, tabCells_congr (s' := fun _ => 0) (M' := mapV M) (fun i _ => by by_cases h : i = plc k <;> simp [h]) (fun _ _ => rfl)]
  have hfr : w.grownBy (w2.setCell ⟨tb, plc k * 3, none⟩ (.int .i32 0)) (some (M (plc k))) := by
    refine ⟨hg2.os.trans HT2.out.1, hg2.tape.trans HT2.out.2.1, hg2.output.trans HT2.out.2.2, ?_, fun b hb hne' => ?_⟩
    · rw [size_set, ← HZ.out]; exact hg2.size
    · by_cases h : b = tb
      · subst h; rw [hc3, HC.out]
      · rw [Below.heap_setCell _ _ _ _ h, hg2.block b (by rw [HZ.out]; exact hb) hne', HO.out b h]
  refine ⟨⟨hc3, fun i hi => ?_, HT.out.apart⟩, hfr⟩
  by_cases h : i = plc k
  · subst h
    simp only [pubT, if_true]
    rw [← HZ.out]
    exact h2.move (Below.heap_setCell _ _ _ _ (fun e => hne e.symm)) (fun b c hb => Below.heap_setCell _ _ _ _ (type_ne hc2 hb (by intro c z h; cases h)))
  · simp only [pubT, if_neg h]
    have hs := HT.out.stripe i hi
    refine hs.move (hfr.block _ (lt_of_heap hs.1) (fun e => h (HT.out.apart _ _ hi HP.out (by injection e)))) (fun b c hb => hfr.block _ (lt_of_heap hb) (fun e => ?_))
    injection e with e
    subst e
    rw [(HT.out.stripe _ HP.out).1] at hb
    cases hb
end Go.Proofs.Ytdflfjcnogokgaa.PTableEnds
