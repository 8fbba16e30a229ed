/- The leaves of the table: atomic flags, a stripe's lookup and publish. -/
import Derived.Test.YtdflfjcnogokgaaPTableEndsx1
import Derived.Test.YtdflfjcnogokgaaMap
import Derived.Laws.LoneSync
import Derived.RegionCalls
import Derived.Deep.DeepMust
set_option linter.unusedVariables false
set_option linter.unusedSimpArgs false
namespace Go.Proofs.Ytdflfjcnogokgaa.PTableEnds
open Go.RowKit Go.Proofs.YtdflfjcnogokgaaW.PrintWords Go.Proofs.YtdflfjcnogokgaaW.PrintLast Go.Proofs.YtdflfjcnogokgaaW.PrintMore
open Go.FT
open Go.ChangeMaps (setBlock)

theorem bool_load (b o : Nat) (v : Int) (w : World) (hc : w.cell? ⟨b, o, none⟩ = some (.int .u32 v)) :
    Calls Try.prog 82 #[.pointer (some ⟨b, o, none⟩)] w fun e w' => e = .returned (.bool (v != 0)) ∧ w = w' := by
  have hl := run_call_load (P := Try.prog) Try.func96 (by kernel_rfl) (by kernel_rfl) (by kernel_rfl) .u32 (by kernel_rfl) hc
  go_enter Try.func82, Try.ntmps82
  go_wp2
  go_ret
  exact ⟨rfl, rfl⟩

set_option maxRecDepth 100000 in
theorem bool_store (b o : Nat) (u : Value) (w : World) (hc : w.cell? ⟨b, o, none⟩ = some u) (hz : w.frozen? ⟨b, o, none⟩ = false) :
    Calls Try.prog 83 #[.pointer (some ⟨b, o, none⟩), .bool true] w fun e w' => e = .returned (.tuple #[]) ∧ ∃ n, w' = (w.setCell ⟨b, o, none⟩ (.int .u32 1)).drewN n := by
  have hb : atomic_b32.f true = some 1 := rfl
  have hst := run_call_store (P := Try.prog) Try.func97 (by kernel_rfl) (by kernel_rfl) (by kernel_rfl) (by kernel_rfl) (k := .u32) (y := 1) (w := w.drew) (u := u) (a := ⟨b, o, none⟩) (by go_simp) (by go_simp)
  go_enter Try.func83, Try.ntmps83
  go_region_calls
  all_goals (go_end0; exact ⟨rfl, 1, rfl⟩)

/-! ### A stripe -/
structure Ent where
  key : Int
  blk : Nat
  val : ByteArray
def entV (e : Ent) : Int × Value := (e.key, .pointer (some ⟨e.blk, 0, none⟩))
def getE (L : List Ent) (k : Int) : Option Ent := L.find? (fun e => e.key == k)
theorem look_ent (L : List Ent) (k : Int) : ilook (L.map entV) k = (getE L k).map (fun e => .pointer (some ⟨e.blk, 0, none⟩)) := by
  unfold ilook getE
  rw [List.find?_map, Option.map_map]
  rfl
def stripeAt (w : World) (mb : Nat) (L : List Ent) : Prop :=
  w.heap[mb]? = some (imap (L.map entV)) ∧ ∀ e ∈ L, w.heap[e.blk]? = some (.cells #[.int .u32 1, .string e.val] 162 (0, 0))
theorem stripeAt.get {w : World} {mb : Nat} {L : List Ent} (h : stripeAt w mb L) {k : Int} {e : Ent} (he : getE L k = some e) : w.heap[e.blk]? = some (.cells #[.int .u32 1, .string e.val] 162 (0, 0)) :=
  h.2 e (List.mem_of_find?_eq_some he)
theorem cell_of_blk {w : World} {b : Nat} {c : Array Value} {t : TypeId} {z : Nat × Nat} (h : w.heap[b]? = some (.cells c t z)) (o : Nat) : w.cell? ⟨b, o, none⟩ = c[o]? := by
  simp [World.cell?, h]
theorem frozen_of_blk {w : World} {b : Nat} {c : Array Value} {t : TypeId} (h : w.heap[b]? = some (.cells c t (0, 0))) (o : Nat) : w.frozen? ⟨b, o, none⟩ = false := by
  simp [World.frozen?, h]

theorem stripe_lookup (tb o mb : Nat) (k : Int) (L : List Ent) (w : World) (hc : w.cell? ⟨tb, o + 2, none⟩ = some (.map (some mb))) (hL : stripeAt w mb L) :
    Calls Try.prog 64 #[.pointer (some ⟨tb, o, none⟩), .int .i64 k] w fun e w' => e = .returned (.tuple #[.string (((getE L k).map (·.val)).getD ⟨#[]⟩), .bool (getE L k).isSome]) ∧ w = w' := by
  have hz : (zeroValue 156).run Try.prog w = .ok (.pointer none) w := by kernel_rfl
  have hl := run_look w 116 3 156 .i64 (.pointer none) mb (L.map entV) k Try.underlying116 Try.underlying3 hz hL.1
  rw [look_ent] at hl
  cases hg : getE L k with
  | none =>
    rw [hg] at hl
    simp only [Option.map_none, Option.getD_none, Option.isSome_none] at hl
    clear hg
    go_enter Try.func64, Try.ntmps64
    go_wp2
    go_ret2
    exact ⟨rfl, rfl⟩
  | some e =>
    rw [hg] at hl
    have hb := hL.get hg
    simp only [Option.map_some, Option.getD_some, Option.isSome_some] at hl
    have c0 := cell_of_blk hb 0
    have c1 := cell_of_blk hb 1
    simp at c0 c1
    clear hg hb
    go_enter Try.func64, Try.ntmps64
    go_wp2_with (go_at_call 82; (with_reducible refine (bool_load e.blk 0 1 _ c0).mono ?_); rintro e' w' ⟨rfl, rfl⟩)
    go_ret2
    exact ⟨rfl, rfl⟩

theorem heap_drewN (w : World) (n : Nat) : (w.drewN n).heap = w.heap := rfl
theorem heap_alloc_at (w : World) (o : Obj) : (w.alloc o).heap[w.heap.size]? = some o := heap_alloc_new w o
theorem heap_set_same {w : World} {b : Nat} {c : Array Value} {t : TypeId} {z : Nat × Nat} (h : w.heap[b]? = some (.cells c t z)) (o : Nat) (v : Value) :
    (w.setCell ⟨b, o, none⟩ v).heap[b]? = some (.cells (c.setIfInBounds o v) t z) := by
  simp only [World.setCell, Array.getElem?_modify, if_pos, h, Option.map_some]
  rfl
theorem size_set (w : World) (a : Addr) (v : Value) : (w.setCell a v).heap.size = w.heap.size := by simp [World.setCell]
theorem size_alloc (w : World) (o : Obj) : (w.alloc o).heap.size = w.heap.size + 1 := by
  show (w.heap.push o).size = _
  simp
theorem heap_block_same {w : World} {b : Nat} {x : Obj} (h : w.heap[b]? = some x) (o : Obj) : (setBlock w b o).heap[b]? = some o := by
  obtain ⟨hl, _⟩ := Array.getElem?_eq_some_iff.1 h
  simp [setBlock, hl]
theorem heap_block_other {w : World} {b : Nat} (o : Obj) {k : Nat} (hk : k ≠ b) : (setBlock w b o).heap[k]? = w.heap[k]? := by
  simp [setBlock, Array.getElem?_setIfInBounds]
  intro e
  exact absurd e.symm hk
theorem lt_of_heap {w : World} {b : Nat} {x : Obj} (h : w.heap[b]? = some x) : b < w.heap.size := (Array.getElem?_eq_some_iff.1 h).1

theorem stripe_publish_old (tb o mb : Nat) (k : Int) (v : ByteArray) (L : List Ent) (e0 : Ent) (w : World) (hc : w.cell? ⟨tb, o + 2, none⟩ = some (.map (some mb))) (hL : stripeAt w mb L) (hg : getE L k = some e0) :
    Calls Try.prog 63 #[.pointer (some ⟨tb, o, none⟩), .int .i64 k, .string v] w fun e w' => e = .returned (.bool false) ∧ w = w' := by
  have hz : (zeroValue 156).run Try.prog w = .ok (.pointer none) w := by kernel_rfl
  have hl := run_look w 116 3 156 .i64 (.pointer none) mb (L.map entV) k Try.underlying116 Try.underlying3 hz hL.1
  rw [look_ent, hg] at hl
  have hb := hL.get hg
  simp only [Option.map_some, Option.getD_some, Option.isSome_some] at hl
  have c0 := cell_of_blk hb 0
  have c1 := cell_of_blk hb 1
  simp at c0 c1
  clear hg hb
  go_enter Try.func63, Try.ntmps63
  go_wp2_with (go_at_call 82; (with_reducible refine (bool_load e0.blk 0 1 _ c0).mono ?_); rintro e' w' ⟨rfl, rfl⟩)
  go_ret
  exact ⟨rfl, rfl⟩

theorem stripe_publish_new (tb o mb : Nat) (k : Int) (v : ByteArray) (L : List Ent) (w : World) (hc : w.cell? ⟨tb, o + 2, none⟩ = some (.map (some mb))) (htb : tb < w.heap.size) (hL : stripeAt w mb L) (hg : getE L k = none) :
    Calls Try.prog 63 #[.pointer (some ⟨tb, o, none⟩), .int .i64 k, .string v] w fun e w' => e = .returned (.bool true) ∧ stripeAt w' mb (L ++ [⟨k, w.heap.size, v⟩]) ∧ w.grownBy w' (some mb) := by
  have hz : (zeroValue 156).run Try.prog w = .ok (.pointer none) w := by kernel_rfl
  have hl := run_look w 116 3 156 .i64 (.pointer none) mb (L.map entV) k Try.underlying116 Try.underlying3 hz hL.1
  have hn : ilook (L.map entV) k = none := by rw [look_ent, hg]; rfl
  rw [hn] at hl
  simp only [Option.getD_none, Option.isSome_none] at hl
  have HN := Aside0.mk hn
  have HL := Aside0.mk hL
  have HT := Aside0.mk htb
  clear hg hn hL htb
  go_enter Try.func63, Try.ntmps63
  go_wp2_with fail
  refine (bool_store w.heap.size 0 (.int .u32 0) _ (by simp) (by simp)).mono ?_
  rintro e' w1 ⟨rfl, hw1⟩
  have hmb := HL.out.1
  have hmlt := lt_of_heap hmb
  have h1 : ∀ b, b < w.heap.size → w1.heap[b]? = w.heap[b]? := by
    obtain ⟨n, rfl⟩ := hw1
    intro b hb
    rw [heap_drewN, Below.heap_setCell _ _ _ _ (by simp; omega), Below.heap_alloc _ _ _ hb]
  have h2 : w1.heap[w.heap.size]? = some (.cells #[.int .u32 1, .string v] 162 (0, 0)) := by
    obtain ⟨n, rfl⟩ := hw1
    rw [heap_drewN, heap_set_same (heap_alloc_at w _)]
    rfl
  have h3 : w1.heap.size = w.heap.size + 1 := by
    obtain ⟨n, rfl⟩ := hw1
    rw [heap_drewN, size_set, size_alloc]
  have h4 : w1.os = w.os ∧ w1.tape = w.tape ∧ w1.output = w.output := by
    obtain ⟨n, rfl⟩ := hw1
    exact ⟨rfl, rfl, rfl⟩
  have hput := run_put_new (P := Try.prog) w1 116 3 156 .i64 mb (L.map entV) k (.pointer (some ⟨w.heap.size, 0, none⟩)) Try.underlying116 Try.underlying3 ((h1 mb hmlt).trans hmb) HN.out
  have hc1 : w1.cell? ⟨tb, o + 2, none⟩ = some (.map (some mb)) := by rw [World.cell?_of_block (h1 tb HT.out)]; exact hc
  have H1 := Aside0.mk h1
  have H2 := Aside0.mk h2
  have H3 := Aside0.mk h3
  have H4 := Aside0.mk h4
  have HM := Aside0.mk hmb
  clear h1 h2 h3 h4 hw1 hmb
  go_wp2
  go_ret
  have hmb1 := (H1.out mb hmlt).trans HM.out
  refine ⟨rfl, ⟨by rw [heap_block_same hmb1, List.map_append]; rfl, ?_⟩, ?_⟩
  · intro e he
    rcases List.mem_append.1 he with he | he
    · have hb := HL.out.2 e he
      have hlt := lt_of_heap hb
      have hne : e.blk ≠ mb := by
        intro h
        rw [h, HM.out] at hb
        cases hb
      rw [heap_block_other _ hne, H1.out _ hlt, hb]
    · simp only [List.mem_singleton] at he
      subst he
      rw [heap_block_other _ (by simp; omega), H2.out]
  · refine ⟨H4.out.1, H4.out.2.1, H4.out.2.2, by simp [setBlock]; rw [H3.out]; omega, fun j hj hne => ?_⟩
    rw [heap_block_other _ (fun h => hne (by rw [h])), H1.out j hj]
end Go.Proofs.Ytdflfjcnogokgaa.PTableEnds
