/- lives (function 9): a value is published, and there: true, in any world. -/
import Derived.Test.YtdflfjcnogokgaaTL
set_option linter.unusedVariables false
set_option linter.unusedSimpArgs false
namespace Go.Proofs.Ytdflfjcnogokgaa.PTableEnds
open Go.RowKit Go.Proofs.YtdflfjcnogokgaaW.PrintWords Go.Proofs.YtdflfjcnogokgaaW.PrintLast Go.Proofs.YtdflfjcnogokgaaW.PrintMore
open Go.FT Go.MuLone

def x1 : S31 := ⟨1, 1, { data := #[120] }⟩
theorem lives_play : pplay [[x1]] [] = [⟨0, true, x1, z42⟩, ⟨0, false, x1, ⟨true, ⟨#[]⟩, [], []⟩⟩] := by rfl
theorem lives_left : (left (start [[x1]]) + 1) * 120 ≤ 140737488355328 := by
  have : left (start [[x1]]) = 3 := by rfl
  rw [this]; decide
theorem C_x1 {W : World} {b : Nat} (h : W.heap[b]? = some (.cells #[.int .i64 1, .int .i64 1, .string { data := #[120] }] 31 (0, 0))) : Kd.C k31 W (some ⟨b, 0, none⟩) 1 [x1] := by
  refine ⟨rfl, by decide, fun _ => ⟨_, rfl, fun i p hp => ?_⟩⟩
  have hi : i = 0 := by have := (List.getElem?_eq_some_iff.1 hp).1; simp at this; exact this
  subst hi
  simp at hp
  subst hp
  refine ⟨_, rfl, k31_mk W x1, fun j u hu => ?_⟩
  have := cell_of_blk h j
  rw [show (⟨b, 0, none⟩ : Addr).add (0 * k31.sz + j) = ⟨b, j, none⟩ from by simp [Addr.add] <;> (intro hq; exact hq.symm), this, ← hu]
  simp [x1]
theorem C_x2 {W : World} {b d : Nat} (hd : W.heap[d]? = some (.cells #[.int .i64 1, .int .i64 1, .string { data := #[120] }] 31 (0, 0))) (h : W.heap[b]? = some (.cells #[.slice (some ⟨d, 0, none⟩) 1 1] 32 (0, 0))) : Kd.C (Kd.slice 31 k31) W (some ⟨b, 0, none⟩) 1 [[x1]] := by
  refine ⟨rfl, by decide, fun _ => ⟨_, rfl, fun i p hp => ?_⟩⟩
  have hi : i = 0 := by have := (List.getElem?_eq_some_iff.1 hp).1; simp at this; exact this
  subst hi
  simp at hp
  subst hp
  refine ⟨[.slice (some ⟨d, 0, none⟩) 1 1], rfl, ⟨_, _, rfl, Nat.le_refl _, C_x1 hd⟩, fun j u hu => ?_⟩
  have := cell_of_blk h j
  rw [show (⟨b, 0, none⟩ : Addr).add (0 * (Kd.slice 31 k31).sz + j) = ⟨b, j, none⟩ from by simp [Addr.add] <;> (intro hq; exact hq.symm), this, ← hu]
  simp

set_option maxRecDepth 100000 in
set_option maxHeartbeats 4000000 in
theorem lives_any (w : World) : Calls Try.prog 9 #[] w fun e w' => e = .returned (.bool true) ∧ Below w.heap.size w w' := by
  go_enter Try.func9, Try.ntmps9
  go_wp2_with (go_at_call 27; refine Stopped.go ?_)
  refine ⟨?_⟩
  refine (table_new _).mono ?_
  rintro e w1 ⟨rfl, hT1, hb1⟩
  obtain ⟨tb, htb⟩ : ∃ t, t = w.heap.size := ⟨_, rfl⟩
  rw [← htb] at hT1
  rw [← htb]
  have HT1 := Aside0.mk hT1
  have HB1 := Aside0.mk hb1
  have HTB := Aside0.mk htb
  clear hT1 hb1 htb
  go_wp2_with (go_at_call 35; refine Stopped.go ?_)
  refine ⟨?_⟩
  refine (table_publish_new tb _ (fun _ => []) 5 _ w1 HT1.out rfl).mono ?_
  rintro e w2 ⟨rfl, hT2, hg2⟩
  have hb2 : Below w.heap.size w w2 := pw_below_grown HB1.out _ HB1.out.size hg2 (by intro k hk; injection hk with hk; replace hk : tb + 1 + plc 5 = k := hk; have := HTB.out; omega)
  obtain ⟨T2, hTT⟩ : ∃ T, T = pubT (fun _ => []) 5 w1.heap.size { data := #[97] } := ⟨_, rfl⟩
  have hge : getE (T2 (plc 5)) 5 = some ⟨5, w1.heap.size, { data := #[97] }⟩ := by rw [hTT]; rfl
  rw [← hTT] at hT2
  have HT2 := Aside0.mk hT2
  have HB2 := Aside0.mk hb2
  have HGE := Aside0.mk hge
  clear hT2 hb2 hg2 hge hTT
  go_wp2_with (go_at_call 35; refine Stopped.go ?_)
  refine ⟨?_⟩
  refine (table_publish_old tb _ T2 5 _ _ w2 HT2.out HGE.out).mono ?_
  rintro e w3 ⟨rfl, ⟨n3, rfl⟩⟩
  go_wp2_with (go_at_call 36; refine Stopped.go ?_)
  refine ⟨?_⟩
  refine (table_lookup tb _ T2 5 _ (HT2.out.below (pw_below_drewN (Below.refl _ _) n3))).mono ?_
  rintro e w4 ⟨rfl, ⟨n4, rfl⟩⟩
  rw [HGE.out]
  simp only [Option.map_some, Option.getD_some, Option.isSome_some]
  go_wp2_with (go_at_call 12; refine Stopped.go ?_)
  refine ⟨?_⟩
  obtain ⟨O1, hO1⟩ : ∃ O, O = Obj.cells #[.int .i64 1, .int .i64 1, .string { data := #[120] }] 31 := ⟨_, rfl⟩
  obtain ⟨O2, hO2⟩ : ∃ O, O = Obj.cells #[.slice (some ⟨w2.heap.size, 0, none⟩) 1 1] 32 := ⟨_, rfl⟩
  rw [← hO1, ← hO2]
  have e1 : (((w2.drewN (n3 + n4)).alloc O1).alloc O2).heap[w2.heap.size]? = some O1 := (Below.heap_alloc _ _ _ (by rw [size_alloc]; show w2.heap.size < w2.heap.size + 1; omega)).trans (heap_alloc_at (w2.drewN (n3 + n4)) O1)
  have e2 : (((w2.drewN (n3 + n4)).alloc O1).alloc O2).heap[w2.heap.size + 1]? = some O2 := by
    have := heap_alloc_at ((w2.drewN (n3 + n4)).alloc O1) O2
    rw [size_alloc] at this
    exact this
  have hb5 : Below w.heap.size w (((w2.drewN (n3 + n4)).alloc O1).alloc O2) := below_alloc (below_alloc (pw_below_drewN HB2.out _) _) _
  replace e1 := e1.trans (congrArg some hO1)
  replace e2 := e2.trans (congrArg some hO2)
  obtain ⟨W5, hW5⟩ : ∃ W, W = (((w2.drewN (n3 + n4)).alloc O1).alloc O2) := ⟨_, rfl⟩
  rw [← hW5] at e1 e2 hb5
  rw [← hW5]
  have HB5 := Aside0.mk hb5
  have hC := C_x2 e1 e2
  have HC := Aside0.mk hC
  clear hO1 hO2 hW5 hb5 hC e1 e2
  refine (play_any (some ⟨w2.heap.size + 1, 0, none⟩) 1 [[x1]] none 0 [] W5 HC.out (Nat.le_refl _) (Kd.C_nil _ _) (Nat.le_refl _) (by decide) (by decide) lives_left).mono ?_
  rintro e w6 ⟨v, rfl, hR, hb6⟩
  rw [lives_play] at hR
  obtain ⟨A, c, rfl, _, hCC⟩ := Kd.R_reads hR
  have HB6 := Aside0.mk (below_then HB5.out HB5.out.size hb6)
  obtain ⟨ad, A7, c7, A8, c8, eA, y0, y1, y2, y3, y4, y5, y6, y7, y8, l7, g7, l8, g8⟩ := at_T44 hCC 0 (by decide) (by decide)
  obtain ⟨ad', A7', c7', A8', c8', eA', z0, z1, z2, z3, z4, z5, z6, z7, z8, l7', g7', l8', g8'⟩ := at_T44 hCC 1 (by decide) (by decide)
  subst eA
  injection eA' with eA'
  subst eA'
  replace y1 : w6.cell? ⟨(ad.add ((0 : Int).toNat * 9)).block, (ad.add ((0 : Int).toNat * 9)).off + 1, none⟩ = some (.bool true) := y1
  replace z5 : w6.cell? ⟨(ad.add ((1 : Int).toNat * 9)).block, (ad.add ((1 : Int).toNat * 9)).off + 5, none⟩ = some (.bool true) := z5
  simp only [show (0 : Int).toNat * 9 = 0 from rfl, show (1 : Int).toNat * 9 = 9 from rfl] at y1 z5
  have y1' : w6.cell? ⟨ad.block, ad.off + 1, none⟩ = some (.bool true) := by simpa [Addr.add] using y1
  have z5' : w6.cell? ⟨ad.block, ad.off + 9 + 5, none⟩ = some (.bool true) := by simpa [Addr.add] using z5
  have hl : ([⟨0, true, x1, z42⟩, ⟨0, false, x1, ⟨true, ⟨#[]⟩, [], []⟩⟩] : List S44).length = 2 := rfl
  rw [hl]
  clear y0 y2 y3 y4 y5 y6 y7 y8 l7 g7 l8 g8 z0 z1 z2 z3 z4 z6 z7 z8 l7' g7' l8' g8' hR hb6 hCC hl
  go_wp2
  go_ret
  exact ⟨rfl, HB6.out⟩
end Go.Proofs.Ytdflfjcnogokgaa.PTableEnds
