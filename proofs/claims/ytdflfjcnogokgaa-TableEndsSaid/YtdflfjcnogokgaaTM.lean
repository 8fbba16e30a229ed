/- callsOf (function 21): of a history in which each beginning has its end, its calls. -/
import Derived.Test.YtdflfjcnogokgaaTL
set_option linter.unusedVariables false
set_option linter.unusedSimpArgs false
namespace Go.Proofs.Ytdflfjcnogokgaa.PTableEnds
open Go.RowKit Go.Proofs.YtdflfjcnogokgaaW.PrintWords Go.Proofs.YtdflfjcnogokgaaW.PrintLast Go.Proofs.YtdflfjcnogokgaaW.PrintMore
open Go.FT Go.MuLone

def callOf (h : List S44) (e : Nat → Nat) (i : Nat) : S49 := ⟨i, e i, (rd_T44 h i).f2, (rd_T44 h (e i : Nat)).f3⟩
def callsTo (h : List S44) (e : Nat → Nat) (i : Nat) : List S49 := ((List.range i).filter (fun j : Nat => (rd_T44 h j).f1)).map (callOf h e)
def endsTo (h : List S44) (i : Nat) : Nat := ((List.range i).filter (fun j : Nat => !(rd_T44 h j).f1)).length
theorem callsTo_yes (h : List S44) (e : Nat → Nat) (i : Nat) (hb : (rd_T44 h (i : Nat)).f1 = true) : callsTo h e (i + 1) = callsTo h e i ++ [callOf h e i] := by
  unfold callsTo
  rw [List.range_succ, List.filter_append, List.map_append]
  simp [hb]
theorem callsTo_no (h : List S44) (e : Nat → Nat) (i : Nat) (hb : (rd_T44 h (i : Nat)).f1 = false) : callsTo h e (i + 1) = callsTo h e i := by
  unfold callsTo
  rw [List.range_succ, List.filter_append, List.map_append]
  simp [hb]
theorem endsTo_yes (h : List S44) (i : Nat) (hb : (rd_T44 h (i : Nat)).f1 = true) : endsTo h (i + 1) = endsTo h i := by
  unfold endsTo
  rw [List.range_succ, List.filter_append]
  simp [hb]
theorem endsTo_no (h : List S44) (i : Nat) (hb : (rd_T44 h (i : Nat)).f1 = false) : endsTo h (i + 1) = endsTo h i + 1 := by
  unfold endsTo
  rw [List.range_succ, List.filter_append]
  simp [hb]
theorem callsTo_le (h : List S44) (e : Nat → Nat) (i : Nat) : (callsTo h e i).length ≤ i := by
  unfold callsTo
  rw [List.length_map]
  exact Nat.le_trans (List.length_filter_le _ _) (by simp)
theorem endsTo_le (h : List S44) (i : Nat) : endsTo h i ≤ i := Nat.le_trans (List.length_filter_le _ _) (by simp)
/-- Each beginning has its end. -/
structure Good (h : List S44) (e : Nat → Nat) : Prop where
  mat : ∀ i : Nat, i < h.length → (rd_T44 h i).f1 = true → i < e i ∧ e i < h.length ∧ (rd_T44 h (e i : Nat)).f0 = (rd_T44 h i).f0 ∧ (rd_T44 h (e i : Nat)).f1 = false ∧ (rd_T44 h (e i : Nat)).f2 = (rd_T44 h i).f2 ∧ ∀ j : Nat, i < j → j < e i → (rd_T44 h j).f0 ≠ (rd_T44 h i).f0
  cnt : endsTo h h.length = (callsTo h e h.length).length

theorem tinfo49 : (Try.prog.info? 49).map (fun i => (i.zero, i.size, i.bytes)) = some (some (.agg #[.int .i64 0, .int .i64 0, .int .i64 0, .int .i64 0, .string { data := #[] }, .bool false, .string { data := #[] }, .slice none 0 0, .slice none 0 0]), 9, 120) := by kernel_rfl
def cellsA (i : Nat) (x : S44) : Array Value := #[.int .i64 i, .int .i64 (-1), .int .i64 x.f2.f0, .int .i64 x.f2.f1, .string x.f2.f2, .bool false, .string { data := #[] }, .slice none 0 0, .slice none 0 0]
def cellsB (i k : Nat) (x y : S44) (A7 : Option Addr) (c7 : Nat) (A8 : Option Addr) (c8 : Nat) : Array Value := #[.int .i64 i, .int .i64 k, .int .i64 x.f2.f0, .int .i64 x.f2.f1, .string x.f2.f2, .bool y.f3.f0, .string y.f3.f1, .slice A7 y.f3.f2.length c7, .slice A8 y.f3.f3.length c8]

theorem set9 {W : World} {b : Nat} {i : Nat} {x : S44} (h : W.heap[b]? = some (.cells (cellsA i x) 49 (0, 0))) (k : Nat) (u : Bool) (s : ByteArray) (v7 v8 : Value) :
    ((((((W.setCell ⟨b, 1, none⟩ (.int .i64 k)).setCell ⟨b, 5, none⟩ (.bool u)).setCell ⟨b, 6, none⟩ (.string s)).setCell ⟨b, 7, none⟩ v7).setCell ⟨b, 8, none⟩ v8)).heap[b]? = some (.cells #[.int .i64 i, .int .i64 k, .int .i64 x.f2.f0, .int .i64 x.f2.f1, .string x.f2.f2, .bool u, .string s, v7, v8] 49 (0, 0)) := by
  have h1 := heap_set_same (o := 1) h (.int .i64 k)
  have h2 := heap_set_same (o := 5) h1 (.bool u)
  have h3 := heap_set_same (o := 6) h2 (.string s)
  have h4 := heap_set_same (o := 7) h3 v7
  have h5 := heap_set_same (o := 8) h4 v8
  rw [h5]
  rfl
set_option maxRecDepth 100000 in
set_option maxHeartbeats 4000000 in
theorem callsOf_any (A : Option Addr) (c : Nat) (h : List S44) (e : Nat → Nat) (w : World) (hr : Kd.C k44 w A h.length h) (hc : h.length ≤ c) (hG : Good h e) (hb : (h.length + 1) * 120 ≤ 140737488355328) :
    Calls Try.prog 21 #[.slice A h.length c] w fun ex w' => ∃ v, ex = .returned (.tuple #[v, .bool true]) ∧ (Kd.fixed k49 w).R 49 w' w.heap.size (fun _ => True) v (callsTo h e h.length) ∧ Below w.heap.size w w' := by
  have hu31 := Try.underlying31
  have HR := Aside0.mk hr
  have HC := Aside0.mk hc
  have HGD := Aside0.mk hG
  have HBD := Aside0.mk hb
  obtain ⟨n, hn⟩ : ∃ n, n = h.length := ⟨_, rfl⟩
  have HN := Aside0.mk hn
  clear hr hc hG hb
  rw [← hn]
  clear hn
  go_enter Try.func21, Try.ntmps21
  go_wp2
  go_loopg [4, 5, 6] n (fun g v4 v5 v6 w' => ∃ (i : Nat), v5 = .int .i64 (endsTo h i) ∧ v6 = .int .i64 i ∧ Aside0 (g + i = n) ∧ Aside0 (Below w.heap.size w w') ∧ Aside0 ((Kd.fixed k49 w).R 49 w' w.heap.size (fun _ => True) v4 (callsTo h e i)))
  case atStart => exact ⟨0, rfl, rfl, ⟨rfl⟩, ⟨Below.refl _ _⟩, ⟨Kd.R_nil _ _ _ _ _⟩⟩
  case round =>
    obtain ⟨i, rfl, rfl, HG, HB, HL⟩ := hrel
    have hen := endsTo_le h i
    have hbd1 := HBD.out
    have hn1 := HN.out
    have hnb : n ≤ 1172812402960 := by omega
    obtain ⟨va, vc, hvs⟩ := Kd.R_slice HL.out
    subst hvs
    by_cases hlt : i < n
    · obtain ⟨wo, rfl⟩ : ∃ wo : World, wo = wr := ⟨_, rfl⟩
      obtain ⟨ad, A7, c7, A8, c8, eA, y0, y1, y2, y3, y4, y5, y6, y7, y8, l7, g7, l8, g8⟩ := at_T44 HR.out (i : Int) (by omega) (by omega)
      replace y0 := (HB.out.cell (World.block_lt_of_cell? w _ y0)).trans y0
      replace y1 := (HB.out.cell (World.block_lt_of_cell? w _ y1)).trans y1
      replace y2 := (HB.out.cell (World.block_lt_of_cell? w _ y2)).trans y2
      replace y3 := (HB.out.cell (World.block_lt_of_cell? w _ y3)).trans y3
      replace y4 := (HB.out.cell (World.block_lt_of_cell? w _ y4)).trans y4
      rw [Int.toNat_natCast] at y0 y1 y2 y3 y4
      obtain ⟨x, hx⟩ : ∃ x, x = rd_T44 h (i : Nat) := ⟨_, rfl⟩
      rw [← hx] at y0 y1 y2 y3 y4
      have hbn : decide ((i : Int) < (n : Int)) = true := decide_eq_true (by omega)
      have HX := Aside0.mk hx
      have HBN := Aside0.mk hbn
      subst eA
      clear hx y5 y6 y7 y8 l7 g7 l8 g8 hn1 hbd1
      by_cases hbg : x.f1 = true
      · rw [hbg] at y1
        obtain ⟨hm1, hm2, hm3, hm4, hm5, hm6⟩ := HGD.out.mat i (by have := HN.out; omega) (by rw [← HX.out]; exact hbg)
        obtain ⟨k0, hk0⟩ : ∃ k, k = e i := ⟨_, rfl⟩
        rw [← hk0] at hm1 hm2 hm3 hm4 hm5 hm6
        rw [← HX.out] at hm3 hm5 hm6
        have HK0 := Aside0.mk hk0
        have HM3 := Aside0.mk hm3
        have HM4 := Aside0.mk hm4
        have HM5 := Aside0.mk hm5
        have HM6 := Aside0.mk hm6
        have hm2' : k0 < n := by have := HN.out; omega
        clear hm2 hm3 hm4 hm5 hm6 hk0
        go_wp2
        obtain ⟨ad', A7, c7, A8, c8, eA, z0, z1, z2, z3, z4, z5, z6, z7, z8, l7, g7, l8, g8⟩ := at_T44 HR.out (k0 : Int) (by omega) (by have := HN.out; omega)
        injection eA with eA
        subst eA
        obtain ⟨y, hy⟩ : ∃ y, y = rd_T44 h (k0 : Nat) := ⟨_, rfl⟩
        rw [← hy] at z0 z1 z2 z3 z4 z5 z6 z7 z8 l7 g7 l8 g8
        rw [Int.toNat_natCast] at z0 z1 z2 z3 z4 z5 z6 z7 z8
        have HY := Aside0.mk hy
        have hcall : callOf h e i = ⟨i, k0, x.f2, y.f3⟩ := by unfold callOf; rw [← HK0.out, ← HY.out, ← HX.out]
        have HKC : Aside0 (k49.K w (callOf h e i) (cellsB i k0 x y A7 c7 A8 c8).toList) := ⟨by rw [hcall]; exact k49_mk w ⟨i, k0, x.f2, y.f3⟩ l7 g7 l8 g8⟩
        have HZ := Aside0.mk (And.intro z0 (And.intro z1 (And.intro z2 (And.intro z3 (And.intro z4 (And.intro z5 (And.intro z6 (And.intro z7 z8))))))))
        obtain ⟨b, hbb⟩ : ∃ b, b = wo.heap.size := ⟨_, rfl⟩
        have HBB := Aside0.mk hbb
        rw [← hbb]
        clear hbb z0 z1 z2 z3 z4 z5 z6 z7 z8 l7 g7 l8 g8 hcall hy
        go_loopg [8] (n - (i + 1)) (fun g v8 w2 => ∃ k : Nat, v8 = .int .i64 k ∧ Aside0 (g + k = n) ∧ Aside0 (i < k) ∧ Aside0 (Below wo.heap.size wo w2) ∧ Aside0 ((k ≤ k0 ∧ w2.heap[b]? = some (.cells (cellsA i x) 49 (0, 0))) ∨ (k = k0 + 1 ∧ w2.heap[b]? = some (.cells (cellsB i k0 x y A7 c7 A8 c8) 49 (0, 0)))))
        case atStart =>
          refine ⟨i + 1, by go_num, ⟨by omega⟩, ⟨by omega⟩, ⟨(Below.refl _ _).alloc (Nat.le_refl _) _⟩, ⟨.inl ⟨by omega, ?_⟩⟩⟩
          rw [HBB.out, heap_alloc_at]
          rfl
        case round =>
          obtain ⟨k, rfl, HGK, HIK, HB2, HST⟩ := hrel
          rcases HST.out with ⟨hk, hst⟩ | ⟨hk, hst⟩
          · obtain ⟨wm, rfl⟩ : ∃ wm : World, wm = wr := ⟨_, rfl⟩
            have hbw : Below w.heap.size w wm := below_then HB.out HB.out.size HB2.out
            obtain ⟨ad', A7', c7', A8', c8', eA, u0, v1, v2, v3, v4, v5, v6, v7, v8, l7, g7, l8, g8⟩ := at_T44 HR.out (k : Int) (by omega) (by have := HN.out; omega)
            clear v1 v2 v3 v4 v5 v6 v7 v8 l7 g7 l8 g8
            injection eA with eA
            subst eA
            replace u0 := (hbw.cell (World.block_lt_of_cell? w _ u0)).trans u0
            replace y0 := (HB2.out.cell (World.block_lt_of_cell? wo _ y0)).trans y0
            replace y2 := (HB2.out.cell (World.block_lt_of_cell? wo _ y2)).trans y2
            replace y3 := (HB2.out.cell (World.block_lt_of_cell? wo _ y3)).trans y3
            replace y4 := (HB2.out.cell (World.block_lt_of_cell? wo _ y4)).trans y4
            rw [Int.toNat_natCast] at u0
            have b1 : wm.cell? ⟨b, 1, none⟩ = some (.int .i64 (-1)) := (cell_of_blk hst 1).trans rfl
            have b5 : wm.cell? ⟨b, 5, none⟩ = some (.bool false) := (cell_of_blk hst 5).trans rfl
            have b6 : wm.cell? ⟨b, 6, none⟩ = some (.string { data := #[] }) := (cell_of_blk hst 6).trans rfl
            have b7 : wm.cell? ⟨b, 7, none⟩ = some (.slice none 0 0) := (cell_of_blk hst 7).trans rfl
            have b8 : wm.cell? ⟨b, 8, none⟩ = some (.slice none 0 0) := (cell_of_blk hst 8).trans rfl
            have f1 : wm.frozen? ⟨b, 1, none⟩ = false := frozen_of_blk hst 1
            have f5 : wm.frozen? ⟨b, 5, none⟩ = false := frozen_of_blk hst 5
            have f6 : wm.frozen? ⟨b, 6, none⟩ = false := frozen_of_blk hst 6
            have f7 : wm.frozen? ⟨b, 7, none⟩ = false := frozen_of_blk hst 7
            have f8 : wm.frozen? ⟨b, 8, none⟩ = false := frozen_of_blk hst 8
            have HS := Aside0.mk hst
            have HBW := Aside0.mk hbw
            have hbk : decide ((k : Int) < (n : Int)) = true := decide_eq_true (by omega)
            clear hst hbw
            by_cases hkk : k = k0
            · subst hkk
              obtain ⟨z0, z1, z2, z3, z4, z5, z6, z7, z8⟩ := HZ.out
              rw [HM3.out] at u0
              replace z1 := (HBW.out.cell (World.block_lt_of_cell? w _ z1)).trans z1
              replace z2 := (HBW.out.cell (World.block_lt_of_cell? w _ z2)).trans z2
              replace z3 := (HBW.out.cell (World.block_lt_of_cell? w _ z3)).trans z3
              replace z4 := (HBW.out.cell (World.block_lt_of_cell? w _ z4)).trans z4
              replace z5 := (HBW.out.cell (World.block_lt_of_cell? w _ z5)).trans z5
              replace z6 := (HBW.out.cell (World.block_lt_of_cell? w _ z6)).trans z6
              replace z7 := (HBW.out.cell (World.block_lt_of_cell? w _ z7)).trans z7
              replace z8 := (HBW.out.cell (World.block_lt_of_cell? w _ z8)).trans z8
              have hy1 : y.f1 = false := by rw [HY.out]; exact HM4.out
              have hy2 : y.f2 = x.f2 := by rw [HY.out]; exact HM5.out
              rw [hy1] at z1
              rw [hy2] at z2 z3 z4
              have hq : decide (x.f0 = x.f0) = true := decide_eq_true rfl
              clear hy1 hy2
              go_wp2
              go_quiet (fail)
              go_wp2
              go_quiet (fail)
              go_wp2
              go_roundg (gk - 1)
              case measure => have := HGK.out; omega
              case rel =>
                have hs0 : ∀ m, (wm.drewN m).heap[b]? = some (.cells (cellsA i x) 49 (0, 0)) := fun m => HS.out
                refine ⟨k + 1, by go_num, ⟨by have := HGK.out; omega⟩, ⟨by have := HIK.out; omega⟩, ⟨?_⟩, ⟨.inr ⟨rfl, ?_⟩⟩⟩
                · have hbb : ∀ o, wo.heap.size ≤ (⟨b, o, none⟩ : Addr).block := fun o => by show wo.heap.size ≤ b; rw [HBB.out]; exact Nat.le_refl _
                  exact ((((((pw_below_drewN HB2.out _).setCell (hbb 1) _).setCell (hbb 5) _).setCell (hbb 6) _).setCell (hbb 7) _).setCell (hbb 8) _)
                · exact set9 (hs0 _) k y.f3.f0 y.f3.f1 (.slice A7 y.f3.f2.length c7) (.slice A8 y.f3.f3.length c8)
            · have hne : (rd_T44 h (k : Nat)).f0 ≠ x.f0 := HM6.out k HIK.out (by omega)
              obtain ⟨c2, hc2⟩ : ∃ c2, c2 = (rd_T44 h (k : Nat)).f0 := ⟨_, rfl⟩
              rw [← hc2] at u0 hne
              clear hc2
              have hdec : decide (c2 = x.f0) = false := decide_eq_false hne
              clear y2 y3 y4
              go_wp2
              go_quiet (fail)
              go_wp2
              go_roundg (gk - 1)
              case measure => have := HGK.out; omega
              case rel => exact ⟨k + 1, by go_num, ⟨by have := HGK.out; omega⟩, ⟨by have := HIK.out; omega⟩, ⟨pw_below_drewN HB2.out _⟩, ⟨.inl ⟨by omega, HS.out⟩⟩⟩
          · obtain ⟨wm, rfl⟩ : ∃ wm : World, wm = wr := ⟨_, rfl⟩
            have hbw : Below w.heap.size w wm := below_then HB.out HB.out.size HB2.out
            have b0 : wm.cell? ⟨b, 0, none⟩ = some (.int .i64 i) := (cell_of_blk hst 0).trans rfl
            have b1 : wm.cell? ⟨b, 1, none⟩ = some (.int .i64 k0) := (cell_of_blk hst 1).trans rfl
            have b2 : wm.cell? ⟨b, 2, none⟩ = some (.int .i64 x.f2.f0) := (cell_of_blk hst 2).trans rfl
            have b3 : wm.cell? ⟨b, 3, none⟩ = some (.int .i64 x.f2.f1) := (cell_of_blk hst 3).trans rfl
            have b4 : wm.cell? ⟨b, 4, none⟩ = some (.string x.f2.f2) := (cell_of_blk hst 4).trans rfl
            have b5 : wm.cell? ⟨b, 5, none⟩ = some (.bool y.f3.f0) := (cell_of_blk hst 5).trans rfl
            have b6 : wm.cell? ⟨b, 6, none⟩ = some (.string y.f3.f1) := (cell_of_blk hst 6).trans rfl
            have b7 : wm.cell? ⟨b, 7, none⟩ = some (.slice A7 y.f3.f2.length c7) := (cell_of_blk hst 7).trans rfl
            have b8 : wm.cell? ⟨b, 8, none⟩ = some (.slice A8 y.f3.f3.length c8) := (cell_of_blk hst 8).trans rfl
            subst hk
            have hge : decide ((k0 : Int) < 0) = false := decide_eq_false (by omega)
            have HS := Aside0.mk hst
            have HBW := Aside0.mk hbw
            have hL2 := Kd.R_below HL.out HB2.out
            have HL2 := Aside0.mk hL2
            have hcl := callsTo_le h e i
            have hbig : Aside0 (((callsTo h e i).length + 1) * 120 ≤ 140737488355328) := ⟨by omega⟩
            obtain ⟨lp, hlp⟩ : ∃ l, l = callsTo h e i := ⟨_, rfl⟩
            have HLP := Aside0.mk hlp
            rw [← hlp] at hcl
            rw [← hlp]
            clear hst hbw hL2 hlp
            by_cases hkn : k0 + 1 < n
            · have hbk : decide (((k0 + 1 : Nat) : Int) < (n : Int)) = true := decide_eq_true (by omega)
              go_wp2_with (first | (at_builtin; refine Kd.R_append (Kd.fixed k49 w) (w0 := w) w.heap.size rfl (.tmp 83) (.tmp 85) 45 49 _ 120 rfl Try.underlying45 tinfo49 rfl (show 0 < 9 by decide) (by decide) (.slice va lp.length vc) lp (callOf h e i) (cellsB i k0 x y A7 c7 A8 c8).toList (fun _ => True) (fun _ => False) rfl rfl HKC.out (fun _ hk => hk.elim) (fun _ _ => trivial) (by rw [HLP.out]; exact HL2.out) HBW.out HBW.out.size (by rw [HLP.out]; exact hbig.out) ?_; intro v' w5 ho hbb hg hat; have HO5 := Aside0.mk ho; have HB5 := Aside0.mk hbb; clear ho hbb hg hat))
              go_roundg (n - (i + 1))
              case measure => have := HG.out; omega
              case rel =>
                refine ⟨i + 1, by rw [endsTo_yes h i (by rw [← HX.out]; exact hbg)], by go_num, ⟨by have := HG.out; omega⟩, HB5, ⟨?_⟩⟩
                rw [callsTo_yes h e i (by rw [← HX.out]; exact hbg), ← HLP.out]
                exact HO5.out
            · have hbk : decide (((k0 + 1 : Nat) : Int) < (n : Int)) = false := decide_eq_false (by omega)
              go_wp2_with (first | (at_builtin; refine Kd.R_append (Kd.fixed k49 w) (w0 := w) w.heap.size rfl (.tmp 83) (.tmp 85) 45 49 _ 120 rfl Try.underlying45 tinfo49 rfl (show 0 < 9 by decide) (by decide) (.slice va lp.length vc) lp (callOf h e i) (cellsB i k0 x y A7 c7 A8 c8).toList (fun _ => True) (fun _ => False) rfl rfl HKC.out (fun _ hk => hk.elim) (fun _ _ => trivial) (by rw [HLP.out]; exact HL2.out) HBW.out HBW.out.size (by rw [HLP.out]; exact hbig.out) ?_; intro v' w5 ho hbb hg hat; have HO5 := Aside0.mk ho; have HB5 := Aside0.mk hbb; clear ho hbb hg hat))
              go_roundg (n - (i + 1))
              case measure => have := HG.out; omega
              case rel =>
                refine ⟨i + 1, by rw [endsTo_yes h i (by rw [← HX.out]; exact hbg)], by go_num, ⟨by have := HG.out; omega⟩, HB5, ⟨?_⟩⟩
                rw [callsTo_yes h e i (by rw [← HX.out]; exact hbg), ← HLP.out]
                exact HO5.out
      · have hbg' : x.f1 = false := by simpa using hbg
        rw [hbg'] at y1
        have hes := endsTo_no h i (by rw [← HX.out]; exact hbg')
        have hcs := callsTo_no h e i (by rw [← HX.out]; exact hbg')
        have hL2 : Aside0 ((Kd.fixed k49 w).R 49 wo w.heap.size (fun _ => True) (.slice va (callsTo h e i).length vc) (callsTo h e (i + 1))) := ⟨by rw [hcs]; exact HL.out⟩
        clear hcs
        go_wp2
        go_roundg (gk - 1)
        case measure => have := HG.out; omega
        case rel => exact ⟨i + 1, by rw [hes]; go_num, by go_num, ⟨by have := HG.out; omega⟩, HB, hL2⟩
    · have hin : i = n := by have := HG.out; omega
      subst hin
      have hbn : decide ((i : Int) < (i : Int)) = false := decide_eq_false (by omega)
      have hcn : ((endsTo h i : Nat) : Int) = ((callsTo h e i).length : Int) := by have := HGD.out.cnt; rw [← HN.out] at this; omega
      have hL2 := HL.out
      have HL2 := Aside0.mk hL2
      obtain ⟨lp, hlp⟩ : ∃ l, l = callsTo h e i := ⟨_, rfl⟩
      rw [← hlp] at hcn
      have HLP := Aside0.mk hlp
      rw [← hlp]
      rw [hcn]
      clear hL2 hlp
      go_wp2
      go_ret2
      refine ⟨_, rfl, ?_, HB.out⟩
      have := HL2.out
      rw [← HLP.out] at this
      rw [← HLP.out]
      exact this
end Go.Proofs.Ytdflfjcnogokgaa.PTableEnds
