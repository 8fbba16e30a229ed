/- TableEnds (function 4): the walk. -/
import Derived.Test.YtdflfjcnogokgaaTM
import Derived.Test.YtdflfjcnogokgaaTN
set_option linter.unusedVariables false
set_option linter.unusedSimpArgs false
namespace Go.Proofs.Ytdflfjcnogokgaa.PTableEnds
open Go.RowKit Go.Proofs.YtdflfjcnogokgaaW.PrintWords Go.Proofs.YtdflfjcnogokgaaW.PrintLast Go.Proofs.YtdflfjcnogokgaaW.PrintMore
open Go.FT Go.MuLone

def mine (h : List S44) (l : List S49) (m : Nat) : List S31 := (l.filter (fun c => (rd_T44 h c.f0).f0 == (m : Int))).map (·.f2)
structure LawOk (l0 : List (List S31)) (h : List S44) (e : Nat → Nat) : Prop where
  good : Good h e
  cli : ∀ i : Nat, i < h.length → (rd_T44 h i).f1 = true → ∃ m : Nat, m < l0.length ∧ (rd_T44 h i).f0 = m
  ops : ∀ m : Nat, m < l0.length → mine h (callsTo h e h.length) m = (rd_L3 l0 m).filter okOp
/-- How far the calls are found: G says what is found of each client. -/
structure AtOk (l0 : List (List S31)) (xs : List Int) (G : Nat → List S31) : Prop where
  len : xs.length = l0.length
  at_ : ∀ m : Nat, m < l0.length → ∃ a : Nat, xs[m]? = some (a : Int) ∧ a ≤ (rd_L3 l0 m).length ∧ ((rd_L3 l0 m).take a).filter okOp = G m
theorem AtOk.skip {l0 : List (List S31)} {xs : List Int} {G : Nat → List S31} (h : AtOk l0 xs G) {m a : Nat} {x : S31} (hm : m < l0.length) (ha : xs[m]? = some (a : Int)) (hx : (rd_L3 l0 m)[a]? = some x) (hok : okOp x = false) : AtOk l0 (xs.set m ((a : Int) + 1)) G := by
  refine ⟨by rw [List.length_set]; exact h.len, fun m' hm' => ?_⟩
  by_cases e : m' = m
  · subst e
    obtain ⟨a', h1, h2, h3⟩ := h.at_ m' hm'
    rw [ha] at h1
    have : a = a' := by injection h1 with h1; omega
    subst this
    have hlt := (List.getElem?_eq_some_iff.1 hx).1
    refine ⟨a + 1, ?_, by omega, by rw [take_filter_no hx hok]; exact h3⟩
    rw [List.getElem?_set_self (by rw [h.len]; exact hm')]
    rfl
  · obtain ⟨a', h1, h2, h3⟩ := h.at_ m' hm'
    exact ⟨a', by rw [List.getElem?_set_ne (by omega)]; exact h1, h2, h3⟩
theorem AtOk.take {l0 : List (List S31)} {xs : List Int} {G G' : Nat → List S31} (h : AtOk l0 xs G) {m a : Nat} {x : S31} (hm : m < l0.length) (ha : xs[m]? = some (a : Int)) (hx : (rd_L3 l0 m)[a]? = some x) (hok : okOp x = true) (hG : G' m = G m ++ [x]) (hG' : ∀ k, k ≠ m → G' k = G k) : AtOk l0 (xs.set m ((a : Int) + 1)) G' := by
  refine ⟨by rw [List.length_set]; exact h.len, fun m' hm' => ?_⟩
  by_cases e : m' = m
  · subst e
    obtain ⟨a', h1, h2, h3⟩ := h.at_ m' hm'
    rw [ha] at h1
    have : a = a' := by injection h1 with h1; omega
    subst this
    have hlt := (List.getElem?_eq_some_iff.1 hx).1
    refine ⟨a + 1, ?_, by omega, by rw [take_filter_yes hx hok, h3, hG]⟩
    rw [List.getElem?_set_self (by rw [h.len]; exact hm')]
    rfl
  · obtain ⟨a', h1, h2, h3⟩ := h.at_ m' hm'
    exact ⟨a', by rw [List.getElem?_set_ne (by omega)]; exact h1, h2, by rw [h3, hG' m' e]⟩
theorem mine_take {h : List S44} {l : List S49} {i : Nat} {c : S49} {m : Nat} (hc : l[i]? = some c) (hm : (rd_T44 h c.f0).f0 = (m : Int)) : mine h (l.take (i + 1)) m = mine h (l.take i) m ++ [c.f2] ∧ (∀ k, k ≠ m → mine h (l.take (i + 1)) k = mine h (l.take i) k) ∧ ∃ R, mine h l m = mine h (l.take i) m ++ c.f2 :: R := by
  have h1 : l.take (i + 1) = l.take i ++ [c] := by rw [List.take_add_one, hc]; rfl
  have h2 : l = l.take i ++ c :: l.drop (i + 1) := by
    have hlt := (List.getElem?_eq_some_iff.1 hc).1
    have := (List.take_append_drop i l).symm
    rw [List.drop_eq_getElem_cons hlt] at this
    rw [(List.getElem?_eq_some_iff.1 hc).2] at this
    exact this
  refine ⟨?_, fun k hk => ?_, mine h (l.drop (i + 1)) m, ?_⟩
  · rw [h1]; unfold mine; rw [List.filter_append, List.map_append]; simp [hm]
  · rw [h1]; unfold mine; rw [List.filter_append, List.map_append]
    have : ((m : Int) == (k : Int)) = false := by simp; omega
    simp [hm, this]
  · conv => lhs; rw [h2]
    unfold mine; rw [List.filter_append, List.map_append]; simp [hm]
/-- What the next call of a client is, given how far it is. -/
theorem next_ok {ops D R : List S31} {a : Nat} {x : S31} (ha : a ≤ ops.length) (h1 : (ops.take a).filter okOp = D) (h2 : ops.filter okOp = D ++ x :: R) : a < ops.length ∧ ∀ y, ops[a]? = some y → okOp y = true → y = x := by
  have h3 : (ops.drop a).filter okOp = x :: R := by
    have := congrArg (List.filter okOp) (List.take_append_drop a ops)
    rw [List.filter_append, h1, h2] at this
    exact List.append_cancel_left this
  have hlt : a < ops.length := by
    refine Nat.lt_of_not_le fun h => ?_
    rw [List.drop_eq_nil_of_le h] at h3
    simp at h3
  refine ⟨hlt, fun y hy hok => ?_⟩
  rw [List.drop_eq_getElem_cons hlt, (List.getElem?_eq_some_iff.1 hy).2, List.filter_cons, if_pos hok] at h3
  injection h3
theorem rest_no {ops : List S31} {a : Nat} {y : S31} (h1 : (ops.take a).filter okOp = ops.filter okOp) (hy : ops[a]? = some y) : okOp y = false := by
  have h3 : (ops.drop a).filter okOp = [] := by
    have := congrArg (List.filter okOp) (List.take_append_drop a ops)
    rw [List.filter_append, h1] at this
    have h := congrArg List.length this
    rw [List.length_append] at h
    exact List.length_eq_zero_iff.1 (by omega)
  have hlt := (List.getElem?_eq_some_iff.1 hy).1
  rw [List.drop_eq_getElem_cons hlt, (List.getElem?_eq_some_iff.1 hy).2, List.filter_cons] at h3
  by_cases hok : okOp y = true
  · rw [if_pos hok] at h3; simp at h3
  · simpa using hok
theorem int_cell {W : World} {base g n cap : Nat} {ok : Nat → Prop} {xs : List Int} (h : (Kd.int .i64).R 3 W base ok (.slice (some ⟨g, 0, none⟩) n cap) xs) {m a : Nat} (ha : xs[m]? = some (a : Int)) : W.cell? ⟨g, m, none⟩ = some (.int .i64 a) ∧ W.frozen? ⟨g, m, none⟩ = false := by
  obtain ⟨rfl, _⟩ := Kd.R_reads' h
  have hm := (List.getElem?_eq_some_iff.1 ha).1
  have := Kd.R_cell (0 : Int) h (m : Int) (by omega) (by omega)
  rw [Int.toNat_natCast] at this
  refine ⟨?_, this.2⟩
  rw [this.1]
  simp [rdOf, List.getD_eq_getElem?_getD, ha]
theorem call_at {l0 : List (List S31)} {h : List S44} {e : Nat → Nat} {l : List S49} (hL : LawOk l0 h e) (hl : l = callsTo h e h.length) {i : Nat} (hi : i < l.length) :
    ∃ j m : Nat, j < h.length ∧ m < l0.length ∧ (rd_T49 l (i : Int)).f0 = (j : Int) ∧ (rd_T44 h (j : Int)).f0 = (m : Int) ∧ l[i]? = some (rd_T49 l (i : Int)) := by
  have hm : l[i]? = some (rd_T49 l (i : Int)) := by simp [rd_T49, List.getD_eq_getElem?_getD, hi]
  generalize rd_T49 l (i : Int) = c at hm ⊢
  have hmem := List.mem_of_getElem? hm
  rw [hl] at hmem
  unfold callsTo at hmem
  obtain ⟨j, hj, e⟩ := List.mem_map.1 hmem
  obtain ⟨hj1, hj2⟩ := List.mem_filter.1 hj
  have hjl := List.mem_range.1 hj1
  obtain ⟨m, hm1, hm2⟩ := hL.cli j hjl hj2
  exact ⟨j, m, hjl, hm1, by rw [← e]; rfl, hm2, hm⟩

set_option maxRecDepth 100000 in
set_option maxHeartbeats 8000000 in
theorem ends_any (A0 : Option Addr) (c0 : Nat) (l0 : List (List S31)) (A1 : Option Addr) (c1 : Nat) (l1 : List Int) (k : Nat) (r : Bool) (w : World) (hr0 : Kd.C (Kd.slice 31 k31) w A0 l0.length l0) (hc0 : l0.length ≤ c0) (hr1 : Kd.C (Kd.int .i64) w A1 l1.length l1) (hc1 : l1.length ≤ c1) (hc1m : c1 ≤ 9223372036854775807)
    (hk : fuguelaw11_long.f k l0 l1 = some r) (hb : r = false → (left (start l0) + 1) * 120 ≤ 140737488355328 ∧ ((pplay l0 l1).length + 1) * 120 ≤ 140737488355328) (hlaw : l0.length ≤ 64 → ∃ e, LawOk l0 (pplay l0 l1) e) :
    Calls Try.prog 4 #[.slice A0 l0.length c0, .slice A1 l1.length c1] w fun e w' => e = .returned (.bool true) ∧ Below w.heap.size w w' := by
  have hm0 := hr0.2.1
  have HR0 := Aside0.mk hr0
  have HC0 := Aside0.mk hc0
  have HR1 := Aside0.mk hr1
  have HC1 := Aside0.mk hc1
  have HC1M := Aside0.mk hc1m
  have HK := Aside0.mk hk
  have HBD := Aside0.mk hb
  have HLAW := Aside0.mk hlaw
  clear hr0 hc0 hr1 hc1 hc1m hk hb hlaw
  go_enter Try.func4, Try.ntmps4
  go_wp2_with (go_at_call 8; refine Stopped.go ?_)
  refine ⟨?_⟩
  refine (fuguelaw11_long.calls k A0 c0 l0 A1 c1 l1 r w HR0.out HC0.out HR1.out HC1.out HK.out).mono ?_
  rintro e w1 ⟨rfl, hd1⟩
  have hb1 : Below w.heap.size w w1 := hd1.below
  have HB1 := Aside0.mk hb1
  clear hd1 hb1
  cases r with
  | true =>
    go_wp2
    go_ret
    exact ⟨rfl, HB1.out⟩
  | false =>
    obtain ⟨hbp, hbh⟩ := HBD.out rfl
    have HBP := Aside0.mk hbp
    have HBH := Aside0.mk hbh
    clear hbp hbh HBD HK
    go_wp2_with (go_at_call 9; refine Stopped.go ?_)
    refine ⟨?_⟩
    refine (lives_any w1).mono ?_
    rintro e w2 ⟨rfl, hb2⟩
    have HB2 := Aside0.mk (below_then HB1.out HB1.out.size hb2)
    have HR02 := Aside0.mk (Kd.C_below HR0.out HB2.out)
    have HR12 := Aside0.mk (Kd.C_below HR1.out HB2.out)
    clear hb2 HB1
    by_cases h64 : l0.length ≤ 64
    · go_wp2_with (go_at_call 12; refine Stopped.go ?_)
      refine ⟨?_⟩
      refine (play_any A0 c0 l0 A1 c1 l1 w2 HR02.out HC0.out HR12.out HC1.out HC1M.out h64 HBP.out).mono ?_
      rintro e w3 ⟨v, rfl, hR, hb3⟩
      obtain ⟨Ah, ch, rfl, hlh, hCh⟩ := Kd.R_reads hR
      obtain ⟨ee, hlw⟩ := HLAW.out h64
      have HB3 := Aside0.mk (below_then HB2.out HB2.out.size hb3)
      obtain ⟨h, hh⟩ : ∃ h, h = pplay l0 l1 := ⟨_, rfl⟩
      have HBH2 := Aside0.mk HBH.out
      rw [← hh] at hlh hCh hlw HBH2
      rw [← hh]
      have HLH := Aside0.mk hlh
      have HCH := Aside0.mk hCh
      have HLW := Aside0.mk hlw
      have hgt : decide ((l0.length : Int) > 64) = false := decide_eq_false (by omega)
      clear hR hb3 hlh hCh hlw hh HBH HLAW HB2 HR02 HR12
      go_wp2_with (go_at_call 21; refine Stopped.go ?_)
      refine ⟨?_⟩
      refine (callsOf_any Ah ch h ee w3 HCH.out HLH.out HLW.out.good HBH2.out).mono ?_
      rintro e w4 ⟨v, rfl, hR, hb4⟩
      obtain ⟨l, hl⟩ : ∃ l, l = callsTo h ee h.length := ⟨_, rfl⟩
      rw [← hl] at hR
      obtain ⟨Al, cl, rfl, hll, hCl⟩ := Kd.R_reads hR
      have HB4 := Aside0.mk (below_then HB3.out HB3.out.size hb4)
      have HC4 := Aside0.mk (Kd.C_below HCH.out hb4)
      have HLC := Aside0.mk (Kd.C_read (d := k49) (dm := Kd.fixed k49 w3) rfl (fun x cs hx => k49.K_below hb4 hx) hCl)
      have HL := Aside0.mk hl
      have HLL := Aside0.mk hll
      clear hR hb4 hll hCl hl HCH HB3
      go_wp2_with (first | (at_make; refine Kd.R_make (Kd.int .i64) (w0 := w) w.heap.size 3 rfl rfl 23 _ _ rfl (l0.length : Int) rfl rfl Try.underlying23 (.int .i64 0) 8 tinfo3 rfl (by decide) (by decide) 0 (ok := fun _ => True) (okp := fun _ => False) rfl (fun _ h => h.elim) trivial (by omega) (by omega) HB4.out HB4.out.size ?_; intro v9 w5 ho5 hb5 hg5 hat5; refine Stopped.go ?_))
      refine ⟨?_⟩
      obtain ⟨g, cap, hv9, hgb⟩ : ∃ g cap, v9 = .slice (some ⟨g, 0, none⟩) l0.length cap ∧ w4.heap.size ≤ g := by
        obtain ⟨b9, hob, hle⟩ := hat5
        obtain ⟨inner, how⟩ := Kd.R_own ho5
        obtain ⟨va, vc, hvs⟩ := Kd.R_slice ho5
        rw [List.length_replicate, Int.toNat_natCast] at hvs
        rcases how.2 with ⟨e9, _⟩ | ⟨g, cap, cur, e9, _⟩
        · rw [e9] at hob; simp [Value.ownBlock] at hob
        · rw [e9] at hob hvs
          injection hvs with hv1 hv2 hv3
          refine ⟨g, cap, by rw [e9, hv2], ?_⟩
          simp [Value.ownBlock] at hob
          omega
      subst hv9
      have HGB := Aside0.mk hgb
      have HO5 := Aside0.mk ho5
      have hB5 : Below w4.heap.size w4 w5 := ⟨hg5.os, hg5.tape, hg5.output, hg5.size, fun q hq => hg5.block q hq (fun e => by cases e)⟩
      have HB5 := Aside0.mk hB5
      clear ho5 hb5 hg5 hat5 hgb hB5
      go_wp2
      go_loopg [10] l.length (fun gh v10 w' => ∃ (i : Nat) (xs : List Int), v10 = .int .i64 i ∧ Aside0 (gh + i = l.length) ∧ Aside0 (Below w4.heap.size w4 w') ∧ Aside0 ((Kd.int .i64).R 3 w' w.heap.size (fun _ => True) (.slice (some ⟨g, 0, none⟩) l0.length cap) xs) ∧ Aside0 (AtOk l0 xs (mine h (l.take i))))
      case atStart =>
        refine ⟨0, List.replicate l0.length 0, rfl, ⟨rfl⟩, HB5, ⟨HO5.out⟩, ⟨⟨by simp, fun m hm => ⟨0, by simp [hm], Nat.zero_le _, by simp [mine]⟩⟩⟩⟩
      case round =>
        obtain ⟨i, xs, rfl, HG, HB, HO, HA⟩ := hrel
        have hll : l.length ≤ 1172812402960 := by
          have h1 := callsTo_le h ee h.length
          rw [← HL.out] at h1
          have := HBH2.out
          omega
        by_cases hlt : i < l.length
        · obtain ⟨wo, rfl⟩ : ∃ wo : World, wo = wr := ⟨_, rfl⟩
          obtain ⟨j, m, hj, hm, hcj, hcm, hci⟩ := call_at HLW.out HL.out hlt
          obtain ⟨c, hc⟩ : ∃ c, c = rd_T49 l (i : Int) := ⟨_, rfl⟩
          rw [← hc] at hcj hci
          obtain ⟨ad, A7, c7, A8, c8, eA, p0, p1, p2, p3, p4, p5, p6, p7, p8, l7, g7, l8, g8⟩ := at_T49 HLC.out (i : Int) (by omega) (by omega)
          subst eA
          clear p1 p5 p6 p7 p8 l7 g7 l8 g8
          rw [← hc] at p0 p2 p3 p4
          obtain ⟨adh, A7, c7, A8, c8, eA, q0, q1, q2, q3, q4, q5, q6, q7, q8, l7, g7, l8, g8⟩ := at_T44 HC4.out (j : Int) (by omega) (by omega)
          subst eA
          clear q1 q2 q3 q4 q5 q6 q7 q8 l7 g7 l8 g8
          obtain ⟨ad0, Am, cm, eA, r0, hcmm, hCm⟩ := at_L3 (Kd.C_below HR0.out HB4.out) (m : Int) (by omega) (by omega)
          subst eA
          rw [hcj] at p0
          rw [hcm] at q0
          obtain ⟨ops, hops⟩ : ∃ ops, ops = rd_L3 l0 (m : Int) := ⟨_, rfl⟩
          rw [← hops] at r0 hcmm hCm
          rw [Int.toNat_natCast] at p0 p2 p3 p4 q0 r0
          have P0 := (HB.out.cell (World.block_lt_of_cell? w4 _ p0)).trans p0
          have Q0 := (HB.out.cell (World.block_lt_of_cell? w4 _ q0)).trans q0
          have HOPS := Aside0.mk hops
          have HPS := Aside0.mk (And.intro p2 (And.intro p3 p4))
          have HR := Aside0.mk r0
          have HCM := Aside0.mk hCm
          have HCI := Aside0.mk hci
          have HCJ := Aside0.mk hcj
          have HMJ := Aside0.mk hcm
          have hbn : decide ((i : Int) < (l.length : Int)) = true := decide_eq_true (by omega)
          have hm1 : decide ((m : Int) < 0) = false := decide_eq_false (by omega)
          have hm2 : decide (l0.length ≤ m) = false := decide_eq_false (by omega)
          clear hc p0 p2 p3 p4 q0 r0 hcmm hCm hops hci hcj hcm
          go_wp2
          obtain ⟨a0, ha0, hal, haf⟩ := HA.out.at_ m hm
          have HA0 := Aside0.mk ha0
          clear ha0 hal haf
          go_loopg [66] (ops.length - a0) (fun gh v66 w2 => ∃ (a : Nat) (xs' : List Int), Aside0 (gh = ops.length - a) ∧ Aside0 (xs'[m]? = some (a : Int)) ∧ Aside0 (Below w4.heap.size w4 w2) ∧ Aside0 ((Kd.int .i64).R 3 w2 w.heap.size (fun _ => True) (.slice (some ⟨g, 0, none⟩) l0.length cap) xs') ∧ Aside0 (AtOk l0 xs' (mine h (l.take i))))
          case atStart => exact ⟨a0, xs, ⟨rfl⟩, HA0, HB, HO, HA⟩
          case round =>
            obtain ⟨a, xs', HGA, HXA, HB2, HO2, HA2⟩ := hrel
            obtain ⟨wm, rfl⟩ : ∃ wm : World, wm = wr := ⟨_, rfl⟩
            obtain ⟨hmt1, hmt2, R, hmt3⟩ := mine_take HCI.out (m := m) (by rw [HCJ.out]; exact HMJ.out)
            obtain ⟨a', ha', hal', haf'⟩ := HA2.out.at_ m hm
            have : a = a' := by have := HXA.out; rw [ha'] at this; injection this with this; omega
            subst this
            rw [← HOPS.out] at hal' haf'
            have hlw := HLW.out.ops m hm
            rw [← HL.out, hmt3, ← HOPS.out] at hlw
            obtain ⟨hax, hax2⟩ := next_ok hal' haf' hlw.symm
            have hget : ops[a]? = some (rd_T31 ops (a : Int)) := by simp [rd_T31, List.getD_eq_getElem?_getD, hax]
            obtain ⟨x, hx⟩ : ∃ x, x = rd_T31 ops (a : Int) := ⟨_, rfl⟩
            obtain ⟨adx, eA, z0, z1, z2⟩ := at_T31 HCM.out (a : Int) (by omega) (by omega)
            subst eA
            rw [← hx] at z0 z1 z2 hget
            rw [Int.toNat_natCast] at z0 z1 z2
            obtain ⟨g0, gf⟩ := int_cell HO2.out HXA.out
            have R0 := (HB2.out.cell (World.block_lt_of_cell? w4 _ HR.out)).trans HR.out
            have Z0 := (HB2.out.cell (World.block_lt_of_cell? w4 _ z0)).trans z0
            have hopl : ops.length ≤ 9223372036854775807 := HCM.out.2.1
            have hlt2 : decide ((a : Int) < (ops.length : Int)) = true := decide_eq_true (by omega)
            have HGET := Aside0.mk hget
            have HMT1 := Aside0.mk hmt1
            have HMT2 := Aside0.mk hmt2
            have HAX2 := Aside0.mk (hax2 x hget)
            have HZ := Aside0.mk (And.intro z1 z2)
            clear hmt1 hmt2 hmt3 ha' hal' haf' hlw hax2 hget z0 z1 z2 hx P0 Q0
            by_cases h1 : 1 ≤ x.f0
            · by_cases h3 : x.f0 ≤ 3
              · have hok : Aside0 (okOp x = true) := ⟨by simp [okOp, h1, h3]⟩
                have hxc : x = c.f2 := HAX2.out hok.out
                obtain ⟨z1, z2⟩ := HZ.out
                obtain ⟨p2, p3, p4⟩ := HPS.out
                rw [← hxc] at p2 p3 p4
                replace p2 := (HB2.out.cell (World.block_lt_of_cell? w4 _ p2)).trans p2
                replace p3 := (HB2.out.cell (World.block_lt_of_cell? w4 _ p3)).trans p3
                replace p4 := (HB2.out.cell (World.block_lt_of_cell? w4 _ p4)).trans p4
                replace z1 := (HB2.out.cell (World.block_lt_of_cell? w4 _ z1)).trans z1
                replace z2 := (HB2.out.cell (World.block_lt_of_cell? w4 _ z2)).trans z2
                have hge : decide ((a : Int) ≥ (ops.length : Int)) = false := decide_eq_false (by omega)
                have hu31 := Try.underlying31
                have HXC := Aside0.mk hxc
                clear hxc
                go_wp2
                go_quiet (fail)
                go_wp2
                go_quiet (fail)
                go_wp2
                go_roundg (l.length - (i + 1))
                case measure => have := HG.out; omega
                case rel =>
                  refine ⟨i + 1, xs'.set m ((a : Int) + 1), by go_num, ⟨by have := HG.out; omega⟩, ⟨?_⟩, ⟨?_⟩, ⟨HA2.out.take hm HXA.out (by rw [← HOPS.out]; exact HGET.out) hok.out (by rw [HMT1.out, HXC.out]) HMT2.out⟩⟩
                  · exact (pw_below_drewN HB2.out _).setCell (p := ⟨g, m, none⟩) HGB.out _
                  · have := fun q => Kd.R_putn (Kd.R_drewN HO2.out q) (m : Int) ((a : Int) + 1)
                    rw [Int.toNat_natCast] at this
                    exact this _
              · have hok : Aside0 (okOp x = false) := ⟨by simp [okOp]; omega⟩
                go_wp2
                go_quiet (fail)
                go_wp2
                go_roundg (gk - 1)
                case measure => have := HGA.out; omega
                case rel =>
                  refine ⟨a + 1, xs'.set m ((a : Int) + 1), ⟨by have := HGA.out; omega⟩, ⟨?_⟩, ⟨?_⟩, ⟨?_⟩, ⟨HA2.out.skip hm HXA.out (by rw [← HOPS.out]; exact HGET.out) hok.out⟩⟩
                  · rw [List.getElem?_set_self (by rw [HA2.out.len]; exact hm)]; rfl
                  · exact (pw_below_drewN HB2.out _).setCell (p := ⟨g, m, none⟩) HGB.out _
                  · have := Kd.R_putn (Kd.R_drewN HO2.out nq) (m : Int) ((a : Int) + 1)
                    rw [Int.toNat_natCast] at this
                    exact this
            · have hok : Aside0 (okOp x = false) := ⟨by simp [okOp]; omega⟩
              go_wp2
              go_quiet (fail)
              go_wp2
              go_roundg (gk - 1)
              case measure => have := HGA.out; omega
              case rel =>
                refine ⟨a + 1, xs'.set m ((a : Int) + 1), ⟨by have := HGA.out; omega⟩, ⟨?_⟩, ⟨?_⟩, ⟨?_⟩, ⟨HA2.out.skip hm HXA.out (by rw [← HOPS.out]; exact HGET.out) hok.out⟩⟩
                · rw [List.getElem?_set_self (by rw [HA2.out.len]; exact hm)]; rfl
                · exact (pw_below_drewN HB2.out _).setCell (p := ⟨g, m, none⟩) HGB.out _
                · have := Kd.R_putn (Kd.R_drewN HO2.out nq) (m : Int) ((a : Int) + 1)
                  rw [Int.toNat_natCast] at this
                  exact this
        · have hie : i = l.length := by have := HG.out; omega
          subst hie
          obtain ⟨wo, rfl⟩ : ∃ wo : World, wo = wr := ⟨_, rfl⟩
          have hbn : decide ((l.length : Int) < (l.length : Int)) = false := decide_eq_false (by omega)
          have hGm : ∀ m, m < l0.length → mine h (l.take l.length) m = (rd_L3 l0 (m : Nat)).filter okOp := fun m hm => by rw [List.take_length, HL.out]; exact HLW.out.ops m hm
          have HGM := Aside0.mk hGm
          clear hGm
          go_wp2
          go_loopg [12] l0.length (fun gh v12 w' => ∃ (n : Nat) (xs : List Int), v12 = .int .i64 n ∧ Aside0 (gh + n = l0.length) ∧ Aside0 (Below w4.heap.size w4 w') ∧ Aside0 ((Kd.int .i64).R 3 w' w.heap.size (fun _ => True) (.slice (some ⟨g, 0, none⟩) l0.length cap) xs) ∧ Aside0 (AtOk l0 xs (mine h (l.take l.length))))
          case atStart => exact ⟨0, xs, rfl, ⟨rfl⟩, HB, HO, HA⟩
          case round =>
            obtain ⟨n, xs, rfl, HGN, HB, HO, HA⟩ := hrel
            by_cases hnl : n < l0.length
            · obtain ⟨wn, rfl⟩ : ∃ wn : World, wn = wr := ⟨_, rfl⟩
              obtain ⟨ad0, Am, cm, eA, r0, hcmm, hCm⟩ := at_L3 (Kd.C_below HR0.out HB4.out) (n : Int) (by omega) (by omega)
              subst eA
              obtain ⟨ops, hops⟩ : ∃ ops, ops = rd_L3 l0 (n : Int) := ⟨_, rfl⟩
              rw [← hops] at r0 hcmm hCm
              rw [Int.toNat_natCast] at r0
              have HOPS := Aside0.mk hops
              have HR := Aside0.mk r0
              have HCM := Aside0.mk hCm
              have hbn : decide ((n : Int) < (l0.length : Int)) = true := decide_eq_true (by omega)
              obtain ⟨a0, ha0, hal, haf⟩ := HA.out.at_ n hnl
              have HA0 := Aside0.mk ha0
              clear ha0 hal haf r0 hcmm hCm hops
              go_wp2
              go_loopg [150] (ops.length - a0) (fun gh v150 w2 => ∃ (a : Nat) (xs' : List Int), Aside0 (gh = ops.length - a) ∧ Aside0 (xs'[n]? = some (a : Int)) ∧ Aside0 (Below w4.heap.size w4 w2) ∧ Aside0 ((Kd.int .i64).R 3 w2 w.heap.size (fun _ => True) (.slice (some ⟨g, 0, none⟩) l0.length cap) xs') ∧ Aside0 (AtOk l0 xs' (mine h (l.take l.length))))
              case atStart => exact ⟨a0, xs, ⟨rfl⟩, HA0, HB, HO, HA⟩
              case round =>
                obtain ⟨a, xs', HGA, HXA, HB2, HO2, HA2⟩ := hrel
                obtain ⟨wm, rfl⟩ : ∃ wm : World, wm = wr := ⟨_, rfl⟩
                obtain ⟨a', ha', hal', haf'⟩ := HA2.out.at_ n hnl
                have : a = a' := by have := HXA.out; rw [ha'] at this; injection this with this; omega
                subst this
                rw [HGM.out n hnl] at haf'
                rw [← HOPS.out] at hal' haf'
                obtain ⟨g0, gf⟩ := int_cell HO2.out HXA.out
                have R0 := (HB2.out.cell (World.block_lt_of_cell? w4 _ HR.out)).trans HR.out
                have hopl : ops.length ≤ 9223372036854775807 := HCM.out.2.1
                by_cases hal2 : a < ops.length
                · have hget : ops[a]? = some (rd_T31 ops (a : Int)) := by simp [rd_T31, List.getD_eq_getElem?_getD, hal2]
                  obtain ⟨x, hx⟩ : ∃ x, x = rd_T31 ops (a : Int) := ⟨_, rfl⟩
                  obtain ⟨adx, eA, z0, z1, z2⟩ := at_T31 HCM.out (a : Int) (by omega) (by omega)
                  subst eA
                  rw [← hx] at z0 hget
                  rw [Int.toNat_natCast] at z0
                  have Z0 := (HB2.out.cell (World.block_lt_of_cell? w4 _ z0)).trans z0
                  have hlt2 : decide ((a : Int) < (ops.length : Int)) = true := decide_eq_true (by omega)
                  have hok : Aside0 (okOp x = false) := ⟨rest_no haf' hget⟩
                  have HGET := Aside0.mk hget
                  clear hget z0 z1 z2 hx haf' ha' hal'
                  by_cases h1 : 1 ≤ x.f0
                  · have h3 : ¬ x.f0 ≤ 3 := fun h3 => by have := hok.out; simp [okOp, h1, h3] at this
                    have hd1 : decide (x.f0 ≥ 1) = true := decide_eq_true h1
                    have hd3 : decide (x.f0 ≤ 3) = false := decide_eq_false h3
                    go_wp2
                    go_quiet (fail)
                    go_wp2
                    go_quiet (fail)
                    go_wp2
                    go_roundg (gk - 1)
                    case measure => have := HGA.out; omega
                    case rel =>
                      refine ⟨a + 1, xs'.set n ((a : Int) + 1), ⟨by have := HGA.out; omega⟩, ⟨?_⟩, ⟨?_⟩, ⟨?_⟩, ⟨HA2.out.skip hnl HXA.out (by rw [← HOPS.out]; exact HGET.out) hok.out⟩⟩
                      · rw [List.getElem?_set_self (by rw [HA2.out.len]; exact hnl)]; rfl
                      · exact (pw_below_drewN HB2.out _).setCell (p := ⟨g, n, none⟩) HGB.out _
                      · have := fun q => Kd.R_putn (Kd.R_drewN HO2.out q) (n : Int) ((a : Int) + 1)
                        rw [Int.toNat_natCast] at this
                        exact this _
                  · have hd1 : decide (x.f0 ≥ 1) = false := decide_eq_false h1
                    go_wp2
                    go_quiet (fail)
                    go_wp2
                    go_quiet (fail)
                    go_wp2
                    go_roundg (gk - 1)
                    case measure => have := HGA.out; omega
                    case rel =>
                      refine ⟨a + 1, xs'.set n ((a : Int) + 1), ⟨by have := HGA.out; omega⟩, ⟨?_⟩, ⟨?_⟩, ⟨?_⟩, ⟨HA2.out.skip hnl HXA.out (by rw [← HOPS.out]; exact HGET.out) hok.out⟩⟩
                      · rw [List.getElem?_set_self (by rw [HA2.out.len]; exact hnl)]; rfl
                      · exact (pw_below_drewN HB2.out _).setCell (p := ⟨g, n, none⟩) HGB.out _
                      · have := fun q => Kd.R_putn (Kd.R_drewN HO2.out q) (n : Int) ((a : Int) + 1)
                        rw [Int.toNat_natCast] at this
                        exact this _
                · have hlt2 : decide ((a : Int) < (ops.length : Int)) = false := decide_eq_false (by omega)
                  go_wp2
                  go_quiet (fail)
                  go_wp2
                  go_roundg (l0.length - (n + 1))
                  case measure => have := HGN.out; omega
                  case rel => exact ⟨n + 1, xs', by go_num, ⟨by have := HGN.out; omega⟩, ⟨pw_below_drewN HB2.out _⟩, ⟨Kd.R_drewN HO2.out _⟩, HA2⟩
            · have hbn : decide ((n : Int) < (l0.length : Int)) = false := decide_eq_false (by omega)
              go_wp2
              go_ret
              exact ⟨rfl, below_then HB4.out HB4.out.size HB.out⟩
    · have hgt : decide ((l0.length : Int) > 64) = true := decide_eq_true (by omega)
      go_wp2_with (go_at_call 12; refine Stopped.go ?_)
      refine ⟨?_⟩
      refine (play_many A0 c0 l0 (.slice A1 l1.length c1) w2 (by omega) hm0 ⟨_, _, _, rfl⟩).mono ?_
      rintro e w3 ⟨rfl, hb3⟩
      go_wp2
      go_ret
      exact ⟨rfl, below_then HB2.out HB2.out.size hb3⟩
end Go.Proofs.Ytdflfjcnogokgaa.PTableEnds
