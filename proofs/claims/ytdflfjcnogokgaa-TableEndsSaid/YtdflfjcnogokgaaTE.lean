/- The stage: who goes on next. -/
import Derived.Test.YtdflfjcnogokgaaTD
set_option linter.unusedVariables false
set_option linter.unusedSimpArgs false
namespace Go.Proofs.Ytdflfjcnogokgaa.PTableEnds
open Go.RowKit Go.Proofs.YtdflfjcnogokgaaW.PrintWords Go.Proofs.YtdflfjcnogokgaaW.PrintLast Go.Proofs.YtdflfjcnogokgaaW.PrintMore
open Go.FT Go.MuLone
open Go.ChangeMaps (setBlock)

def ptr : Kd Nat := Kd.scalar (fun b => Value.pointer (some ⟨b, 0, none⟩)) (fun _ => rfl)
theorem ptr_at {w : World} {A : Option Addr} {n : Nat} {xs : List Nat} (h : ptr.C w A n xs) (i : Nat) (b : Nat) (hb : xs[i]? = some b) : ∃ ad, A = some ad ∧ w.cell? (ad.add i) = some (.pointer (some ⟨b, 0, none⟩)) := by
  have hl : i < xs.length := (List.getElem?_eq_some_iff.1 hb).1
  have hn : xs.length = n := h.1
  obtain ⟨ad, e, hc⟩ := ReadsOf.at_ (Kd.reads_of_C (d := 0) h) (i : Int) (by omega) (by omega)
  refine ⟨ad, e, ?_⟩
  rw [Int.toNat_natCast] at hc
  rw [hc]
  simp [rdOf, List.getD_eq_getElem?_getD, hb]

/-- The clients in memory. -/
structure ClsAt (w : World) (base : Nat) (cb : List Nat) (cls : List PCl) : Prop where
  len : cb.length = cls.length
  at_ : ∀ (i b : Nat) (c : PCl), cb[i]? = some b → cls[i]? = some c → ∃ ov rv, ClAt w base b c ov rv
theorem ClAt.same {w w' : World} {base b : Nat} {c : PCl} {ov rv : Value} (h : ClAt w base b c ov rv) {ts : List Nat} (hs : SameT w w' ts) (h87 : w'.heap[b]? = w.heap[b]?) (h31 : 31 ∈ ts) (h42 : 42 ∈ ts) (h3 : 3 ∈ ts) (h9 : 9 ∈ ts) : ClAt w' base b c ov rv :=
  ⟨h87.trans h.cells, h.ops.same hs h31, h.reply.same hs h42 h3 h9, h.le⟩
theorem ClsAt.same {w w' : World} {base : Nat} {cb : List Nat} {cls : List PCl} (h : ClsAt w base cb cls) {ts : List Nat} (hs : SameT w w' ts) (h87 : 87 ∈ ts) (h31 : 31 ∈ ts) (h42 : 42 ∈ ts) (h3 : 3 ∈ ts) (h9 : 9 ∈ ts) : ClsAt w' base cb cls :=
  ⟨h.len, fun i b c hb hc => by
    obtain ⟨ov, rv, hcl⟩ := h.at_ i b c hb hc
    exact ⟨ov, rv, hcl.same hs (hs 87 h87 b _ hcl.cells) h31 h42 h3 h9⟩⟩

/-- What is left of the script: in the memory that was there when the play began. -/
def ScAt (w0 w : World) (scb : Nat) (script : List Int) : Prop :=
  ∃ A cap, w.heap[scb]? = some (.cells #[.slice A script.length cap] 23 (0, 0)) ∧ script.length ≤ cap ∧ cap ≤ 9223372036854775807 ∧ (Kd.int .i64).C w0 A script.length script

/-! what is picked, in plain words -/
def canAt (lk : Nat → Bool) (cls : List PCl) (i : Nat) : Bool := match cls[i]? with | some c => pcan lk c | none => false
def rdyN (p : Nat → Bool) (i : Nat) : List Nat := (List.range i).filter p
def rdy (p : Nat → Bool) (i : Nat) : List Int := (rdyN p i).map (fun n : Nat => (n : Int))
def rnd (p : Nat → Bool) (last : Int) (i : Nat) : Int := match (rdyN p i).find? (fun n : Nat => decide (last < (n : Int))) with | some n => n | none => -1
theorem rdyN_succ (p : Nat → Bool) (i : Nat) : rdyN p (i + 1) = rdyN p i ++ if p i then [i] else [] := by
  unfold rdyN
  rw [List.range_succ, List.filter_append]
  by_cases h : p i <;> simp [h]
theorem rdy_succ_yes (p : Nat → Bool) (i : Nat) (h : p i = true) : rdy p (i + 1) = rdy p i ++ [(i : Int)] := by
  simp [rdy, rdyN_succ, h]
theorem rdy_succ_no (p : Nat → Bool) (i : Nat) (h : p i = false) : rdy p (i + 1) = rdy p i := by
  simp [rdy, rdyN_succ, h]
theorem rdy_length (p : Nat → Bool) (i : Nat) : (rdy p i).length ≤ i := by
  simp only [rdy, rdyN, List.length_map]
  have := List.length_filter_le p (List.range i)
  simpa using this
theorem rdyN_lt (p : Nat → Bool) (i : Nat) {n : Nat} (h : n ∈ rdyN p i) : n < i ∧ p n = true := by
  unfold rdyN at h
  rw [List.mem_filter, List.mem_range] at h
  exact h
theorem rnd_lo (p : Nat → Bool) (last : Int) (i : Nat) : -1 ≤ rnd p last i ∧ rnd p last i < i := by
  unfold rnd
  split
  · rename_i n h
    have := rdyN_lt p i (List.mem_of_find?_eq_some h)
    omega
  · omega
theorem rnd_succ_no (p : Nat → Bool) (last : Int) (i : Nat) (h : p i = false) : rnd p last (i + 1) = rnd p last i := by
  simp [rnd, rdyN_succ, h]
theorem rnd_succ_had (p : Nat → Bool) (last : Int) (i : Nat) (h : 0 ≤ rnd p last i) : rnd p last (i + 1) = rnd p last i := by
  unfold rnd at *
  rw [rdyN_succ, List.find?_append]
  cases hf : (rdyN p i).find? (fun n : Nat => decide (last < (n : Int))) with
  | none => rw [hf] at h; simp at h
  | some n => simp
theorem rnd_succ_new (p : Nat → Bool) (last : Int) (i : Nat) (hp : p i = true) (h : rnd p last i < 0) : rnd p last (i + 1) = if last < (i : Int) then (i : Int) else -1 := by
  unfold rnd at *
  rw [rdyN_succ, List.find?_append]
  cases hf : (rdyN p i).find? (fun n : Nat => decide (last < (n : Int))) with
  | some n => rw [hf] at h; simp at h; omega
  | none =>
    by_cases hl : last < (i : Int)
    · simp [hp, hl]
    · simp [hp, hl]
theorem rnd_neg (p : Nat → Bool) (last : Int) (i : Nat) (h : rnd p last i < 0) : rnd p last i = -1 := by have := rnd_lo p last i; omega

/-- Which client goes on (-1: none), and what is left of the script. -/
def ppick (p : Nat → Bool) (n : Nat) (script : List Int) (last : Int) : Int × List Int :=
  match rdy p n, script with
  | [], s => (-1, s)
  | r :: rs, k :: s => ((r :: rs).getD (k % ((r :: rs).length : Int)).toNat 0, s)
  | r :: _, [] => (if rnd p last n < 0 then r else rnd p last n, [])

theorem mod_go (k : Int) (L : Nat) (h0 : 0 < L) (h1 : L ≤ 64) : (wrap64 (k.tmod (L : Int) + (L : Int))).tmod (L : Int) = (((k % (L : Int)).toNat : Nat) : Int) ∧ (k % (L : Int)).toNat < L := by
  have hL : (0 : Int) < (L : Int) := by omega
  have hm0 := Int.emod_nonneg k (show (L : Int) ≠ 0 by omega)
  have hm1 := Int.emod_lt_of_pos k hL
  have hts : k.tmod (L : Int) = k % (L : Int) ∨ k.tmod (L : Int) = k % (L : Int) - (L : Int) := by
    rw [Int.tmod_eq_emod]
    split
    · left; omega
    · right; simp
  rcases hts with h | h
  · have hw : wrap64 (k.tmod (L : Int) + (L : Int)) = k % (L : Int) + (L : Int) := by rw [h]; unfold wrap64; omega
    rw [hw, Int.tmod_eq_emod_of_nonneg (by omega), Int.add_emod_right, Int.emod_emod]
    omega
  · have hw : wrap64 (k.tmod (L : Int) + (L : Int)) = k % (L : Int) := by rw [h]; unfold wrap64; omega
    rw [hw, Int.tmod_eq_emod_of_nonneg (by omega), Int.emod_emod]
    omega
theorem own_nonempty {w : World} {base n : Nat} {e : TypeId} {v : Value} {xs : List Value} (h : w.ownsRow base e 1 v n xs) (hn : 0 < n) :
    ∃ g cap cur, v = .slice (some ⟨g, 0, none⟩) n cap ∧ base ≤ g ∧ w.heap[g]? = some (.cells cur e (0, 0)) ∧ n ≤ cap ∧ ∀ (j : Nat) (u : Value), xs[j]? = some u → cur[j]? = some u := by
  rcases h.2 with ⟨_, h0⟩ | ⟨g, cap, cur, hv, hg, hb, h1, h2, h3, h4⟩
  · omega
  · refine ⟨g, cap, cur, hv, hg, hb, h1, fun j u hu => ?_⟩
    rw [← h4, List.getElem?_take] at hu
    split at hu
    · simpa using hu
    · cases hu

set_option maxRecDepth 100000 in
set_option maxHeartbeats 2000000 in
theorem pick_any (sb tb scb base n : Nat) (lk : Nat → Bool) (clv hv : Value) (cb : List Nat) (cls : List PCl) (script : List Int) (last : Int) (w0 w : World) (hst : w.heap[sb]? = some (.cells (stCells tb lk clv hv) 83 (0, 0)))
    (hclv : ptr.R 84 w base (fun _ => True) clv cb) (hcls : ClsAt w base cb cls) (hsc : ScAt w0 w scb script) (hw0 : Below w0.heap.size w0 w) (hn : cls.length = n) (hn64 : n ≤ 64) (hscb : w0.heap.size ≤ scb) :
    Calls Try.prog 38 #[.pointer (some ⟨sb, 0, none⟩), .pointer (some ⟨scb, 0, none⟩), .int .i64 last] w fun e w' =>
      e = .returned (.int .i64 (ppick (canAt lk cls) n script last).1) ∧ w.grownBy w' (some scb) ∧ ScAt w0 w' scb (ppick (canAt lk cls) n script last).2 := by
  obtain ⟨A, c, rfl, hcap, hC⟩ := Kd.R_reads hclv
  have hlen := hcls.len
  have hcbn : cb.length = n := by omega
  rw [hcbn] at hC hcap
  have hst' := hst
  rw [hcbn] at hst'
  have c9 := cell_of_blk hst' 9
  simp only [stCells] at c9
  simp at c9
  have HS := Aside0.mk hst
  have HC := Aside0.mk hC
  have HCL := Aside0.mk hcls
  have HSC := Aside0.mk hsc
  have HW := Aside0.mk hw0
  have HCB := Aside0.mk hcbn
  have HN := Aside0.mk hn
  have HSB := Aside0.mk hscb
  clear hst hst' hclv hcls hsc hw0 hC hlen hcbn hn hscb hcap
  go_enter Try.func38, Try.ntmps38
  go_wp2
  go_loopg [7, 8, 18] n (fun g v7 v8 v18 w' => ∃ i : Nat, v18 = .int .i64 i ∧ v8 = .int .i64 (rnd (canAt lk cls) last i) ∧ Aside0 (g + i = n) ∧ Aside0 ((Kd.int .i64).R 3 w' w.heap.size (fun _ => True) v7 (rdy (canAt lk cls) i)) ∧ Aside0 (Below w.heap.size w w'))
  case atStart => exact ⟨0, rfl, rfl, ⟨rfl⟩, ⟨Kd.R_nil _ _ _ _ _⟩, ⟨Below.refl _ _⟩⟩
  case round =>
    obtain ⟨i, rfl, rfl, HG, HO, HB⟩ := hrel
    obtain ⟨q, hq⟩ : ∃ q, q = rnd (canAt lk cls) last i := ⟨_, rfl⟩
    rw [← hq]
    have HQ := Aside0.mk hq
    clear hq
    obtain ⟨wo, rfl⟩ : ∃ wo : World, wo = wr := ⟨_, rfl⟩
    by_cases hlt : i < n
    · obtain ⟨b, hb⟩ : ∃ b, cb[i]? = some b := ⟨_, List.getElem?_eq_getElem (by have := HCB.out; omega)⟩
      obtain ⟨cl, hcl⟩ : ∃ cl, cls[i]? = some cl := ⟨_, List.getElem?_eq_getElem (by have := HN.out; omega)⟩
      obtain ⟨ad, e2, hx⟩ := ptr_at (Kd.C_below HC.out HB.out) i b hb
      obtain ⟨ov, rv, hat⟩ := HCL.out.at_ i b cl hb hcl
      have hat2 := hat.same (SameT.of_below HB.out [87, 31, 42, 3, 9]) (HB.out.block b (lt_of_heap hat.cells)) (by simp) (by simp) (by simp) (by simp)
      have hst2 := (HB.out.block sb (lt_of_heap HS.out)).trans HS.out
      have HAT := Aside0.mk hat2
      have HST := Aside0.mk hst2
      have hci : canAt lk cls i = pcan lk cl := by simp [canAt, hcl]
      have HCI := Aside0.mk hci
      have h64 : i < 64 := by omega
      have hrl : (rdy (canAt lk cls) i).length ≤ 64 := by have := rdy_length (canAt lk cls) i; omega
      have HRL := Aside0.mk hrl
      have hbn : decide ((i : Int) < (n : Int)) = true := decide_eq_true (by omega)
      subst e2
      clear hat hat2 hst2 hci hcl hrl hb
      obtain ⟨pc, hpc⟩ : ∃ pc, pc = pcan lk cl := ⟨_, rfl⟩
      cases pc with
      | false =>
        have HPC := Aside0.mk hpc
        clear hpc
        go_wp2_with (first | (go_at_call 65; (with_reducible refine (can_any sb tb b base lk _ hv ov rv cl _ HST.out HAT.out).mono ?_); rintro e w' ⟨rfl, ⟨nd, rfl⟩⟩; rw [← HPC.out]))
        go_roundg (gk - 1)
        case measure => have := HG.out; omega
        case rel =>
          have hno : canAt lk cls i = false := by rw [HCI.out, ← HPC.out]
          refine ⟨i + 1, by go_num, by rw [rnd_succ_no _ _ _ hno, HQ.out], ⟨by have := HG.out; omega⟩, ⟨?_⟩, ⟨pw_below_drewN HB.out nd⟩⟩
          rw [rdy_succ_no _ _ hno]
          exact Kd.R_drewN HO.out nd
      | true =>
        have HPC := Aside0.mk hpc
        clear hpc
        have hyes : Aside0 (canAt lk cls i = true) := ⟨by rw [HCI.out, ← HPC.out]⟩
        by_cases h1 : q < 0
        · by_cases h2 : last < (i : Int)
          · go_wp2_with (first | (go_at_call 65; (with_reducible refine (can_any sb tb b base lk _ hv ov rv cl _ HST.out HAT.out).mono ?_); rintro e w' ⟨rfl, ⟨nd, rfl⟩⟩; rw [← HPC.out]) | (at_builtin; refine Kd.R_append (Kd.int .i64) (w0 := w) w.heap.size rfl (.tmp 26) (.tmp 28) 23 3 (.int .i64 0) 8 rfl Try.underlying23 tinfo3 rfl (by decide) (by omega) u7 (rdy (canAt lk cls) i) (i : Int) [.int .i64 (i : Int)] (fun _ => True) (fun _ => False) rfl rfl rfl (fun _ hk => hk.elim) (fun _ _ => trivial) (Kd.R_drewN HO.out nd) (pw_below_drewN HB.out nd) (pw_below_drewN HB.out nd).size (by have := HRL.out; omega) ?_; intro v' w5 ho hb hg hat))
            go_roundg (gk - 1)
            case measure => have := HG.out; omega
            case rel =>
              refine ⟨i + 1, by go_num, ?_, ⟨by have := HG.out; omega⟩, ⟨?_⟩, ⟨hb⟩⟩
              · rw [rnd_succ_new _ _ _ hyes.out (by rw [← HQ.out]; exact h1), if_pos h2]
              · rw [rdy_succ_yes _ _ hyes.out]; exact ho
          · have h2' := h2
            clear h2
            go_wp2_with (first | (go_at_call 65; (with_reducible refine (can_any sb tb b base lk _ hv ov rv cl _ HST.out HAT.out).mono ?_); rintro e w' ⟨rfl, ⟨nd, rfl⟩⟩; rw [← HPC.out]) | (at_builtin; refine Kd.R_append (Kd.int .i64) (w0 := w) w.heap.size rfl (.tmp 26) (.tmp 28) 23 3 (.int .i64 0) 8 rfl Try.underlying23 tinfo3 rfl (by decide) (by omega) u7 (rdy (canAt lk cls) i) (i : Int) [.int .i64 (i : Int)] (fun _ => True) (fun _ => False) rfl rfl rfl (fun _ hk => hk.elim) (fun _ _ => trivial) (Kd.R_drewN HO.out nd) (pw_below_drewN HB.out nd) (pw_below_drewN HB.out nd).size (by have := HRL.out; omega) ?_; intro v' w5 ho hb hg hat))
            go_roundg (gk - 1)
            case measure => have := HG.out; omega
            case rel =>
              refine ⟨i + 1, by go_num, ?_, ⟨by have := HG.out; omega⟩, ⟨?_⟩, ⟨hb⟩⟩
              · have h3 := rnd_neg (canAt lk cls) last i (by rw [← HQ.out]; exact h1)
                rw [rnd_succ_new _ _ _ hyes.out (by rw [← HQ.out]; exact h1), if_neg (by omega), HQ.out, h3]
              · rw [rdy_succ_yes _ _ hyes.out]; exact ho
        · have h1' := h1
          clear h1
          go_wp2_with (first | (go_at_call 65; (with_reducible refine (can_any sb tb b base lk _ hv ov rv cl _ HST.out HAT.out).mono ?_); rintro e w' ⟨rfl, ⟨nd, rfl⟩⟩; rw [← HPC.out]) | (at_builtin; refine Kd.R_append (Kd.int .i64) (w0 := w) w.heap.size rfl (.tmp 26) (.tmp 28) 23 3 (.int .i64 0) 8 rfl Try.underlying23 tinfo3 rfl (by decide) (by omega) u7 (rdy (canAt lk cls) i) (i : Int) [.int .i64 (i : Int)] (fun _ => True) (fun _ => False) rfl rfl rfl (fun _ hk => hk.elim) (fun _ _ => trivial) (Kd.R_drewN HO.out nd) (pw_below_drewN HB.out nd) (pw_below_drewN HB.out nd).size (by have := HRL.out; omega) ?_; intro v' w5 ho hb hg hat))
          go_roundg (gk - 1)
          case measure => have := HG.out; omega
          case rel =>
            refine ⟨i + 1, by go_num, ?_, ⟨by have := HG.out; omega⟩, ⟨?_⟩, ⟨hb⟩⟩
            · rw [rnd_succ_had _ _ _ (by rw [← HQ.out]; omega), HQ.out]
            · rw [rdy_succ_yes _ _ hyes.out]; exact ho
    · have hg0 : gk = 0 ∧ i = n := by have := HG.out; omega
      obtain ⟨_, rfl⟩ := hg0
      have hno := Kd.own_of_R HO.out
      have hrl : (rdy (canAt lk cls) i).length ≤ 64 := by have := rdy_length (canAt lk cls) i; omega
      obtain ⟨ready, hrdy⟩ : ∃ r, r = rdy (canAt lk cls) i := ⟨_, rfl⟩
      rw [← hrdy] at hno hrl
      cases ready with
      | nil =>
        rcases hno.2 with ⟨rfl, _⟩ | ⟨g, cap, cur, rfl, _⟩
        all_goals
          have hfin : ppick (canAt lk cls) i script last = (-1, script) := by simp [ppick, ← hrdy]
          have HF := Aside0.mk hfin
          have hgr : Aside0 (wo.heap[scb]? = w.heap[scb]?) := ⟨HB.out.block scb (by obtain ⟨A, cap, h, _⟩ := HSC.out; exact lt_of_heap h)⟩
          clear hno hrl hrdy hfin
          go_wp2
          go_ret
          rw [HF.out]
          refine ⟨rfl, grown_of_below HB.out _, ?_⟩
          obtain ⟨A, cap, h, r⟩ := HSC.out
          exact ⟨A, cap, hgr.out.trans h, r⟩
      | cons r rs =>
        obtain ⟨g, cap7, cur, rfl, hgb, hgh, hlc, hcur⟩ := own_nonempty hno (by simp)
        have hR := rnd_lo (canAt lk cls) last i
        obtain ⟨sA, sc, hsh, hsl, hsm, hsC⟩ := HSC.out
        have hsh1 := (HB.out.block scb (lt_of_heap hsh)).trans hsh
        have c0 := cell_of_blk hsh1 0
        have f0 := frozen_of_blk hsh1 0
        simp at c0
        have hgs : ¬ g = scb := fun e => by subst e; rw [hgh] at hsh1; cases hsh1
        have hLB : 0 < (r :: rs).length := by simp
        obtain ⟨L, hL⟩ : ∃ L, L = (r :: rs).length := ⟨_, rfl⟩
        have hL0 : (((L : Nat) : Int) == 0) = false := by simp; omega
        have HL := Aside0.mk hL
        have HRD := Aside0.mk hrdy
        have HCUR := Aside0.mk hcur
        have HGH := Aside0.mk hgh
        have HSH := Aside0.mk hsh1
        have HSL := Aside0.mk hsl
        have HSM := Aside0.mk hsm
        have HSCC := Aside0.mk hsC
        have HGS := Aside0.mk hgs
        have hcell : ∀ (j : Nat) (z : Int), (r :: rs)[j]? = some z → wo.cell? ⟨g, j, none⟩ = some (.int .i64 z) := fun j z hz => by
          rw [cell_of_blk hgh]
          exact hcur j _ (by show ((r :: rs).map (Value.int .i64))[j]? = _; rw [List.getElem?_map, hz]; rfl)
        cases script with
        | nil =>
          simp only [List.length_nil] at c0
          have hlen0 : (((0 : Nat) : Int) == 0) = true := rfl
          have kr0 := hcell 0 r rfl
          rw [← hL] at hlc
          by_cases hq0 : q < 0
          · have hfin : ppick (canAt lk cls) i [] last = (r, []) := by simp only [ppick, ← hrdy]; rw [if_pos (by rw [← HQ.out]; exact hq0)]
            have HF := Aside0.mk hfin
            have hL1 : (0 : Int) < (L : Int) := by omega
            clear hcell hcur hgh hsh hsh1 hsl hsm hsC hrdy hfin hno hrl hgs
            rw [← hL]
            clear hL
            go_wp2
            go_ret
            rw [HF.out]
            exact ⟨rfl, grown_of_below HB.out _, sA, sc, HSH.out, HSL.out, HSM.out, HSCC.out⟩
          · have hfin : ppick (canAt lk cls) i [] last = (q, []) := by simp only [ppick, ← hrdy]; rw [if_neg (by rw [← HQ.out]; exact hq0), ← HQ.out]
            have HF := Aside0.mk hfin
            clear hcell hcur hgh hsh hsh1 hsl hsm hsC hrdy hfin hno hrl hgs
            rw [← hL]
            clear hL
            go_wp2
            go_ret
            rw [HF.out]
            exact ⟨rfl, grown_of_below HB.out _, sA, sc, HSH.out, HSL.out, HSM.out, HSCC.out⟩
        | cons k s =>
          simp only [List.length_cons] at c0 hsl
          obtain ⟨i0, hi0, hz0, hz1, hz2⟩ := info_parts tinfo3
          obtain ⟨sA2, hsA2⟩ : ∃ x, x = if sc = 1 then sA else sA.map (·.add 1) := ⟨_, rfl⟩
          have hrun : ∀ W : World, (Instr.slice 23 (.slice sA (s.length + 1) sc) (some (.int .i64 1)) none none).run Try.prog W = .ok (.slice sA2 s.length (sc - 1)) W := by
            have := cut_from (P := Try.prog) 23 3 .i64 Try.underlying23 hi0 1 hz1 sA (s.length + 1) sc 1 (by omega) (by omega)
            intro W
            rw [this W, hsA2]
            rfl
          have hC2 : (Kd.int .i64).C w0 sA2 s.length s := by
            have := Kd.C_drop (m := 1) (c := sc) hsC (by simp) (by simpa using hsl)
            rw [hsA2]
            exact this
          obtain ⟨sad, hse, hsx⟩ := Kd.at_int (Kd.C_below hsC (below_then HW.out HW.out.size HB.out)) 0 (by omega) (by simp)
          have hrd0 : rd (k :: s) 0 = k := rfl
          rw [hrd0] at hsx
          rw [show sad.add (0 : Int).toNat = sad from by unfold Addr.add; simp] at hsx
          obtain ⟨hm, hmlt⟩ := mod_go k L (by omega) (by omega)
          obtain ⟨m, hmm⟩ : ∃ m, m = (k % (L : Int)).toNat := ⟨_, rfl⟩
          rw [← hmm] at hm hmlt
          obtain ⟨z, hz⟩ : ∃ z, (r :: rs)[m]? = some z := ⟨_, List.getElem?_eq_getElem (by omega)⟩
          have krm := hcell m z hz
          have hfin : ppick (canAt lk cls) i (k :: s) last = (z, s) := by
            simp only [ppick, ← hrdy]
            rw [← hL, ← hmm, List.getD_eq_getElem?_getD, hz]
            rfl
          have HF := Aside0.mk hfin
          have kst : ∀ u, (wo.setCell ⟨scb, 0, none⟩ u).cell? ⟨g, m, none⟩ = some (.int .i64 z) := fun u => by
            rw [World.cell?_setCell_other _ _ _ _ (by first | (simp; done) | (simp; exact fun e => hgs e.symm) | (intro e; injection e with e1; exact hgs e1.symm))]; exact krm
          have hLn : ¬ ((L : Nat) : Int) = 0 := by omega
          have hml : ((m : Nat) : Int) < (L : Int) := by omega
          have HC2 := Aside0.mk hC2
          have hs0 : ((((s.length + 1 : Nat)) : Int) == 0) = false := by simp; omega
          have hpos : (0 : Nat) < s.length + 1 := by omega
          rw [← hL] at hlc
          clear hcell hcur hgh hsh hsh1 hsl hsm hsC hrdy hfin hno hrl hgs hz krm hmm hmlt hC2 hsA2 hrd0
          subst hse
          rw [← hL]
          clear hL
          go_wp2
          go_ret
          rw [HF.out]
          refine ⟨rfl, ?_, ?_⟩
          · have h1 := grown_of_below HB.out (some scb)
            refine ⟨h1.os, h1.tape, h1.output, by rw [size_set]; exact h1.size, fun b hb hne => ?_⟩
            rw [Below.heap_setCell _ _ _ _ (fun e => hne (by rw [e])), h1.block b hb hne]
          · refine ⟨sA2, sc - 1, ?_, ?_, ?_, HC2.out⟩
            · rw [heap_set_same HSH.out]; rfl
            · have := HSL.out; simp at this; show s.length ≤ sc - 1; omega
            · have := HSM.out; omega
end Go.Proofs.Ytdflfjcnogokgaa.PTableEnds
