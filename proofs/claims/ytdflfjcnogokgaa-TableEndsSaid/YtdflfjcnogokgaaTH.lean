/- The stage: a call ends. -/
import Derived.Test.YtdflfjcnogokgaaTG
import Derived.Deep.RegionLaw
set_option linter.unusedVariables false
set_option linter.unusedSimpArgs false
namespace Go.Proofs.Ytdflfjcnogokgaa.PTableEnds
open Go.RowKit Go.Proofs.YtdflfjcnogokgaaW.PrintWords Go.Proofs.YtdflfjcnogokgaaW.PrintLast Go.Proofs.YtdflfjcnogokgaaW.PrintMore
open Go.FT Go.MuLone
open Go.ChangeMaps (setBlock)


theorem R_off_row {α : Type} {d : Kd α} {e : Nat} {w : World} {base : Nat} {v hv : Value} {xs : List α} {hist : List S44} (h : d.R e w base (fun _ => True) v xs) (hh : k44.R 44 w base (fun _ => True) hv hist) (ht : ∀ q, q ∈ e :: d.E → q ≠ 44) :
    d.R e w base (fun k => some k ≠ hv.ownBlock) v xs :=
  Kd.R_mono (Kd.R_bound h) (fun k hk he => by
    obtain ⟨_, _, _, q, hq, cells, hc⟩ := hk
    obtain ⟨inner, ho⟩ := Kd.R_own hh
    obtain ⟨cells', hc'⟩ := own_typed ho k he.symm
    rw [hc] at hc'
    injection hc' with hc'
    injection hc' with _ h2
    exact ht q hq h2)
theorem OpsAt.tail {w : World} {ob o N cap : Nat} {x : S31} {rest : List S31} (h : OpsAt w (.slice (some ⟨ob, o, none⟩) N cap) (x :: rest)) :
    OpsAt w (.slice (if cap = 1 then some ⟨ob, o, none⟩ else some ⟨ob, o + 3, none⟩) rest.length (cap - 1)) rest := by
  obtain ⟨A, cp, e, h1, h2, h3⟩ := h
  injection e with e1 e2 e3
  subst e3
  subst e1
  refine ⟨_, cap - 1, rfl, by simp at h1; omega, by omega, fun hp => ?_⟩
  obtain ⟨ob', o', cells, e', hb, hc⟩ := h3 (by simp)
  injection e' with e'
  injection e' with e1 e2 _
  subst e1
  subst e2
  refine ⟨ob, o + 3, cells, by rw [if_neg (by simp at h1; omega)], hb, fun j y hj => ?_⟩
  have := hc (j + 1) y hj
  rwa [show o + (j + 1) * 3 = o + 3 + j * 3 from by omega] at this

theorem step_end_end {w0 w W1 w5 : World} {sb tb : Nat} {M : Nat → Nat} {cb : List Nat} {S : PS} {clv hv hv' : Value} {n b ob o N cap : Nat} {c : PCl} {rv : Value} {x : S31} {rest : List S31} {hist' : List S44} (hS : StAt w0 w sb tb M cb S clv hv) (hbn : cb[n]? = some b) (hcl : ClAt w w0.heap.size b c (.slice (some ⟨ob, o, none⟩) N cap) rv) (hx : c.ops = x :: rest)
    (hC1 : Chg (fun k => k = b) w W1) (hcb1 : W1.heap[b]? = some (.cells #[.slice (some ⟨ob, o, none⟩) N cap, .bool c.begun, .int .i64 c.locked, rv] 87 (0, 0))) (hne : some sb ≠ hv.ownBlock) (hst1 : W1.heap[sb]? = some (.cells (stCells tb S.lk clv hv) 83 (0, 0))) (hbsb : sb ≠ b)
    (hg : W1.drew.grownBy w5 hv.ownBlock) (ho : k44.R 44 w5 w0.heap.size (fun _ => True) hv' hist') :
    StAt w0 ((((w5.setCell ⟨sb, 10, none⟩ hv').setCell ⟨b, 0, none⟩ (.slice (if cap = 1 then some ⟨ob, o, none⟩ else some ⟨ob, o + 3, none⟩) rest.length (cap - 1))).setCell ⟨b, 1, none⟩ (.bool false)).setCell ⟨b, 3, none⟩ (.pointer none)) sb tb M cb { S with cls := S.cls.set n { c with ops := rest, begun := false, reply := none }, hist := hist' } clv hv' ∧
    SameT w ((((w5.setCell ⟨sb, 10, none⟩ hv').setCell ⟨b, 0, none⟩ (.slice (if cap = 1 then some ⟨ob, o, none⟩ else some ⟨ob, o + 3, none⟩) rest.length (cap - 1))).setCell ⟨b, 1, none⟩ (.bool false)).setCell ⟨b, 3, none⟩ (.pointer none)) [23] := by
  have h5 : w5.heap[sb]? = some (.cells (stCells tb S.lk clv hv) 83 (0, 0)) := (hg.block sb (lt_of_heap hst1) hne).trans hst1
  have hbh : some b ≠ hv.ownBlock := fun e => by
    obtain ⟨inner, ho⟩ := Kd.R_own hS.hist
    obtain ⟨cells, hcc⟩ := own_typed ho b e.symm
    have := hcl.cells
    rw [hcc] at this
    injection this with this
    injection this with _ h
    cases h
  have hc5 : Chg (fun k => k = b ∨ k = sb ∨ some k = hv.ownBlock) w (w5.setCell ⟨sb, 10, none⟩ hv') := by
    refine ((hC1.mono (fun k h => Or.inl h)).trans (b := W1) ?_).trans (Chg.set _ ⟨sb, 10, none⟩ _ (Or.inr (Or.inl rfl)))
    exact ⟨hg.os, hg.tape, hg.output, hg.size, fun k hk hn => hg.block k hk (fun e => hn (Or.inr (Or.inr e)))⟩
  have hcb5 : (w5.setCell ⟨sb, 10, none⟩ hv').heap[b]? = some (.cells #[.slice (some ⟨ob, o, none⟩) N cap, .bool c.begun, .int .i64 c.locked, rv] 87 (0, 0)) := by
    rw [Below.heap_setCell _ _ _ _ (fun e => hbsb e.symm), hg.block b (lt_of_heap hcb1) hbh]
    exact hcb1
  have hst5 : (w5.setCell ⟨sb, 10, none⟩ hv').heap[sb]? = some (.cells (stCells tb S.lk clv hv') 83 (0, 0)) := by rw [heap_set_same h5]; rfl
  have hho : k44.R 44 (w5.setCell ⟨sb, 10, none⟩ hv') w0.heap.size (fun _ => True) hv' hist' := R44_same ho (SameT.set h5 10 _ (by decide))
  generalize (w5.setCell ⟨sb, 10, none⟩ hv') = w6 at hc5 hcb5 hst5 hho ⊢
  obtain ⟨ov', hov⟩ : ∃ ov', ov' = Value.slice (if cap = 1 then some ⟨ob, o, none⟩ else some ⟨ob, o + 3, none⟩) rest.length (cap - 1) := ⟨_, rfl⟩
  rw [← hov]
  have e7 := heap_set_same hcb5 0 ov'
  have e8 := heap_set_same e7 1 (.bool false)
  have e9 := heap_set_same e8 3 (.pointer none)
  have hc9 := ((hc5.trans (Chg.set _ ⟨b, 0, none⟩ ov' (Or.inl rfl))).trans (Chg.set _ ⟨b, 1, none⟩ (.bool false) (Or.inl rfl))).trans (Chg.set _ ⟨b, 3, none⟩ (.pointer none) (Or.inl rfl))
  have hcw := hc9.mono (S' := Wr sb b M hv) (fun k h => by rcases h with h | h | h; exact Or.inl h; exact Or.inr (Or.inl h); exact Or.inr (Or.inr (Or.inl h)))
  have hs : SameT w _ [31, 42, 3, 9] := SameT.of_chg hcw (fun g cs t ht hg => Wr.types hS hcl.cells hg (by rintro rfl; simp at ht) (by rintro rfl; simp at ht) (by rintro rfl; simp at ht))
  have hops := hcl.ops
  rw [hx] at hops
  have ht := hops.tail
  rw [← hov] at ht
  refine ⟨?_, hS.keep23 hcl.cells hcw⟩
  refine hS.next hbn hcl hcw ?_ (c' := { c with ops := rest, begun := false, reply := none }) ⟨e9, ht.same hs (by simp), rfl, hcl.le⟩ ?_ (hS.tab_keep hcl.cells hc9)
  · rw [Below.heap_setCell _ _ _ _ hbsb, Below.heap_setCell _ _ _ _ hbsb, Below.heap_setCell _ _ _ _ hbsb]; exact hst5
  · exact R44_same hho (((SameT.set hcb5 0 _ (by decide)).trans (SameT.set e7 1 _ (by decide))).trans (SameT.set e8 3 _ (by decide)))
theorem tinfo31 : (Try.prog.info? 31).map (fun i => (i.zero, i.size, i.bytes)) = some (some (.agg #[.int .i64 0, .int .i64 0, .string ⟨#[]⟩]), 3, 32) := by kernel_rfl
set_option maxRecDepth 100000 in
set_option maxHeartbeats 2000000 in
theorem step_end (w0 w : World) (sb tb : Nat) (M : Nat → Nat) (cb : List Nat) (S : PS) (clv hv : Value) (n : Nat) (c : PCl) (x : S31) (rest : List S31) (hS : StAt w0 w sb tb M cb S clv hv) (hc : S.cls[n]? = some c) (hx : c.ops = x :: rest) (hb : c.begun = true) (r : S42) (hr : c.reply = some r)
    (hn64 : S.cls.length ≤ 64) (hl : (S.hist.length + 1) * 120 ≤ 140737488355328) :
    Calls Try.prog 39 #[.pointer (some ⟨sb, 0, none⟩), .int .i64 n] w fun e w' => e = .returned (.tuple #[]) ∧ ∃ hv', StAt w0 w' sb tb M cb { S with cls := S.cls.set n { c with ops := rest, begun := false, reply := none }, hist := S.hist ++ [⟨n, false, x, r⟩] } clv hv' ∧ SameT w w' [23] := by
  have hlen := hS.cls.len
  have hnl : n < S.cls.length := (List.getElem?_eq_some_iff.1 hc).1
  obtain ⟨b, hbn⟩ : ∃ b, cb[n]? = some b := ⟨_, List.getElem?_eq_getElem (by omega)⟩
  obtain ⟨ov, rv, hcl⟩ := hS.cls.at_ n b c hbn hc
  obtain ⟨ob, o, N, cap, rfl, hN0, hobl, c0, c1, _, c3, fb, k0, k1, k2, hNN, hNc, hcm, hobb⟩ := hcl.open_ hx
  rw [hb] at c1
  have hrep := hcl.reply
  rw [hr] at hrep
  obtain ⟨rb, v2, v3, rfl, hrb, hr2, hr3⟩ := hrep
  obtain ⟨A, cc, hclv, hcap, hC⟩ := Kd.R_reads hS.cl
  obtain ⟨ad, rfl, hx1⟩ := ptr_at hC n b hbn
  have s9 : w.cell? ⟨sb, 9, none⟩ = some (.slice (some ad) cb.length cc) := by rw [← hclv]; exact (cell_of_blk hS.st 9).trans rfl
  have hbl := lt_of_heap hcl.cells
  have c1a := cell_alloc c1
  have c3a := cell_alloc c3
  have h64 : n < 64 := by omega
  have hnb : ((n : Nat) : Int) < ((cb.length : Nat) : Int) := by omega
  have hcb64 : cb.length ≤ 64 := by omega
  have HS := Aside0.mk hS
  have HC := Aside0.mk hc
  have HCL := Aside0.mk hcl
  have HX := Aside0.mk hx
  have HBG := Aside0.mk hb
  have HBN := Aside0.mk hbn
  have HL := Aside0.mk hl
  have HCV := Aside0.mk hclv
  have HOB := Aside0.mk hobb
  have HR2 := Aside0.mk hr2
  have HR3 := Aside0.mk hr3
  have HRB := Aside0.mk hrb
  have HNN := Aside0.mk hNN
  clear hr2 hr3 hrb hr
  clear hS hc hcl hx hb hbn hl hclv hC hlen hnl hNN hobb fb hcap
  go_enter Try.func39, Try.ntmps39
  go_wp2
  obtain ⟨O, hO⟩ : ∃ O, O = Obj.cells #[.int .i64 x.f0, .int .i64 x.f1, .string x.f2] 31 := ⟨_, rfl⟩
  rw [← hO]
  have hst := HS.out.st
  have hbsb : sb ≠ b := fun e => by
    have := HCL.out.cells
    rw [← e, hst] at this
    cases this
  have hsbl := lt_of_heap hst
  have hBW1 : Below w.heap.size w (w.alloc O) := (Below.refl _ _).alloc (Nat.le_refl _) O
  have hC1 : Chg (fun k => k = b) w (w.alloc O) := Chg.of_below hBW1
  have hcb1 : (w.alloc O).heap[b]? = some (.cells #[.slice (some ⟨ob, o, none⟩) N cap, .bool c.begun, .int .i64 c.locked, .pointer (some ⟨rb, 0, none⟩)] 87 (0, 0)) := (Below.heap_alloc w O b hbl).trans HCL.out.cells
  have hoO : (w.alloc O).heap[w.heap.size]? = some O := heap_alloc_at _ _
  have hst1 := cell_chg hC1 hst hbsb
  have hrb1 := (Below.heap_alloc w O rb (lt_of_heap HRB.out)).trans HRB.out
  generalize hW : (w.alloc O) = W1 at *
  have s10 : W1.cell? ⟨sb, 10, none⟩ = some hv := (cell_of_blk hst1 10).trans rfl
  have g10 : W1.frozen? ⟨sb, 10, none⟩ = false := frozen_of_blk hst1 10
  rw [hO] at hoO
  have o0 : W1.cell? ⟨w.heap.size, 0, none⟩ = some (.int .i64 x.f0) := (cell_of_blk hoO 0).trans rfl
  have o1 : W1.cell? ⟨w.heap.size, 1, none⟩ = some (.int .i64 x.f1) := (cell_of_blk hoO 1).trans rfl
  have o2 : W1.cell? ⟨w.heap.size, 2, none⟩ = some (.string x.f2) := (cell_of_blk hoO 2).trans rfl
  have b3 : W1.cell? ⟨b, 3, none⟩ = some (.pointer (some ⟨rb, 0, none⟩)) := (cell_of_blk hcb1 3).trans rfl
  have r0 : W1.cell? ⟨rb, 0, none⟩ = some (.bool r.f0) := (cell_of_blk hrb1 0).trans rfl
  have r1 : W1.cell? ⟨rb, 1, none⟩ = some (.string r.f1) := (cell_of_blk hrb1 1).trans rfl
  have HH : Aside0 (k44.R 44 W1 w0.heap.size (fun _ => True) hv S.hist) := ⟨R44_same HS.out.hist (SameT.of_below hBW1 _)⟩
  have hr21 := R_same HR2.out (SameT.of_below hBW1 [3]) (by intro q hq; simp [Kd.int, Kd.scalar] at hq; subst hq; simp)
  have hr31 := R_same HR3.out (SameT.of_below hBW1 [9]) (by intro q hq; simp [Kd.string, Kd.scalar] at hq; subst hq; simp)
  have hk2 := R_off_row hr21 HH.out (by intro q hq; simp [Kd.int, Kd.scalar] at hq; subst hq; decide)
  have hk3 := R_off_row hr31 HH.out (by intro q hq; simp [Kd.string, Kd.scalar] at hq; subst hq; decide)
  obtain ⟨a2, d2, e2⟩ := Kd.R_slice hr21
  obtain ⟨a3, d3, e3⟩ := Kd.R_slice hr31
  subst e2 e3
  have r2 : W1.cell? ⟨rb, 2, none⟩ = some (.slice a2 r.f2.length d2) := (cell_of_blk hrb1 2).trans rfl
  have r3 : W1.cell? ⟨rb, 3, none⟩ = some (.slice a3 r.f3.length d3) := (cell_of_blk hrb1 3).trans rfl
  have HK2 := Aside0.mk hk2
  have HK3 := Aside0.mk hk3
  have HC1 := Aside0.mk hC1
  have HCB1 := Aside0.mk hcb1
  have HST1 := Aside0.mk hst1
  have HOO := Aside0.mk hoO
  have hsz : w.heap.size < W1.heap.size := lt_of_heap hoO
  have hbb : w0.heap.size ≤ b := HS.out.lcb b (List.mem_of_getElem? HBN.out)
  have HBW : Aside0 (Below w0.heap.size w0 W1) := ⟨HS.out.below.trans ⟨HC1.out.os, HC1.out.tape, HC1.out.output, HC1.out.size, fun k hk => HC1.out.block k (Nat.lt_of_lt_of_le hk HS.out.below.size) (by omega)⟩⟩
  have hne : some sb ≠ hv.ownBlock := fun e => by
    obtain ⟨inner, ho⟩ := Kd.R_own HH.out
    obtain ⟨cells, hcl⟩ := own_typed ho sb e.symm
    rw [HST1.out] at hcl
    cases hcl
  have hbh : some b ≠ hv.ownBlock := fun e => by
    obtain ⟨inner, ho⟩ := Kd.R_own HH.out
    obtain ⟨cells, hcl⟩ := own_typed ho b e.symm
    rw [HCB1.out] at hcl
    injection hcl with hcl
    injection hcl with _ h
    cases h
  have HNE := Aside0.mk hne
  have HBH := Aside0.mk hbh
  have HBSB := Aside0.mk hbsb
  have s10a := cell_alloc s10
  obtain ⟨i0, hi0, hz0, hz1, hz2⟩ := info_parts tinfo31
  have hcut := cut_from (P := Try.prog) 32 31 .i64 Try.underlying32 hi0 3 hz1 (some ⟨ob, o, none⟩) N cap 1 (by omega) (by omega)
  simp only [Int.toNat_one, Nat.one_mul] at hcut
  have hcut2 : ∀ W : World, (Instr.slice 32 (.slice (some ⟨ob, o, none⟩) N cap) (some (.int .i64 1)) none none).run Try.prog W = .ok (.slice (if cap = 1 then some ⟨ob, o, none⟩ else some ⟨ob, o + 3, none⟩) (N - 1) (cap - 1)) W := fun W => hcut W
  obtain ⟨A2, hA2⟩ : ∃ A2, A2 = if cap = 1 then some (⟨ob, o, none⟩ : Addr) else some ⟨ob, o + 3, none⟩ := ⟨_, rfl⟩
  rw [← hA2] at hcut2
  have HA2 := Aside0.mk hA2
  clear hcut hi0 hz0 hz1 hz2 hA2
  clear hne hbh hk2 hk3 hr21 hr31 hC1 hcb1 hst1 hoO hW hO c0 c1 c1a c3a k0 k1 k2 s9 hx1 hst c3 hrb1 hBW1 hNc
  obtain ⟨ha, hc, hvs⟩ := Kd.R_slice HH.out
  subst hvs
  go_region_law (first | (refine Kd.R_append_step k44 (w0 := w0) (W := W1.drew) w0.heap.size (by rfl) (.tmp 53) (.tmp 63) 28 44 _ 120 (by rfl) Try.underlying28 tinfo44 (by rfl) (by decide) (by decide) (.slice ha S.hist.length hc) S.hist ⟨n, false, x, r⟩ [.int .i64 n, .bool false, .int .i64 x.f0, .int .i64 x.f1, .string x.f2, .bool r.f0, .string r.f1, .slice a2 r.f2.length d2, .slice a3 r.f3.length d3] (fun _ => True) (fun k => some k ≠ (Value.slice ha S.hist.length hc).ownBlock) (by rfl) (by rfl) (k44_mkM _ _ _ _ HK2.out HK3.out) (fun _ hk => ⟨trivial, hk⟩) (fun _ _ => trivial) HH.out HBW.out.drew HBW.out.size HL.out ?_; intro v' w5 ho hb hg hat; obtain ⟨ha', hc', rfl⟩ := Kd.R_slice ho; have hsb5 := (hg.block sb (lt_of_heap HST1.out) HNE.out).trans HST1.out; have v10 : w5.cell? ⟨sb, 10, none⟩ = some (.slice ha S.hist.length hc) := (cell_of_blk hsb5 10).trans rfl; have vf10 : w5.frozen? ⟨sb, 10, none⟩ = false := frozen_of_blk hsb5 10; have HO5 := Aside0.mk ho; have HB5 := Aside0.mk hb; have HG5 := Aside0.mk hg; have HSB5 := Aside0.mk hsb5; clear ho hb hg hat hsb5))
  all_goals
    have hcb5 := (HG5.out.block b (lt_of_heap HCB1.out) HBH.out).trans HCB1.out
    have b0 : ∀ u, (w5.setCell ⟨sb, 10, none⟩ u).cell? ⟨b, 0, none⟩ = some (.slice (some ⟨ob, o, none⟩) N cap) := fun u => by
      rw [World.cell?_of_block (w := w5) (Below.heap_setCell _ _ _ _ (fun e => HBSB.out e.symm))]; exact (cell_of_blk hcb5 0).trans rfl
    have b1 : ∀ u, (w5.setCell ⟨sb, 10, none⟩ u).cell? ⟨b, 1, none⟩ = some (.bool c.begun) := fun u => by
      rw [World.cell?_of_block (w := w5) (Below.heap_setCell _ _ _ _ (fun e => HBSB.out e.symm))]; exact (cell_of_blk hcb5 1).trans rfl
    have b3' : ∀ u, (w5.setCell ⟨sb, 10, none⟩ u).cell? ⟨b, 3, none⟩ = some (.pointer (some ⟨rb, 0, none⟩)) := fun u => by
      rw [World.cell?_of_block (w := w5) (Below.heap_setCell _ _ _ _ (fun e => HBSB.out e.symm))]; exact (cell_of_blk hcb5 3).trans rfl
    have bf : ∀ j, w5.frozen? ⟨b, j, none⟩ = false := fun j => frozen_of_blk hcb5 j
    clear hcb5 v10 vf10 b3 s10 s10a g10
    go_wp2
    go_end0
    have ho5 := HO5.out
    rw [List.length_append, List.length_singleton] at ho5
    have hfin := step_end_end HS.out HBN.out HCL.out HX.out HC1.out HCB1.out HNE.out HST1.out hbsb (HG5.out) ho5
    rw [← HA2.out] at hfin
    have hN1 : N - 1 = rest.length := by have := HNN.out; omega
    rw [hN1]
    exact ⟨rfl, _, hfin⟩
end Go.Proofs.Ytdflfjcnogokgaa.PTableEnds
