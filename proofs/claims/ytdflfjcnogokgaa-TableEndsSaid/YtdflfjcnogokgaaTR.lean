/- TableEnds: the clients and the script as the row hands them in. -/
import Derived.Test.YtdflfjcnogokgaaTQ
import Derived.Test.YtdflfjcnogokgaaWSized
import Derived.Deep.Slices
import Derived.Deep.Strs
import Derived.SizedLaws
set_option linter.unusedVariables false
set_option linter.unusedSimpArgs false
namespace Go.Proofs.Ytdflfjcnogokgaa.PTableEnds
open Go.RowKit Go.Proofs.YtdflfjcnogokgaaW.PrintWords Go.Proofs.YtdflfjcnogokgaaW.PrintLast Go.Proofs.YtdflfjcnogokgaaW.PrintMore
open Go.Deep

instance : Inhabited S31 := ⟨z31⟩
section
variable {H : Type} {enc : TypeId × Value → H} {w : World} {base : Nat} {spare : Nat → Bool} {held : Bool} {fuel : Nat}
theorem cells31 : Try.prog.cellsOf 31 = 3 := by kernel_rfl
theorem cells3 : Try.prog.cellsOf 3 = 1 := by kernel_rfl
theorem cells9 : Try.prog.cellsOf 9 = 1 := by kernel_rfl
theorem cells32 : Try.prog.cellsOf 32 = 1 := by kernel_rfl
theorem bytes31 : Try.prog.bytesOf 31 = 32 := by kernel_rfl
set_option maxRecDepth 100000 in
theorem open_op {cs : List Value} {x : DataW H × List MemPlace} (h : DataW.trod enc Try.prog w base spare held fuel 31 cs = some x) : ∃ p : S31, cs = [.int .i64 p.f0, .int .i64 p.f1, .string p.f2] := by
  obtain ⟨y0, y1, y2, n, _, hl, h0, h1, h2⟩ := trod_struct3 Try.underlying31 h
  rw [cells31] at hl
  match cs, hl with
  | [u0, u1, u2], _ =>
    simp only [cells3, cells9, List.drop_zero, List.drop_succ_cons, List.take_succ_cons, List.take_zero] at h0 h1 h2
    obtain ⟨n0, e0, _⟩ := DataW.trod_int Try.underlying3 h0
    obtain ⟨n1, e1, _⟩ := DataW.trod_int Try.underlying3 h1
    obtain ⟨s, e2, _⟩ := DataW.trod_string Try.underlying9 h2
    injection e0 with e0
    injection e1 with e1
    injection e2 with e2
    exact ⟨⟨n0, n1, s⟩, by rw [e0, e1, e2]⟩
theorem open_ops {a : Option Addr} {len cap : Nat} {x : DataW H × List MemPlace} (h : DataW.trod enc Try.prog w base spare held fuel 32 [.slice a len cap] = some x) :
    ∃ l : List S31, l.length = len ∧ len ≤ cap ∧ Kd.C k31 w a len l ∧ ((∀ n ∈ x.1.weights Try.prog 32, n ≤ reachBytes) → len * 32 ≤ reachBytes) := by
  rcases open_slice Try.underlying32 h with ⟨hcs, _⟩ | ⟨a', len', cap', m, n, D, Pl, hcs, _, hl, hm, hmm, hx, hel⟩
  · simp at hcs
    obtain ⟨rfl, rfl, rfl⟩ := hcs
    exact ⟨[], rfl, Nat.le_refl _, Kd.C_nil _ _, fun _ => by simp⟩
  · simp at hcs
    obtain ⟨rfl, rfl, rfl⟩ := hcs
    have hlm : len ≤ m := by rw [hmm]; split <;> omega
    rw [cells31] at hel
    obtain ⟨X, hX⟩ := choose_lt (α := S31) (n := len) (p := fun i p => ∃ cs', w.cells? base (a'.add (i * 3)) 3 = some cs' ∧ cs' = [.int .i64 p.f0, .int .i64 p.f1, .string p.f2]) (fun i hi => by
      obtain ⟨cs', h1, h2⟩ := hel i (by omega)
      obtain ⟨p, hp⟩ := open_op h2
      exact ⟨p, cs', h1, hp⟩)
    refine ⟨(List.range len).map X, by simp, hl, ⟨by simp, by unfold maxLen at hm; omega, fun _ => ⟨a', rfl, fun j p hj => ?_⟩⟩, fun hw => ?_⟩
    · have hjl : j < len := by have := (List.getElem?_eq_some_iff.1 hj).1; simpa using this
      rw [List.getElem?_map, List.getElem?_range hjl] at hj
      injection hj with hj
      subst hj
      obtain ⟨cs', h1, rfl⟩ := hX j hjl
      obtain ⟨_, hlen, hcell⟩ := World.cells?_some h1
      refine ⟨_, rfl, k31_mk w (X j), fun q u hu => ?_⟩
      have hq : q < 3 := by have := (List.getElem?_eq_some_iff.1 hu).1; simpa using this
      have := hcell q hq
      rw [Go.Deep.add_add] at this
      show w.cell? (a'.add (j * 3 + q)) = some u
      rw [this]
      exact hu
    · rw [hx] at hw
      have := hw ((((List.range len).map D).length + ((List.range (m - len)).map fun j => D (len + j)).length) * Try.prog.bytesOf 31) (by rw [DataW.weights, Try.underlying32]; exact List.mem_cons_self)
      rw [bytes31] at this
      simp only [List.length_map, List.length_range] at this
      exact Nat.le_trans (Nat.mul_le_mul_right _ (by omega)) this
theorem weightsAll_mem {P : Program} {e : TypeId} {d : DataW H} {n : Nat} (hn : n ∈ d.weights P e) : ∀ {ds : List (DataW H)}, d ∈ ds → n ∈ DataW.weightsAll P e ds
  | d0 :: ds, hd => by
    rw [DataW.weightsAll, List.mem_append]
    rcases List.mem_cons.1 hd with rfl | hd
    · exact Or.inl hn
    · exact Or.inr (weightsAll_mem hn hd)
theorem open_clients {a : Option Addr} {len cap : Nat} {x : DataW H × List MemPlace} (h : DataW.trod enc Try.prog w base spare held fuel 22 [.slice a len cap] = some x) :
    ∃ l : List (List S31), l.length = len ∧ len ≤ cap ∧ Kd.C (Kd.slice 31 k31) w a len l ∧ ((∀ n ∈ x.1.weights Try.prog 22, n ≤ reachBytes) → ∀ y ∈ l, y.length * 32 ≤ reachBytes) := by
  rcases open_slice1 Try.underlying22 cells32 h with ⟨hcs, _⟩ | ⟨a', len', cap', m, n, V, D, Pl, hcs, _, hl, hm, hmm, hx, hel⟩
  · simp at hcs
    obtain ⟨rfl, rfl, rfl⟩ := hcs
    exact ⟨[], rfl, Nat.le_refl _, Kd.C_nil _ _, fun _ y hy => by simp at hy⟩
  · simp at hcs
    obtain ⟨rfl, rfl, rfl⟩ := hcs
    have hlm : len ≤ m := by rw [hmm]; split <;> omega
    obtain ⟨X, hX⟩ := choose_lt (α := List S31) (n := len) (p := fun i l => (∃ A c, w.cell? (a'.add i) = some (.slice A l.length c) ∧ l.length ≤ c ∧ Kd.C k31 w A l.length l) ∧ ((∀ n ∈ (D i).weights Try.prog 32, n ≤ reachBytes) → l.length * 32 ≤ reachBytes)) (fun i hi => by
      obtain ⟨h1, h2⟩ := hel i (by omega)
      obtain ⟨A, L, C, hv⟩ : ∃ A L C, V i = .slice A L C := by
        rcases DataW.trod_slice Try.underlying32 h2 with ⟨hc, _⟩ | ⟨A, L, C, _, _, _, _, hc, _⟩
        · exact ⟨_, _, _, by injection hc⟩
        · exact ⟨_, _, _, by injection hc⟩
      rw [hv] at h1 h2
      obtain ⟨l, e1, e2, e3, e4⟩ := open_ops h2
      subst e1
      exact ⟨l, ⟨A, C, h1, e2, e3⟩, e4⟩)
    refine ⟨(List.range len).map X, by simp, hl, ⟨by simp, by unfold maxLen at hm; omega, fun _ => ⟨a', rfl, fun j p hj => ?_⟩⟩, fun hw y hy => ?_⟩
    · have hjl : j < len := by have := (List.getElem?_eq_some_iff.1 hj).1; simpa using this
      rw [List.getElem?_map, List.getElem?_range hjl] at hj
      injection hj with hj
      subst hj
      obtain ⟨⟨A, c, h1, h2, h3⟩, _⟩ := hX j hjl
      refine ⟨_, rfl, ⟨A, c, rfl, h2, h3⟩, fun q u hu => ?_⟩
      have hq : q = 0 := by have := (List.getElem?_eq_some_iff.1 hu).1; simpa using this
      subst hq
      show w.cell? (a'.add (j * 1 + 0)) = some u
      rw [Nat.mul_one, Nat.add_zero, h1]
      exact hu
    · obtain ⟨j, hj, rfl⟩ := List.mem_map.1 hy
      have hjl := List.mem_range.1 hj
      refine (hX j hjl).2 (fun n hn => hw n ?_)
      rw [hx]
      rw [DataW.weights, Try.underlying22]
      exact List.mem_cons_of_mem _ (List.mem_append_left _ (weightsAll_mem hn (List.mem_map.2 ⟨j, hj, rfl⟩)))
end
end Go.Proofs.Ytdflfjcnogokgaa.PTableEnds
