/- Ops and jumps that came in. -/
import Derived.Test.YtagcfomjbnecdaaS
import Derived.Deep.SlicePairs
namespace Go.Proofs.Ytagcfomjbnecdaa
open Go.RowKit Go.ChangeShapes Go.Deep

theorem ops_open {H : Type} {enc : TypeId × Value → H} {W : World} {held : Bool} {fuel : Nat} {a : Option Addr} {len cap : Nat} {x : DataW H × List MemPlace}
    (h : DataW.trod enc Try.prog W 0 (fun _ => true) held fuel 22 [.slice a len cap] = some x) : ∃ P : List (Int × J), P.length = len ∧ OpsR W a P := by
  rcases open_slice Try.underlying22 h with ⟨hcs, _⟩ | ⟨ad, len', cap', m, n, D, Pl, hcs, _, hl, _, hmm, _, hx⟩
  · injection hcs with hcs
    injection hcs with h1 h2 h3
    subst h1 h2 h3
    exact ⟨[], rfl, fun i l hi => by cases hi⟩
  · injection hcs with hcs
    injection hcs with h1 h2 h3
    subst h1 h2 h3
    simp only [if_true] at hmm
    subst hmm
    have c34 : Try.prog.cellsOf 34 = 3 := by kernel_rfl
    have each : ∀ i, i < m → ∃ q : Int × J, W.cell? (ad.add (i * 3)) = some (.int .i64 q.1) ∧ W.cell? (ad.add (i * 3 + 1)) = some (.int .i64 q.2.1) ∧ W.cell? (ad.add (i * 3 + 2)) = some (.int .i64 q.2.2) := by
      intro i hi
      obtain ⟨cs', h1, h2⟩ := hx i hi
      rw [c34] at h1
      obtain ⟨_, hlen, hcell⟩ := World.cells?_some h1
      obtain ⟨xs, k, hk, _, _, hxl, hf⟩ := DataW.trod_struct Try.underlying34 h2
      match xs, hxl, cs', hlen with
      | [y0, y1], _, [v0, v1, v2], _ =>
        have g0 := hf 0 _ rfl
        have g1 := hf 1 _ rfl
        rw [show Try.prog.cellsOf _ = 1 by kernel_rfl] at g0
        rw [show Try.prog.cellsOf _ = 2 by kernel_rfl] at g1
        obtain ⟨n0, e0, _⟩ := DataW.trod_int Try.underlying3 g0
        obtain ⟨zs, k2, _, _, _, hzl, hg⟩ := DataW.trod_struct Try.underlying27 g1
        match zs, hzl with
        | [z0, z1], _ =>
          have w0 := hg 0 _ rfl
          have w1 := hg 1 _ rfl
          rw [show Try.prog.cellsOf _ = 1 by kernel_rfl] at w0 w1
          obtain ⟨n1, e1, _⟩ := DataW.trod_int Try.underlying3 w0
          obtain ⟨n2, e2, _⟩ := DataW.trod_int Try.underlying3 w1
          simp at e0 e1 e2
          subst e0 e1 e2
          have q0 := hcell 0 (by omega)
          have q1 := hcell 1 (by omega)
          have q2 := hcell 2 (by omega)
          rw [add_add] at q0 q1 q2
          exact ⟨(n0, n1, n2), by simpa using q0, by simpa using q1, by simpa using q2⟩
    obtain ⟨q, hq⟩ := choose_lt each
    refine ⟨(List.range len).map q, by simp, fun i y hi => ?_⟩
    have hi' : i < len := by
      have := (List.getElem?_eq_some_iff.1 hi).1
      simpa using this
    rw [List.getElem?_map, List.getElem?_range hi'] at hi
    injection hi with hi
    subst hi
    obtain ⟨c0, c1, c2⟩ := hq i (by omega)
    obtain ⟨d0, _⟩ := hq 0 (by omega)
    have hsp : ad.spot = none := by
      have := World.cell?_spot d0
      unfold Addr.add at this
      simpa using this
    obtain ⟨b, off, spot⟩ := ad
    simp only at hsp
    subst hsp
    rw [addr_add] at c0 c1 c2
    exact ⟨b, off, rfl, c0, by rw [Nat.add_assoc]; exact c1, by rw [Nat.add_assoc]; exact c2⟩

theorem jumps_open {H : Type} {enc : TypeId × Value → H} {W : World} {held : Bool} {fuel : Nat} {a : Option Addr} {len cap : Nat} {x : DataW H × List MemPlace}
    (h : DataW.trod enc Try.prog W 0 (fun _ => true) held fuel 30 [.slice a len cap] = some x) : ∃ L : List J, L.length = len ∧ JS W (fun k => W.heap.size ≤ k) a L := by
  rcases open_slice_pairs Try.underlying30 Try.underlying27 (by kernel_rfl) rfl rfl (by kernel_rfl) (by kernel_rfl) h with ⟨hcs, _⟩ | ⟨ad, len', cap', m, n, V0, V1, D0, D1, P0, P1, hcs, _, hl, _, hmm, _, hx⟩
  · injection hcs with hcs
    injection hcs with h1 h2 h3
    subst h1 h2 h3
    exact ⟨[], rfl, fun i hi => by simp at hi⟩
  · injection hcs with hcs
    injection hcs with h1 h2 h3
    subst h1 h2 h3
    simp only [if_true] at hmm
    subst hmm
    have each : ∀ i, i < m → ∃ q : J, W.cell? (ad.add (i * 2)) = some (.int .i64 q.1) ∧ W.cell? (ad.add (i * 2 + 1)) = some (.int .i64 q.2) := by
      intro i hi
      obtain ⟨c0, c1, t0, t1⟩ := hx i hi
      obtain ⟨n0, e0, _⟩ := DataW.trod_int Try.underlying3 t0
      obtain ⟨n1, e1, _⟩ := DataW.trod_int Try.underlying3 t1
      simp at e0 e1
      exact ⟨(n0, n1), by rw [c0, e0], by rw [c1, e1]⟩
    obtain ⟨q, hq⟩ := choose_lt each
    refine ⟨(List.range len).map q, by simp, fun i hi => ?_⟩
    have hi' : i < len := by simpa using hi
    have hg : gj ((List.range len).map q) i = q i := by
      rw [gj_eq hi]
      simp
    rw [hg]
    obtain ⟨c0, c1⟩ := hq i (by omega)
    obtain ⟨d0, _⟩ := hq 0 (by omega)
    have hsp : ad.spot = none := by
      have := World.cell?_spot d0
      unfold Addr.add at this
      simpa using this
    obtain ⟨b, off, spot⟩ := ad
    simp only at hsp
    subst hsp
    rw [addr_add] at c0 c1
    refine ⟨b, off, rfl, ?_, c0, by rw [Nat.add_assoc]; exact c1⟩
    have := World.block_lt_of_cell? (a := ⟨b, off + i * 2, none⟩) W c0
    simp only at this
    omega

theorem does_long (w : World) (A : Option Addr) (n cap : Nat) (hm : 200 < n) : Calls Try.prog 3 #[.slice A n cap] w fun e w' => e = .returned (.bool true) ∧ Kept (fun _ => False) w w' := by
  have hmi : (200 : Int) < (n : Int) := by omega
  go_enter Try.func3, Try.ntmps3
  go_wp2_with fail
  refine (live_any _).mono ?_
  rintro e w2 ⟨rfl, k2⟩
  go_wp2_with fail
  go_ret
  exact ⟨rfl, k2⟩
theorem does_law (w : World) (a : Option Addr) (len cap : Nat) (P : List (Int × J)) (hL : P.length = len) (h : OpsR w a P) :
    Calls Try.prog 3 #[.slice a len cap] w fun e w' => e = .returned (.bool true) ∧ Kept (fun _ => False) w w' := by
  rcases Nat.lt_or_ge 200 len with q | q
  · exact does_long w a len cap q
  · subst hL
    exact does_short w a cap P h q

end Go.Proofs.Ytagcfomjbnecdaa
