/- Push. -/
import Derived.Test.YtagcfomjbnecdaaI
import Derived.Deep.RegionLaw
import Derived.IntWalk
import Derived.Deep.AppendLies
namespace Go.Proofs.Ytagcfomjbnecdaa
open Go.RowKit

theorem step_append_at {P : Program} (w : World) {ops : Array Oper} {o : Oper} {a : Act} {K : Act → World → Prop} {Q : Exit → Act → World → Prop} {E : Prop} (hgd : o.guard = none) (s x : Operand) (t : TypeId)
    (ho : o.op = .call { callee := .builtin .append, args := #[s, x], argTypes := #[t, t] })
    (e : TypeId) (i : TypeInfo) (z : Value) (size bytes : Nat) (ht : P.underlying t = some (.slice e)) (hi : P.info? e = some i) (hz : i.zero = some z)
    (hsize : i.size = size) (hby : i.bytes = bytes) (hzs : z.cells.size = size) (hsz : 0 < size)
    (v : Value) (n : Nat) (xs : List Value) (hs : a.eval s = v) (hown : w.ownsRow 0 e size v n xs)
    (ad : Addr) (m c : Nat) (news : List Value) (hx : a.eval x = .slice (some ad) m c) (hl : news.length = m * size) (hnews : ∀ j u, news[j]? = some u → w.cell? (ad.add j) = some u) (h1 : ∀ u ∈ news, u.oneCell' = true)
    (h63 : n + m ≤ maxLen) (hbytes : (n + m) * bytes ≤ 140737488355328)
    (h : ∀ v' w', w'.ownsRow 0 e size v' (n + m) (xs ++ news) → w.grownBy w' v.ownBlock → NewOr w v v' → K (a.put o.dst v') w') :
    if Region.wanted o (yielded ops a.tmps) = true then Oper.wp P o a w K Q else E := by
  have hw : Region.wanted o (yielded ops a.tmps) = true := by simp [Region.wanted, hgd]
  rw [if_pos hw]
  obtain ⟨v', w', hr, h2, h3, h4⟩ := run_append_at (P := P) w t o.type e i z size bytes ht hi hz hsize hby hzs hsz v n xs hown ad m c news hl hnews h1 h63 hbytes
  unfold Oper.wp execOp
  simp only [ho, resolve, invoke, builtin, Sem.run_bind, Sem.run_pure, Result.andThen_ok, List.map_toArray, List.map_cons, List.map_nil, hs, hx, hr]
  exact h v' w' h2 h3 h4

theorem Try.info49 : (Try.prog.info? 49).map (fun i => (i.zero, i.size, i.bytes)) = some (some (.agg #[.int .i64 0, .int .i64 0, .int .i64 0]), 3, 24) := by kernel_rfl
theorem Try.info27 : (Try.prog.info? 27).map (fun i => (i.zero, i.size, i.bytes)) = some (some (.agg #[.int .i64 0, .int .i64 0]), 2, 16) := by kernel_rfl

theorem own_shape {w : World} {e : TypeId} {sz n : Nat} {v : Value} {xs : List Value} (h : w.ownsRow 0 e sz v n xs) : ∃ A m c, v = .slice A m c := by
  rcases h.2 with ⟨rfl, _⟩ | ⟨g, cap, cur, rfl, _⟩
  · exact ⟨_, _, _, rfl⟩
  · exact ⟨_, _, _, rfl⟩

/-- The jumps at A read as L; they do not lie in N. -/
def JS (w : World) (N : Nat → Prop) (A : Option Addr) (L : List J) : Prop :=
  ∀ i, i < L.length → ∃ b off, A = some ⟨b, off, none⟩ ∧ ¬ N b ∧ w.cell? ⟨b, off + i * 2, none⟩ = some (.int .i64 (gj L i).1) ∧ w.cell? ⟨b, off + i * 2 + 1, none⟩ = some (.int .i64 (gj L i).2)

theorem QM.push {w w2 : World} {c : Nat} {vH vH2 : Value} {H H2 : List It} {T : Int} (Q : QM w c vH H T) (o : Obj) (r : IR w2 vH2 H2) (hg : (w.alloc o).grownBy w2 vH.ownBlock) (hn : NewOr (w.alloc o) vH vH2) (T' : Int) :
    QM ((w2.setCell ⟨c, 0, none⟩ vH2).setCell ⟨c, 2, none⟩ (.int .i64 T')) c vH2 H2 T' ∧ Kept (Own c vH) w ((w2.setCell ⟨c, 0, none⟩ vH2).setCell ⟨c, 2, none⟩ (.int .i64 T')) ∧ ∀ j, Own c vH2 j → Own c vH j ∨ w.heap.size ≤ j := by
  have k0 : Kept (fun j => vH.ownBlock = some j) w w2 := ((Kept.refl _ w).alloc o).grown hg (fun j hj _ => hj)
  have hb := k0.heap Q.blk Q.notR
  have hB' : ¬ vH2.ownBlock = some c := r.other hb (by decide)
  have ks : Kept (· = c) w2 ((w2.setCell ⟨c, 0, none⟩ vH2).setCell ⟨c, 2, none⟩ (.int .i64 T')) := ((Kept.refl (· = c) w2).setCell (p := ⟨c, 0, none⟩) (fun _ => rfl) _).setCell (p := ⟨c, 2, none⟩) (fun _ => rfl) _
  refine ⟨⟨blk_set (blk_set hb 0 _) 2 _, r.kept ks (fun j hj e => hB' (by rw [hj, e]))⟩, k0.trans' ks (fun j _ hj => .inr hj) (fun j _ hj => .inl hj), fun j hj => ?_⟩
  rcases hj with q | q
  · exact .inl (.inl q)
  · rcases hn with e | ⟨k', e, hk'⟩
    · exact .inl (.inr (by rw [← e]; exact q))
    · rw [q] at e
      injection e with e
      have : (w.alloc o).heap.size = w.heap.size + 1 := by simp
      exact .inr (by omega)

/-- L has been pushed. -/
def PostPush (c : Nat) (vH : Value) (T : Int) (K : List It) (L : List J) (w w' : World) : Prop :=
  ∃ H' vH' K', Heap H' ∧ Rel H' (T + L.length) K' ∧ jumps K' = jumps K ++ L ∧ QM w' c vH' H' (T + L.length) ∧ Kept (Own c vH) w w' ∧ ∀ j, Own c vH' j → Own c vH j ∨ w.heap.size ≤ j

/-- What holds at the head of Push's loop: k have been pushed. -/
structure PushI (w : World) (c : Nat) (vH : Value) (T : Int) (K : List It) (L : List J) (k : Nat) (wr : World) (H' : List It) (vH' : Value) (K' : List It) : Prop where
  heap : Heap H'
  rel : Rel H' (T + k) K'
  js : jumps K' = jumps K ++ L.take k
  q : QM wr c vH' H' (T + k)
  kept : Kept (Own c vH) w wr
  own : ∀ j, Own c vH' j → Own c vH j ∨ w.heap.size ≤ j

theorem take_snoc {L : List J} {k : Nat} (h : k < L.length) : L.take (k + 1) = L.take k ++ [gj L k] := by
  rw [gj_eq h, List.take_succ_eq_append_getElem h]

theorem PushI.next {w wr w2 w3 : World} {c : Nat} {vH vH' vH2 : Value} {T : Int} {K : List It} {L : List J} {k : Nat} {H' H3 K' : List It} (I : PushI w c vH T K L k wr H' vH' K') (hk : k < L.length)
    (k1 : Kept (Own c vH') wr w2) (j1 : ∀ j, Own c vH2 j → Own c vH' j ∨ wr.heap.size ≤ j) (hp : H3.Perm (H' ++ [⟨(gj L k).1, (gj L k).2, T + k⟩])) (hH : Heap H3) (Q : QM w3 c vH2 H3 (T + k + 1)) (k3 : Kept (fun j => vH2.ownBlock = some j) w2 w3) :
    PushI w c vH T K L (k + 1) w3 H3 vH2 (K' ++ [⟨(gj L k).1, (gj L k).2, T + k⟩]) := by
  have s1 := I.kept.size
  have e : T + ((k + 1 : Nat) : Int) = T + k + 1 := by omega
  have k2 : Kept (fun j => Own c vH' j ∨ wr.heap.size ≤ j) wr w3 := k1.trans' k3 (fun _ _ q => .inl q) (fun j _ q => j1 j (.inr q))
  refine ⟨hH, by rw [e]; exact I.rel.push _ _ hp, ?_, by rw [e]; exact Q, I.kept.trans' k2 (fun _ _ q => q) (fun j hj q => ?_), fun j hj => ?_⟩
  · rw [take_snoc hk, ← List.append_assoc, ← I.js]
    simp [jumps, It.j]
  · rcases q with q | q
    · exact (I.own j q).resolve_right (by omega)
    · omega
  · rcases j1 j hj with q | q
    · exact I.own j q
    · exact .inr (by omega)

set_option maxHeartbeats 4000000 in
theorem push_any (w : World) (c : Nat) (vH : Value) (H : List It) (T : Int) (Q : QM w c vH H T) (hH : Heap H) (K : List It) (R : Rel H T K) (A : Option Addr) (cap : Nat) (L : List J) (hL : JS w (Own c vH) A L)
    (hm : H.length + L.length ≤ 1000) (hT : 0 ≤ T ∧ T ≤ 1000000) :
    Calls Try.prog 9 #[.pointer (some ⟨c, 0, none⟩), .slice A L.length cap] w fun e w' => e = .returned (.tuple #[]) ∧ PostPush c vH T K L w w' := by
  have hI0 : PushI w c vH T K L 0 w H vH K := ⟨hH, by simpa using R, by simp, by simpa using Q, Kept.refl _ _, fun j hj => .inl hj⟩
  obtain ⟨hT0, hT1⟩ := hT
  go_enter Try.func9, Try.ntmps9
  go_wp2
  go_loopw [10] (fun i wr => ∃ (k : Nat) (H' : List It) (vH' : Value) (K' : List It), k ≤ L.length ∧ i = .int .i64 k ∧ PushI w c vH T K L k wr H' vH' K') (fun i _ => L.length - (intOf i).toNat)
  case atStart => exact ⟨0, H, vH, K, Nat.zero_le _, rfl, hI0⟩
  case round =>
    clear hI0
    obtain ⟨k, H', vH', K', hk, rfl, I⟩ := hrel
    have hlen : H'.length ≤ H.length + k ∧ H.length + k ≤ H'.length := by
      have h1 := I.rel.len
      have h2 := congrArg List.length I.js
      rw [jumps_len, List.length_append, jumps_len, List.length_take] at h2
      have h3 := R.len
      omega
    obtain ⟨hlen, _⟩ := hlen
    by_cases hlt : k < L.length
    · obtain ⟨b, off, rfl, hnb, y0, y1⟩ := hL k hlt
      have x0 := I.kept.cell y0 hnb
      have x1 := I.kept.cell y1 hnb
      clear y0 y1
      have hkA : Kept (fun _ => False) wr (wr.alloc (.cells #[.int .i64 (gj L k).1, .int .i64 (gj L k).2] 27)) := (Kept.refl _ _).alloc _
      have QA := I.q.kept hkA (fun _ _ q => q)
      have z0 : (wr.alloc (.cells #[.int .i64 (gj L k).1, .int .i64 (gj L k).2] 27)).cell? ⟨wr.heap.size, 0, none⟩ = some (.int .i64 (gj L k).1) := by simp
      have z1 : (wr.alloc (.cells #[.int .i64 (gj L k).1, .int .i64 (gj L k).2] 27)).cell? ⟨wr.heap.size, 1, none⟩ = some (.int .i64 (gj L k).2) := by simp
      go_wp2_with fail
      have hwa : wr.heap.size < (wr.alloc (.cells #[.int .i64 (gj L k).1, .int .i64 (gj L k).2] 27)).heap.size := by simp
      generalize wr.alloc (Obj.cells #[Value.int IntKind.i64 (gj L k).1, Value.int IntKind.i64 (gj L k).2] 27) = wa at *
      have c0 := QA.c0
      have c2 := QA.c2
      have f0 := frozen_of QA.blk 0
      have f2 := frozen_of QA.blk 2
      have hcl := QA.lt
      have hne := QA.notR
      obtain ⟨i0, hi, hz0, hz1, hz2⟩ := info_parts Try.info49
      have hw1 : IntKind.i64.wrap (T + k) = T + k := IntWalk.i64_in _ (by omega)
      go_region_law ((refine step_append_at _ rfl _ _ 45 (by rfl) 49 i0 (.agg #[.int .i64 0, .int .i64 0, .int .i64 0]) 3 24 Try.underlying45 hi hz0 hz1 hz2 rfl (by decide) vH' H'.length (irow H') (by rfl) (World.ownsRow.alloc QA.row _) ⟨wa.heap.size, 0, none⟩ 1 1 [.int .i64 (gj L k).1, .int .i64 (gj L k).2, .int .i64 (T + k)] (by rfl) rfl (World.news_of_block (heap_alloc_new wa _)) (by simp [Value.oneCell']) (by simp only [maxLen]; omega) (by omega) ?_; intro vH2 w2 r2 g2 n2; obtain ⟨A2, m2, cap2, hs2⟩ := own_shape r2; subst hs2; have k0 : Kept (fun j => vH'.ownBlock = some j) wa w2 := (((Kept.refl _ wa).alloc _).drew).grown g2 (fun j hj _ => hj); have q0 := k0.heap QA.blk hne; have q1 : w2.cell? ⟨c, 0, none⟩ = some vH' := (by rw [cell_of_row w2 c 0 _ 47 (0, 0) q0]; rfl); have q2 : w2.cell? ⟨c, 2, none⟩ = some (.int .i64 (T + k)) := (by rw [cell_of_row w2 c 2 _ 47 (0, 0) q0]; rfl); have q3 := frozen_of q0 0; have q4 := frozen_of q0 2))
      all_goals
        have r2' : IR w2 (.slice A2 m2 cap2) (H' ++ [⟨(gj L k).1, (gj L k).2, T + k⟩]) := by
          unfold IR
          rw [irow_app, List.length_append]
          exact r2
        obtain ⟨Q5, K5, J5⟩ := (QM.drew QA).push (.cells #[.int .i64 (gj L k).1, .int .i64 (gj L k).2, .int .i64 (T + k)] 49) r2' g2 n2 (T + k + 1)
        go_wp2_with fail
        refine (up_any _ c (.slice A2 m2 cap2) (H' ++ [⟨(gj L k).1, (gj L k).2, T + k⟩]) (T + k + 1) Q5 H'.length (by simp) (up_start I.heap _) (by omega)).mono ?_
        rintro e w5 ⟨rfl, H5, hp5, hH5, Q6, K6⟩
        have k1 : Kept (Own c vH') wr ((w2.setCell ⟨c, 0, none⟩ (.slice A2 m2 cap2)).setCell ⟨c, 2, none⟩ (.int .i64 (T + k + 1))) := ((hkA.drew).mono (fun _ _ q => q.elim)).trans K5
        have j1 : ∀ j, Own c (.slice A2 m2 cap2) j → Own c vH' j ∨ wr.heap.size ≤ j := fun j hj => (J5 j hj).imp id (fun q => Nat.le_trans (Nat.le_of_lt hwa) q)
        have IN := I.next hlt k1 j1 hp5 hH5 Q6 K6
        clear QA Q5 K5 J5 r2 r2' g2 n2 k0 q0 q1 q2 q3 q4 c0 c2 f0 f2 x0 x1 z0 z1
        go_wp2_with fail
        go_roundw
        case rel => exact ⟨k + 1, H5, _, _, by omega, by go_num, IN⟩
        case measure => simp [intOf]; omega
    · have hkn : L.length ≤ k := by omega
      have hkl : k = L.length := by omega
      have I' := I
      rw [hkl] at I'
      clear hkl
      go_wp2
      go_end0
      exact ⟨rfl, H', vH', K', I'.heap, I'.rel, by rw [I'.js, List.take_length], I'.q, I'.kept, I'.own⟩
end Go.Proofs.Ytagcfomjbnecdaa
