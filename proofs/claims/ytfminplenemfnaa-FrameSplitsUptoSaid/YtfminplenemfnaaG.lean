/- The frames of a stream; Feed. -/
import Derived.Test.YtfminplenemfnaaF
import Derived.Deep.LoopGhost
import Derived.Deep.AppendLies
namespace Go.Proofs.Ytfminplenemfnaa
open Go.RowKit

def fr (r : List Int) : List Int × Int := (bodyOf r, if 4096 < wantI r then 6 else 0)

def parse (t : List Int) : List (List Int × Int) × List Int :=
  if h : 2 ≤ t.length ∧ 2 + wantN t ≤ t.length then
    (fr (t.take (2 + wantN t)) :: (parse (t.drop (2 + wantN t))).1, (parse (t.drop (2 + wantN t))).2)
  else ([], t)
termination_by t.length
decreasing_by all_goals (simp only [List.length_drop]; omega)

theorem parse_opn {t : List Int} (h : Opn t) : parse t = ([], t) := by
  rw [parse, dif_neg]
  unfold Opn at h
  omega

theorem wantI_app {r s : List Int} (h : 2 ≤ r.length) : wantI (r ++ s) = wantI r := by
  match r, h with
  | a :: b :: r, _ => rfl

theorem parse_full {r s : List Int} (h : 2 ≤ r.length) (h2 : r.length = 2 + wantN r) : parse (r ++ s) = (fr r :: (parse s).1, (parse s).2) := by
  have hw : wantN (r ++ s) = wantN r := by unfold wantN; rw [wantI_app h]
  rw [parse, dif_pos ⟨by rw [List.length_append]; omega, by rw [hw, List.length_append]; omega⟩, hw, ← h2]
  rw [List.take_left, List.drop_left]

def frow (vs : List (Value × Int)) : List Value := vs.flatMap fun p => [p.1, .int .i64 p.2]
theorem frow_len (vs : List (Value × Int)) : (frow vs).length = vs.length * 2 := by
  induction vs with
  | nil => rfl
  | cons a l ih => simp only [frow, List.flatMap_cons, List.length_append, List.length_cons, List.length_nil] at ih ⊢; omega
theorem frow_app (vs us : List (Value × Int)) : frow (vs ++ us) = frow vs ++ frow us := by simp [frow]

/-- v is a row of frames. -/
def FR (w : World) (v : Value) (vs : List (Value × Int)) : Prop := w.ownsRow 0 41 2 v vs.length (frow vs)

/-- The value x reads as the bytes l; where it lies N does not hold. -/
def FrOK (w : World) (N : Nat → Prop) (x : Value) (l : List Int) : Prop := (x = .slice none 0 0 ∧ l = []) ∨ ∃ g, ¬ N g ∧ Sl w g x l

def Fits (w : World) (N : Nat → Prop) (vs : List (Value × Int)) (fs : List (List Int × Int)) : Prop :=
  vs.length = fs.length ∧ ∀ (i : Nat) (p : Value × Int) (f : List Int × Int), vs[i]? = some p → fs[i]? = some f → p.2 = f.2 ∧ FrOK w N p.1 f.1

theorem FrOK.kept {S N N' : Nat → Prop} {w w' : World} {x : Value} {l : List Int} (h : FrOK w N x l) (k : Kept S w w') (hS : ∀ i, i < w.heap.size → S i → N i) (hN : ∀ i, i < w.heap.size → N' i → N i) : FrOK w' N' x l := by
  rcases h with h | ⟨g, hg, hs⟩
  · exact .inl h
  · have hlt : g < w.heap.size := by obtain ⟨o, cap, _, _, h3, _⟩ := hs; exact h3
    exact .inr ⟨g, fun q => hg (hN g hlt q), hs.kept k (fun q => hg (hS g hlt q))⟩

theorem Fits.kept {S N N' : Nat → Prop} {w w' : World} {vs : List (Value × Int)} {fs : List (List Int × Int)} (h : Fits w N vs fs) (k : Kept S w w') (hS : ∀ i, i < w.heap.size → S i → N i) (hN : ∀ i, i < w.heap.size → N' i → N i) : Fits w' N' vs fs :=
  ⟨h.1, fun i p f hp hf => ⟨(h.2 i p f hp hf).1, (h.2 i p f hp hf).2.kept k hS hN⟩⟩

theorem Fits.nil (w : World) (N : Nat → Prop) : Fits w N [] [] := ⟨rfl, fun i p f hp _ => by cases hp⟩
theorem Fits.snoc {w : World} {N : Nat → Prop} {vs : List (Value × Int)} {fs : List (List Int × Int)} (h : Fits w N vs fs) (x : Value) (n : Int) (l : List Int) (hx : FrOK w N x l) : Fits w N (vs ++ [(x, n)]) (fs ++ [(l, n)]) := by
  refine ⟨by simp [h.1], fun i p f hp hf => ?_⟩
  rcases Nat.lt_or_ge i vs.length with hi | hi
  · rw [List.getElem?_append_left hi] at hp
    rw [List.getElem?_append_left (by rw [← h.1]; exact hi)] at hf
    exact h.2 i p f hp hf
  · rw [List.getElem?_append_right hi] at hp
    rw [List.getElem?_append_right (by rw [← h.1]; exact hi), ← h.1] at hf
    generalize i - vs.length = j at hp hf
    cases j with
    | zero => injection hp with hp; injection hf with hf; subst hp; subst hf; exact ⟨rfl, hx⟩
    | succ j => cases hp

theorem FR.kept {S : Nat → Prop} {w w' : World} {v : Value} {vs : List (Value × Int)} (h : FR w v vs) (k : Kept S w w') (hn : ∀ g, v.ownBlock = some g → ¬ S g) : FR w' v vs := by
  obtain ⟨h1, h2⟩ := h
  refine ⟨h1, ?_⟩
  rcases h2 with h2 | ⟨g, cap, cur, rfl, hb, hg, r⟩
  · exact .inl h2
  · exact .inr ⟨g, cap, cur, rfl, hb, k.heap hg (hn g rfl), r⟩

theorem FR.shape {w : World} {v : Value} {vs : List (Value × Int)} (h : FR w v vs) : ∃ a c, v = .slice a vs.length c := by
  rcases h.2 with ⟨rfl, hn⟩ | ⟨g, cap, cur, rfl, _⟩
  · exact ⟨none, 0, by rw [hn]⟩
  · exact ⟨_, _, rfl⟩

/-- v reads as the bytes l, which lie in block g if there are any. -/
def SlN (w : World) (g : Nat) (v : Value) (l : List Int) : Prop :=
  ∃ A cap, v = .slice A l.length cap ∧ l.length ≤ cap ∧ (l ≠ [] → ∃ o, A = some ⟨g, o, none⟩ ∧ ∀ i x, l[i]? = some x → w.cell? ⟨g, o + i, none⟩ = some (.int .u8 x))

theorem SlN.kept {S : Nat → Prop} {w w' : World} {g : Nat} {v : Value} {l : List Int} (h : SlN w g v l) (k : Kept S w w') (hn : ¬ S g) : SlN w' g v l := by
  obtain ⟨A, cap, h1, h2, h3⟩ := h
  refine ⟨A, cap, h1, h2, fun q => ?_⟩
  obtain ⟨o, e, hx⟩ := h3 q
  exact ⟨o, e, fun i x hi => k.cell (p := ⟨g, o + i, none⟩) (hx i x hi) hn⟩

/-- What Feed returns and leaves. -/
def PostFeed (c : Nat) (vL vB : Value) (r l : List Int) (w : World) (e : Ending) (w' : World) : Prop :=
  ∃ vO vs vL2 vB2, e = .returned vO ∧ FR w' vO vs ∧ (∀ k, vO.ownBlock = some k → w.heap.size ≤ k ∧ ¬ Own c vL2 vB2 k) ∧
    Fits w' (fun k => Own c vL2 vB2 k ∨ vO.ownBlock = some k ∨ ¬ (Own c vL vB k ∨ w.heap.size ≤ k)) vs (parse (r ++ l)).1 ∧
    St w' c vL2 vB2 (parse (r ++ l)).2 ∧ Kept (Own c vL vB) w w' ∧ (∀ k, Own c vL2 vB2 k → Own c vL vB k ∨ w.heap.size ≤ k)

theorem Try.info41 : (Try.prog.info? 41).map (fun i => (i.zero, i.size, i.bytes)) = some (some (.agg #[.slice none 0 0, .int .i64 0]), 2, 32) := by kernel_rfl

/-- What holds in Feed's loops: k bytes are left. -/
structure Inv (c : Nat) (vL vB : Value) (r l : List Int) (g : Nat) (w : World) (k : Nat) (s1 s5 : Value) (wr : World) (l2 : List Int) (vs : List (Value × Int)) (fs : List (List Int × Int)) (vL2 vB2 : Value) (r2 : List Int) : Prop where
  left : SlN wr g s1 l2
  count : l2.length = k
  st : St wr c vL2 vB2 r2
  opn : Opn r2
  br : Bytes r2
  bl : Bytes l2
  row : FR wr s5 vs
  own : ∀ j, s5.ownBlock = some j → w.heap.size ≤ j ∧ ¬ Own c vL2 vB2 j
  fits : Fits wr (fun j => Own c vL2 vB2 j ∨ s5.ownBlock = some j ∨ ¬ (Own c vL vB j ∨ w.heap.size ≤ j)) vs fs
  all : fs ++ (parse (r2 ++ l2)).1 = (parse (r ++ l)).1
  rest : (parse (r2 ++ l2)).2 = (parse (r ++ l)).2
  kept : Kept (Own c vL vB) w wr
  next : ∀ j, Own c vL2 vB2 j → Own c vL vB j ∨ w.heap.size ≤ j
  small : vs.length + l2.length ≤ l.length
  far : l2 ≠ [] → g < w.heap.size

theorem shorter {r l r' rest : List Int} (ho : Opn r) (happ : r ++ l = r' ++ rest) (h2 : 2 ≤ r'.length) (hw : r'.length = 2 + wantN r') : rest.length < l.length := by
  have hL := congrArg List.length happ
  rw [List.length_append, List.length_append] at hL
  rcases Nat.lt_or_ge rest.length l.length with h | h
  · exact h
  · exfalso
    have hp : r' = r.take r'.length := by
      have : (r' ++ rest).take r'.length = (r ++ l).take r'.length := by rw [happ]
      rw [List.take_left, List.take_append_of_le_length (by omega)] at this
      exact this
    have hr : r = r' ++ r.drop r'.length := by
      have := List.take_append_drop r'.length r
      rw [← hp] at this
      exact this.symm
    have hwr : wantN r = wantN r' := by
      unfold wantN
      rw [hr, wantI_app h2]
    unfold Opn at ho
    omega

section
variable {c g : Nat} {vL vB : Value} {r l : List Int} {w wr w' : World} {k : Nat} {s1 s5 : Value} {l2 : List Int} {vs : List (Value × Int)} {fs : List (List Int × Int)} {vL2 vB2 vL3 vB3 : Value} {r2 r' : List Int}

theorem Inv.stop (I : Inv c vL vB r l g w k s1 s5 wr l2 vs fs vL2 vB2 r2) (happ : r2 ++ l2 = r' ++ []) (ho : Opn r') (C3 : St w' c vL3 vB3 r') (K3 : Kept (Own c vL2 vB2) wr w') (J3 : ∀ j, Own c vL3 vB3 j → Own c vL2 vB2 j ∨ wr.heap.size ≤ j) (A : Option Addr) (cap : Nat) :
    Inv c vL vB r l g w 0 (.slice A 0 cap) s5 w' [] vs fs vL3 vB3 r' := by
  obtain ⟨q1, q2⟩ := own_next I.kept I.next K3 J3
  refine ⟨⟨_, _, rfl, Nat.zero_le _, fun h => absurd rfl h⟩, rfl, C3, ho, ?_, (fun x hx => by cases hx), I.row.kept K3 (fun j hj => (I.own j hj).2), ?_, I.fits.kept K3 (fun _ _ h => .inl h) ?_, ?_, ?_, q1, q2, by have := I.small; simp only [List.length_nil]; omega, fun h => absurd rfl h⟩
  · have hb := I.br.app I.bl
    rw [happ, List.append_nil] at hb
    exact hb
  · intro j hj
    refine ⟨(I.own j hj).1, fun q => ?_⟩
    rcases J3 j q with q | q
    · exact (I.own j hj).2 q
    · have := (World.ownsRow.lt I.row j hj).2
      omega
  · rintro j hj (q | q | q)
    · exact .inl ((J3 j q).resolve_right (by omega))
    · exact .inr (.inl q)
    · exact .inr (.inr q)
  · rw [← happ]; exact I.all
  · rw [← happ]; exact I.rest

theorem Inv.go (I : Inv c vL vB r l g w k s1 s5 wr l2 vs fs vL2 vB2 r2) {rest : List Int} (happ : r2 ++ l2 = r' ++ rest) (h2 : 2 ≤ r'.length) (hw : r'.length = 2 + wantN r') (C3 : St w' c vL3 vB3 r') (K3 : Kept (Own c vL2 vB2) wr w') (J3 : ∀ j, Own c vL3 vB3 j → Own c vL2 vB2 j ∨ wr.heap.size ≤ j)
    {w2 w4 : World} {o : Obj} {vO : Value} {o3 cap3 : Nat} (hg : ¬ Own c vL vB g) (hc3 : rest.length ≤ cap3) (hx3 : ∀ i x, rest[i]? = some x → w'.cell? ⟨g, o3 + i, none⟩ = some (.int .u8 x))
    (D : Cut w2 c (.slice none 0 0) (.slice none 0 0) [] [] 0) (KD : Kept (· = c) w' w2) (hrow : FR w4 vO (vs ++ [(vB3, (fr r').2)])) (hgr : (w2.alloc o).grownBy w4 s5.ownBlock) (hnew : NewOr (w2.alloc o) s5 vO) :
    Inv c vL vB r l g w rest.length (.slice (some ⟨g, o3, none⟩) rest.length cap3) vO w4 rest (vs ++ [(vB3, (fr r').2)]) (fs ++ [fr r']) (.slice none 0 0) (.slice none 0 0) [] := by
  have hsh := shorter I.opn happ h2 hw
  have hne : l2 ≠ [] := fun q => by rw [q] at hsh; simp at hsh
  have hgw := I.far hne
  obtain ⟨q1, q2⟩ := own_next I.kept I.next K3 J3
  have hrow' : FR w' s5 vs := I.row.kept K3 (fun j hj => (I.own j hj).2)
  have hown' : ∀ j, s5.ownBlock = some j → ¬ Own c vL3 vB3 j := fun j hj q => by
    rcases J3 j q with q | q
    · exact (I.own j hj).2 q
    · have := (World.ownsRow.lt I.row j hj).2
      omega
  have KA : Kept (· = c) w' (w2.alloc o) := KD.alloc o
  have K4 : Kept (fun j => j = c ∨ s5.ownBlock = some j) w' w4 := (KA.mono (fun _ _ h => .inl h)).grown hgr (fun j hj _ => .inr hj)
  have s54 : ∀ j, s5.ownBlock = some j → j < w'.heap.size := fun j hj => (World.ownsRow.lt hrow' j hj).2
  have hO : ∀ j, vO.ownBlock = some j → s5.ownBlock = some j ∨ w'.heap.size ≤ j := fun j hj => by
    rcases hnew with e | ⟨j', e, hj'⟩
    · exact .inl (by rw [← e]; exact hj)
    · rw [hj] at e
      injection e with e
      have := KA.size
      exact .inr (by omega)
  have hcw : c < w'.heap.size := Cut.lt C3
  have k4 : Kept (Own c vL vB) w w4 := q1.trans' K4 (fun _ _ x => x) (fun j hj q => by
    rcases q with rfl | q
    · exact .inl rfl
    · have := (I.own j q).1
      omega)
  have hout : ∀ j, vO.ownBlock = some j → w.heap.size ≤ j ∧ ¬ Own c (.slice none 0 0) (.slice none 0 0) j := fun j hj => by
    have hjc : j ≠ c := by
      rcases hO j hj with q | q
      · exact fun e => hown' j q (.inl e)
      · omega
    refine ⟨?_, ?_⟩
    · rcases hO j hj with q | q
      · exact (I.own j q).1
      · have := q1.size
        omega
    · rintro (q | q | q)
      · exact hjc q
      · cases q
      · cases q
  have hfits : Fits w4 (fun j => Own c (.slice none 0 0) (.slice none 0 0) j ∨ vO.ownBlock = some j ∨ ¬ (Own c vL vB j ∨ w.heap.size ≤ j)) vs fs := by
    have f1 := I.fits.kept (N' := fun j => Own c vL3 vB3 j ∨ s5.ownBlock = some j ∨ ¬ (Own c vL vB j ∨ w.heap.size ≤ j)) K3 (fun _ _ h => .inl h) (fun j hj q => by
      rcases q with q | q | q
      · exact .inl ((J3 j q).resolve_right (by omega))
      · exact .inr (.inl q)
      · exact .inr (.inr q))
    refine f1.kept K4 (fun j _ q => ?_) (fun j hj q => ?_)
    · rcases q with q | q
      · exact .inl (.inl q)
      · exact .inr (.inl q)
    · rcases q with (q | q | q) | q | q
      · exact .inl (.inl q)
      · cases q
      · cases q
      · exact .inr (.inl ((hO j q).resolve_right (by omega)))
      · exact .inr (.inr q)
  refine ⟨⟨_, _, rfl, hc3, fun _ => ⟨o3, rfl, fun i x hx => ?_⟩⟩, rfl, ?_, .inl (by simp), (fun x hx => by cases hx), ?_, hrow, hout, ?_, ?_, ?_, k4, ?_, ?_, fun _ => hgw⟩
  · refine K4.cell (p := ⟨g, o3 + i, none⟩) (hx3 i x hx) ?_
    rintro (q | q)
    · exact hg (.inl q)
    · have := (I.own g q).1
      omega
  · refine D.kept (S := fun j => s5.ownBlock = some j) (((Kept.refl _ w2).alloc o).grown hgr (fun j hj _ => hj)) ?_
    rintro j (q | q | q) e
    · exact hown' j e (.inl q)
    · cases q
    · cases q
  · have hb := I.br.app I.bl
    rw [happ] at hb
    exact hb.right
  · refine hfits.snoc vB3 _ _ ?_
    rcases C3.rowB.reads with ⟨e1, e2⟩ | ⟨gB, hgB, hS⟩
    · exact .inl ⟨e1, e2⟩
    · have hgw' : gB < w'.heap.size := C3.rowB.lt gB hgB
      have n1 : ¬ gB = c := fun e => C3.notB (by rw [← e]; exact hgB)
      have n2 : ¬ s5.ownBlock = some gB := fun e => hown' gB e (.inr (.inr hgB))
      refine .inr ⟨gB, ?_, hS.kept K4 (fun q => q.elim n1 n2)⟩
      rintro ((q | q | q) | q | q)
      · exact n1 q
      · cases q
      · cases q
      · rcases hO gB q with q | q
        · exact n2 q
        · omega
      · exact q (q2 gB (.inr (.inr hgB)))
  · have ha := I.all
    rw [happ, parse_full h2 hw] at ha
    rw [← ha, List.append_assoc]
    rfl
  · have ha := I.rest
    rw [happ, parse_full h2 hw] at ha
    exact ha
  · rintro j (q | q | q)
    · exact .inl (.inl q)
    · cases q
    · cases q
  · have := I.small
    simp only [List.length_append, List.length_cons, List.length_nil]
    omega
end

set_option maxHeartbeats 1000000 in
theorem feed_any (w : World) (c : Nat) (vL vB : Value) (r : List Int) (g : Nat) (v : Value) (l : List Int) (h : St w c vL vB r) (hg : ¬ Own c vL vB g) (br : Bytes r) (bl : Bytes l) (ho : Opn r)
    (hlen : l.length ≤ 4398046510000) (hv : SlN w g v l) :
    Calls Try.prog 11 #[.pointer (some ⟨c, 0, none⟩), v] w (PostFeed c vL vB r l w) := by
  have hfar : l ≠ [] → g < w.heap.size := by
    intro hn
    obtain ⟨_, _, _, _, hx⟩ := hv
    obtain ⟨o, _, hx⟩ := hx hn
    cases l with
    | nil => exact absurd rfl hn
    | cons a l => exact World.block_lt_of_cell? (a := ⟨g, o + 0, none⟩) w (hx 0 a rfl)
  have hk0 : Kept (fun _ => False) w (w.alloc (.cells #[] 41)) := (Kept.refl _ _).alloc _
  have hI0 : Inv c vL vB r l g w l.length v (.slice (some ⟨w.heap.size, 0, none⟩) 0 0) (w.alloc (.cells #[] 41)) l [] [] vL vB r := by
    refine ⟨hv.kept hk0 (fun q => q), rfl, h.kept hk0 (fun _ _ q => q), ho, br, bl, ?_, ?_, Fits.nil _ _, rfl, rfl, hk0.mono (fun _ _ q => q.elim), fun j hj => .inl hj, by simp, hfar⟩
    · exact World.ownsRow_lit w #[] 0 (Nat.zero_le _) (Nat.zero_le _) rfl
    · rintro j hj
      injection hj with hj
      refine ⟨by rw [← hj]; exact Nat.le_refl _, ?_⟩
      rintro (q | q | q)
      · have := Cut.lt h; simp only at hj; omega
      · have := h.rowL.lt j q; simp only at hj; omega
      · have := h.rowB.lt j q; simp only at hj; omega
  have hshape : ∃ A cap, v = .slice A l.length cap := by obtain ⟨A, cap, h1, _⟩ := hv; exact ⟨A, cap, h1⟩
  obtain ⟨A, cap, rfl⟩ := hshape
  clear hv h
  go_enter Try.func11, Try.ntmps11
  go_wp2
  go_step3
  go_wp2
  go_step3
  go_wp2
  go_loopg [1, 5] l.length (fun k s1 s5 wr => ∃ l2 vs fs vL2 vB2 r2, Inv c vL vB r l g w k s1 s5 wr l2 vs fs vL2 vB2 r2)
  case atStart => exact ⟨_, _, _, _, _, _, hI0⟩
  case round =>
    clear hI0 hk0
    go_wp2
    go_loopg [1, 5] gk (fun k s1 s5 wr => k ≤ gk ∧ ∃ l2 vs fs vL2 vB2 r2, Inv c vL vB r l g w k s1 s5 wr l2 vs fs vL2 vB2 r2)
    case atStart => exact ⟨Nat.le_refl _, hrel⟩
    case round =>
      obtain ⟨hgk, l2, vs, fs, vL2, vB2, r2, I⟩ := hrel
      obtain ⟨A2, cap2, rfl, hcap2, hx2⟩ := I.left
      obtain ⟨aO, cO, hO⟩ := I.row.shape
      subst hO
      by_cases hl2 : l2 = []
      · subst hl2
        go_wp2
        rw [Exit.noGoto_ret]
        go_ret
        have hp : parse (r2 ++ []) = ([], r2) := by rw [List.append_nil]; exact parse_opn I.opn
        have ha := I.all
        have hb := I.rest
        rw [hp] at ha hb
        simp only [List.append_nil] at ha hb
        refine ⟨_, vs, vL2, vB2, rfl, I.row, I.own, ?_, ?_, I.kept, I.next⟩
        · rw [← ha]; exact I.fits
        · rw [← hb]; exact I.st
      · have hpos : 0 < l2.length := List.length_pos_iff.2 hl2
        obtain ⟨o2, rfl, hx4⟩ := hx2 hl2
        clear hx2
        have hg2 : ¬ Own c vL2 vB2 g := fun q => (I.next g q).elim hg (fun q => absurd (I.far hl2) (by omega))
        have hle : l2.length ≤ 140737488351232 := by have := I.small; omega
        have ht := take_st wr c vL2 vB2 r2 g o2 cap2 l2 I.st hg2 I.br I.bl I.opn hl2 hcap2 hle hx4
        go_wp2_with fail
        refine ht.mono ?_
        rintro e w' ⟨r', rest, ended, happ, hE, hN, o3, cap3, vL3, vB3, rfl, hc3, hx3, C3, K3, J3⟩
        cases ended with
        | false =>
          obtain ⟨rfl, ho'⟩ := hN rfl
          go_wp2_with fail
          go_roundg 0
          case measure => (have := I.count; omega)
          case rel => exact ⟨Nat.zero_le _, _, _, _, _, _, _, I.stop happ ho' C3 K3 J3 _ _⟩
        | true =>
          obtain ⟨h2, hw⟩ := hE rfl
          have hsh := shorter I.opn happ h2 hw
          obtain ⟨h0, h1, b, rfl⟩ : ∃ h0 h1 b, r' = h0 :: h1 :: b := by
            match r', h2 with
            | a :: b :: t, _ => exact ⟨a, b, t, rfl⟩
          have hbr := I.br.app I.bl
          rw [happ] at hbr
          have b0 := hbr h0 (by simp)
          have b1 := hbr h1 (by simp)
          go_wp2_with fail
          refine (done_any w' c vL3 vB3 h0 h1 _ _ C3 b0 b1).mono ?_
          rintro e w2 ⟨rfl, D, KD⟩
          obtain ⟨aB3, cB3, hB3⟩ := C3.rowB.shape
          generalize hnB : (bodyOf (h0 :: h1 :: b)).length = nB at hB3
          subst hB3
          have hr1 : FR w' (.slice aO vs.length cO) vs := I.row.kept K3 (fun j hj => (I.own j hj).2)
          have hr2 : FR w2 (.slice aO vs.length cO) vs := hr1.kept KD (fun j hj e => by
            subst e
            exact (I.own j hj).2 (.inl rfl))
          have hr3 := World.ownsRow.alloc hr2 (.cells #[.slice aB3 nB cB3, .int .i64 (errI h0 h1)] 41)
          have hnews := World.news_of_block (heap_alloc_new w2 (.cells #[.slice aB3 nB cB3, .int .i64 (errI h0 h1)] 41))
          have hsz : vs.length + 1 ≤ 4398046510000 := by have := I.small; omega
          obtain ⟨i0, hi, hz0, hz1, hz2⟩ := info_parts Try.info41
          go_wp2_with (at_builtin; refine wpList_append_at _ rfl _ _ 32 rfl 41 i0 (.agg #[.slice none 0 0, .int .i64 0]) 2 32 Try.underlying32 hi hz0 hz1 hz2 rfl (by decide) (.slice aO vs.length cO) vs.length (frow vs) rfl hr3 ⟨w2.heap.size, 0, none⟩ 1 1 [.slice aB3 nB cB3, .int .i64 (errI h0 h1)] rfl rfl hnews (by simp [Value.oneCell']) (by simp only [maxLen]; omega) (by omega) ?_)
          intro vO w4 k1 k2 k3
          have hrow : FR w4 vO (vs ++ [(.slice aB3 nB cB3, errI h0 h1)]) := by
            unfold FR
            rw [frow_app, List.length_append]
            exact k1
          go_wp2_with fail
          go_roundg rest.length
          case measure => (have := I.count; omega)
          case rel => exact ⟨_, _, _, _, _, _, I.go happ h2 hw C3 K3 J3 hg hc3 hx3 D KD hrow k2 k3⟩
end Go.Proofs.Ytfminplenemfnaa
