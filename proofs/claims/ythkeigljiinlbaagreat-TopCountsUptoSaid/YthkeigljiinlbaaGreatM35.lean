/- snap.Cuts: where something changes. -/
import Derived.Test.YthkeigljiinlbaaGreatM34
namespace Go.Proofs.YthkeigljiinlbaaGreat
open Go.RowKit Go.MapKept

/-- The set of the cuts of the edges L. -/
structure CutM (w : World) (b : Nat) (L : List Ed) (ks : List Int) (es : Array MapEntry) (ck : Nat) : Prop where
  map : MapA (.int .i64) w b es ck
  keys : es.toList.map (·.key) = ks.map (Value.int .i64)
  mem : ∀ a, a ∈ ks ↔ a = 0 ∨ ∃ x ∈ L, x.a = a ∧ 0 < a
  len : ks.length ≤ L.length + 1
theorem CutM.kept {w W : World} {b : Nat} {L : List Ed} {ks : List Int} {es : Array MapEntry} {ck : Nat} {S : Nat → Prop} (h : CutM w b L ks es ck) (k : Kept S w W) (hb : ¬ S b) : CutM W b L ks es ck := ⟨h.map.kept k hb, h.keys, h.mem, h.len⟩
theorem CutM.nodup {w : World} {b : Nat} {L : List Ed} {ks : List Int} {es : Array MapEntry} {ck : Nat} (h : CutM w b L ks es ck) : ks.Nodup := by
  have := h.map.st.2.2
  rw [h.keys] at this
  exact (List.pairwise_map.1 this).imp (fun q e => q (by rw [e]))
theorem CutM.size {w : World} {b : Nat} {L : List Ed} {ks : List Int} {es : Array MapEntry} {ck : Nat} (h : CutM w b L ks es ck) : es.size = ks.length := by
  have := congrArg List.length h.keys
  simpa using this
theorem cutM_first (w : World) : ∃ W es ck, (Instr.mapUpdate 242 (.map (some w.heap.size)) (.int .i64 0) (.int .i64 1)).run Tryz.prog (w.alloc (.map #[] 0)) = .ok () W ∧ CutM W w.heap.size [] [0] es ck ∧ Kept (fun _ => False) w W := by
  obtain ⟨es', ck', W, hrun, hM, hk, hc⟩ := (MapA.new (d := .int .i64) w).upd (P := Tryz.prog) Tryz.underlying242 Tryz.underlying3 (k := .int .i64 0) rfl (.int .i64 1)
  refine ⟨W, es', ck', hrun, ⟨hM, ?_, fun a => by simp, by simp⟩, ((Kept.refl (fun _ => False) w).alloc _).trans' hk (fun _ _ q => q) (fun j hj q => by omega)⟩
  rcases hc with ⟨_, rfl, _⟩ | ⟨x, hx, _⟩
  · rfl
  · simp at hx
theorem CutM.skip {w : World} {b : Nat} {L : List Ed} {ks : List Int} {es : Array MapEntry} {ck : Nat} (h : CutM w b L ks es ck) (x : Ed) (hx : ¬ 0 < x.a) : CutM w b (L ++ [x]) ks es ck := by
  refine ⟨h.map, h.keys, fun a => ?_, by have := h.len; rw [List.length_append]; omega⟩
  rw [h.mem]
  constructor
  · rintro (q | ⟨y, hy, e⟩)
    · exact .inl q
    · exact .inr ⟨y, List.mem_append_left _ hy, e⟩
  · rintro (q | ⟨y, hy, e⟩)
    · exact .inl q
    · rcases List.mem_append.1 hy with hy | hy
      · exact .inr ⟨y, hy, e⟩
      · simp only [List.mem_singleton] at hy
        subst hy
        omega
theorem CutM.put {w : World} {b : Nat} {L : List Ed} {ks : List Int} {es : Array MapEntry} {ck : Nat} (h : CutM w b L ks es ck) (x : Ed) (hx : 0 < x.a) :
    ∃ W, (Instr.mapUpdate 242 (.map (some b)) (.int .i64 x.a) (.int .i64 1)).run Tryz.prog w = .ok () W ∧ (∃ ks' es' ck', CutM W b (L ++ [x]) ks' es' ck') ∧ Kept (fun j => j = b) w W := by
  obtain ⟨es', ck', W, hrun, hM, hk, hc⟩ := h.map.upd (P := Tryz.prog) Tryz.underlying242 Tryz.underlying3 (k := .int .i64 x.a) rfl (.int .i64 1)
  refine ⟨W, hrun, ?_, hk⟩
  rcases hc with ⟨_, rfl, _⟩ | ⟨e, he, hke, _, _, _, hkk⟩
  · refine ⟨ks ++ [x.a], _, _, hM, by simp [h.keys], fun a => ?_, by have := h.len; simp; omega⟩
    rw [List.mem_append, h.mem]
    constructor
    · rintro ((q | ⟨y, hy, e⟩) | q)
      · exact .inl q
      · exact .inr ⟨y, List.mem_append_left _ hy, e⟩
      · simp only [List.mem_singleton] at q
        exact .inr ⟨x, by simp, q.symm, by omega⟩
    · rintro (q | ⟨y, hy, e⟩)
      · exact .inl (.inl q)
      · rcases List.mem_append.1 hy with hy | hy
        · exact .inl (.inr ⟨y, hy, e⟩)
        · simp only [List.mem_singleton] at hy
          subst hy
          exact .inr (by simp [e.1])
  · refine ⟨ks, _, _, hM, by rw [hkk, h.keys], fun a => ?_, by have := h.len; rw [List.length_append]; omega⟩
    have hin : x.a ∈ ks := by
      have h1 : e.key ∈ es.toList.map (·.key) := List.mem_map.2 ⟨e, he, rfl⟩
      rw [h.keys, hke] at h1
      obtain ⟨y, hy, q⟩ := List.mem_map.1 h1
      injection q with _ q
      rw [← q]; exact hy
    rw [h.mem]
    constructor
    · rintro (q | ⟨y, hy, e⟩)
      · exact .inl q
      · exact .inr ⟨y, List.mem_append_left _ hy, e⟩
    · rintro (q | ⟨y, hy, e⟩)
      · exact .inl q
      · rcases List.mem_append.1 hy with hy | hy
        · exact .inr ⟨y, hy, e⟩
        · simp only [List.mem_singleton] at hy
          subst hy
          rw [← e.1]
          exact (h.mem y.a).1 hin

theorem cuts_of_perm {L : List Ed} {ks C : List Int} (h1 : ks.Nodup) (h2 : ∀ a, a ∈ ks ↔ a = 0 ∨ ∃ x ∈ L, x.a = a ∧ 0 < a) (h3 : ks.length ≤ L.length + 1) (hp : C.Perm ks) (hs : C.Pairwise (fun x y => x ≤ y)) : CutsL L C := by
  have hn : C.Nodup := hp.nodup_iff.2 h1
  refine ⟨?_, fun a => by rw [← h2]; exact hp.mem_iff, by rw [hp.length_eq]; exact h3⟩
  exact (hs.and hn).imp (fun q => by have h1 := q.1; have h2 := q.2; omega)
def unZ : Value → Int
  | .int _ n => n
  | _ => 0
theorem unZ_map : ∀ l : List Int, (l.map (Value.int .i64)).map unZ = l
  | [] => rfl
  | x :: l => by rw [List.map_cons, List.map_cons, unZ_map l]; rfl
theorem perm_z {a b : List Int} (h : (a.map (Value.int .i64)).Perm (b.map (Value.int .i64))) : a.Perm b := by
  have := h.map unZ
  rw [unZ_map, unZ_map] at this
  exact this
theorem sorted_z (l : List Int) : (l.mergeSort fun x y => decide (x ≤ y)).Pairwise (fun x y => x ≤ y) := by
  have := List.pairwise_mergeSort (le := fun x y : Int => decide (x ≤ y)) (fun a b c => by simp; omega) (fun a b => by simp; omega) l
  exact this.imp (fun h => by simpa using h)

set_option maxHeartbeats 4000000 in
set_option maxRecDepth 100000 in
theorem cuts_any (L : List Ed) (A : Option Addr) (c : Nat) (w : World) (hl : L.length ≤ 4096) (hs : EdS w (fun _ => False) A L) (hmay : edMay L = true) (htab : edTab L = true) :
    Calls Tryz.prog 128 #[.slice A L.length c, .int .i64 0] w fun e w' => ∃ v C, e = .returned (.tuple #[v, .int .i64 0]) ∧ New encZ 1 3 w w' v C ∧ CutsL L C := by
  have hem := fun wx hx => emay_any L A c wx (by omega) hx
  rw [hmay] at hem
  have het := fun wx hx => etab_any L A c wx (by omega) hx
  rw [htab] at het
  have hmk : ∀ W, (Instr.makeMap 242 none).run Tryz.prog W = .ok (.map (some W.heap.size)) (W.alloc (.map #[] 0)) := fun _ => rfl
  have hmt : (Tryz.prog).underlying 242 = some (.map 3 3) := Tryz.underlying242
  clear hmay htab
  go_enter Tryz.func128, Tryz.ntmps128
  go_wp2_with fail
  refine (hem _ hs).mono ?_
  rintro e w1 ⟨rfl, k1⟩
  go_wp2_with fail
  refine (het _ (hs.same k1)).mono ?_
  rintro e w2 ⟨rfl, k2⟩
  obtain ⟨W0, es0, ck0, hrun0, hC0, hk0⟩ := cutM_first w2
  have k12 := k1.trans k2
  have kW0 := k12.trans hk0
  have h12 := k12.size
  have HC0 := Lib.hid hC0
  clear hC0 hk0 k1 k2
  go_wp2_with fail
  go_loopg [34] L.length (fun k iv wr => ∃ (i : Nat), i + k = L.length ∧ iv = .int .i64 i ∧ Hid (∃ ks es ck, CutM wr w2.heap.size (L.take i) ks es ck) ∧ Kept (fun _ => False) w wr)
  case atStart => exact ⟨0, by omega, rfl, ⟨_, _, _, HC0.out⟩, kW0⟩
  case round =>
    obtain ⟨i, hk, rfl, HG, kr⟩ := hrel
    by_cases hlt : i < L.length
    · obtain ⟨x, hx⟩ : ∃ x, L[i]? = some x := ⟨L[i], List.getElem?_eq_getElem hlt⟩
      obtain ⟨b, off, B, d, rfl, _, x0, x1, x2, hB, hsx, hxl⟩ := (hs.same kr) i x hx
      have htk : L.take (i + 1) = L.take i ++ [x] := by rw [List.take_add_one, hx]; rfl
      have HTK := Lib.hid htk
      clear htk hx
      have kal := (Kept.refl (fun _ => False) wr).alloc (.cells #[.slice B x.r.length d, .int .i64 x.a, .int .i64 x.n] 50)
      obtain ⟨ks, es, ck, hC⟩ := HG.out
      have hCa := hC.kept kal (fun q => q)
      have kra := kr.trans kal
      by_cases hpos : 0 < x.a
      · have hd : decide (0 < x.a) = true := by simpa using hpos
        obtain ⟨W, hrun, hC2, hkW⟩ := hCa.put x hpos
        have kw : Kept (fun _ => False) w W := kra.trans' hkW (fun _ _ q => q) (fun j hj q => by omega)
        have HC2 := Lib.hid hC2
        clear hC hCa hC2 hkW HG
        go_wp2_with fail
        go_roundg (L.length - (i + 1))
        case measure => omega
        case rel => exact ⟨i + 1, by omega, rfl, by rw [HTK.out]; exact HC2, kw⟩
      · have hd : decide (0 < x.a) = false := by simpa using hpos
        have HC2 := Lib.hid (hCa.skip x hpos)
        clear hC hCa HG
        go_wp2_with fail
        go_roundg (L.length - (i + 1))
        case measure => omega
        case rel => exact ⟨i + 1, by omega, rfl, by rw [HTK.out]; exact ⟨_, _, _, HC2.out⟩, kra⟩
    · have hiL : i = L.length := by omega
      subst hiL
      obtain ⟨ks, es, ck, hC⟩ := HG.out
      rw [List.take_length] at hC
      have hlen := hC.map.len (P := Tryz.prog) hmt 3
      have hszk := hC.size
      have hkl := hC.len
      obtain ⟨C, hmk2, hnw⟩ := make_any (P := Tryz.prog) 56 3 (.int .i64 0) 1 8 Tryz.underlying56 (by kernel_rfl) es.size es.size rfl (by unfold maxLen; omega) (by omega)
      have hn0 := hnw Int encZ wr
      have kmk := (Kept.refl (fun _ => False) wr).alloc (.cells C 3)
      obtain ⟨hrg, hI0⟩ := (hC.map.kept kmk (fun q => q)).range (P := Tryz.prog) hmt
      have HNN := Lib.hid (hn0.same ((Kept.refl (fun _ => False) _).alloc (.mapIter (some w2.heap.size) ck #[] ck)))
      simp only [World.size_alloc] at hrg hI0
      have HI := Lib.hid hI0
      have hsw := kr.size
      have HC := Lib.hid hC
      have HSZ := Lib.hid hszk
      clear hI0 hn0 hnw hC hszk HG
      obtain ⟨w8, rfl⟩ : ∃ w8, w8 = wr := ⟨_, rfl⟩
      go_wp2_with fail
      go_loopg [9] (leftOf es #[]).toList.length (fun k ov wr2 => ∃ (seen : Array Nat) (Lg : List Int), Hid (IterA (.int .i64) wr2 (w8.heap.size + 1) w2.heap.size es ck seen) ∧ (leftOf es seen).toList.length = k ∧ New encZ 1 3 w8 wr2 ov Lg ∧
        Hid ((Lg.map (Value.int .i64) ++ (leftOf es seen).toList.map (·.key)).Perm (ks.map (Value.int .i64))))
      case atStart => exact ⟨#[], [], HI, rfl, HNN.out, by rw [left_nil, HC.out.keys]; exact List.Perm.refl _⟩
      case round =>
        obtain ⟨seen, Lg, HI, hkk, hN, HP⟩ := hrel
        obtain ⟨Ao, co, rfl, _, _⟩ := hN.shape
        have hLs : Lg.length + (leftOf es seen).toList.length = ks.length := by
          have := HP.out.length_eq
          simp only [List.length_append, List.length_map, Array.length_toList] at this ⊢
          omega
        have HN := Lib.hid hN
        rcases HI.out.next (P := Tryz.prog) 0 with ⟨hlf, hnx⟩ | ⟨e, he, W, hnx, hI2, hkW, hent⟩
        · have hperm := HP.out
          rw [hlf, List.map_nil, List.append_nil] at hperm
          have hpz := perm_z hperm
          have h0k : (0 : Int) ∈ Lg := hpz.mem_iff.2 ((HC.out.mem 0).2 (.inl rfl))
          have hLl : Lg.length ≤ 1000000 := by rw [hpz.length_eq]; omega
          have hsort := sortI_any hN (fun q => by rw [q] at h0k; cases h0k) hLl
          have HPZ := Lib.hid hpz
          clear hN hkk hlf hLs hperm hpz h0k HP HI
          go_wp2_with fail
          refine hsort.mono ?_
          rintro e w9 ⟨⟨u9, rfl⟩, hN9⟩
          have HN9 := Lib.hid hN9
          clear hN9 hsort
          go_wp2_with fail
          go_ret2
          exact ⟨_, _, rfl, HN9.out.from kr, cuts_of_perm HC.out.nodup HC.out.mem HC.out.len ((List.mergeSort_perm _ _).trans HPZ.out) (sorted_z _)⟩
        · have hI1 := HI.out
          have hee : e ∈ es.toList := by
            have h := he
            unfold leftOf at h
            simp at h
            simpa using h.1
          obtain ⟨a, hgb⟩ : ∃ a, e.key = .int .i64 a := by
            have h1 : e.key ∈ es.toList.map (·.key) := List.mem_map.2 ⟨e, hee, rfl⟩
            rw [HC.out.keys] at h1
            obtain ⟨a, _, q⟩ := List.mem_map.1 h1
            exact ⟨a, q.symm⟩
          rw [hgb] at hnx hent
          have hNW : New encZ 1 3 w8 W (.slice Ao Lg.length co) Lg := hN.keptO hkW (fun j q => by omega) (fun j hj q => hN.row.otherObj (hI1.it) (fun _ _ _ q => by cases q) (by rw [hj, q]))
          have kal := (Kept.refl (fun _ => False) W).alloc (.cells #[.int .i64 a] 3)
          obtain ⟨v', w', hrun, hR, hkR, hoR⟩ := Row.lit (P := Tryz.prog) (sz := 1) 56 56 (.int .i64 0) 8 Tryz.underlying56 (by kernel_rfl) rfl (by decide) encZ_len encZ_one (hNW.row.same kal) [a] W.heap.size 1 (heap_alloc_new W _) (by simp only [List.length_cons, List.length_nil, maxLen]; omega) (by simp only [List.length_cons, List.length_nil]; omega)
          have hN' := hNW.app kal ⟨hR, hkR, hoR⟩
          have hI3 : IterA (.int .i64) w' (w8.heap.size + 1) w2.heap.size es ck (seen.push e.born) := by
            refine (hI2.kept kal (fun q => q) (fun q => q)).kept hkR (fun q => ?_) (fun q => ?_)
            · exact hNW.row.otherObj hI2.map.at_ (fun _ _ _ q => by cases q) q
            · exact hNW.row.otherObj hI2.it (fun _ _ _ q => by cases q) q
          have hpush := left_push hI1.map.st.2.1 he
          have HN' := Lib.hid hN'
          have HI2 := Lib.hid hI3
          have HGB := Lib.hid hgb
          have HKK := Lib.hid hkk
          clear hN hNW hN' hI1 hI2 hI3 hkW hR hkR hoR kal hgb hkk
          have tok := True.intro
          go_wp2_with (at_builtin; have _t := tok; refine wpList_run rfl _ _ _ rfl rfl rfl hrun ?_; clear tok)
          go_roundg ((leftOf es (seen.push e.born)).toList.length)
          case measure =>
            have := hpush.length_eq
            rw [List.length_cons] at this
            have := HKK.out
            omega
          case rel =>
            refine ⟨seen.push e.born, Lg ++ [a], HI2, rfl, HN'.out, ?_⟩
            have h1 := HP.out
            have h2 := (hpush.map (fun x : MapEntry => x.key))
            rw [List.map_cons, HGB.out] at h2
            refine List.Perm.trans ?_ h1
            rw [List.map_append, List.append_assoc]
            exact (List.Perm.append_left _ h2.symm)
end Go.Proofs.YthkeigljiinlbaaGreat

/- snap.Parts: who is there. -/
namespace Go.Proofs.YthkeigljiinlbaaGreat
open Go.RowKit

set_option maxRecDepth 100000 in
theorem cloneW_any (L : List Wd) (A : Option Addr) (c : Nat) (w : World) (hA : A = none → L = [] ∧ c = 0) (hs : Src encW 3 w (fun _ => False) A L) (hl : L.length ≤ 1048576) :
    Calls Tryz.prog 130 #[.slice A L.length c] w fun e w' => ∃ v, e = .returned v ∧ New encW 3 48 w w' v L := by
  cases A with
  | none =>
    obtain ⟨rfl, rfl⟩ := hA rfl
    have hnil : ∀ w, (binOp .eql 43 (.slice none 0 0) (.slice none 0 0)).run Tryz.prog w = .ok (.bool true) w := fun _ => rfl
    go_enter Tryz.func130, Tryz.ntmps130
    go_wp2_with fail
    go_ret
    exact ⟨_, rfl, Row.ofNil w, (fun j hj => by cases hj), Kept.refl _ w⟩
  | some a =>
    have hnil : ∀ w, (binOp .eql 43 (.slice (some a) L.length c) (.slice none 0 0)).run Tryz.prog w = .ok (.bool false) w := fun _ => rfl
    go_enter Tryz.func130, Tryz.ntmps130
    have hn0 := New.mkL encW_len w ([] : List Wd) (by simp [maxLen]) (T := 48) #[] rfl 0 rfl
    go_wp2_with (at_builtin; refine wpList_ex rfl _ _ _ _ rfl rfl rfl (New.src (sz := 3) _ _ (.agg #[.int .i64 0, .int .i64 0, .string ByteArray.empty]) 32 Tryz.underlying43 (by kernel_rfl) rfl (by decide) encW_len encW_one hn0 (Kept.refl _ _) L _ _ hA (hs.same hn0.kept) (by simp only [List.length_nil, maxLen]; omega) (by simp only [List.length_nil]; omega)) ?_; rintro v' w' ⟨A', c', rfl, hn2⟩)
    go_ret
    exact ⟨_, rfl, by simpa using hn2⟩

theorem Row.apart {α β : Type} {enc : α → List Value} {enc' : β → List Value} {sz sz' : Nat} {W w' : World} {T T' : TypeId} {v u : Value} {L : List α} {M : List β} (h : Row enc' sz' T' W u M) (hv : Row enc sz T W v L) (hT : T ≠ T') (k : Kept (fun j => v.ownBlock = some j) W w') : Row enc' sz' T' w' u M :=
  h.kept k (fun g hg q => by
    obtain ⟨cs, hc⟩ := row_cells hv q
    exact h.other hc hT hg)

/-- A row with its function, and where both lie. -/
structure PRow where
  ra : Option Addr
  rc : Nat
  r : List Wd
  fa : Option Addr
  fc : Nat
  f : List Jp
def encRw (p : PRow) : List Value := [.slice p.ra p.r.length p.rc, .slice p.fa p.f.length p.fc]
theorem encRw_len (p : PRow) : (encRw p).length = 2 := rfl
theorem encRw_one : ∀ x : PRow, ∀ u ∈ encRw x, u.oneCell' = true := by
  intro x u hu
  unfold encRw at hu
  simp only [List.mem_cons, List.not_mem_nil, or_false] at hu
  rcases hu with rfl | rfl <;> rfl
def PRow.ab (p : PRow) : List Wd × List Jp := (p.r, p.f)
structure RowOk (W : World) (p : PRow) : Prop where
  r : Row encW 3 48 W (.slice p.ra p.r.length p.rc) p.r
  f : Row encJ 2 80 W (.slice p.fa p.f.length p.fc) p.f
theorem RowOk.same {w W : World} {p : PRow} (h : RowOk w p) (k : Kept (fun _ => False) w W) : RowOk W p := ⟨h.r.same k, h.f.same k⟩

/-- A row with a number of copies. -/
structure PCop where
  ra : Option Addr
  rc : Nat
  r : List Wd
  n : Int
def encCp (p : PCop) : List Value := [.slice p.ra p.r.length p.rc, .int .i64 p.n]
theorem encCp_len (p : PCop) : (encCp p).length = 2 := rfl
theorem encCp_one : ∀ x : PCop, ∀ u ∈ encCp x, u.oneCell' = true := by
  intro x u hu
  unfold encCp at hu
  simp only [List.mem_cons, List.not_mem_nil, or_false] at hu
  rcases hu with rfl | rfl <;> rfl
def PCop.ab (p : PCop) : List Wd × Int := (p.r, p.n)
structure CpS (W : World) (v : Value) (M : List PCop) : Prop where
  row : Row encCp 2 154 W v M
  rows : ∀ p ∈ M, Row encW 3 48 W (.slice p.ra p.r.length p.rc) p.r
theorem CpS.same {w W : World} {v : Value} {M : List PCop} (h : CpS w v M) (k : Kept (fun _ => False) w W) : CpS W v M := ⟨h.row.same k, fun p hp => (h.rows p hp).same k⟩
structure CpN (w0 W : World) (v : Value) (M : List PCop) : Prop where
  cp : CpS W v M
  own : ∀ j, v.ownBlock = some j → w0.heap.size ≤ j
  kept : Kept (fun _ => False) w0 W
theorem CpN.lit {P : Program} {w0 wr W : World} {v : Value} {M : List PCop} (t ty : TypeId) (z : Value) (bytes : Nat) (ht : P.underlying t = some (.slice 154)) (hi : (P.info? 154).map (fun i => (i.zero, i.size, i.bytes)) = some (some z, 2, bytes)) (hzs : z.cells.size = 2)
    (h : CpN w0 wr v M) (k : Kept (fun _ => False) wr W) (p : PCop) (hp : Row encW 3 48 W (.slice p.ra p.r.length p.rc) p.r) (B c : Nat) {T' : TypeId} {f : Nat × Nat} (hB : W.heap[B]? = some (.cells (cellsOf encCp [p]).toArray T' f))
    (h63 : M.length + 1 ≤ maxLen) (hb : (M.length + 1) * bytes ≤ 140737488355328) :
    ∃ v' w', Hid ((Builtin.append_ #[t, t] ty #[v, .slice (some ⟨B, 0, none⟩) 1 c]).run P W = .ok v' w') ∧ CpN w0 w' v' (M ++ [p]) := by
  obtain ⟨v', w', h1, h2, h3, h4⟩ := Row.lit (P := P) (sz := 2) t ty z bytes ht hi hzs (by decide) encCp_len encCp_one (h.cp.row.same k) [p] B c hB h63 hb
  have kk := h.kept.trans k
  refine ⟨v', w', h1, ⟨h2, fun q hq => ?_⟩, fun j hj => ?_, kk.trans' h3 (fun _ _ q => q) (fun i hi q => absurd (h.own i q) (by omega))⟩
  · rcases List.mem_append.1 hq with hq | hq
    · exact Row.apart ((h.cp.rows q hq).same k) (h.cp.row.same k) (by decide) h3
    · rw [List.mem_singleton] at hq
      subst hq
      exact Row.apart hp (h.cp.row.same k) (by decide) h3
  · rcases h4 j hj with q | q
    · exact h.own j q
    · exact Nat.le_trans kk.size q

theorem there_snoc (gs : List (List Wd × List Jp)) (p : List Wd × List Jp) (t : Int) : thereL (gs ++ [p]) t = thereL gs t ++ (if 0 < sumTo p.2 t then [(p.1, sumTo p.2 t)] else []) := by
  unfold thereL
  rw [List.filter_append, List.map_append]
  by_cases h : 0 < sumTo p.2 t
  · rw [if_pos h, List.filter_cons_of_pos (by simpa using h)]; rfl
  · rw [if_neg h, List.filter_cons_of_neg (by simpa using h)]; rfl
theorem there_len (gs : List (List Wd × List Jp)) (t : Int) : (thereL gs t).length ≤ gs.length := by
  unfold thereL
  rw [List.length_map]
  exact List.length_filter_le _ _

set_option maxHeartbeats 2000000 in
set_option maxRecDepth 100000 in
theorem alive_any (All : List PRow) (va : Value) (bx : Nat) (t : Int) (w : World) (hb : w.heap[bx]? = some (.cells #[va] 202 (0, 0))) (hr : Row encRw 2 204 w va All) (ho : ∀ p ∈ All, RowOk w p) (hl : All.length ≤ 4096)
    (hp : ∀ p ∈ All, p.r.length ≤ 1048576 ∧ stepMayB p.f = true) :
    Calls Tryz.prog 129 #[.int .i64 t, .pointer (some ⟨bx, 0, none⟩)] w fun e w' => ∃ v M, e = .returned v ∧ CpN w w' v M ∧ M.map PCop.ab = thereL (All.map PRow.ab) t := by
  obtain ⟨Aa, ca, rfl, _, hsA⟩ := hr.asSrc encRw_len
  have c0 := cell_of_row w bx 0 _ _ _ hb
  simp only [List.getElem?_toArray, List.getElem?_cons_zero] at c0
  have hn0 : CpN w (w.alloc (.cells #[] 154)) (.slice (some ⟨w.heap.size, 0, none⟩) 0 0) [] := ⟨⟨Row.new w, fun p hp => by cases hp⟩, (fun j hj => by injection hj with hj; simp only at hj; omega), (Kept.refl _ w).alloc _⟩
  have c0a := hn0.kept.cell c0 (fun q => q)
  obtain ⟨NA, hNA⟩ : ∃ NA, All.length = NA := ⟨_, rfl⟩
  rw [hNA] at hl c0 c0a
  have HNA := Lib.hid hNA
  have HN0 := Lib.hid hn0
  have HO := Lib.hid ho
  have HP := Lib.hid hp
  clear hNA hn0 ho hp hr
  go_enter Tryz.func129, Tryz.ntmps129
  go_wp2_with fail
  go_loopg [4, 11] NA (fun k ov iv wr => ∃ (i : Nat) (M : List PCop), i + k = NA ∧ iv = .int .i64 i ∧ CpN w wr ov M ∧ Hid (M.map PCop.ab = thereL ((All.take i).map PRow.ab) t))
  case atStart => exact ⟨0, [], by omega, rfl, HN0.out, rfl⟩
  case round =>
    obtain ⟨i, M, hk, rfl, hC, HM⟩ := hrel
    have kr := hC.kept
    obtain ⟨Ao, co, rfl, _, _⟩ := hC.cp.row.shape
    have hML : M.length ≤ i := by
      have h1 := congrArg List.length HM.out
      have h2 := there_len ((All.take i).map PRow.ab) t
      rw [List.length_map, List.length_take] at h2
      rw [List.length_map] at h1
      omega
    have HC := Lib.hid hC
    by_cases hlt : i < NA
    · obtain ⟨x, hx⟩ : ∃ x, All[i]? = some x := ⟨All[i]'(by rw [HNA.out]; exact hlt), List.getElem?_eq_getElem _⟩
      have hxm := List.mem_of_getElem? hx
      obtain ⟨b, off, rfl, _, hc⟩ := hsA i x hx
      have x0 := kr.cell (hc 0 _ rfl) (fun q => q)
      have x1 := kr.cell (hc 1 _ rfl) (fun q => q)
      have htk : All.take (i + 1) = All.take i ++ [x] := by rw [List.take_add_one, hx]; rfl
      have hsn := there_snoc ((All.take i).map PRow.ab) x.ab t
      have HTK := Lib.hid htk
      have HSN := Lib.hid hsn
      have hrx := HO.out x hxm
      have hpx := HP.out x hxm
      obtain ⟨ra, rc, r, fa, fc, f⟩ := x
      simp only [Nat.add_zero] at x0 x1 hrx hpx
      have kal := (Kept.refl (fun _ => False) wr).alloc (.cells #[.slice ra r.length rc, .slice fa f.length fc] 204)
      obtain ⟨Af, cf, ef, _, hsf⟩ := hrx.f.asSrc encJ_len
      obtain ⟨Ar, cr, er, hAr, hsr⟩ := hrx.r.asSrc encW_len
      injection ef with ef1 _ ef2
      subst ef1 ef2
      injection er with er1 _ er2
      subst er1 er2
      have hat := fun wx hx => at_any f fa fc t wx hx hpx.2
      have hcl := fun wx hx => cloneW_any r ra rc wx hAr hx hpx.1
      obtain ⟨S, hS⟩ : ∃ S, sumTo f t = S := ⟨_, rfl⟩
      have HS := Lib.hid hS
      rw [hS] at hat
      have hsf2 := hsf.same (kr.trans kal)
      have hsr2 := hsr.same (kr.trans kal)
      clear hS htk hsn hC hc hx hxm hrx hpx hsr hsf hAr
      go_wp2_with fail
      refine (hat _ hsf2).mono ?_
      rintro e w2 ⟨rfl, k2⟩
      by_cases hpos : 0 < S
      · have hd : decide (0 < S) = true := by simpa using hpos
        have hsr3 := hsr2.same k2
        have y0 := cell_of_row _ _ 0 _ _ _ (k2.heap (heap_alloc_new wr (.cells #[.slice ra r.length rc, .slice fa f.length fc] 204)) (fun q => q))
        simp only [List.getElem?_toArray, List.getElem?_cons_zero] at y0
        go_wp2_with fail
        refine (hcl _ hsr3).mono ?_
        rintro e w3 ⟨v3, rfl, hn3⟩
        obtain ⟨A3, c3, rfl, _, _⟩ := hn3.shape
        have kb := (Kept.refl (fun _ => False) w3).alloc (.cells #[.slice A3 r.length c3, .int .i64 S] 154)
        obtain ⟨v', w', hrun, hC'⟩ := HC.out.lit (P := Tryz.prog) 107 107 (.agg #[.slice none 0 0, .int .i64 0]) 32 Tryz.underlying107 (by kernel_rfl) rfl (((kal.trans k2).trans hn3.kept).trans kb) ⟨A3, c3, r, S⟩ (hn3.row.same kb) w3.heap.size 1 (heap_alloc_new w3 _) (by unfold maxLen; omega) (by omega)
        have HC' := Lib.hid hC'
        clear hC' hn3 kb k2 kal hsr3 hsr2 hsf2
        have tok := True.intro
        go_wp2_with (at_builtin; have _t := tok; refine wpList_run rfl _ _ _ rfl rfl rfl hrun ?_; clear tok)
        go_roundg (NA - (i + 1))
        case measure => omega
        case rel =>
          refine ⟨i + 1, M ++ [⟨A3, c3, r, S⟩], by omega, rfl, HC'.out, ?_⟩
          rw [HTK.out, List.map_append, List.map_append, List.map_singleton, List.map_singleton, HSN.out, HM.out]
          have e : 0 < sumTo (PRow.ab ⟨ra, rc, r, fa, fc, f⟩).2 t := by rw [show (PRow.ab ⟨ra, rc, r, fa, fc, f⟩).2 = f from rfl, HS.out]; omega
          rw [if_pos e]
          show _ = _ ++ [(r, sumTo f t)]
          rw [HS.out]
          rfl
      · have hd : decide (0 < S) = false := by simpa using hpos
        clear hsr2 hsf2
        have kk := kal.trans k2
        go_wp2_with fail
        go_roundg (NA - (i + 1))
        case measure => omega
        case rel =>
          refine ⟨i + 1, M, by omega, rfl, ⟨HC.out.cp.same kk, HC.out.own, HC.out.kept.trans kk⟩, ?_⟩
          rw [HTK.out, List.map_append, List.map_cons, List.map_nil, HSN.out, HM.out]
          have e : ¬ 0 < sumTo (PRow.ab ⟨ra, rc, r, fa, fc, f⟩).2 t := by rw [show (PRow.ab ⟨ra, rc, r, fa, fc, f⟩).2 = f from rfl, HS.out]; omega
          rw [if_neg e, List.append_nil]
          exact rfl
    · have hi : i = All.length := by rw [HNA.out]; omega
      clear hC
      go_wp2_with fail
      go_ret
      refine ⟨_, M, rfl, HC.out, ?_⟩
      rw [HM.out, hi, List.take_length]
end Go.Proofs.YthkeigljiinlbaaGreat
