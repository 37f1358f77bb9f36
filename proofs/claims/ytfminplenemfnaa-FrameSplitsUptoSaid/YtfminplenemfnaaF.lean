/- What a cutter has taken of a stream; a step of it. -/
import Derived.Test.YtfminplenemfnaaC
import Derived.Test.YtfminplenemfnaaD
import Derived.Test.YtfminplenemfnaaE
namespace Go.Proofs.Ytfminplenemfnaa
open Go.RowKit

def Bytes (l : List Int) : Prop := ∀ x ∈ l, 0 ≤ x ∧ x ≤ 255
theorem Bytes.take {l : List Int} (h : Bytes l) (n : Nat) : Bytes (l.take n) := fun x hx => h x (List.mem_of_mem_take hx)
theorem Bytes.drop {l : List Int} (h : Bytes l) (n : Nat) : Bytes (l.drop n) := fun x hx => h x (List.mem_of_mem_drop hx)
theorem Bytes.app {l m : List Int} (h : Bytes l) (k : Bytes m) : Bytes (l ++ m) := fun x hx => (List.mem_append.1 hx).elim (h x) (k x)
theorem Bytes.left {l m : List Int} (h : Bytes (l ++ m)) : Bytes l := fun x hx => h x (List.mem_append_left _ hx)
theorem Bytes.right {l m : List Int} (h : Bytes (l ++ m)) : Bytes m := fun x hx => h x (List.mem_append_right _ hx)

def wantN (r : List Int) : Nat := (wantI r).toNat
def bodyOf (r : List Int) : List Int := if wantI r ≤ 4096 then r.drop 2 else []
def gotOf (r : List Int) : Int := ((r.length - 2 : Nat) : Int)

/-- The cutter has taken just the bytes r of a frame. -/
def St (w : World) (c : Nat) (vL vB : Value) (r : List Int) : Prop := Cut w c vL vB (r.take 2) (bodyOf r) (gotOf r)

/-- r is not a whole frame. -/
def Opn (r : List Int) : Prop := r.length < 2 ∨ r.length < 2 + wantN r

theorem St.two {w : World} {c : Nat} {vL vB : Value} {h0 h1 : Int} {b : List Int} (h : St w c vL vB (h0 :: h1 :: b)) : Cut w c vL vB [h0, h1] (if h0 * 256 + h1 ≤ 4096 then b else []) (b.length : Nat) := h
theorem gotOf_two (h0 h1 : Int) (b : List Int) : gotOf (h0 :: h1 :: b) = (b.length : Nat) := rfl
theorem bodyOf_two (h0 h1 : Int) (b : List Int) : bodyOf (h0 :: h1 :: b) = if h0 * 256 + h1 ≤ 4096 then b else [] := rfl
theorem wantI_two (h0 h1 : Int) (b : List Int) : wantI (h0 :: h1 :: b) = h0 * 256 + h1 := rfl
theorem wantN_two (h0 h1 : Int) (b : List Int) : wantN (h0 :: h1 :: b) = (h0 * 256 + h1).toNat := rfl

theorem bodyOf_one (h0 : Int) : bodyOf [h0] = [] := by unfold bodyOf; split <;> rfl
theorem hbO2 {h0 h1 : Int} {d : Nat} (hd : h0 * 256 + h1 = d) (b : List Int) : bodyOf (h0 :: h1 :: b) = if d ≤ 4096 then b else [] := by
  rw [bodyOf_two, hd]
  by_cases q : d ≤ 4096
  · rw [if_pos q, if_pos (by omega)]
  · rw [if_neg q, if_neg (by omega)]

/-- A step: r' is now in the cutter, rest is left. -/
def PostSt (c g : Nat) (vL vB : Value) (w : World) (r l : List Int) (e : Ending) (w' : World) : Prop :=
  ∃ r' rest ended, r ++ l = r' ++ rest ∧ (ended = true → 2 ≤ r'.length ∧ r'.length = 2 + wantN r') ∧ (ended = false → rest = [] ∧ Opn r') ∧
    PostTake c g vL vB w (r'.take 2) (bodyOf r') (gotOf r') rest ended e w'

theorem take_st (w : World) (c : Nat) (vL vB : Value) (r : List Int) (g o cap : Nat) (l : List Int) (h : St w c vL vB r) (hg : ¬ Own c vL vB g) (br : Bytes r) (bl : Bytes l) (ho : Opn r) (hl : l ≠ [])
    (hcap : l.length ≤ cap) (hlen : l.length ≤ 140737488351232) (hx : ∀ i x, l[i]? = some x → w.cell? ⟨g, o + i, none⟩ = some (.int .u8 x)) :
    Calls Try.prog 15 #[.pointer (some ⟨c, 0, none⟩), .slice (some ⟨g, o, none⟩) l.length cap] w (PostSt c g vL vB w r l) := by
  match r, h, br, ho with
  | [], h, _, _ =>
    match l, hl, bl, hcap, hlen, hx with
    | [h0], _, _, hcap, _, hx =>
      refine (take_part w c vL vB h0 g o cap h (hx 0 h0 rfl) hcap).mono fun e w' hp => ?_
      exact ⟨[h0], [], false, rfl, (fun q => by cases q), fun _ => ⟨rfl, .inl (by simp)⟩, by rw [bodyOf_one]; exact hp⟩
    | h0 :: h1 :: l, _, bl, hcap, hlen, hx =>
      have b0 := bl h0 (by simp)
      have b1 := bl h1 (by simp)
      obtain ⟨d, hd⟩ : ∃ d : Nat, h0 * 256 + h1 = d := ⟨(h0 * 256 + h1).toNat, by omega⟩
      have hlen' : l.length ≤ 140737488351232 := by simp only [List.length_cons] at hlen; omega
      have hwN : ∀ b, wantN (h0 :: h1 :: b) = d := fun b => by rw [wantN_two, hd]; rfl
      have hbO : ∀ b, bodyOf (h0 :: h1 :: b) = if d ≤ 4096 then b else [] := hbO2 hd
      rcases Nat.lt_or_ge l.length d with he | he
      · by_cases hw : d ≤ 4096
        · refine (take_head02 w c vL vB h0 h1 d g o cap l h hg b0 b1 hd hcap hlen' hx hw he).mono fun e w' hp => ?_
          refine ⟨h0 :: h1 :: l, [], false, by simp, (fun q => by cases q), fun _ => ⟨rfl, .inr (by rw [hwN]; simp only [List.length_cons]; omega)⟩, ?_⟩
          rw [hbO, if_pos hw]
          exact hp
        · refine (take_head04 w c vL vB h0 h1 d g o cap l h hg b0 b1 hd hcap hlen' hx (by omega) he).mono fun e w' hp => ?_
          refine ⟨h0 :: h1 :: l, [], false, by simp, (fun q => by cases q), fun _ => ⟨rfl, .inr (by rw [hwN]; simp only [List.length_cons]; omega)⟩, ?_⟩
          rw [hbO, if_neg hw]
          exact hp
      · have hlt : (l.take d).length = d := by rw [List.length_take]; omega
        by_cases hw : d ≤ 4096
        · refine (take_head01 w c vL vB h0 h1 d g o cap l h hg b0 b1 hd hcap hlen' hx hw he).mono fun e w' hp => ?_
          refine ⟨h0 :: h1 :: l.take d, l.drop d, true, by simp, (fun _ => ⟨by simp, by rw [hwN]; simp only [List.length_cons, hlt]; omega⟩), (fun q => by cases q), ?_⟩
          rw [hbO, if_pos hw, gotOf_two, hlt]
          exact hp
        · refine (take_head03 w c vL vB h0 h1 d g o cap l h hg b0 b1 hd hcap hlen' hx (by omega) he).mono fun e w' hp => ?_
          refine ⟨h0 :: h1 :: l.take d, l.drop d, true, by simp, (fun _ => ⟨by simp, by rw [hwN]; simp only [List.length_cons, hlt]; omega⟩), (fun q => by cases q), ?_⟩
          rw [hbO, if_neg hw, gotOf_two, hlt]
          exact hp
  | [h0], h, br, _ =>
    have h : Cut w c vL vB [h0] [] 0 := by unfold St at h; rw [bodyOf_one] at h; exact h
    match l, hl, bl, hcap, hlen, hx with
    | h1 :: l, _, bl, hcap, hlen, hx =>
      have b0 := br h0 (by simp)
      have b1 := bl h1 (by simp)
      obtain ⟨d, hd⟩ : ∃ d : Nat, h0 * 256 + h1 = d := ⟨(h0 * 256 + h1).toNat, by omega⟩
      have hlen' : l.length ≤ 140737488351232 := by simp only [List.length_cons] at hlen; omega
      have hwN : ∀ b, wantN (h0 :: h1 :: b) = d := fun b => by rw [wantN_two, hd]; rfl
      have hbO : ∀ b, bodyOf (h0 :: h1 :: b) = if d ≤ 4096 then b else [] := hbO2 hd
      rcases Nat.lt_or_ge l.length d with he | he
      · by_cases hw : d ≤ 4096
        · refine (take_head12 w c vL vB h0 h1 d g o cap l h hg b0 b1 hd hcap hlen' hx hw he).mono fun e w' hp => ?_
          refine ⟨h0 :: h1 :: l, [], false, by simp, (fun q => by cases q), fun _ => ⟨rfl, .inr (by rw [hwN]; simp only [List.length_cons]; omega)⟩, ?_⟩
          rw [hbO, if_pos hw]
          exact hp
        · refine (take_head14 w c vL vB h0 h1 d g o cap l h hg b0 b1 hd hcap hlen' hx (by omega) he).mono fun e w' hp => ?_
          refine ⟨h0 :: h1 :: l, [], false, by simp, (fun q => by cases q), fun _ => ⟨rfl, .inr (by rw [hwN]; simp only [List.length_cons]; omega)⟩, ?_⟩
          rw [hbO, if_neg hw]
          exact hp
      · have hlt : (l.take d).length = d := by rw [List.length_take]; omega
        by_cases hw : d ≤ 4096
        · refine (take_head11 w c vL vB h0 h1 d g o cap l h hg b0 b1 hd hcap hlen' hx hw he).mono fun e w' hp => ?_
          refine ⟨h0 :: h1 :: l.take d, l.drop d, true, by simp, (fun _ => ⟨by simp, by rw [hwN]; simp only [List.length_cons, hlt]; omega⟩), (fun q => by cases q), ?_⟩
          rw [hbO, if_pos hw, gotOf_two, hlt]
          exact hp
        · refine (take_head13 w c vL vB h0 h1 d g o cap l h hg b0 b1 hd hcap hlen' hx (by omega) he).mono fun e w' hp => ?_
          refine ⟨h0 :: h1 :: l.take d, l.drop d, true, by simp, (fun _ => ⟨by simp, by rw [hwN]; simp only [List.length_cons, hlt]; omega⟩), (fun q => by cases q), ?_⟩
          rw [hbO, if_neg hw, gotOf_two, hlt]
          exact hp
  | h0 :: h1 :: b, h, br, ho =>
    have b0 := br h0 (by simp)
    have b1 := br h1 (by simp)
    have hwN : ∀ b, wantN (h0 :: h1 :: b) = (h0 * 256 + h1).toNat := fun b => rfl
    have hbO : ∀ b, bodyOf (h0 :: h1 :: b) = if h0 * 256 + h1 ≤ 4096 then b else [] := fun b => rfl
    have ho' : b.length < (h0 * 256 + h1).toNat := by
      rcases ho with q | q
      · simp only [List.length_cons] at q; omega
      · rw [hwN] at q; simp only [List.length_cons] at q; omega
    obtain ⟨d, hd⟩ : ∃ d : Nat, h0 * 256 + h1 = b.length + d := ⟨(h0 * 256 + h1).toNat - b.length, by omega⟩
    have h := h.two
    rcases Nat.lt_or_ge l.length d with he | he
    · by_cases hw : h0 * 256 + h1 ≤ 4096
      · rw [if_pos hw] at h
        refine (take_full2 w c vL vB h0 h1 b b.length d g o cap l h hg b0 b1 hd (by omega) hcap hlen hx hw he).mono fun e w' hp => ?_
        refine ⟨h0 :: h1 :: (b ++ l), [], false, by simp, (fun q => by cases q), fun _ => ⟨rfl, .inr (by rw [hwN]; simp only [List.length_cons, List.length_append]; omega)⟩, ?_⟩
        rw [hbO, if_pos hw, gotOf_two, List.length_append]
        exact hp
      · rw [if_neg hw] at h
        refine (take_full4 w c vL vB h0 h1 [] b.length d g o cap l h hg b0 b1 hd (by simp) hcap hlen hx (by omega) he).mono fun e w' hp => ?_
        refine ⟨h0 :: h1 :: (b ++ l), [], false, by simp, (fun q => by cases q), fun _ => ⟨rfl, .inr (by rw [hwN]; simp only [List.length_cons, List.length_append]; omega)⟩, ?_⟩
        rw [hbO, if_neg hw, gotOf_two, List.length_append]
        exact hp
    · have hlt : (l.take d).length = d := by rw [List.length_take]; omega
      by_cases hw : h0 * 256 + h1 ≤ 4096
      · rw [if_pos hw] at h
        refine (take_full1 w c vL vB h0 h1 b b.length d g o cap l h hg b0 b1 hd (by omega) hcap hlen hx hw he).mono fun e w' hp => ?_
        refine ⟨h0 :: h1 :: (b ++ l.take d), l.drop d, true, by simp, (fun _ => ⟨by simp, by rw [hwN]; simp only [List.length_cons, List.length_append, hlt]; omega⟩), (fun q => by cases q), ?_⟩
        rw [hbO, if_pos hw, gotOf_two, List.length_append, hlt]
        exact hp
      · rw [if_neg hw] at h
        refine (take_full3 w c vL vB h0 h1 [] b.length d g o cap l h hg b0 b1 hd (by simp) hcap hlen hx (by omega) he).mono fun e w' hp => ?_
        refine ⟨h0 :: h1 :: (b ++ l.take d), l.drop d, true, by simp, (fun _ => ⟨by simp, by rw [hwN]; simp only [List.length_cons, List.length_append, hlt]; omega⟩), (fun q => by cases q), ?_⟩
        rw [hbO, if_neg hw, gotOf_two, List.length_append, hlt]
        exact hp

end Go.Proofs.Ytfminplenemfnaa
