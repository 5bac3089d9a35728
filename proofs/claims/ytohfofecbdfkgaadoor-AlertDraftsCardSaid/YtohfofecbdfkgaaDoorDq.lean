/-
  What Draft, Follow and Withdraw return, in one word for both sides.
-/
import Derived.Test.YtohfofecbdfkgaaDoorRd
import Derived.Test.YtohfofecbdfkgaaDoorWk
namespace Go.Proofs.YtohfofecbdfkgaaDoor
open Go.RowKit Al

theorem zero_ev : Al.zero.ev.size ≤ maxLen := by decide
/-- What Draft makes. -/
def newD (ev : ByteArray) (t cn co g : Int) (l : List Int) : Alr := ⟨ev, 1, t, cn, co, g, l, false, 0⟩
def draftR (ev : ByteArray) (t cn co lim g : Int) (l : List Int) : Alr × Int := if lim < cn then (Al.zero, 4) else (draftA (newD ev t cn co g l), errA (okA (newD ev t cn co g l)) 101)
/-- What Follow makes. -/
def folD (a : Alr) (t cn co g : Int) (l : List Int) : Alr := ⟨a.ev, a.ver + 1, t, cn, co, g, l, false, digA a⟩
def folR (a : Alr) (t cn co g : Int) (l : List Int) : Alr × Int := if nextE a t = 0 then (draftA (folD a t cn co g l), errA (okA (folD a t cn co g l)) 101) else (Al.zero, nextE a t)
/-- What Withdraw makes. -/
def witD (a : Alr) (t : Int) : Alr := ⟨a.ev, a.ver + 1, t, a.n, a.of, a.grid, [], true, digA a⟩
def witR (a : Alr) (t : Int) : Alr × Int := if nextE a t = 0 then (draftA (witD a t), errA (okA (witD a t)) 101) else (Al.zero, nextE a t)
theorem draftA_ev {a : Alr} (h : a.ev.size ≤ maxLen) : (draftA a).ev.size ≤ maxLen := by
  unfold draftA
  split
  · exact h
  · exact zero_ev
theorem draftR_ev {ev : ByteArray} (t cn co lim g : Int) (l : List Int) (h : ev.size ≤ maxLen) : (draftR ev t cn co lim g l).1.ev.size ≤ maxLen := by
  unfold draftR
  split
  · exact zero_ev
  · exact draftA_ev h
theorem folR_ev {a : Alr} (t cn co g : Int) (l : List Int) (h : a.ev.size ≤ maxLen) : (folR a t cn co g l).1.ev.size ≤ maxLen := by
  unfold folR
  split
  · exact draftA_ev h
  · exact zero_ev
theorem witR_ev {a : Alr} (t : Int) (h : a.ev.size ≤ maxLen) : (witR a t).1.ev.size ≤ maxLen := by
  unfold witR
  split
  · exact draftA_ev h
  · exact zero_ev

theorem nextE_no {a : Alr} {t : Int} (h : nextE a t = 0) : okA a = true ∧ a.wd = false ∧ ¬ t < a.tm := by
  unfold nextE at h
  split at h
  · rename_i h1
    split at h
    · cases h
    · rename_i h2
      split at h
      · cases h
      · rename_i h3
        exact ⟨h1, by simpa using h2, h3⟩
  · cases h
theorem says_0 (a : Alr) (A : Option Addr) (c : Nat) (t : Int) (w : World) (h : AIn w a A c) (hr : Rdy w) (hn : nextE a t = 0) : NextSays a A c t ⟨a.ev, a.ver + 1, t, a.n, a.of, a.grid, [], false, digA a⟩ 0 w := by
  intro w' hb
  obtain ⟨hk, hw, ht⟩ := nextE_no hn
  obtain ⟨ev, ver, tm, n, of, grid, cells, wd, before⟩ := a
  cases hw
  exact next_d ev ver tm n of grid before _ cells A c t w' rfl hk (by show tm ≤ t; have : ¬ t < tm := ht; omega) (h.below hb) (hr.below hb)
theorem says_no (a : Alr) (A : Option Addr) (c : Nat) (t : Int) (w : World) (h : AIn w a A c) (hn : ¬ nextE a t = 0) : NextSays a A c t Al.zero (nextE a t) w := by
  intro w' hb
  obtain ⟨ev, ver, tm, n, of, grid, cells, wd, before⟩ := a
  by_cases hk : okA ⟨ev, ver, tm, n, of, grid, cells, wd, before⟩ = true
  · cases wd with
    | true =>
      rw [nextE_107 hk rfl]
      exact next_107 ev ver tm n of grid before cells A c t w' hk (h.below hb)
    | false =>
      by_cases ht : t < tm
      · rw [nextE_108 hk rfl ht]
        exact next_108 ev ver tm n of grid before cells A c t w' hk ht (h.below hb)
      · exact absurd (nextE_0 hk rfl ht) hn
  · have hk' : okA ⟨ev, ver, tm, n, of, grid, cells, wd, before⟩ = false := by simpa using hk
    rw [nextE_101 hk']
    exact next_101 ev ver tm n of grid before cells wd A c t w' hk' (h.below hb)
theorem ne_beq {k : Int} (h : ¬ k = 0) : (k == 0) = false := by simpa using h

theorem Draft_is (ev : ByteArray) (t pa pb pl cn co lim g : Int) (l : List Int) (D : Option Addr) (dc : Nat) (x : Alr) (k : Int) (w : World) (hv : draftR ev t cn co lim g l = (x, k)) (hev : ev.size ≤ maxLen) (h : Sl w w.heap.size 1 D l.length dc (ints l)) :
    Calls Tryd.prog 14 #[.string ev, .int .i64 t, .agg #[.int .i64 pa, .int .i64 pb, .int .i64 pl, .int .i64 cn, .int .i64 co], .int .i64 lim, .int .i64 g, .slice D l.length dc] w (OwnT w.heap.size x k w) := by
  unfold draftR at hv
  by_cases hl : lim < cn
  · rw [if_pos hl] at hv
    cases hv
    exact Draft_e ev t pa pb pl cn co lim g l.length D dc w hl
  · rw [if_neg hl] at hv
    cases hv
    exact Draft_n ev t pa pb pl cn co lim g l D dc _ _ w hl (drafted_ (newD ev t cn co g l) D dc w ⟨hev, h⟩)
theorem rDraft_is (ev : ByteArray) (t pa pb pl cn co lim g : Int) (l : List Int) (D : Option Addr) (dc : Nat) (x : Alr) (k : Int) (w : World) (hv : draftR ev t cn co lim g l = (x, k)) (hev : ev.size ≤ maxLen) (h : Sl w w.heap.size 1 D l.length dc (ints l)) :
    Calls Tryd.prog 15 #[.string ev, .int .i64 t, .agg #[.int .i64 pa, .int .i64 pb, .int .i64 pl, .int .i64 cn, .int .i64 co], .int .i64 lim, .int .i64 g, .slice D l.length dc] w (OwnT w.heap.size x k w) := by
  unfold draftR at hv
  by_cases hl : lim < cn
  · rw [if_pos hl] at hv
    cases hv
    exact rDraft_e ev t pa pb pl cn co lim g l.length D dc w hl
  · rw [if_neg hl] at hv
    cases hv
    exact rDraft_n ev t pa pb pl cn co lim g l D dc _ _ w hl (rvalid_ (newD ev t cn co g l) D dc w ⟨hev, h⟩)
theorem Follow_is (a : Alr) (A : Option Addr) (c : Nat) (t cn co g : Int) (l : List Int) (D : Option Addr) (dc : Nat) (x : Alr) (k : Int) (w : World) (hv : folR a t cn co g l = (x, k)) (h : AIn w a A c) (hl : Sl w w.heap.size 1 D l.length dc (ints l)) (hr : Rdy w) :
    Calls Tryd.prog 17 #[a.val A c, .int .i64 t, .agg #[.int .i64 cn, .int .i64 co], .int .i64 g, .slice D l.length dc] w (OwnT w.heap.size x k w) := by
  unfold folR at hv
  by_cases hn : nextE a t = 0
  · rw [if_pos hn] at hv
    cases hv
    exact Follow_n a A c t cn co g l D dc _ _ _ _ _ _ _ _ _ w (says_0 a A c t w h hr hn) (drafted_ (folD a t cn co g l) D dc w ⟨h.ev, hl⟩)
  · rw [if_neg hn] at hv
    cases hv
    exact Follow_e a A c t cn co g D l.length dc _ w (ne_beq hn) (says_no a A c t w h hn)
theorem rFollow_is (a : Alr) (A : Option Addr) (c : Nat) (t cn co g : Int) (l : List Int) (D : Option Addr) (dc : Nat) (x : Alr) (k : Int) (w : World) (hv : folR a t cn co g l = (x, k)) (h : AIn w a A c) (hl : Sl w w.heap.size 1 D l.length dc (ints l)) :
    Calls Tryd.prog 18 #[a.val A c, .int .i64 t, .agg #[.int .i64 cn, .int .i64 co], .int .i64 g, .slice D l.length dc] w (OwnT w.heap.size x k w) := by
  unfold folR at hv
  by_cases hn : nextE a t = 0
  · rw [if_pos hn] at hv
    cases hv
    exact rFollow_n a A c t cn co g l D dc _ _ _ w hn rfl (nextE_no hn).1 h (rvalid_ (folD a t cn co g l) D dc w ⟨h.ev, hl⟩)
  · rw [if_neg hn] at hv
    cases hv
    exact rFollow_e a A c t cn co g l D dc _ w (ne_beq hn) rfl h
theorem Withdraw_is (a : Alr) (A : Option Addr) (c : Nat) (t : Int) (x : Alr) (k : Int) (w : World) (hv : witR a t = (x, k)) (h : AIn w a A c) (hr : Rdy w) :
    Calls Tryd.prog 20 #[a.val A c, .int .i64 t] w (OwnT w.heap.size x k w) := by
  unfold witR at hv
  by_cases hn : nextE a t = 0
  · rw [if_pos hn] at hv
    cases hv
    exact Withdraw_n a A c t _ _ _ _ _ _ _ _ _ w (says_0 a A c t w h hr hn) (drafted_ (witD a t) none 0 w ⟨h.ev, Sl.nilS _ _ _⟩)
  · rw [if_neg hn] at hv
    cases hv
    exact Withdraw_e a A c t _ w (ne_beq hn) (says_no a A c t w h hn)
theorem rWithdraw_is (a : Alr) (A : Option Addr) (c : Nat) (t : Int) (x : Alr) (k : Int) (w : World) (hv : witR a t = (x, k)) (h : AIn w a A c) :
    Calls Tryd.prog 21 #[a.val A c, .int .i64 t] w (OwnT w.heap.size x k w) := by
  unfold witR at hv
  by_cases hn : nextE a t = 0
  · rw [if_pos hn] at hv
    cases hv
    exact rWithdraw_n a A c t _ _ _ w hn rfl (nextE_no hn).1 h (rvalid_ (witD a t) none 0 w ⟨h.ev, Sl.nilS _ _ _⟩)
  · rw [if_neg hn] at hv
    cases hv
    exact rWithdraw_e a A c t _ w (ne_beq hn) rfl h
end Go.Proofs.YtohfofecbdfkgaaDoor
