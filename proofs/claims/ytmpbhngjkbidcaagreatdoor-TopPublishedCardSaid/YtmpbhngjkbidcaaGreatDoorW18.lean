/-
  The walk of Post, of the program.
-/
import Derived.Test.YtmpbhngjkbidcaaGreatDoorW14
import Derived.Deep.DeepCutAuto
import Derived.Deep.AppendLies
import Derived.Deep.RegionLaw
namespace Go.Proofs.YtmpbhngjkbidcaaGreatDoor
open Go.RowKit Al
attribute [local go_sem ↓] Go.wp_at_zero Go.wp_at_succ

/-- The error of a notice that is valid, for a board. -/
def chainE (ns : List Ntc) (n : Ntc) : Int :=
  let last := lastOf ns n.a.ev.data.toList
  let a := last.getD Al.zero
  let before := match last with | some x => digA x | none => 0
  if a.wd then 107 else if ¬ n.a.ver = a.ver + 1 then 105 else if ¬ n.a.before = before then 106 else if n.a.tm < a.tm then 108 else if 256 ≤ ns.length then 7 else 0
/-- The error of Post. -/
def postE (ks : List (Int × Int)) (q : Int) (ns : List Ntc) (n : Ntc) : Int := if noticeE ks q n = 0 then chainE ns n else noticeE ks q n
/-- The notices behind Post. -/
def postN (ks : List (Int × Int)) (q : Int) (ns : List Ntc) (n : Ntc) : List Ntc := if postE ks q ns n = 0 then ns ++ [n] else ns
/-- What Post does. -/
def PostT (S : Nat → Prop) (b : Nat) (ks : List (Int × Int)) (q : Int) (ns : List Ntc) (n : Ntc) (w : World) (e : Ending) (w' : World) : Prop :=
  e = .returned (.int .i64 (postE ks q ns n)) ∧ Bd w' (fun i => S i ∨ w.heap.size ≤ i) b ks q (postN ks q ns n) ∧ Kp S w w'

theorem rollCheck_is (ks : List (Int × Int)) (q : Int) (K : Option Addr) (kc : Nat) (n : Ntc) (A : Option Addr) (c : Nat) (S : Option Addr) (sc : Nat) (v : Int) (w : World) (hv : noticeE ks q n = v) (hr : Rin w ks K kc) (ho : rollOk ks q = true) (hn : NIn w n A c S sc) (ht : Rdy w) :
    Calls Tryz.prog 49 #[rollV ks K kc q, n.val A c S sc] w fun e w' => e = .returned (.int .i64 v) ∧ Below w.heap.size w w' := hv ▸ rollCheck_ ks q K kc n A c S sc w hr ho hn ht

set_option maxRecDepth 100000 in
set_option maxHeartbeats 4000000 in
theorem post_e (R : Nat → Prop) (b : Nat) (ks : List (Int × Int)) (q : Int) (K : Option Addr) (kc : Nat) (L : List It) (N : Option Addr) (nc mb : Nat) (G : List UInt8 → Option (Alr × Option Addr × Nat)) (n : Ntc) (A : Option Addr) (c : Nat) (S : Option Addr) (sc : Nat) (w : World)
    (h : BdAt w R b ks q K kc L N nc mb G) (hn : NIn w n A c S sc) (ht : Rdy w) (he : (noticeE ks q n == 0) = false) :
    Calls Tryz.prog 21 #[.pointer (some ⟨b, 0, none⟩), n.val A c S sc] w fun e w' => e = .returned (.int .i64 (noticeE ks q n)) ∧ Below w.heap.size w w' := by
  have HH := Lib.hid h
  have HN := Lib.hid hn
  have HT := Lib.hid ht
  obtain ⟨v, hv⟩ : ∃ v, v = noticeE ks q n := ⟨_, rfl⟩
  rw [← hv] at he ⊢
  have HV := Lib.hid hv
  have he' : (v != 0) = true := by rw [bne, he]; rfl
  have c0 := h.c0
  have c1 := h.c1
  have c2 := h.c2
  have c3 := h.c3
  have hlt := h.lt.1
  have hlt2 : b < w.heap.size + 1 := by omega
  clear h hn ht hv
  go_enter Tryz.func21, Tryz.ntmps21
  go_wp2_with (go_at_call 44; refine (none_ b mb _ (by simp [go_sem, hlt, c3])).mono ?_; rintro e w' ⟨rfl, rfl⟩)
  refine wp_region_bw2 (by kernel_rfl) (by kernel_rfl) (fun hbwc => ?_)
  repeat (go_big_quiet_step ((go_at_call 49; exact bwCall (rollCheck_is ks q K kc n A c S sc v _ HV.out.symm (Rin.below (Rin.below HH.out.keys.sl (by (repeat (first | exact Below.refl _ _ | assumption | refine below_drewN ?_ _ | refine Below.drew ?_ | refine Below.setCell ?_ (by first | omega | (simp; done) | (simp; omega)) _ | refine Below.alloc ?_ (by first | omega | (simp; done) | (simp; omega)) _)))) (BW.below _)) HH.out.rok (NIn.below (HN.out.below (by (repeat (first | exact Below.refl _ _ | assumption | refine below_drewN ?_ _ | refine Below.drew ?_ | refine Below.setCell ?_ (by first | omega | (simp; done) | (simp; omega)) _ | refine Below.alloc ?_ (by first | omega | (simp; done) | (simp; omega)) _)))) (BW.below _)) (Rdy.below (HT.out.below (by (repeat (first | exact Below.refl _ _ | assumption | refine below_drewN ?_ _ | refine Below.drew ?_ | refine Below.setCell ?_ (by first | omega | (simp; done) | (simp; omega)) _ | refine Below.alloc ?_ (by first | omega | (simp; done) | (simp; omega)) _)))) (BW.below _))))))
  refine wpQuiet_nil ?_
  clear hbwc
  intro w1 hb
  obtain ⟨hcw1, hfw1⟩ := bcell hb
  have Hw1 := Lib.hid ((show Below w.heap.size w _ from (by repeat (first | exact Below.refl _ _ | assumption | refine below_drewN ?_ _ | refine Below.drew ?_ | refine Below.setCell ?_ (by first | omega | (simp; done) | (simp; omega)) _ | refine Below.alloc ?_ (by first | omega | (simp; done) | (simp; omega)) _))).trans (hb.mono (by simp)))
  clear hb
  go_wp2_with fail
  go_ret
  exact ⟨rfl, Hw1.out⟩

/-- The error of a notice that is valid, by the last alert of its event. -/
def chainX (x : Alr) (bf : Int) (len : Nat) (n : Ntc) : Int :=
  if x.wd then 107 else if ¬ n.a.ver = x.ver + 1 then 105 else if ¬ n.a.before = bf then 106 else if n.a.tm < x.tm then 108 else if 256 ≤ len then 7 else 0
theorem chX_1 {x : Alr} {bf : Int} {len : Nat} {n : Ntc} (h : x.wd = true) : chainX x bf len n = 107 := by unfold chainX; rw [if_pos h]
theorem chX_2 {x : Alr} {bf : Int} {len : Nat} {n : Ntc} (h : x.wd = false) (h2 : ¬ n.a.ver = x.ver + 1) : chainX x bf len n = 105 := by unfold chainX; rw [if_neg (by simp [h]), if_pos h2]
theorem chX_3 {x : Alr} {bf : Int} {len : Nat} {n : Ntc} (h : x.wd = false) (h2 : n.a.ver = x.ver + 1) (h3 : ¬ n.a.before = bf) : chainX x bf len n = 106 := by unfold chainX; rw [if_neg (by simp [h]), if_neg (fun f => f h2), if_pos h3]
theorem chX_4 {x : Alr} {bf : Int} {len : Nat} {n : Ntc} (h : x.wd = false) (h2 : n.a.ver = x.ver + 1) (h3 : n.a.before = bf) (h4 : n.a.tm < x.tm) : chainX x bf len n = 108 := by unfold chainX; rw [if_neg (by simp [h]), if_neg (fun f => f h2), if_neg (fun f => f h3), if_pos h4]
theorem chX_5 {x : Alr} {bf : Int} {len : Nat} {n : Ntc} (h : x.wd = false) (h2 : n.a.ver = x.ver + 1) (h3 : n.a.before = bf) (h4 : ¬ n.a.tm < x.tm) (h5 : 256 ≤ len) : chainX x bf len n = 7 := by unfold chainX; rw [if_neg (by simp [h]), if_neg (fun f => f h2), if_neg (fun f => f h3), if_neg h4, if_pos h5]
theorem chX_6 {x : Alr} {bf : Int} {len : Nat} {n : Ntc} (h : x.wd = false) (h2 : n.a.ver = x.ver + 1) (h3 : n.a.before = bf) (h4 : ¬ n.a.tm < x.tm) (h5 : ¬ 256 ≤ len) : chainX x bf len n = 0 := by unfold chainX; rw [if_neg (by simp [h]), if_neg (fun f => f h2), if_neg (fun f => f h3), if_neg h4, if_neg h5]
/-- Behind the append of a notice to a board: w2 the world ahead, wx behind. -/
structure Ap (b : Nat) (L : List It) (N : Option Addr) (n : Ntc) (w2 wx : World) (A' : Option Addr) (c' : Nat) (S' : Option Addr) (sc' g cap : Nat) : Prop where
  row : wx.ownsRow 0 72 10 (.slice (some ⟨g, 0, none⟩) (L.length + 1) cap) (L.length + 1) (itCells L ++ ntL n.a A' c' S' n.sg.length sc')
  own : ARow wx w2.heap.size n.a A' c'
  own2 : wx.ownsRow w2.heap.size 123 2 (.slice S' n.sg.length sc') n.sg.length (keyCells n.sg)
  apart : (∀ a, A' = some a → a.block ≠ g) ∧ ∀ a, S' = some a → a.block ≠ g
  gg : (∃ a, N = some a ∧ a.block = g) ∨ w2.heap.size ≤ g
  gl : g < wx.heap.size
  c2 : wx.cell? ⟨b, 2, none⟩ = some (.slice (some ⟨g, 0, none⟩) (L.length + 1) cap)
  co : ∀ j, j ≠ 2 → wx.cell? ⟨b, j, none⟩ = w2.cell? ⟨b, j, none⟩
  fz : wx.frozen? ⟨b, 2, none⟩ = w2.frozen? ⟨b, 2, none⟩
  kp : Kp (fun i => i = b ∨ ∃ a, N = some a ∧ a.block = i) w2 wx
def Ap20 (b : Nat) (L : List It) (N : Option Addr) (n : Ntc) (w2 wx : World) : Prop := ∃ A' c' S' sc' g cap, Ap b L N n w2 wx A' c' S' sc' g cap
theorem infoNtc : (Tryz.prog.info? 72).map (fun i => (i.zero, i.size, i.bytes)) = some (some (.agg #[.string ⟨#[]⟩, .int .i64 0, .int .i64 0, .int .i64 0, .int .i64 0, .int .i64 0, .slice none 0 0, .bool false, .int .i64 0, .slice none 0 0]), 10, 120) := by kernel_rfl
theorem ntL_one (a : Alr) (A : Option Addr) (c : Nat) (S : Option Addr) (k sc : Nat) : ∀ u ∈ ntL a A c S k sc, u.oneCell' = true := by
  intro u hu
  simp at hu
  rcases hu with rfl | rfl | rfl | rfl | rfl | rfl | rfl | rfl | rfl | rfl <;> rfl
theorem own_lt {w : World} {base e sz n g : Nat} {v : Value} {xs : List Value} (h : w.ownsRow base e sz v n xs) (hg : v.ownBlock = some g) : base ≤ g ∧ g < w.heap.size := by
  rcases h.2 with ⟨rfl, _⟩ | ⟨g', cap, cur, rfl, hb, hh, _⟩
  · cases hg
  · cases hg; exact ⟨hb, (Array.getElem?_eq_some_iff.1 hh).1⟩

theorem ap_mk {b : Nat} {L : List It} {N : Option Addr} {nc : Nat} {n : Ntc} {w2 w3 w5 : World} {o : Obj} {A' : Option Addr} {c' : Nat} {S' : Option Addr} {sc' g cap : Nat}
    (hN : ∀ a, N = some a → a.block ≠ b ∧ a.block < w2.heap.size) (hb : b < w2.heap.size) (h23 : Below w2.heap.size w2 w3) (hA : ARow w3 w2.heap.size n.a A' c') (hS : w3.ownsRow w2.heap.size 123 2 (.slice S' n.sg.length sc') n.sg.length (keyCells n.sg))
    (hown : w5.ownsRow 0 72 10 (.slice (some ⟨g, 0, none⟩) (L.length + 1) cap) (L.length + 1) (itCells L ++ ntL n.a A' c' S' n.sg.length sc')) (hg : (w3.alloc o).grownBy w5 (Value.slice N L.length nc).ownBlock)
    (hat : (Value.slice N L.length nc).ownBlock = some g ∨ g = w3.heap.size + 1) (hlt : g < w5.heap.size) (k2 : w5.cell? ⟨b, 2, none⟩ = some (.slice N L.length nc)) (e2 : w2.frozen? ⟨b, 2, none⟩ = false) (k3 : w5.frozen? ⟨b, 2, none⟩ = false) :
    Ap b L N n w2 (w5.setCell ⟨b, 2, none⟩ (.slice (some ⟨g, 0, none⟩) (L.length + 1) cap)) A' c' S' sc' g cap := by
  have hNo : ∀ i, (Value.slice N L.length nc).ownBlock = some i → ∃ a, N = some a ∧ a.block = i := by
    intro i hi
    cases hN' : N with
    | none => rw [hN'] at hi; cases hi
    | some a => rw [hN'] at hi; cases hi; exact ⟨a, rfl, rfl⟩
  have hb3 : b < w3.heap.size := Nat.lt_of_lt_of_le hb h23.size
  have hgb : g ≠ b := by
    rcases hat with h | h
    · obtain ⟨a, ha, hab⟩ := hNo g h
      rw [← hab]
      exact (hN a ha).1
    · omega
  have K5 : Kp (fun i => ∃ a, N = some a ∧ a.block = i) w2 w5 := (Kp.of_below (h23.alloc h23.size o)).grown hg (fun i hi => .inl (hNo i hi))
  have KA : Kp (fun i => ∃ a, N = some a ∧ a.block = i) (w3.alloc o) w5 := (Kp.refl _ _).grown hg (fun i hi => .inl (hNo i hi))
  have K6 : Kp (fun i => i = b) w5 (w5.setCell ⟨b, 2, none⟩ (.slice (some ⟨g, 0, none⟩) (L.length + 1) cap)) := Kp.setCell (p := ⟨b, 2, none⟩) (Kp.refl (fun i => i = b) _) (.inl rfl) _
  have al : ∀ {e sz n' : Nat} {v : Value} {xs : List Value}, w3.ownsRow w2.heap.size e sz v n' xs → (w5.setCell ⟨b, 2, none⟩ (.slice (some ⟨g, 0, none⟩) (L.length + 1) cap)).ownsRow w2.heap.size e sz v n' xs ∧ (∀ i, v.ownBlock = some i → i ≠ g) := by
    intro e sz n' v xs h
    have h1 := own_below h (Nat.le_refl _) ((Below.refl _ _).alloc (Nat.le_refl _) o)
    have hl : ∀ i, v.ownBlock = some i → w2.heap.size ≤ i ∧ i < w3.heap.size := fun i hi => own_lt h hi
    refine ⟨own_keep (own_keep h1 KA (fun i hi => ?_)) K6 (fun i hi => ?_), fun i hi => ?_⟩
    · rintro ⟨a, ha, hab⟩
      have := (hN a ha).2
      have := hl i hi
      omega
    · have := hl i hi
      omega
    · have h5 := hl i hi
      rcases hat with h | h
      · obtain ⟨a, ha, hab⟩ := hNo g h
        have := (hN a ha).2
        omega
      · omega
  obtain ⟨a1, a2⟩ := al hA
  obtain ⟨s1, s2⟩ := al hS
  refine ⟨own_keep hown K6 (fun i hi => ?_), a1, s1, ⟨fun a ha => a2 _ (by rw [ha]; rfl), fun a ha => s2 _ (by rw [ha]; rfl)⟩, ?_, by simpa using hlt, ?_, fun j hj => ?_, ?_, ?_⟩
  · cases hi; exact hgb
  · rcases hat with h | h
    · exact .inl (hNo g h)
    · have := h23.size; exact .inr (by omega)
  · exact World.cell?_setCell_same' _ _ _ (by rw [k2]; rfl)
  · have hj' : (w5.setCell ⟨b, 2, none⟩ (.slice (some ⟨g, 0, none⟩) (L.length + 1) cap)).cell? ⟨b, j, none⟩ = w5.cell? ⟨b, j, none⟩ := by simp [go_sem]
    rw [hj']
    exact K5.cell (p := ⟨b, j, none⟩) hb (fun ⟨a, ha, hab⟩ => (hN a ha).1 hab)
  · rw [e2]
    simpa [go_sem] using k3
  · exact ((K5.mono (fun i _ hi => .inr hi)).setCell (.inl (.inl rfl)) _)

/-- What Post does of a valid notice. -/
def PcT (R : Nat → Prop) (b : Nat) (ks : List (Int × Int)) (q : Int) (K : Option Addr) (kc : Nat) (L : List It) (N : Option Addr) (mb : Nat) (n : Ntc) (x : Alr) (bf : Int) (w : World) (e : Ending) (w' : World) : Prop :=
  e = .returned (.int .i64 (chainX x bf L.length n)) ∧ (¬ chainX x bf L.length n = 0 → Below w.heap.size w w') ∧ (chainX x bf L.length n = 0 → ∃ R' it N' nc' G', it.n = n ∧ BdAt w' R' b ks q K kc (L ++ [it]) N' nc' mb G' ∧ Kp (BdF R b mb N) w w' ∧ ∀ i, BdF R' b mb N' i → BdF R b mb N i ∨ w.heap.size ≤ i)

theorem bd_post {R : Nat → Prop} {b : Nat} {ks : List (Int × Int)} {q : Int} {K : Option Addr} {kc : Nat} {L : List It} {N : Option Addr} {nc mb : Nat} {G : List UInt8 → Option (Alr × Option Addr × Nat)} {n : Ntc} {w w2 w5 w6 w7 : World} {A' : Option Addr} {c' : Nat} {S' : Option Addr} {sc' g cap : Nat} {A6 : Option Addr} {c6 : Nat}
    (h : BdAt w R b ks q K kc L N nc mb G) (hok : okA n.a = true) (hsg : n.sg.length ≤ 1048576) (hlen : ¬ 256 ≤ L.length) (h2 : Below w.heap.size w w2) (hap : Ap b L N n w2 w5 A' c' S' sc' g cap) (h6 : Below w5.heap.size w5 w6) (hA6 : ARow w6 w5.heap.size n.a A6 c6)
    (hm7 : MapAt w7 mb (L.length + 1) (fun k => if k = n.a.ev.data.toList then some (n.a.val A6 c6) else (G k).map fun y => y.1.val y.2.1 y.2.2)) (hg7 : w6.grownBy w7 (some mb)) :
    ∃ R' it N' nc' G', it.n = n ∧ BdAt w7 R' b ks q K kc (L ++ [it]) N' nc' mb G' ∧ Kp (BdF R b mb N) w w7 ∧ ∀ i, BdF R' b mb N' i → BdF R b mb N i ∨ w.heap.size ≤ i := by
  have s2 := h2.size
  have s5 := hap.kp.size
  have s6 := h6.size
  have s7 := hg7.size
  have hNlt : ∀ a, N = some a → a.block < w.heap.size := fun a ha => (own_lt h.row (g := a.block) (by rw [ha]; rfl)).2
  have hbl := h.lt.1
  have hml := h.lt.2
  have K5 : Kp (fun i => i = b ∨ i = mb ∨ ∃ a, N = some a ∧ a.block = i) w w5 := (Kp.of_below h2).trans hap.kp (fun i _ hi => by rcases hi with hi | hi; exact .inl hi; exact .inr (.inr hi))
  have K6 := K5.then_below h6
  have K7 : Kp (fun i => i = b ∨ i = mb ∨ ∃ a, N = some a ∧ a.block = i) w w7 := K6.grown hg7 (fun k hk => .inl (by cases hk; exact .inr (.inl rfl)))
  have M7 : Kp (fun i => i = mb) w6 w7 := (Kp.refl _ _).grown hg7 (fun k hk => .inl (by cases hk; rfl))
  have hRF : ∀ i, R i → ¬ (i = b ∨ i = mb ∨ ∃ a, N = some a ∧ a.block = i) := by
    rintro i hi (rfl | rfl | ⟨a, ha, rfl⟩)
    · exact h.rb hi
    · exact h.rm hi
    · exact (h.nb a ha).1 hi
  have hgR : ¬ R g := by
    intro hr
    rcases hap.gg with ⟨a, ha, rfl⟩ | hg
    · exact (h.nb a ha).1 hr
    · have := h.rl g hr; omega
  have hgb : g ≠ b := by
    rcases hap.gg with ⟨a, ha, rfl⟩ | hg
    · exact (h.nb a ha).2.1
    · omega
  have hgm : g ≠ mb := by
    rcases hap.gg with ⟨a, ha, rfl⟩ | hg
    · exact (h.nb a ha).2.2
    · omega
  have cb : ∀ j, w7.cell? ⟨b, j, none⟩ = w5.cell? ⟨b, j, none⟩ := fun j =>
    (M7.cell (p := ⟨b, j, none⟩) (show b < w6.heap.size by omega) (show ¬ b = mb from h.bm)).trans (h6.cell (p := ⟨b, j, none⟩) (show b < w5.heap.size by omega))
  have c2b : ∀ j, w2.cell? ⟨b, j, none⟩ = w.cell? ⟨b, j, none⟩ := fun j => h2.cell (p := ⟨b, j, none⟩) hbl
  have fb : w7.frozen? ⟨b, 2, none⟩ = false := by
    rw [M7.frozen (p := ⟨b, 2, none⟩) (show b < w6.heap.size by omega) (show ¬ b = mb from h.bm), h6.frozen (p := ⟨b, 2, none⟩) (show b < w5.heap.size by omega), hap.fz, h2.frozen (p := ⟨b, 2, none⟩) hbl]
    exact h.f2
  have up : ∀ {base e sz n' : Nat} {v : Value} {xs : List Value}, w5.ownsRow base e sz v n' xs → (∀ i, v.ownBlock = some i → i ≠ mb) → w7.ownsRow base e sz v n' xs := fun {_ _ _ _ _ _} hv hne =>
    own_keep (own_below hv (Nat.le_refl _) h6) M7 (fun i hi f => hne i hi f)
  have o1 := up hap.own (fun i hi => by have := (own_lt hap.own hi).1; omega)
  have o2 := up hap.own2 (fun i hi => by have := (own_lt hap.own2 hi).1; omega)
  have o6 : ARow w7 w5.heap.size n.a A6 c6 := own_keep hA6 M7 (fun i hi f => by have := (own_lt hA6 hi).1; omega)
  let R' : Nat → Prop := fun i => R i ∨ (w.heap.size ≤ i ∧ i < w7.heap.size ∧ i ≠ g)
  have hRR : ∀ i, R i → R' i := fun i hi => .inl hi
  have inR : ∀ {base e sz n' c : Nat} {A : Option Addr} {xs : List Value}, w7.ownsRow base e sz (.slice A n' c) n' xs → w.heap.size ≤ base → (∀ a, A = some a → a.block ≠ g) → SlR w7 R' sz A n' c xs := fun {_ _ _ _ _ _ _} hv hba hne =>
    ⟨Sl.of_own hv, fun _ a ha => .inr (by have := own_lt hv (g := a.block) (by rw [ha]; rfl); exact ⟨by omega, by omega, hne a ha⟩)⟩
  refine ⟨R', ⟨n, A', c', S', sc'⟩, some ⟨g, 0, none⟩, cap, fun k => if k = n.a.ev.data.toList then some (n.a, A6, c6) else G k, rfl, ?_, ?_, ?_⟩
  · refine ⟨?_, ?_, ?_, ?_, fb, (h.keys.keep K7 hRF).mono hRR, ?_, ?_, ?_, ?_, ?_, h.rok, by simp; omega, ?_, ?_, h.bm, ?_, ⟨by omega, by omega⟩, ?_⟩
    · rw [cb, hap.co 0 (by decide), c2b]; exact h.c0
    · rw [cb, hap.co 1 (by decide), c2b]; exact h.c1
    · rw [cb, hap.c2]; simp
    · rw [cb, hap.co 3 (by decide), c2b]; exact h.c3
    · rw [itCells_snoc, List.length_append]
      exact up hap.row (fun i hi => by cases hi; exact hgm)
    · intro x hx
      rcases List.mem_append.1 hx with hx | hx
      · exact ((h.its x hx).keep K7 hRF).mono hRR
      · obtain rfl := List.mem_singleton.1 hx
        exact ⟨hok, inR o1 s2 hap.apart.1, inR o2 s2 hap.apart.2, hsg⟩
    · rw [List.length_append]
      have e : (fun k => ((if k = n.a.ev.data.toList then some (n.a, A6, c6) else G k) : Option (Alr × Option Addr × Nat)).map fun y => y.1.val y.2.1 y.2.2) = fun k => if k = n.a.ev.data.toList then some (n.a.val A6 c6) else (G k).map fun y => y.1.val y.2.1 y.2.2 := by
        funext k
        split <;> rfl
      rw [e]
      exact hm7
    · intro k y hy
      split at hy
      · cases hy
        exact ⟨hok, inR o6 (by omega) (fun a ha => by have := (own_lt o6 (g := a.block) (by have ha' : A6 = some a := ha; rw [ha']; rfl)).1; have := hap.gl; omega)⟩
      · exact ⟨(h.gs k y hy).1, ((h.gs k y hy).2.keep K7 hRF).mono hRR⟩
    · intro k
      simp only [List.map_append, List.map_cons, List.map_nil]
      rw [lastOf_snoc, ← h.gl]
      by_cases hk : k = n.a.ev.data.toList
      · rw [if_pos hk, if_pos hk.symm]; rfl
      · rw [if_neg hk, if_neg (fun f => hk f.symm)]
    · rintro (hr | hr)
      · exact h.rb hr
      · omega
    · rintro (hr | hr)
      · exact h.rm hr
      · omega
    · intro a ha
      cases ha
      refine ⟨?_, hgb, hgm⟩
      rintro (hr | hr)
      · exact hgR hr
      · exact hr.2.2 rfl
    · rintro i (hi | hi)
      · have := h.rl i hi; omega
      · exact hi.2.1
  · exact K7.mono (fun i _ hi => by
      rcases hi with hi | hi | hi
      · exact .inr (.inl hi)
      · exact .inr (.inr (.inl hi))
      · exact .inr (.inr (.inr hi)))
  · rintro i (hi | rfl | rfl | ⟨a, ha, rfl⟩)
    · rcases hi with hi | hi
      · exact .inl (.inl hi)
      · exact .inr hi.1
    · exact .inl (.inr (.inl rfl))
    · exact .inl (.inr (.inr (.inl rfl)))
    · cases ha
      rcases hap.gg with ⟨a, ha, hab⟩ | hg
      · exact .inl (.inr (.inr (.inr ⟨a, ha, hab⟩)))
      · exact .inr (by show w.heap.size ≤ g; omega)

set_option maxRecDepth 100000 in
set_option maxHeartbeats 4000000 in
theorem post_c (R : Nat → Prop) (b : Nat) (ks : List (Int × Int)) (q : Int) (K : Option Addr) (kc : Nat) (L : List It) (N : Option Addr) (nc mb : Nat) (G : List UInt8 → Option (Alr × Option Addr × Nat)) (n : Ntc) (A : Option Addr) (c : Nat) (S : Option Addr) (sc : Nat)
    (x : Alr) (XA : Option Addr) (xc : Nat) (lb : Bool) (bf : Int) (w : World)
    (h : BdAt w R b ks q K kc L N nc mb G) (hn : NIn w n A c S sc) (ht : Rdy w) (he : noticeE ks q n = 0)
    (hl : (G n.a.ev.data.toList).map (fun y => y.1.val y.2.1 y.2.2) = if lb then some (x.val XA xc) else none) (hx : lb = false → x = Al.zero ∧ XA = none ∧ xc = 0 ∧ bf = 0) (hy : lb = true → okA x = true ∧ AIn w x XA xc ∧ digA x = bf) (hs : n.a.ev.size ≤ maxLen) (hxv : 0 ≤ x.ver ∧ x.ver ≤ 2147483647) (hok : okA n.a = true) (hsg : n.sg.length ≤ 1048576) (hna : SlR w (fun i => ¬ BdF R b mb N i) 1 A n.a.cells.length c (ints n.a.cells)) :
    Calls Tryz.prog 21 #[.pointer (some ⟨b, 0, none⟩), n.val A c S sc] w (PcT R b ks q K kc L N mb n x bf w) := by
  have HH := Lib.hid h
  have HN := Lib.hid hn
  have HT := Lib.hid ht
  have HV := Lib.hid he
  have HS := Lib.hid hs
  have HNA := Lib.hid hna
  have hlk : ∀ W, Below w.heap.size w W → (Instr.lookup 102 (.map (some mb)) (.string n.a.ev) true).run Tryz.prog W = .ok (.tuple #[x.val XA xc, .bool lb]) W := by
    intro W hb
    have hm := (h.map.keep (F := fun _ => False) (Kp.of_below hb) (fun f => f)).look hs
    rw [hl] at hm
    cases lb with
    | true => exact hm
    | false => obtain ⟨rfl, rfl, rfl, _⟩ := hx rfl; exact hm
  have HL := Lib.hid hlk
  have HX := Lib.hid hx
  have HY := Lib.hid hy
  have c0 := h.c0
  have c1 := h.c1
  have c2 := h.c2
  have c3 := h.c3
  have hlt := h.lt.1
  have hlt2 : b < w.heap.size + 1 := by omega
  clear h hn ht he hl hx hy hs hlk hna
  go_enter Tryz.func21, Tryz.ntmps21
  go_wp2_with (go_at_call 44; refine (none_ b mb _ (by simp [go_sem, hlt, c3])).mono ?_; rintro e w' ⟨rfl, rfl⟩)
  refine wp_region_bw2 (by kernel_rfl) (by kernel_rfl) (fun hbwc => ?_)
  repeat (go_big_quiet_step ((go_at_call 49; exact bwCall (rollCheck_is ks q K kc n A c S sc 0 _ HV.out (Rin.below (Rin.below HH.out.keys.sl (by (repeat (first | exact Below.refl _ _ | assumption | refine below_drewN ?_ _ | refine Below.drew ?_ | refine Below.setCell ?_ (by first | omega | (simp; done) | (simp; omega)) _ | refine Below.alloc ?_ (by first | omega | (simp; done) | (simp; omega)) _)))) (BW.below _)) HH.out.rok (NIn.below (HN.out.below (by (repeat (first | exact Below.refl _ _ | assumption | refine below_drewN ?_ _ | refine Below.drew ?_ | refine Below.setCell ?_ (by first | omega | (simp; done) | (simp; omega)) _ | refine Below.alloc ?_ (by first | omega | (simp; done) | (simp; omega)) _)))) (BW.below _)) (Rdy.below (HT.out.below (by (repeat (first | exact Below.refl _ _ | assumption | refine below_drewN ?_ _ | refine Below.drew ?_ | refine Below.setCell ?_ (by first | omega | (simp; done) | (simp; omega)) _ | refine Below.alloc ?_ (by first | omega | (simp; done) | (simp; omega)) _)))) (BW.below _))))))
  refine wpQuiet_nil ?_
  clear hbwc
  intro w1 hb
  obtain ⟨hcw1, hfw1⟩ := bcell hb
  have Hw1 := Lib.hid ((show Below w.heap.size w _ from (by repeat (first | exact Below.refl _ _ | assumption | refine below_drewN ?_ _ | refine Below.drew ?_ | refine Below.setCell ?_ (by first | omega | (simp; done) | (simp; omega)) _ | refine Below.alloc ?_ (by first | omega | (simp; done) | (simp; omega)) _))).trans (hb.mono (by simp)))
  have hz1 : w.heap.size < w1.heap.size := by have := hb.size; simp at this; omega
  have hz2 : b < w1.heap.size := by omega
  clear hb
  go_wp2_with fail
  go_cut [6, 7] (fun s6 s7 wx => s6 = .pointer (some ⟨w1.heap.size, 0, none⟩) ∧ s7 = .bool lb ∧ wx = (w1.alloc (.cells (x.val XA xc).cells 55)).drew)
  case first =>
    go_region_held3 (fun w' => w'.cell? ⟨b, 3, none⟩ = some (.map (some mb)) ∧ w'.cell? ⟨w.heap.size, 0, none⟩ = some (.string n.a.ev) ∧ (Instr.lookup 102 (.map (some mb)) (.string n.a.ev) true).run Tryz.prog w' = .ok (.tuple #[x.val XA xc, .bool lb]) w')
      (exact ⟨by (simp [go_sem, hcw1, hz2, hlt, hlt2, c3]), by (simp [go_sem, hcw1, hz1]), HL.out _ (by repeat (first | exact Below.refl _ _ | exact (Hw1).out | refine below_drewN ?_ _ | refine Below.drew ?_ | refine Below.setCell ?_ (by first | omega | (simp; done) | (simp; omega)) _ | refine Below.alloc ?_ (by first | omega | (simp; done) | (simp; omega)) _))⟩) (fail)
    all_goals
      go_wp2_with fail
      go_meet
      case rel => exact ⟨rfl, rfl, rfl⟩
  case rest =>
    obtain ⟨rfl, rfl, rfl⟩ := hcut
    have hz3 : w1.heap.size < w1.heap.size + 1 := by omega
    have hz4 : w.heap.size < w1.heap.size + 1 := by omega
    have hz5 : b < w1.heap.size + 1 := by omega
    go_upto_if 31 with fail
    go_cut [8] (fun s8 wx => s8 = .int .i64 bf ∧ Below (w1.heap.size + 1) (w1.alloc (.cells (x.val XA xc).cells 55)).drew wx)
    case first =>
      cases lb with
      | false =>
        have HBF := Lib.hid (HX.out rfl).2.2.2
        clear HX HY
        go_wp2_with fail
        go_meet
        case rel => exact ⟨by rw [HBF.out], Below.refl _ _⟩
      | true =>
        have HY1 := Lib.hid (HY.out rfl)
        clear HX HY
        go_wp2_with fail
        refine (digestA x XA xc _ HY1.out.1 (HY1.out.2.1.below (by repeat (first | exact Below.refl _ _ | exact (Hw1).out | refine below_drewN ?_ _ | refine Below.drew ?_ | refine Below.setCell ?_ (by first | omega | (simp; done) | (simp; omega)) _ | refine Below.alloc ?_ (by first | omega | (simp; done) | (simp; omega)) _))) (HT.out.below (by repeat (first | exact Below.refl _ _ | exact (Hw1).out | refine below_drewN ?_ _ | refine Below.drew ?_ | refine Below.setCell ?_ (by first | omega | (simp; done) | (simp; omega)) _ | refine Below.alloc ?_ (by first | omega | (simp; done) | (simp; omega)) _)))).mono ?_
        rintro e w2 ⟨rfl, hb⟩
        have Hw2 := Lib.hid (hb.mono (show w1.heap.size + 1 ≤ _ by simp))
        clear hb
        go_wp2_with fail
        go_meet
        case rel => exact ⟨by rw [← HY1.out.2.2], Hw2.out⟩
    case rest =>
      rename World => w2
      obtain ⟨rfl, hbw⟩ := hcut
      obtain ⟨hcw2, hfw2⟩ := bcell hbw
      have HB2 : Hid (Below w.heap.size w w2) := (show Below w.heap.size w _ from (by repeat (first | exact Below.refl _ _ | exact (Hw1).out | refine below_drewN ?_ _ | refine Below.drew ?_ | refine Below.setCell ?_ (by first | omega | (simp; done) | (simp; omega)) _ | refine Below.alloc ?_ (by first | omega | (simp; done) | (simp; omega)) _))).trans (hbw.mono (by omega))
      have hz6 := hbw.size
      simp at hz6
      have hz7 : w.heap.size < w2.heap.size := by omega
      have hz8 : b < w2.heap.size := by omega
      have hz9 : w1.heap.size < w2.heap.size := by omega
      obtain ⟨hxv1, hxv2⟩ := hxv
      clear hbw
      cases hwd : x.wd with
      | true =>
        have HC := Lib.hid (chX_1 (bf := bf) (len := L.length) (n := n) hwd)
        go_wp2_with fail
        go_ret
        exact ⟨ret_int HC.out.symm, fun _ => HB2.out, fun h => absurd (HC.out.symm.trans h) (by decide)⟩
      | false =>
        by_cases hv : n.a.ver = x.ver + 1
        · by_cases hbf : n.a.before = bf
          · by_cases htm : n.a.tm < x.tm
            · have HC := Lib.hid (chX_4 (len := L.length) hwd hv hbf htm)
              have t1 : (n.a.ver != x.ver + 1) = false := by simp [hv]
              have t2 : (n.a.before != bf) = false := by simp [hbf]
              have t3 := decide_eq_true htm
              clear hv hbf htm
              go_wp2_with fail
              go_ret
              exact ⟨ret_int HC.out.symm, fun _ => HB2.out, fun h => absurd (HC.out.symm.trans h) (by decide)⟩
            · by_cases hlen : 256 ≤ L.length
              · have HC := Lib.hid (chX_5 hwd hv hbf htm hlen)
                have t1 : (n.a.ver != x.ver + 1) = false := by simp [hv]
                have t2 : (n.a.before != bf) = false := by simp [hbf]
                have t3 := decide_eq_false htm
                have t4 : decide ((256 : Int) ≤ (L.length : Int)) = true := decide_eq_true (by omega)
                clear hv hbf htm hlen
                go_wp2_with fail
                go_ret
                exact ⟨ret_int HC.out.symm, fun _ => HB2.out, fun h => absurd (HC.out.symm.trans h) (by decide)⟩
              · have HC := Lib.hid (chX_6 hwd hv hbf htm hlen)
                have t1 : (n.a.ver != x.ver + 1) = false := by simp [hv]
                have t2 : (n.a.before != bf) = false := by simp [hbf]
                have t3 := decide_eq_false htm
                have t4 : decide ((256 : Int) ≤ (L.length : Int)) = false := decide_eq_false (by omega)
                clear hv hbf htm
                go_wp2_with fail
                go_cut [8] (fun s8 wx => s8 = .int .i64 bf ∧ Ap20 b L N n w2 wx)
                case first =>
                  have hB2 := HB2.out
                  have d2 : w2.cell? ⟨b, 2, none⟩ = some (.slice N L.length nc) := by rw [hcw2 _ _ hz5]; simp [go_sem, hcw1, hz2, hlt, hlt2, c2]
                  have e2 : w2.frozen? ⟨b, 2, none⟩ = false := by rw [hfw2 _ _ hz5]; simp [go_sem, hfw1, hz2, hlt, hlt2, HH.out.f2]
                  have ec : ∀ (j : Nat) (v : Value), (w.alloc (.cells (n.val A c S sc).cells 72)).cell? ⟨w.heap.size, j, none⟩ = some v → w2.cell? ⟨w.heap.size, j, none⟩ = some v := by
                    intro j v hv
                    rw [hcw2 _ _ hz4]
                    simp [go_sem, hcw1, hz1] at hv ⊢
                    exact hv
                  have f0 := ec 0 (.string n.a.ev) (by simp [go_sem])
                  have f1 := ec 1 (.int .i64 n.a.ver) (by simp [go_sem])
                  have f2 := ec 2 (.int .i64 n.a.tm) (by simp [go_sem])
                  have f3 := ec 3 (.int .i64 n.a.n) (by simp [go_sem])
                  have f4 := ec 4 (.int .i64 n.a.of) (by simp [go_sem])
                  have f5 := ec 5 (.int .i64 n.a.grid) (by simp [go_sem])
                  have f6 := ec 6 (.slice A n.a.cells.length c) (by simp [go_sem])
                  have f7 := ec 7 (.bool n.a.wd) (by simp [go_sem])
                  have f8 := ec 8 (.int .i64 n.a.before) (by simp [go_sem])
                  have f9 := ec 9 (.slice S n.sg.length sc) (by simp [go_sem])
                  clear ec
                  have hne : some b ≠ (Value.slice N L.length nc).ownBlock := by
                    cases hN : N with
                    | none => intro f; cases f
                    | some a => intro f; exact (HH.out.nb a hN).2.1 (Option.some.inj f).symm
                  have HNB : Hid (∀ a, N = some a → a.block ≠ b ∧ a.block < w2.heap.size) := fun a ha => ⟨(HH.out.nb a ha).2.1, by have := (own_lt HH.out.row (g := a.block) (by rw [ha]; rfl)).2; omega⟩
                  have hcl := okA_short hok
                  have hsl : n.sg.length * 16 ≤ 140737488355328 := by omega
                  obtain ⟨i0, hi, hi0, hi1, hi2⟩ := info_parts infoNtc
                  go_region_law (first
                    | ((go_simp; go_at_call 51; refine (notice_ n A c S sc _ (HN.out.below (by (repeat (first | exact Below.refl _ _ | assumption | refine below_drewN ?_ _ | refine Below.drew ?_ | refine Below.setCell ?_ (by first | omega | (simp; done) | (simp; omega)) _ | refine Below.alloc ?_ (by first | omega | (simp; done) | (simp; omega)) _)))) hcl hsl).mono ?_; rintro e w3 ⟨A', c', S', sc', rfl, hA3, hS3, hbw3⟩; obtain ⟨hcw3, hfw3⟩ := bcell hbw3; have hB3 : Below w.heap.size w w3 := Below.trans (by (repeat (first | exact Below.refl _ _ | assumption | refine below_drewN ?_ _ | refine Below.drew ?_ | refine Below.setCell ?_ (by first | omega | (simp; done) | (simp; omega)) _ | refine Below.alloc ?_ (by first | omega | (simp; done) | (simp; omega)) _))) (hbw3.mono (by first | omega | (simp; omega))); have hz10 : w2.heap.size ≤ w3.heap.size := (by have := hbw3.size; (try simp at this); omega); have hz11 : w.heap.size < w3.heap.size := (by omega); have hz12 : b < w3.heap.size := (by omega); have k4 : w3.cell? ⟨b, 2, none⟩ = some (.slice N L.length nc) := (by rw [hcw3 _ _ (by first | omega | (simp; omega))]; exact d2); have k5 : w3.frozen? ⟨b, 2, none⟩ = false := (by rw [hfw3 _ _ (by first | omega | (simp; omega))]; exact e2)))
                    | ((refine step_append_lies _ rfl (.tmp 69) (.tmp 72) 78 rfl 0 72 i0 (.agg #[.string ⟨#[]⟩, .int .i64 0, .int .i64 0, .int .i64 0, .int .i64 0, .int .i64 0, .slice none 0 0, .bool false, .int .i64 0, .slice none 0 0]) 10 120 Tryz.underlying78 hi hi0 hi1 hi2 rfl (by decide) (.slice N L.length nc) L.length (itCells L) (by rfl) (own_keep (F := fun _ => False) HH.out.row (Kp.of_below (by (repeat (first | exact Below.refl _ _ | assumption | refine below_drewN ?_ _ | refine Below.drew ?_ | refine Below.setCell ?_ (by first | omega | (simp; done) | (simp; omega)) _ | refine Below.alloc ?_ (by first | omega | (simp; done) | (simp; omega)) _)))) (fun _ _ f => f)) _ 1 1 (ntL n.a A' c' S' n.sg.length sc') (by rfl) rfl (World.news_of_block (heap_alloc_new w3 _)) (ntL_one _ _ _ _ _ _) (by omega) (by unfold maxLen; omega) (by omega) (Nat.zero_le _) (w3.heap.size + 1) (by simp) ?_; intro g cap w5 hown5 hg5 hat5 hlt5; have k2 : w5.cell? ⟨b, 2, none⟩ = some (.slice N L.length nc) := (by rw [hg5.cell_far _ (by simp; omega) hne]; exact (((Below.refl w3.heap.size w3).alloc (Nat.le_refl _) _).cell (p := ⟨b, 2, none⟩) hz12).trans k4); have k3 : w5.frozen? ⟨b, 2, none⟩ = false := (by rw [hg5.frozen_far _ (by simp; omega) hne]; exact (((Below.refl w3.heap.size w3).alloc (Nat.le_refl _) _).frozen (p := ⟨b, 2, none⟩) hz12).trans k5))))
                  all_goals
                    go_wp2_with fail
                    go_meet
                    case rel => exact ⟨rfl, A', c', S', sc', g, cap, ap_mk HNB.out hz8 (Below.trans (by (repeat (first | exact Below.refl _ _ | assumption | refine below_drewN ?_ _ | refine Below.drew ?_ | refine Below.setCell ?_ (by first | omega | (simp; done) | (simp; omega)) _ | refine Below.alloc ?_ (by first | omega | (simp; done) | (simp; omega)) _))) hbw3) hA3 hS3 hown5 hg5 hat5 hlt5 k2 e2 k3⟩
                case rest =>
                  rename World => w5
                  obtain ⟨rfl, hap⟩ := hcut
                  obtain ⟨A', c', S', sc', g, cap, hap⟩ := hap
                  have HAP := Lib.hid hap
                  have hwN : ¬ (w.heap.size = b ∨ ∃ a, N = some a ∧ a.block = w.heap.size) := by
                    rintro (h | ⟨a, ha, hab⟩)
                    · omega
                    · have := (own_lt HH.out.row (g := a.block) (by rw [ha]; rfl)).2; omega
                  have hmN : ¬ (mb = b ∨ ∃ a, N = some a ∧ a.block = mb) := by
                    rintro (h | ⟨a, ha, hab⟩)
                    · exact HH.out.bm h.symm
                    · exact (HH.out.nb a ha).2.2 hab
                  have hz10 := hap.kp.size
                  have hz11 : w.heap.size < w5.heap.size := by omega
                  have hz12 : b < w5.heap.size := by omega
                  have d3 : w5.cell? ⟨b, 3, none⟩ = some (.map (some mb)) := by
                    rw [hap.co 3 (by decide), hcw2 _ _ hz5]; simp [go_sem, hcw1, hz2, hlt, hlt2, c3]
                  have ec : ∀ (j : Nat) (v : Value), (w.alloc (.cells (n.val A c S sc).cells 72)).cell? ⟨w.heap.size, j, none⟩ = some v → w5.cell? ⟨w.heap.size, j, none⟩ = some v := by
                    intro j v hv
                    rw [hap.kp.cell (p := ⟨w.heap.size, j, none⟩) hz7 hwN, hcw2 _ _ hz4]
                    simp [go_sem, hcw1, hz1] at hv ⊢
                    exact hv
                  have g0 := ec 0 (.string n.a.ev) (by simp [go_sem])
                  have g1 := ec 1 (.int .i64 n.a.ver) (by simp [go_sem])
                  have g2 := ec 2 (.int .i64 n.a.tm) (by simp [go_sem])
                  have g3 := ec 3 (.int .i64 n.a.n) (by simp [go_sem])
                  have g4 := ec 4 (.int .i64 n.a.of) (by simp [go_sem])
                  have g5 := ec 5 (.int .i64 n.a.grid) (by simp [go_sem])
                  have g6 := ec 6 (.slice A n.a.cells.length c) (by simp [go_sem])
                  have g7 := ec 7 (.bool n.a.wd) (by simp [go_sem])
                  have g8 := ec 8 (.int .i64 n.a.before) (by simp [go_sem])
                  clear ec
                  have hcl := okA_short hok
                  have HM5 := Lib.hid ((HH.out.map.keep (F := fun _ => False) (Kp.of_below HB2.out) (fun f => f)).keep hap.kp hmN)
                  have HA5 : Hid (AIn w5 n.a A c) := ⟨HS.out, ((HNA.out.keep (F := fun _ => False) (Kp.of_below HB2.out) (fun _ _ f => f)).keep hap.kp (fun i hi f => hi (by rcases f with f | f; exact .inr (.inl f); exact .inr (.inr (.inr f))))).sl⟩
                  have hbm : some b ≠ some mb := fun f => HH.out.bm (Option.some.inj f)
                  have hnm : some w.heap.size ≠ some mb := fun f => by have := HH.out.lt.2; have := Option.some.inj f; omega
                  clear hap
                  go_wp2_with fail
                  go_region_held3 (fun w' => w'.cell? ⟨b, 3, none⟩ = some (.map (some mb)) ∧ w'.cell? ⟨w.heap.size, 0, none⟩ = some (.string n.a.ev) ∧ w'.cell? ⟨w.heap.size, 1, none⟩ = some (.int .i64 n.a.ver) ∧ w'.cell? ⟨w.heap.size, 2, none⟩ = some (.int .i64 n.a.tm) ∧ w'.cell? ⟨w.heap.size, 3, none⟩ = some (.int .i64 n.a.n) ∧ w'.cell? ⟨w.heap.size, 4, none⟩ = some (.int .i64 n.a.of) ∧ w'.cell? ⟨w.heap.size, 5, none⟩ = some (.int .i64 n.a.grid) ∧ w'.cell? ⟨w.heap.size, 6, none⟩ = some (.slice A n.a.cells.length c) ∧ w'.cell? ⟨w.heap.size, 7, none⟩ = some (.bool n.a.wd) ∧ w'.cell? ⟨w.heap.size, 8, none⟩ = some (.int .i64 n.a.before))
                    (first | exact ⟨v3, z0, z1, z2, z3, z4, z5, z6, z7, z8⟩ | exact ⟨x3, y0, y1, y2, y3, y4, y5, y6, y7, y8⟩ | go_keep)
                    (first
                      | ((go_at_call 45; refine (copied_ n.a A c _ (HA5.out.below (by (repeat (first | exact Below.refl _ _ | assumption | refine below_drewN ?_ _ | refine Below.drew ?_ | refine Below.setCell ?_ (by first | omega | (simp; done) | (simp; omega)) _ | refine Below.alloc ?_ (by first | omega | (simp; done) | (simp; omega)) _)))) hcl).mono ?_; rintro e w6 ⟨A6, c6, rfl, hA6, hbw6⟩; obtain ⟨hcw6, hfw6⟩ := bcell hbw6; have hB6 : Below w5.heap.size w5 w6 := Below.trans (by (repeat (first | exact Below.refl _ _ | assumption | refine below_drewN ?_ _ | refine Below.drew ?_ | refine Below.setCell ?_ (by first | omega | (simp; done) | (simp; omega)) _ | refine Below.alloc ?_ (by first | omega | (simp; done) | (simp; omega)) _))) (hbw6.mono (by first | omega | (simp; done) | (simp; omega))); have hz13 := hB6.size; have x3 := (hcw6 b 3 (by first | omega | (simp; done) | (simp; omega))).trans d3; have y0 := (hcw6 w.heap.size 0 (by first | omega | (simp; done) | (simp; omega))).trans g0; have y1 := (hcw6 w.heap.size 1 (by first | omega | (simp; done) | (simp; omega))).trans g1; have y2 := (hcw6 w.heap.size 2 (by first | omega | (simp; done) | (simp; omega))).trans g2; have y3 := (hcw6 w.heap.size 3 (by first | omega | (simp; done) | (simp; omega))).trans g3; have y4 := (hcw6 w.heap.size 4 (by first | omega | (simp; done) | (simp; omega))).trans g4; have y5 := (hcw6 w.heap.size 5 (by first | omega | (simp; done) | (simp; omega))).trans g5; have y6 := (hcw6 w.heap.size 6 (by first | omega | (simp; done) | (simp; omega))).trans g6; have y7 := (hcw6 w.heap.size 7 (by first | omega | (simp; done) | (simp; omega))).trans g7; have y8 := (hcw6 w.heap.size 8 (by first | omega | (simp; done) | (simp; omega))).trans g8; obtain ⟨w7, hrun, hm7, hg7⟩ := (HM5.out.keep (F := fun _ => False) (Kp.of_below hB6) (fun f => f)).put (by unfold maxLen; omega) HS.out (n.a.val A6 c6); have v3 := (hg7.cell_far ⟨b, 3, none⟩ (show b < w6.heap.size by omega) hbm).trans x3; have z0 := (hg7.cell_far ⟨w.heap.size, 0, none⟩ (show w.heap.size < w6.heap.size by omega) hnm).trans y0; have z1 := (hg7.cell_far ⟨w.heap.size, 1, none⟩ (show w.heap.size < w6.heap.size by omega) hnm).trans y1; have z2 := (hg7.cell_far ⟨w.heap.size, 2, none⟩ (show w.heap.size < w6.heap.size by omega) hnm).trans y2; have z3 := (hg7.cell_far ⟨w.heap.size, 3, none⟩ (show w.heap.size < w6.heap.size by omega) hnm).trans y3; have z4 := (hg7.cell_far ⟨w.heap.size, 4, none⟩ (show w.heap.size < w6.heap.size by omega) hnm).trans y4; have z5 := (hg7.cell_far ⟨w.heap.size, 5, none⟩ (show w.heap.size < w6.heap.size by omega) hnm).trans y5; have z6 := (hg7.cell_far ⟨w.heap.size, 6, none⟩ (show w.heap.size < w6.heap.size by omega) hnm).trans y6; have z7 := (hg7.cell_far ⟨w.heap.size, 7, none⟩ (show w.heap.size < w6.heap.size by omega) hnm).trans y7; have z8 := (hg7.cell_far ⟨w.heap.size, 8, none⟩ (show w.heap.size < w6.heap.size by omega) hnm).trans y8)))
                  go_wp2_with fail
                  go_ret
                  refine ⟨ret_int HC.out.symm, fun f => absurd HC.out f, fun _ => ?_⟩
                  exact bd_post HH.out hok hsg hlen HB2.out HAP.out hB6 hA6 hm7 hg7
          · have HC := Lib.hid (chX_3 (len := L.length) hwd hv hbf)
            have t1 : (n.a.ver != x.ver + 1) = false := by simp [hv]
            have t2 : (n.a.before != bf) = true := by simp [hbf]
            clear hv hbf
            go_wp2_with fail
            go_ret
            exact ⟨ret_int HC.out.symm, fun _ => HB2.out, fun h => absurd (HC.out.symm.trans h) (by decide)⟩
        · have HC := Lib.hid (chX_2 (bf := bf) (len := L.length) hwd hv)
          have t1 : (n.a.ver != x.ver + 1) = true := by simp [hv]
          clear hv
          go_wp2_with fail
          go_ret
          exact ⟨ret_int HC.out.symm, fun _ => HB2.out, fun h => absurd (HC.out.symm.trans h) (by decide)⟩
end Go.Proofs.YtmpbhngjkbidcaaGreatDoor
