/-
  Plain facts of the law AlertNight: names of events, alerts of a night, and how they are posted.
-/
import Derived.Test.YtmpbhngjkbidcaaGreatDoorW05
import Derived.Test.YtmpbhngjkbidcaaGreatDoorW21
import Derived.Test.YtmpbhngjkbidcaaGreatDoorW24
import Derived.Test.YtmpbhngjkbidcaaGreatDoorW19
import Derived.Test.YtmpbhngjkbidcaaGreatDoorW13
namespace Go.Proofs.YtmpbhngjkbidcaaGreatDoor
open Go.RowKit Al

theorem rising_of : ∀ (l : List Int) (last many : Int), l.Pairwise (· < ·) → (∀ x ∈ l, last < x) → (∀ x ∈ l, x < many) → rising last many l = true
  | [], _, _, _, _, _ => rfl
  | c :: r, last, many, h, h1, h2 => by
    obtain ⟨a, b⟩ := List.pairwise_cons.1 h
    simp only [rising, Bool.and_eq_true, decide_eq_true_eq]
    exact ⟨⟨h1 c (by simp), h2 c (by simp)⟩, rising_of r c many b a (fun x hx => h2 x (by simp [hx]))⟩
theorem pick_as (is : V3 → Bool) (g : Int) (N : Nat) : pickL is (cellsL g N) = ((List.range N).filter fun c : Nat => is (dirV g (c : Int))).map fun c : Nat => (c : Int) := by
  unfold pickL cellsL
  rw [List.filter_map, List.map_map]
  rfl
theorem pick_rising (is : V3 → Bool) (g : Int) (N : Nat) : rising (-1) N (pickL is (cellsL g N)) = true := by
  rw [pick_as]
  refine rising_of _ _ _ ?_ ?_ ?_
  · rw [List.pairwise_map]
    exact (List.pairwise_lt_range.filter _).imp (fun h => by omega)
  · intro x hx
    obtain ⟨c, _, rfl⟩ := List.mem_map.1 hx
    omega
  · intro x hx
    obtain ⟨c, hc, rfl⟩ := List.mem_map.1 hx
    have := List.mem_range.1 (List.mem_filter.1 hc).1
    omega
theorem rising_head {last many c : Int} {r : List Int} (h : rising last many (c :: r) = true) : last < c ∧ c < many := by
  simp only [rising, Bool.and_eq_true, decide_eq_true_eq] at h
  exact h.1
/-- The digits of a number below 20. -/
def dec20 (n : Nat) : List UInt8 := if n < 10 then [UInt8.ofNat (48 + n)] else [49, UInt8.ofNat (38 + n)]
theorem itoa20 (n : Nat) (hn : n < 20) : Lib.itoa (n : Int) = dec20 n := by
  match n, hn with
  | 0, _ => exact (by simp [Lib.itoa, Lib.decDigits, dec20] : Lib.itoa 0 = dec20 0)
  | 1, _ => exact (by simp [Lib.itoa, Lib.decDigits, dec20] : Lib.itoa 1 = dec20 1)
  | 2, _ => exact (by simp [Lib.itoa, Lib.decDigits, dec20] : Lib.itoa 2 = dec20 2)
  | 3, _ => exact (by simp [Lib.itoa, Lib.decDigits, dec20] : Lib.itoa 3 = dec20 3)
  | 4, _ => exact (by simp [Lib.itoa, Lib.decDigits, dec20] : Lib.itoa 4 = dec20 4)
  | 5, _ => exact (by simp [Lib.itoa, Lib.decDigits, dec20] : Lib.itoa 5 = dec20 5)
  | 6, _ => exact (by simp [Lib.itoa, Lib.decDigits, dec20] : Lib.itoa 6 = dec20 6)
  | 7, _ => exact (by simp [Lib.itoa, Lib.decDigits, dec20] : Lib.itoa 7 = dec20 7)
  | 8, _ => exact (by simp [Lib.itoa, Lib.decDigits, dec20] : Lib.itoa 8 = dec20 8)
  | 9, _ => exact (by simp [Lib.itoa, Lib.decDigits, dec20] : Lib.itoa 9 = dec20 9)
  | 10, _ => exact (by simp [Lib.itoa, Lib.decDigits, dec20] : Lib.itoa 10 = dec20 10)
  | 11, _ => exact (by simp [Lib.itoa, Lib.decDigits, dec20] : Lib.itoa 11 = dec20 11)
  | 12, _ => exact (by simp [Lib.itoa, Lib.decDigits, dec20] : Lib.itoa 12 = dec20 12)
  | 13, _ => exact (by simp [Lib.itoa, Lib.decDigits, dec20] : Lib.itoa 13 = dec20 13)
  | 14, _ => exact (by simp [Lib.itoa, Lib.decDigits, dec20] : Lib.itoa 14 = dec20 14)
  | 15, _ => exact (by simp [Lib.itoa, Lib.decDigits, dec20] : Lib.itoa 15 = dec20 15)
  | 16, _ => exact (by simp [Lib.itoa, Lib.decDigits, dec20] : Lib.itoa 16 = dec20 16)
  | 17, _ => exact (by simp [Lib.itoa, Lib.decDigits, dec20] : Lib.itoa 17 = dec20 17)
  | 18, _ => exact (by simp [Lib.itoa, Lib.decDigits, dec20] : Lib.itoa 18 = dec20 18)
  | 19, _ => exact (by simp [Lib.itoa, Lib.decDigits, dec20] : Lib.itoa 19 = dec20 19)
  | n + 20, h => exact absurd h (by omega)
/-- The name of an event of a night. -/
def evN (i : Nat) : List UInt8 := 101 :: dec20 i
theorem evN_name (i : Nat) (h : i < 20) : isName (evN i) = true := by
  have : ∀ k : Fin 20, isName (evN k.val) = true := by decide
  exact this ⟨i, h⟩
theorem evN_inj (i j : Nat) (hi : i < 20) (hj : j < 20) (h : evN i = evN j) : i = j := by
  have : ∀ a b : Fin 20, evN a.val = evN b.val → a = b := by decide
  have := this ⟨i, hi⟩ ⟨j, hj⟩ h
  exact Fin.mk.inj_iff.1 this
/-- What is known of a candidate and cells that fit. -/
structure NightOk (n o g : Int) (l : List Int) : Prop where
  n1 : 1 ≤ n
  n2 : n ≤ o
  o2 : o ≤ 256
  g1 : 1 ≤ g
  g2 : g ≤ 8
  ne : l ≠ []
  ri : rising (-1) (6 * g * g) l = true
def nA (ev : ByteArray) (n o g : Int) (l : List Int) : Alr := ⟨ev, 1, 100, n, o, g, l, false, 0⟩
def nC (a : Alr) (l : List Int) : Alr := ⟨a.ev, 2, 101, a.n, a.of, a.grid, l, false, digA a⟩
def nW (c : Alr) : Alr := ⟨c.ev, 3, 102, c.n, c.of, c.grid, [], true, digA c⟩
theorem digA_bd (a : Alr) : 0 ≤ digA a ∧ digA a ≤ 2147483646 := digL_in _
theorem nA_ok {ev : ByteArray} {n o g : Int} {l : List Int} (h : NightOk n o g l) (he : isName ev.data.toList = true) : okA (nA ev n o g l) = true := by
  obtain ⟨a, b, c, d, e, f, r⟩ := h
  unfold okA nA manyCells
  simp only [Bool.and_eq_true, inB_true, decide_eq_true_eq]
  refine ⟨⟨⟨⟨⟨⟨⟨⟨⟨d, e⟩, he⟩, by omega⟩, by omega⟩, c⟩, a, b⟩, ?_⟩, r⟩, by simp⟩
  cases l with
  | nil => exact absurd rfl f
  | cons x r => rfl
theorem nC_ok {a : Alr} {l : List Int} (h : okA a = true) (hl : l ≠ []) (hr : rising (-1) (6 * a.grid * a.grid) l = true) : okA (nC a l) = true := by
  have hd := digA_bd a
  unfold okA manyCells at h
  unfold okA nC manyCells
  simp only [Bool.and_eq_true, inB_true, decide_eq_true_eq] at h ⊢
  obtain ⟨⟨⟨⟨⟨⟨⟨⟨a1, a2⟩, a3⟩, a4⟩, a5⟩, a6⟩, a7⟩, a8⟩, a9⟩ := h
  refine ⟨⟨⟨⟨⟨⟨⟨⟨a1, a2⟩, by omega⟩, by omega⟩, a5⟩, a6⟩, ?_⟩, hr⟩, ?_⟩
  · cases l with
    | nil => exact absurd rfl hl
    | cons x r => rfl
  · rw [if_neg (by decide)]
    exact inB_true.2 hd
theorem nW_ok {c : Alr} (h : okA c = true) : okA (nW c) = true := by
  have hd := digA_bd c
  unfold okA manyCells at h
  unfold okA nW manyCells
  simp only [Bool.and_eq_true, inB_true, decide_eq_true_eq] at h ⊢
  obtain ⟨⟨⟨⟨⟨⟨⟨⟨a1, a2⟩, a3⟩, a4⟩, a5⟩, a6⟩, a7⟩, a8⟩, a9⟩ := h
  refine ⟨⟨⟨⟨⟨⟨⟨⟨a1, a2⟩, by omega⟩, by omega⟩, a5⟩, a6⟩, rfl⟩, rfl⟩, ?_⟩
  rw [if_neg (by decide)]
  exact inB_true.2 hd
theorem draftN_no (ev : ByteArray) (n o g : Int) (l : List Int) : draftR ev 100 n o (n - 1) g l = (Al.zero, 4) := by unfold draftR; rw [if_pos (by omega)]
theorem draftN_yes {ev : ByteArray} {n o lim g : Int} {l : List Int} (hl : n ≤ lim) (hk : okA (nA ev n o g l) = true) : draftR ev 100 n o lim g l = (nA ev n o g l, 0) := by
  unfold draftR
  rw [if_neg (by omega)]
  show (draftA (nA ev n o g l), errA (okA (nA ev n o g l)) 101) = _
  rw [draftA_t hk, hk]
  rfl
theorem folN {a : Alr} {l : List Int} (ha : okA a = true) (hw : a.wd = false) (ht : a.tm = 100) (hv : a.ver = 1) (hc : okA (nC a l) = true) : folR a 101 a.n a.of a.grid l = (nC a l, 0) := by
  unfold folR
  rw [if_pos (nextE_0 ha hw (by omega))]
  have e : folD a 101 a.n a.of a.grid l = nC a l := by unfold folD nC; rw [hv]; rfl
  rw [e, draftA_t hc, hc]
  rfl
theorem witN {c : Alr} (hc : okA c = true) (hw : c.wd = false) (ht : c.tm = 101) (hv : c.ver = 2) : witR c 102 = (nW c, 0) := by
  unfold witR
  rw [if_pos (nextE_0 hc hw (by omega))]
  have e : witD c 102 = nW c := by unfold witD nW; rw [hv]; rfl
  rw [e, draftA_t (nW_ok hc), nW_ok hc]
  rfl
/-- A notice, signed by the ring. -/
def rN (a : Alr) : Ntc := ⟨a, sgN ringK ringS (digA a) 3⟩
theorem sig_ring (m x s : Int) (d : Int) (hd : 0 ≤ d) (hm : 0 < m) (hall : ∀ k : Fin m.toNat, ((k.val ^ s.toNat % m.toNat) ^ x.toNat % m.toNat) = k.val) : sigB m x d (pw d s m) = true := by
  have e1 : pw d s m = (((d.toNat % m.toNat) ^ s.toNat % m.toNat : Nat) : Int) := by unfold pw; rw [← Nat.pow_mod]
  have hk := hall ⟨d.toNat % m.toNat, Nat.mod_lt _ (by omega)⟩
  simp only at hk
  rw [e1]
  generalize hr : d.toNat % m.toNat = r at hk ⊢
  have hlt : r ^ s.toNat % m.toNat < m.toNat := Nat.mod_lt _ (by omega)
  rw [sigB_yes (inB_true.2 ⟨by omega, by omega⟩)]
  have e2 : pw ((r ^ s.toNat % m.toNat : Nat) : Int) x m = (r : Int) := by
    unfold pw
    rw [Int.toNat_natCast, hk]
  rw [e2]
  have e3 : d % m = (r : Int) := by
    rw [← hr]
    have h1 : d = (d.toNat : Int) := by omega
    have h2 : m = (m.toNat : Int) := by omega
    rw [h1, h2]
    simp
  rw [e3]
  simp
theorem rN_ok {a : Alr} (h : okA a = true) : noticeE ringK 2 (rN a) = 0 := by
  have hd := (digA_bd a).1
  refine noticeE_ok h ?_ (by show ¬ (((sgN ringK ringS (digA a) 3).length : Nat) : Int) < 2; rw [sgN_len]; decide)
  show sigsOk ringK (digA a) (-1) [(0, pw (digA a) 3 33), (1, pw (digA a) 5 35), (2, pw (digA a) 3 15)] = true
  have h1 := sig_ring 33 7 3 (digA a) hd (by decide) (by decide)
  have h2 := sig_ring 35 5 5 (digA a) hd (by decide) (by decide)
  have h3 := sig_ring 15 3 3 (digA a) hd (by decide) (by decide)
  simp only [sigsOk, sigK, ringK]
  simp [h1, h2, h3]
theorem lastOf_none {ns : List Ntc} {k : List UInt8} (h : ∀ x ∈ ns, x.a.ev.data.toList ≠ k) : lastOf ns k = none := by
  induction ns with
  | nil => rfl
  | cons n l ih =>
    unfold lastOf
    rw [ih (fun x hx => h x (by simp [hx]))]
    exact if_neg (h n (by simp))
/-- The notices on a night's board, behind some candidates. -/
structure NBoard (i : Nat) (ns : List Ntc) : Prop where
  ev : ∀ x ∈ ns, ∃ j, j < i ∧ x.a.ev.data.toList = evN j
  len : ns.length ≤ 3 * i
theorem NBoard.none {i : Nat} {ns : List Ntc} (h : NBoard i ns) (hi : i < 20) : lastOf ns (evN i) = none :=
  lastOf_none fun x hx e => by
    obtain ⟨j, hj, he⟩ := h.ev x hx
    have := evN_inj i j hi (by omega) (e ▸ he)
    omega
theorem post1 {i : Nat} {ns : List Ntc} (h : NBoard i ns) (hi : i < 20) {a : Alr} (hk : okA a = true) (he : a.ev.data.toList = evN i) (hv : a.ver = 1) (hb : a.before = 0) : postE ringK 2 ns (rN a) = 0 := by
  rw [postE_t (rN_ok hk), chain_none (by show lastOf ns a.ev.data.toList = none; rw [he]; exact h.none hi)]
  have hz : Al.zero.wd = false ∧ Al.zero.ver = 0 ∧ Al.zero.tm = 0 := ⟨rfl, rfl, rfl⟩
  have htm : 0 ≤ a.tm := by
    unfold okA at hk
    simp only [Bool.and_eq_true, inB_true, decide_eq_true_eq] at hk
    exact hk.1.1.1.1.1.2.1
  exact chX_6 hz.1 (by show a.ver = Al.zero.ver + 1; rw [hz.2.1, hv]; rfl) hb (by show ¬ a.tm < Al.zero.tm; rw [hz.2.2]; omega) (by have := h.len; omega)
theorem postX {ns : List Ntc} {x a : Alr} (hl : lastOf ns a.ev.data.toList = some x) (hk : okA a = true) (hw : x.wd = false) (hv : a.ver = x.ver + 1) (hb : a.before = digA x) (ht : x.tm ≤ a.tm) (hn : ns.length < 256) : postE ringK 2 ns (rN a) = 0 := by
  rw [postE_t (rN_ok hk), chain_some hl]
  exact chX_6 hw hv hb (by show ¬ a.tm < x.tm; omega) (by omega)
theorem postN_0 {ks : List (Int × Int)} {q : Int} {ns : List Ntc} {n : Ntc} (h : postE ks q ns n = 0) : postN ks q ns n = ns ++ [n] := by unfold postN; rw [if_pos h]
end Go.Proofs.YtmpbhngjkbidcaaGreatDoor

/-
  The walk of the law's post: an alert, signed by all keys and posted.
-/
namespace Go.Proofs.YtmpbhngjkbidcaaGreatDoor
open Go.RowKit Al

set_option maxRecDepth 100000 in
set_option maxHeartbeats 4000000 in
theorem npost_ (S : Nat → Prop) (b : Nat) (ns : List Ntc) (a : Alr) (A : Option Addr) (c : Nat) (K : Option Addr) (kc : Nat) (Z : Option Addr) (zc : Nat) (w : World) (h : Bd w S b ringK 2 ns)
    (hk : Sl w w.heap.size 2 K 3 kc (keyCells ringK)) (hz : Sl w w.heap.size 1 Z 3 zc (ints ringS)) (ha : AIn w a A c) (hok : okA a = true) (hna : SlR w (fun i => ¬ S i) 1 A a.cells.length c (ints a.cells)) (hr : Rdy w) (hv : postE ringK 2 ns (rN a) = 0) :
    Calls Tryz.prog 15 #[.pointer (some ⟨b, 0, none⟩), .slice K 3 kc, .slice Z 3 zc, a.val A c] w fun e w' => e = .returned (.bool true) ∧ Bd w' (fun i => (S i ∨ w.heap.size ≤ i) ∧ i < w'.heap.size) b ringK 2 (ns ++ [rN a]) ∧ Kp S w w' := by
  have HB := Lib.hid h
  have HK := Lib.hid hk
  have HZ := Lib.hid hz
  have HA := Lib.hid ha
  have HO := Lib.hid hok
  have HN := Lib.hid hna
  have HR := Lib.hid hr
  have HV := Lib.hid hv
  clear h hk hz ha hok hna hr hv
  go_enter Tryz.func15, Tryz.ntmps15
  go_wp2_with fail
  refine (lawsigned_ ringK K kc ringS Z zc a A c 3 _ ((HK.out.below (by repeat (first | exact Below.refl _ _ | assumption | refine below_drewN ?_ _ | refine Below.drew ?_ | refine Below.setCell ?_ (by first | omega | (simp; done) | (simp; omega)) _ | refine Below.alloc ?_ (by first | omega | (simp; done) | (simp; omega)) _))).more (by first | omega | (simp; done) | (simp; omega))) ((HZ.out.below (by repeat (first | exact Below.refl _ _ | assumption | refine below_drewN ?_ _ | refine Below.drew ?_ | refine Below.setCell ?_ (by first | omega | (simp; done) | (simp; omega)) _ | refine Below.alloc ?_ (by first | omega | (simp; done) | (simp; omega)) _))).more (by first | omega | (simp; done) | (simp; omega))) (HA.out.below (by repeat (first | exact Below.refl _ _ | assumption | refine below_drewN ?_ _ | refine Below.drew ?_ | refine Below.setCell ?_ (by first | omega | (simp; done) | (simp; omega)) _ | refine Below.alloc ?_ (by first | omega | (simp; done) | (simp; omega)) _))) (HR.out.below (by repeat (first | exact Below.refl _ _ | assumption | refine below_drewN ?_ _ | refine Below.drew ?_ | refine Below.setCell ?_ (by first | omega | (simp; done) | (simp; omega)) _ | refine Below.alloc ?_ (by first | omega | (simp; done) | (simp; omega)) _))) HO.out ring_plaus ring_sec (by decide) (by decide) (by decide)).mono ?_
  rintro e w1 ⟨Q, qc, rfl, hown, hb⟩
  have HB1 : Hid (Below w.heap.size w w1) := (show Below w.heap.size w _ from (by repeat (first | exact Below.refl _ _ | assumption | refine below_drewN ?_ _ | refine Below.drew ?_ | refine Below.setCell ?_ (by first | omega | (simp; done) | (simp; omega)) _ | refine Below.alloc ?_ (by first | omega | (simp; done) | (simp; omega)) _))).trans (hb.mono (by first | omega | (simp; done) | (simp; omega)))
  have HOW := Lib.hid hown
  have hz1 := HB1.out.size
  clear hb hown
  go_wp2_with fail
  have HB2 : Hid (Below w.heap.size w (w1.alloc (.cells #[.string a.ev, .int .i64 a.ver, .int .i64 a.tm, .int .i64 a.n, .int .i64 a.of, .int .i64 a.grid, .slice A a.cells.length c, .bool a.wd, .int .i64 a.before, .slice Q (sgN ringK ringS (digA a) 3).length qc] 72))) := HB1.out.alloc hz1 _
  refine (Post_ S b ringK 2 ns (rN a) A c Q qc _ (HB.out.below HB2.out) ⟨HA.out.below HB2.out, ((Sl.of_own HOW.out).alloc (Nat.le_refl _) _).more (by simp)⟩ (HR.out.below HB2.out) (HN.out.keep (F := fun _ => False) (Kp.of_below HB2.out) (fun _ _ f => f))).mono ?_
  rintro e w3 ⟨rfl, hbd, hkp⟩
  rw [HV.out]
  rw [postN_0 HV.out] at hbd
  have HBD := Lib.hid hbd
  have HKP := Lib.hid hkp
  clear hbd hkp
  go_wp2_with fail
  go_ret
  exact ⟨rfl, (HBD.out.mono (fun i hi => hi.imp id (fun h => by simp at h; omega))).cut, (Kp.of_below (F := S) HB2.out).trans HKP.out (fun i _ h => h)⟩
end Go.Proofs.YtmpbhngjkbidcaaGreatDoor

/-
  Alerts in boxes, beside a board; the name of an event.
-/
namespace Go.Proofs.YtmpbhngjkbidcaaGreatDoor
open Go.RowKit Al

theorem ev_app (de : ByteArray) : (({ data := #[101] } : ByteArray) ++ de).data.toList = 101 :: de.data.toList := by simp
/-- An alert in a box, in blocks from hi to n0. -/
structure Nb (w : World) (hi n0 p : Nat) (x : Alr) (A : Option Addr) (c : Nat) : Prop where
  p1 : hi ≤ p
  p2 : p < n0
  p3 : p < w.heap.size
  cs : ∀ j u, (x.lst A c)[j]? = some u → w.cell? ⟨p, j, none⟩ = some u
  ev : x.ev.size ≤ maxLen
  al : SlR w (fun i => hi ≤ i ∧ i < n0) 1 A x.cells.length c (ints x.cells)
theorem Nb.ain {w : World} {hi n0 p : Nat} {x : Alr} {A : Option Addr} {c : Nat} (h : Nb w hi n0 p x A c) : AIn w x A c := ⟨h.ev, h.al.sl⟩
theorem Nb.below {w w' : World} {hi n0 p : Nat} {x : Alr} {A : Option Addr} {c : Nat} (h : Nb w hi n0 p x A c) (hb : Below w.heap.size w w') : Nb w' hi n0 p x A c :=
  ⟨h.p1, h.p2, Nat.lt_of_lt_of_le h.p3 hb.size, fun j u hu => (hb.cell (p := ⟨p, j, none⟩) h.p3).trans (h.cs j u hu), h.ev, h.al.keep (Kp.of_below (F := fun _ => False) hb) (fun _ _ f => f)⟩
theorem Nb.keep {w w' : World} {hi n0 p : Nat} {x : Alr} {A : Option Addr} {c : Nat} (h : Nb w hi n0 p x A c) {T : Nat → Prop} (k : Kp T w w') (hT : ∀ i, hi ≤ i → i < n0 → ¬ T i) : Nb w' hi n0 p x A c :=
  ⟨h.p1, h.p2, Nat.lt_of_lt_of_le h.p3 k.size, fun j u hu => (k.cell (p := ⟨p, j, none⟩) h.p3 (hT p h.p1 h.p2)).trans (h.cs j u hu), h.ev, h.al.keep k (fun i hi => hT i hi.1 hi.2)⟩
theorem Nb.up {w : World} {hi n0 n1 p : Nat} {x : Alr} {A : Option Addr} {c : Nat} (h : Nb w hi n0 p x A c) (hn : n0 ≤ n1) : Nb w hi n1 p x A c :=
  ⟨h.p1, Nat.lt_of_lt_of_le h.p2 hn, h.p3, h.cs, h.ev, h.al.mono (fun _ hi => ⟨hi.1, Nat.lt_of_lt_of_le hi.2 hn⟩)⟩
theorem Nb.cells {w : World} {hi n0 p : Nat} {x : Alr} {A : Option Addr} {c : Nat} (h : Nb w hi n0 p x A c) :
    w.cell? ⟨p, 0, none⟩ = some (.string x.ev) ∧ w.cell? ⟨p, 1, none⟩ = some (.int .i64 x.ver) ∧ w.cell? ⟨p, 2, none⟩ = some (.int .i64 x.tm) ∧ w.cell? ⟨p, 3, none⟩ = some (.int .i64 x.n) ∧ w.cell? ⟨p, 4, none⟩ = some (.int .i64 x.of) ∧ w.cell? ⟨p, 5, none⟩ = some (.int .i64 x.grid) ∧ w.cell? ⟨p, 6, none⟩ = some (.slice A x.cells.length c) ∧ w.cell? ⟨p, 7, none⟩ = some (.bool x.wd) ∧ w.cell? ⟨p, 8, none⟩ = some (.int .i64 x.before) :=
  ⟨h.cs 0 _ rfl, h.cs 1 _ rfl, h.cs 2 _ rfl, h.cs 3 _ rfl, h.cs 4 _ rfl, h.cs 5 _ rfl, h.cs 6 _ rfl, h.cs 7 _ rfl, h.cs 8 _ rfl⟩
/-- The box that is made behind a call that hands back an alert of its own. -/
theorem Nb.boxed {w : World} {hi : Nat} {x : Alr} {A : Option Addr} {c : Nat} (h : ARow w hi x A c) (he : x.ev.size ≤ maxLen) (hh : hi ≤ w.heap.size) : Nb (w.alloc (.cells (x.lst A c).toArray 55)) hi (w.heap.size + 1) w.heap.size x A c := by
  have hb : Below w.heap.size w (w.alloc (.cells (x.lst A c).toArray 55)) := (Below.refl _ _).alloc (Nat.le_refl _) _
  refine ⟨hh, Nat.lt_succ_self _, by simp, fun j u hu => ?_, he, ((SlR.of_own h (R := fun i => hi ≤ i ∧ i < w.heap.size + 1) (fun i h1 h2 => ⟨h1, by omega⟩)).keep (Kp.of_below (F := fun _ => False) hb) (fun _ _ f => f))⟩
  rw [World.cell?_alloc_new, ← Array.getElem?_toList]
  exact hu
end Go.Proofs.YtmpbhngjkbidcaaGreatDoor

/-
  An alert in a box of cells: how it is kept, and set.
-/
namespace Go.Proofs.YtmpbhngjkbidcaaGreatDoor
open Go.RowKit Al
/-- An alert in a box. -/
structure Bxa (w : World) (B g : Nat) (x : Alr) (C : Option Addr) (c : Nat) : Prop where
  lo : B ≤ g
  lt : g < w.heap.size
  cs : ∀ j u, (x.lst C c)[j]? = some u → w.cell? ⟨g, j, none⟩ = some u
  fr : ∀ o, w.frozen? ⟨g, o, none⟩ = false
theorem Bxa.below {w w' : World} {B g : Nat} {x : Alr} {C : Option Addr} {c : Nat} (h : Bxa w B g x C c) (hb : Below w.heap.size w w') : Bxa w' B g x C c :=
  ⟨h.lo, Nat.lt_of_lt_of_le h.lt hb.size, fun j u hu => (hb.cell (p := ⟨g, j, none⟩) h.lt).trans (h.cs j u hu), fun o => (hb.frozen (p := ⟨g, o, none⟩) h.lt).trans (h.fr o)⟩
theorem Bxa.belowM {w w' : World} {B g m : Nat} {x : Alr} {C : Option Addr} {c : Nat} (h : Bxa w B g x C c) (hb : Below m w w') (hg : g < m) : Bxa w' B g x C c :=
  ⟨h.lo, Nat.lt_of_lt_of_le h.lt hb.size, fun j u hu => (hb.cell (p := ⟨g, j, none⟩) hg).trans (h.cs j u hu), fun o => (hb.frozen (p := ⟨g, o, none⟩) hg).trans (h.fr o)⟩
theorem Bxa.new {w0 w : World} (h : w0.heap.size ≤ w.heap.size) : Bxa (w.alloc (.cells (Al.zero.val none 0).cells 55)) w0.heap.size w.heap.size Al.zero none 0 :=
  ⟨h, by simp, fun j u hu => by simp [go_sem]; exact hu, fun o => by simp [go_sem]⟩
theorem nineC {P : Nat → Value → Prop} {a b c d e f g h i : Value} (h0 : P 0 a) (h1 : P 1 b) (h2 : P 2 c) (h3 : P 3 d) (h4 : P 4 e) (h5 : P 5 f) (h6 : P 6 g) (h7 : P 7 h) (h8 : P 8 i) : ∀ j u, ([a, b, c, d, e, f, g, h, i] : List Value)[j]? = some u → P j u := by
  intro j u hu
  rcases j with _ | _ | _ | _ | _ | _ | _ | _ | _ | j
  all_goals simp at hu
  all_goals subst hu
  all_goals assumption
theorem Bxa.store {W : World} {B g : Nat} {x : Alr} {C : Option Addr} {c : Nat} (h : Bxa W B g x C c) (y : Alr) (D : Option Addr) (d : Nat) :
    Bxa (((((((((W.setCell ⟨g, 0, none⟩ (.string y.ev)).setCell ⟨g, 1, none⟩ (.int .i64 y.ver)).setCell ⟨g, 2, none⟩ (.int .i64 y.tm)).setCell ⟨g, 3, none⟩ (.int .i64 y.n)).setCell ⟨g, 4, none⟩ (.int .i64 y.of)).setCell ⟨g, 5, none⟩ (.int .i64 y.grid)).setCell ⟨g, 6, none⟩ (.slice D y.cells.length d)).setCell ⟨g, 7, none⟩ (.bool y.wd)).setCell ⟨g, 8, none⟩ (.int .i64 y.before)) B g y D d := by
  have c0 := h.cs 0 _ rfl
  have c1 := h.cs 1 _ rfl
  have c2 := h.cs 2 _ rfl
  have c3 := h.cs 3 _ rfl
  have c4 := h.cs 4 _ rfl
  have c5 := h.cs 5 _ rfl
  have c6 := h.cs 6 _ rfl
  have c7 := h.cs 7 _ rfl
  have c8 := h.cs 8 _ rfl
  exact ⟨h.lo, by have := h.lt; simp; exact this, nineC (P := fun j u => World.cell? _ ⟨g, j, none⟩ = some u) (by simp [go_sem, c0]) (by simp [go_sem, c1]) (by simp [go_sem, c2]) (by simp [go_sem, c3]) (by simp [go_sem, c4]) (by simp [go_sem, c5]) (by simp [go_sem, c6]) (by simp [go_sem, c7]) (by simp [go_sem, c8]), fun o => by have := h.fr o; simp [go_sem, this]⟩
theorem Bxa.block {w w' : World} {B g : Nat} {x : Alr} {C : Option Addr} {c : Nat} (h : Bxa w B g x C c) (hb : w'.heap[g]? = w.heap[g]?) : Bxa w' B g x C c := by
  have h1 : g < w'.heap.size := by
    have h2 := Array.getElem?_eq_getElem h.lt
    rw [← hb] at h2
    exact (Array.getElem?_eq_some_iff.1 h2).1
  exact ⟨h.lo, h1, fun j u hu => (World.cell?_of_block (w := w) (a := ⟨g, j, none⟩) hb).trans (h.cs j u hu), fun o => (World.frozen?_of_block (w := w) (a := ⟨g, o, none⟩) hb).trans (h.fr o)⟩
theorem Bxa.set34 {W : World} {B g : Nat} {x y : Alr} {C : Option Addr} {c : Nat} (h : Bxa W B g x C c) (n of : Int) (hy : y = { x with n := n, of := of }) :
    Bxa ((W.setCell ⟨g, 3, none⟩ (.int .i64 n)).setCell ⟨g, 4, none⟩ (.int .i64 of)) B g y C c := by
  subst hy
  have c0 := h.cs 0 _ rfl
  have c1 := h.cs 1 _ rfl
  have c2 := h.cs 2 _ rfl
  have c3 := h.cs 3 _ rfl
  have c4 := h.cs 4 _ rfl
  have c5 := h.cs 5 _ rfl
  have c6 := h.cs 6 _ rfl
  have c7 := h.cs 7 _ rfl
  have c8 := h.cs 8 _ rfl
  exact ⟨h.lo, by have := h.lt; simp; exact this, nineC (P := fun j u => World.cell? _ ⟨g, j, none⟩ = some u) (by simp [go_sem, c0]) (by simp [go_sem, c1]) (by simp [go_sem, c2]) (by simp [go_sem, c3]) (by simp [go_sem, c4]) (by simp [go_sem, c5]) (by simp [go_sem, c6]) (by simp [go_sem, c7]) (by simp [go_sem, c8]), fun o => by have := h.fr o; simp [go_sem, this]⟩
theorem Bxa.set7 {W : World} {B g : Nat} {x y : Alr} {C : Option Addr} {c : Nat} (h : Bxa W B g x C c) (v : Bool) (hy : y = { x with wd := v }) : Bxa (W.setCell ⟨g, 7, none⟩ (.bool v)) B g y C c := by
  subst hy
  have c0 := h.cs 0 _ rfl
  have c1 := h.cs 1 _ rfl
  have c2 := h.cs 2 _ rfl
  have c3 := h.cs 3 _ rfl
  have c4 := h.cs 4 _ rfl
  have c5 := h.cs 5 _ rfl
  have c6 := h.cs 6 _ rfl
  have c7 := h.cs 7 _ rfl
  have c8 := h.cs 8 _ rfl
  exact ⟨h.lo, by have := h.lt; simp; exact this, nineC (P := fun j u => World.cell? _ ⟨g, j, none⟩ = some u) (by simp [go_sem, c0]) (by simp [go_sem, c1]) (by simp [go_sem, c2]) (by simp [go_sem, c3]) (by simp [go_sem, c4]) (by simp [go_sem, c5]) (by simp [go_sem, c6]) (by simp [go_sem, c7]) (by simp [go_sem, c8]), fun o => by have := h.fr o; simp [go_sem, this]⟩
theorem Bxa.set6 {W : World} {B g : Nat} {x y : Alr} {C D : Option Addr} {c d : Nat} (h : Bxa W B g x C c) (l : List Int) (hy : y = { x with cells := l }) : Bxa (W.setCell ⟨g, 6, none⟩ (.slice D l.length d)) B g y D d := by
  subst hy
  have c0 := h.cs 0 _ rfl
  have c1 := h.cs 1 _ rfl
  have c2 := h.cs 2 _ rfl
  have c3 := h.cs 3 _ rfl
  have c4 := h.cs 4 _ rfl
  have c5 := h.cs 5 _ rfl
  have c6 := h.cs 6 _ rfl
  have c7 := h.cs 7 _ rfl
  have c8 := h.cs 8 _ rfl
  exact ⟨h.lo, by have := h.lt; simp; exact this, nineC (P := fun j u => World.cell? _ ⟨g, j, none⟩ = some u) (by simp [go_sem, c0]) (by simp [go_sem, c1]) (by simp [go_sem, c2]) (by simp [go_sem, c3]) (by simp [go_sem, c4]) (by simp [go_sem, c5]) (by simp [go_sem, c6]) (by simp [go_sem, c7]) (by simp [go_sem, c8]), fun o => by have := h.fr o; simp [go_sem, this]⟩
/-- One cell is set. -/
theorem Bxa.set {W : World} {B g : Nat} {x y : Alr} {C D : Option Addr} {c d : Nat} (h : Bxa W B g x C c) (j : Nat) (v : Value) (hl : j < 9) (hj : ∀ i u, (y.lst D d)[i]? = some u → (i = j ∧ u = v) ∨ (i ≠ j ∧ (x.lst C c)[i]? = some u)) : Bxa (W.setCell ⟨g, j, none⟩ v) B g y D d := by
  refine ⟨h.lo, by have := h.lt; simp; exact this, fun i u hu => ?_, fun o => by have := h.fr o; simp [go_sem, this]⟩
  rcases hj i u hu with ⟨rfl, rfl⟩ | ⟨hne, hu2⟩
  · refine World.cell?_setCell_same' _ _ _ ?_
    have : i < (x.lst C c).length := hl
    rw [h.cs i _ (List.getElem?_eq_getElem this)]
    rfl
  · rw [World.cell?_setCell_other _ _ _ _ (fun e => hne (by cases e; rfl))]
    exact h.cs i u hu2
end Go.Proofs.YtmpbhngjkbidcaaGreatDoor

/-
  An alert in a box, behind a region whose box is made ahead of the call, or behind it.
-/
namespace Go.Proofs.YtmpbhngjkbidcaaGreatDoor
open Go.RowKit Al

/-- What a cut hands on: an alert in a box of its own, above the world w6. -/
def NiA (w6 : World) (x : Alr) (s15 s16 : Value) (wx : World) : Prop := ∃ (W : World) (p : Nat) (A : Option Addr) (c : Nat), W = wx ∧ s15 = .pointer (some ⟨p, 0, none⟩) ∧ s16 = .int .i64 0 ∧ Nb wx w6.heap.size wx.heap.size p x A c ∧ Below w6.heap.size w6 wx
theorem niA_1 {w6 wm : World} {n : Nat} {x : Alr} {A : Option Addr} {c : Nat} (hd : ARow wm n x A c) (hn : w6.heap.size ≤ n) (hb : Below w6.heap.size w6 wm) (he : x.ev.size ≤ maxLen) :
    NiA w6 x (.pointer (some ⟨wm.heap.size, 0, none⟩)) (.int .i64 0) (wm.alloc (.cells (x.lst A c).toArray 55)) :=
  ⟨_, _, A, c, rfl, rfl, rfl, (Nb.boxed (own_le hd hn) he hb.size).up (by simp), hb.alloc hb.size _⟩
theorem niA_2 {w6 wn wm wx : World} {n : Nat} {x : Alr} {A : Option Addr} {c : Nat} (bx : Bxa wx wn.heap.size wn.heap.size x A c) (dr : ARow wm n x A c) (hn : wn.heap.size < n) (hk : Kp (fun i => i = wn.heap.size) wm wx)
    (h7 : Below w6.heap.size w6 wn) (hm : Below wn.heap.size wn wm) (he : x.ev.size ≤ maxLen) : NiA w6 x (.pointer (some ⟨wn.heap.size, 0, none⟩)) (.int .i64 0) wx := by
  have h1 : Below w6.heap.size wm wx := hk.below (Nat.le_trans h7.size hm.size) (fun i e => by rw [e]; exact h7.size)
  have h2 := hk.size
  have h3 := h7.size
  refine ⟨wx, _, A, c, rfl, rfl, rfl, ⟨h3, bx.lt, bx.lt, bx.cs, he, ?_⟩, (h7.trans (hm.mono h3)).trans h1⟩
  exact ((SlR.of_own dr (R := fun i => n ≤ i ∧ i < wm.heap.size) (fun i a b => ⟨a, b⟩)).keep hk (fun i a e => by omega)).mono (fun i a => ⟨by omega, by omega⟩)
theorem Bxa.drew {w : World} {B g : Nat} {x : Alr} {C : Option Addr} {c : Nat} (h : Bxa w B g x C c) : Bxa w.drew B g x C c := ⟨h.lo, h.lt, h.cs, h.fr⟩
theorem Kp.drewn {F : Nat → Prop} {a b : World} (h : Kp F a b) : Kp F a b.drew := h.then_below (Below.refl _ b).drew
/-- The facts that nine stores into the box ask. -/
theorem bx_facts {w : World} {B g : Nat} {x : Alr} {C : Option Addr} {c : Nat} (h : Bxa w B g x C c) :
    (w.cell? ⟨g, 0, none⟩ = some (.string x.ev) ∧ w.cell? ⟨g, 1, none⟩ = some (.int .i64 x.ver) ∧ w.cell? ⟨g, 2, none⟩ = some (.int .i64 x.tm) ∧ w.cell? ⟨g, 3, none⟩ = some (.int .i64 x.n) ∧ w.cell? ⟨g, 4, none⟩ = some (.int .i64 x.of) ∧ w.cell? ⟨g, 5, none⟩ = some (.int .i64 x.grid) ∧ w.cell? ⟨g, 6, none⟩ = some (.slice C x.cells.length c) ∧ w.cell? ⟨g, 7, none⟩ = some (.bool x.wd) ∧ w.cell? ⟨g, 8, none⟩ = some (.int .i64 x.before)) ∧
    w.frozen? ⟨g, 0, none⟩ = false ∧ w.frozen? ⟨g, 1, none⟩ = false ∧ w.frozen? ⟨g, 2, none⟩ = false ∧ w.frozen? ⟨g, 3, none⟩ = false ∧ w.frozen? ⟨g, 4, none⟩ = false ∧ w.frozen? ⟨g, 5, none⟩ = false ∧ w.frozen? ⟨g, 6, none⟩ = false ∧ w.frozen? ⟨g, 7, none⟩ = false ∧ w.frozen? ⟨g, 8, none⟩ = false :=
  ⟨⟨h.cs 0 _ rfl, h.cs 1 _ rfl, h.cs 2 _ rfl, h.cs 3 _ rfl, h.cs 4 _ rfl, h.cs 5 _ rfl, h.cs 6 _ rfl, h.cs 7 _ rfl, h.cs 8 _ rfl⟩, h.fr 0, h.fr 1, h.fr 2, h.fr 3, h.fr 4, h.fr 5, h.fr 6, h.fr 7, h.fr 8⟩
end Go.Proofs.YtmpbhngjkbidcaaGreatDoor

/-
  Plain facts of a round of AlertNight: its three notices, posted, and what the board says.
-/
namespace Go.Proofs.YtmpbhngjkbidcaaGreatDoor
open Go.RowKit Al

theorem rising_one {last many c : Int} {r : List Int} (h : rising last many (c :: r) = true) : rising last many [c] = true := by
  have := rising_head h
  simp [rising, this.1, this.2]
theorem Sl.first {w : World} {B n c : Nat} {A : Option Addr} {CL : List Int} {cf : Int} (h : Sl w B 1 A n c (ints CL)) (hc : CL.take 1 = [cf]) (hn : 1 ≤ n) : Sl w B 1 A 1 c (ints [cf]) := by
  have h1 := h.cut hn
  have e : (ints CL).take (1 * 1) = ints [cf] := by
    rw [← hc]
    show (CL.map _).take 1 = (CL.take 1).map _
    rw [List.map_take]
  rw [e] at h1
  exact h1
theorem last_own (ns : List Ntc) {a : Alr} {s : List UInt8} (h : a.ev.data.toList = s) : lastOf (ns ++ [rN a]) s = some a := by
  rw [lastOf_snoc]
  exact if_pos h
/-- What is known of a round's alerts. -/
structure NSays (k : Nat) (ns : List Ntc) (s : List UInt8) (a c d : Alr) : Prop where
  oka : okA a = true
  okc : okA c = true
  okd : okA d = true
  p1 : postE ringK 2 ns (rN a) = 0
  p2 : postE ringK 2 (ns ++ [rN a]) (rN c) = 0
  p3 : postE ringK 2 ((ns ++ [rN a]) ++ [rN c]) (rN d) = 0
  f1 : forceR ((ns ++ [rN a]) ++ [rN c]) s = (c, 0)
  f2 : forceR (((ns ++ [rN a]) ++ [rN c]) ++ [rN d]) s = (Al.zero, 107)
  nb : NBoard (k + 1) (((ns ++ [rN a]) ++ [rN c]) ++ [rN d])
theorem night_says {k : Nat} {ns : List Ntc} {ev : ByteArray} {n o g : Int} {CL : List Int} {cf : Int} (h : NightOk n o g CL) (he : ev.data.toList = evN k) (hk : k < 20) (hn : NBoard k ns) (hc : CL.take 1 = [cf]) :
    NSays k ns ev.data.toList (nA ev n o g CL) (nC (nA ev n o g CL) [cf]) (nW (nC (nA ev n o g CL) [cf])) := by
  have ha : okA (nA ev n o g CL) = true := nA_ok h (by rw [he]; exact evN_name k hk)
  have hr : rising (-1) (6 * g * g) [cf] = true := by
    have h1 := h.ri
    cases CL with
    | nil => cases hc
    | cons x r =>
      cases hc
      exact rising_one h1
  have hcc : okA (nC (nA ev n o g CL) [cf]) = true := nC_ok ha (by simp) hr
  have hd : okA (nW (nC (nA ev n o g CL) [cf])) = true := nW_ok hcc
  have hl := hn.len
  refine ⟨ha, hcc, hd, post1 hn hk ha he rfl rfl, ?_, ?_, ?_, ?_, ?_⟩
  · exact postX (last_own ns rfl) hcc rfl rfl rfl (by show (100 : Int) ≤ 101; omega) (by simp; omega)
  · exact postX (last_own _ rfl) hd rfl rfl rfl (by show (101 : Int) ≤ 102; omega) (by simp; omega)
  · unfold forceR
    rw [last_own (ns ++ [rN (nA ev n o g CL)]) (a := nC (nA ev n o g CL) [cf]) (s := ev.data.toList) rfl]
    rfl
  · unfold forceR
    rw [last_own ((ns ++ [rN (nA ev n o g CL)]) ++ [rN (nC (nA ev n o g CL) [cf])]) (a := nW (nC (nA ev n o g CL) [cf])) (s := ev.data.toList) rfl]
    rfl
  · refine ⟨fun x hx => ?_, by simp; omega⟩
    simp only [List.mem_append, List.mem_singleton] at hx
    rcases hx with ((hx | rfl) | rfl) | rfl
    · obtain ⟨j, hj, e⟩ := hn.ev x hx
      exact ⟨j, by omega, e⟩
    · exact ⟨k, by omega, he⟩
    · exact ⟨k, by omega, he⟩
    · exact ⟨k, by omega, he⟩
end Go.Proofs.YtmpbhngjkbidcaaGreatDoor
