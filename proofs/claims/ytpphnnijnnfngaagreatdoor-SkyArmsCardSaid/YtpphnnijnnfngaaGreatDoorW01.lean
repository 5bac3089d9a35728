/-
  Words for memory: a slice that reads as a list of cells; how it is kept.
-/
import Derived.WalkKit
import Derived.WalkSmall
import Derived.Laws.OwnMore
import Derived.Lib.Hide
import Derived.Lib.ItoaNum
import Derived.Test.YtpphnnijnnfngaaGreatDoorProg
import Derived.WalkSpells
import Derived.Deep.QuietTactic
import Derived.BigQuiet
import Derived.KernelRfl
import Derived.LoopTactic
import Derived.Deep.RegionWith
namespace Go.Proofs.YtpphnnijnnfngaaGreatDoor
open Go.RowKit

/-- The slice '.slice A n c' reads as the cells xs (sz cells an element), which lie below block B. -/
structure Sl (w : World) (B sz : Nat) (A : Option Addr) (n c : Nat) (xs : List Value) : Prop where
  len : xs.length = n * sz
  cap : n ≤ c
  max : c ≤ maxLen
  nil_ : A = none → c = 0
  at_ : 0 < n → ∃ b off, A = some ⟨b, off, none⟩ ∧ b < B ∧ ∀ j u, xs[j]? = some u → w.cell? ⟨b, off + j, none⟩ = some u

theorem Sl.keep {w w' : World} {B sz n c : Nat} {A : Option Addr} {xs : List Value} (h : Sl w B sz A n c xs) (hk : ∀ b o, b < B → w'.cell? ⟨b, o, none⟩ = w.cell? ⟨b, o, none⟩) : Sl w' B sz A n c xs :=
  ⟨h.len, h.cap, h.max, h.nil_, fun hn => by
    obtain ⟨b, off, e, hb, hc⟩ := h.at_ hn
    exact ⟨b, off, e, hb, fun j u hu => (hk _ _ hb).trans (hc j u hu)⟩⟩
theorem Sl.more {w : World} {B B' sz n c : Nat} {A : Option Addr} {xs : List Value} (h : Sl w B sz A n c xs) (hB : B ≤ B') : Sl w B' sz A n c xs :=
  ⟨h.len, h.cap, h.max, h.nil_, fun hn => by
    obtain ⟨b, off, e, hb, hc⟩ := h.at_ hn
    exact ⟨b, off, e, by omega, hc⟩⟩
theorem Sl.below {w w' : World} {B sz n c : Nat} {A : Option Addr} {xs : List Value} (h : Sl w B sz A n c xs) (hb : Below B w w') : Sl w' B sz A n c xs :=
  h.keep fun b o hlt => hb.cell (p := ⟨b, o, none⟩) hlt
theorem Sl.alloc {w : World} {B sz n c : Nat} {A : Option Addr} {xs : List Value} (h : Sl w B sz A n c xs) (hB : B ≤ w.heap.size) (o : Obj) : Sl (w.alloc o) B sz A n c xs :=
  h.below ((Below.refl _ _).alloc hB o)
theorem Sl.drewN {w : World} {B sz n c : Nat} {A : Option Addr} {xs : List Value} (h : Sl w B sz A n c xs) (k : Nat) : Sl (w.drewN k) B sz A n c xs := h.below (below_drewN (Below.refl _ _) k)
theorem Sl.nilS (w : World) (B sz : Nat) : Sl w B sz none 0 0 [] := ⟨by simp, Nat.le_refl _, Nat.zero_le _, fun _ => rfl, fun h => absurd h (by omega)⟩
theorem Sl.of_own {w : World} {base e sz n c : Nat} {A : Option Addr} {xs : List Value} (h : w.ownsRow base e sz (.slice A n c) n xs) : Sl w w.heap.size sz A n c xs := by
  rcases h.2 with ⟨hv, hn⟩ | ⟨g, cap, cur, hv, hg, hh, hnc, hcm, hcs, htake⟩
  · injection hv with e1 e2 e3
    subst e1 e2 e3
    exact ⟨h.1, Nat.le_refl _, Nat.zero_le _, fun _ => rfl, fun h => absurd h (by omega)⟩
  · injection hv with e1 e2 e3
    subst e1 e3
    refine ⟨h.1, hnc, hcm, (fun h => by cases h), fun _ => ⟨g, 0, rfl, (Array.getElem?_eq_some_iff.1 hh).1, fun j u hu => ?_⟩⟩
    have := World.ownsRow.cells h (g := g) rfl j u hu
    rw [Addr.add_lit] at this
    exact this

/-- The cells of a list of ints. -/
def ints (l : List Int) : List Value := l.map (Value.int .i64)
theorem ints_at {l : List Int} {k : Nat} (h : k < l.length) : (ints l)[k]? = some (.int .i64 l[k]) := by simp [ints, h]
theorem ints_len (l : List Int) : (ints l).length = l.length := by simp [ints]
/-- The cell of an int of a slice. -/
theorem Sl.int_at {w : World} {B n c : Nat} {A : Option Addr} {l : List Int} (h : Sl w B 1 A n c (ints l)) {k : Nat} (hk : k < n) (hl : k < l.length) : ∃ b off, A = some ⟨b, off, none⟩ ∧ b < B ∧ w.cell? ⟨b, off + k, none⟩ = some (.int .i64 l[k]) := by
  obtain ⟨b, off, e, hb, hc⟩ := h.at_ (by omega)
  exact ⟨b, off, e, hb, hc k _ (ints_at hl)⟩
theorem bcell {W w1 : World} {B : Nat} (hb : Below B W w1) : (∀ b o, b < B → w1.cell? ⟨b, o, none⟩ = W.cell? ⟨b, o, none⟩) ∧ (∀ b o, b < B → w1.frozen? ⟨b, o, none⟩ = W.frozen? ⟨b, o, none⟩) :=
  ⟨fun b o h => hb.cell (p := ⟨b, o, none⟩) h, fun b o h => hb.frozen (p := ⟨b, o, none⟩) h⟩

/-- A quiet call behind draws. -/
theorem quietAdd {P : Program} {f : FuncId} {args : Array Value} {w : World} {a n : Nat} {v : Value}
    (h : Calls P f args (w.drewN (a + n)) fun e w' => e = .returned v ∧ w.drewN (a + n) = w') :
    Calls P f args (w.drewN (a + n)) fun e w'' => e = .returned v ∧ ∃ m, w'' = w.drewN (a + m) :=
  h.mono fun _ _ ⟨he, hm⟩ => ⟨he, n, hm.symm⟩
theorem quiet0 {P : Program} {f : FuncId} {args : Array Value} {w : World} {n : Nat} {v : Value}
    (h : Calls P f args (w.drewN n) fun e w' => e = .returned v ∧ w.drewN n = w') :
    Calls P f args (w.drewN n) fun e w'' => e = .returned v ∧ ∃ m, w'' = w.drewN m :=
  h.mono fun _ _ ⟨he, hm⟩ => ⟨he, n, hm.symm⟩

theorem own_below {w w' : World} {base e sz : Nat} {v : Value} {n : Nat} {xs : List Value} (h : w.ownsRow base e sz v n xs) {B : Nat} (hB : w.heap.size ≤ B) (hb : Below B w w') : w'.ownsRow base e sz v n xs := by
  refine ⟨h.1, ?_⟩
  rcases h.2 with h2 | ⟨g, cap, cur, hv, hg, hh, r⟩
  · exact .inl h2
  · have hlt : g < w.heap.size := (Array.getElem?_eq_some_iff.1 hh).1
    exact .inr ⟨g, cap, cur, hv, hg, by rw [hb.block g (by omega)]; exact hh, r⟩

end Go.Proofs.YtpphnnijnnfngaaGreatDoor

/-
  Plain definitions and facts for the layer 'alert': no program in sight. Numbers: ranges, primes, the greatest common divisor, powers.
-/
namespace Go.Proofs.YtpphnnijnnfngaaGreatDoor
namespace Al

/-- n lies from lo to hi. -/
def inB (n lo hi : Int) : Bool := decide (lo ≤ n) && decide (n ≤ hi)
theorem inB_eq (n lo hi : Int) : inB n lo hi = (decide (lo ≤ n) && decide (n ≤ hi)) := rfl
theorem inB_true {n lo hi : Int} : inB n lo hi = true ↔ lo ≤ n ∧ n ≤ hi := by simp [inB]
theorem inB_false {n lo hi : Int} : inB n lo hi = false ↔ n < lo ∨ hi < n := by
  rw [← Bool.not_eq_true, inB_true]; omega
theorem inB_mk {n lo hi : Int} (h : lo ≤ n ∧ n ≤ hi) : inB n lo hi = true := inB_true.2 h

/-- Is a public key plausible? -/
def plaus (m e : Int) : Bool := inB m 15 1073741824 && inB e 3 32749
theorem plaus_true {m e : Int} : plaus m e = true ↔ (15 ≤ m ∧ m ≤ 1073741824) ∧ 3 ≤ e ∧ e ≤ 32749 := by
  simp [plaus, inB_true]

/-- No divisor of n from d on whose square is at most n (f: how many are asked). -/
def noDiv (n : Nat) : Nat → Nat → Bool
  | 0, _ => true
  | f + 1, d => if d * d ≤ n then (if n % d = 0 then false else noDiv n f (d + 1)) else true
/-- Is n a prime of keys? -/
def primeB (n : Int) : Bool := inB n 3 32749 && noDiv n.toNat n.toNat 2
theorem primeB_no {n : Int} (h : inB n 3 32749 = false) : primeB n = false := by unfold primeB; rw [h]; rfl
theorem primeB_yes {m : Nat} (h : inB (m : Int) 3 32749 = true) : noDiv m (m + 2 - 2) 2 = primeB m := by unfold primeB; rw [h]; rfl
theorem noDiv_step {n f d : Nat} (h : d * d ≤ n) (hn : n % d ≠ 0) : noDiv n (f + 1) d = noDiv n f (d + 1) := by
  rw [noDiv, if_pos h, if_neg hn]
theorem noDiv_hit {n f d : Nat} (h : d * d ≤ n) (hn : n % d = 0) : noDiv n (f + 1) d = false := by
  rw [noDiv, if_pos h, if_pos hn]
theorem noDiv_end {n f d : Nat} (h : n < d * d) : noDiv n f d = true := by
  cases f with
  | zero => rfl
  | succ f => rw [noDiv, if_neg (by omega)]
theorem sq_lt {d n : Nat} (h : d * d ≤ n) (h2 : 2 ≤ d) : d < n := by
  have : 2 * d ≤ d * d := Nat.mul_le_mul_right d h2
  omega
theorem sq_le (d : Nat) (h : d ≤ 32750) : d * d ≤ 1072562500 := by
  have := Nat.mul_le_mul h h
  omega

theorem sqI (d : Nat) : (d : Int) * d = ((d * d : Nat) : Int) := (Int.natCast_mul d d).symm
theorem sqI_le (d : Nat) (h : d ≤ 32750) : (d : Int) * d ≤ 1072562500 := by have := sq_le d h; rw [sqI]; omega
theorem sqI_nonneg (d : Nat) : 0 ≤ (d : Int) * d := by rw [sqI]; omega
theorem sqI_le_iff {d m : Nat} : (d : Int) * d ≤ m ↔ d * d ≤ m := by rw [sqI]; omega

/-- The greatest common divisor of two numbers that are not less than 0. -/
def gcdI (a b : Int) : Int := (Nat.gcd a.toNat b.toNat : Nat)
theorem gcdI_nat (a b : Nat) : gcdI a b = (Nat.gcd a b : Nat) := rfl
theorem gcdI_step {c d : Nat} : Nat.gcd d (c % d) = Nat.gcd c d := by rw [Nat.gcd_comm c d, Nat.gcd_rec d c, Nat.gcd_comm]

/-- The rest of a power. -/
def pw (n e m : Int) : Int := ((n.toNat ^ e.toNat % m.toNat : Nat) : Int)
theorem pw_nat (n e m : Nat) : pw n e m = (n ^ e % m : Nat) := rfl
theorem pw_start (n e m : Nat) : 1 % m * (n % m) ^ e % m = n ^ e % m := by
  rw [Nat.mul_mod, Nat.mod_mod, Nat.pow_mod, Nat.mod_mod, ← Nat.pow_mod, ← Nat.mul_mod, Nat.one_mul]
theorem pw_odd {x s k m : Nat} (h : k % 2 = 1) : x * s % m * (s * s % m) ^ (k / 2) % m = x * s ^ k % m := by
  have e : s ^ k = s * (s * s) ^ (k / 2) := by
    rw [← Nat.pow_two, ← Nat.pow_mul, ← Nat.pow_add_one']
    congr 1; omega
  rw [e, ← Nat.mul_assoc, Nat.mul_mod, Nat.mod_mod, Nat.pow_mod, Nat.mod_mod, ← Nat.pow_mod, ← Nat.mul_mod]
theorem pw_even {x s k m : Nat} (h : k % 2 = 0) : x * (s * s % m) ^ (k / 2) % m = x * s ^ k % m := by
  have e : s ^ k = (s * s) ^ (k / 2) := by
    rw [← Nat.pow_two, ← Nat.pow_mul]
    congr 1; omega
  rw [e, Nat.mul_mod, Nat.pow_mod, Nat.mod_mod, ← Nat.pow_mod, ← Nat.mul_mod]
theorem mul_bd {x s m : Nat} (hx : x < m) (hs : s < m) (hm : m ≤ 1073741824) : x * s ≤ 1152921504606846976 := by
  have := Nat.mul_le_mul (Nat.le_of_lt (Nat.lt_of_lt_of_le hx hm)) (Nat.le_of_lt (Nat.lt_of_lt_of_le hs hm))
  omega
theorem mulI_bd {x s m : Nat} (hx : x < m) (hs : s < m) (hm : m ≤ 1073741824) : (x : Int) * s ≤ 1152921504606846976 := by
  have := mul_bd hx hs hm
  rw [← Int.natCast_mul]; omega
theorem mulI_nn (x s : Nat) : 0 ≤ (x : Int) * s := by rw [← Int.natCast_mul]; omega
end Al
end Go.Proofs.YtpphnnijnnfngaaGreatDoor

/-
  The walks of the small functions on numbers: 'within', 'In', 'plausible'.
-/
namespace Go.Proofs.YtpphnnijnnfngaaGreatDoor
open Go.RowKit Al

theorem ret_bool {a b : Bool} (h : a = b) : Ending.returned (.bool a) = .returned (.bool b) := by rw [h]
theorem ret_int {k : IntKind} {a b : Int} (h : a = b) : Ending.returned (.int k a) = .returned (.int k b) := by rw [h]

theorem swithin_ (n lo hi : Int) (w : World) :
    Calls Tryz.prog 24 #[.int .i64 n, .int .i64 lo, .int .i64 hi] w fun e w' => e = .returned (.bool (inB n lo hi)) ∧ w = w' := by
  go_enter Tryz.func24, Tryz.ntmps24
  go_wp2
  all_goals go_ret
  all_goals exact ⟨ret_bool (by rw [inB_eq]; simp; try omega), rfl⟩

end Go.Proofs.YtpphnnijnnfngaaGreatDoor

/-
  Plain definitions of the layer 'alert': alerts, names, their texts and digests. No program in sight.
-/
namespace Go.Proofs.YtpphnnijnnfngaaGreatDoor
namespace Al

/-- An alert. -/
structure Alr where
  ev : ByteArray
  ver : Int
  tm : Int
  n : Int
  of : Int
  grid : Int
  cells : List Int
  wd : Bool
  before : Int

/-- Names. -/
def small (b : UInt8) : Bool := inB b.toNat 97 122
def digit (b : UInt8) : Bool := inB b.toNat 48 57
def nameB (b : UInt8) : Bool := small b || digit b || (b.toNat : Int) == 95
def nameFrom : Bool → List UInt8 → Bool
  | _, [] => true
  | f, b :: r => (small b || (!f && nameB b)) && nameFrom false r
def isName (l : List UInt8) : Bool := inB l.length 1 16 && nameFrom true l

/-- The cells rise from 'last', and are less than 'many'. -/
def rising (last many : Int) : List Int → Bool
  | [] => true
  | c :: r => decide (last < c) && decide (c < many) && rising c many r

def manyCells (grid : Int) : Int := 6 * grid * grid
/-- Is an alert valid? -/
def okA (a : Alr) : Bool :=
  inB a.grid 1 8 && isName a.ev.data.toList && inB a.ver 1 1000 && inB a.tm 0 1073741824 && decide (a.of ≤ 256) && inB a.n 1 a.of &&
  (a.wd == a.cells.isEmpty) && rising (-1) (manyCells a.grid) a.cells && (if a.ver = 1 then decide (a.before = 0) else inB a.before 0 2147483646)

theorem nameFrom_false (l : List UInt8) : nameFrom false l = l.all nameB := by
  induction l with
  | nil => rfl
  | cons b r ih =>
    rw [nameFrom, List.all_cons, ih]
    congr 1
    simp [nameB]
    cases small b <;> simp
theorem drop_cons {α : Type} {l : List α} {k : Nat} (h : k < l.length) : l.drop k = l[k] :: l.drop (k + 1) := List.drop_eq_getElem_cons h
/-- One byte more, at the place k. -/
theorem nameFrom_at {s : ByteArray} {k : Nat} (h : k < s.size) : nameFrom (k == 0) (s.data.toList.drop k) = ((small s[k] || (!(k == 0) && nameB s[k])) && nameFrom false (s.data.toList.drop (k + 1))) := by
  rw [drop_cons (by simpa using h), nameFrom]
  rfl
theorem nameFrom_end {s : ByteArray} (f : Bool) : nameFrom f (s.data.toList.drop s.size) = true := by
  rw [List.drop_of_length_le (by simp)]
  cases f <;> rfl
theorem isName_size (s : ByteArray) : isName s.data.toList = (inB s.size 1 16 && nameFrom true s.data.toList) := by
  unfold isName
  rw [Array.length_toList]
  rfl
theorem isName_size' (s : ByteArray) : isName s.data.toList = (inB s.size 1 16 && nameFrom (0 == 0) (s.data.toList.drop 0)) := isName_size s

theorem nameFalse_at {s : ByteArray} {k : Nat} (h : k < s.size) : nameFrom false (s.data.toList.drop k) = (nameB s[k] && nameFrom false (s.data.toList.drop (k + 1))) := by
  rw [drop_cons (by simpa using h), nameFrom]
  show ((small s[k] || (true && nameB s[k])) && nameFrom false (s.data.toList.drop (k + 1))) = (nameB s[k] && nameFrom false (s.data.toList.drop (k + 1)))
  congr 1
  unfold nameB
  cases small s[k] <;> rfl
theorem nameTrue_of {s : ByteArray} (h : 0 < s.size) : nameFrom true s.data.toList = (small s[0] && nameFrom false (s.data.toList.drop 0)) := by
  rw [nameFalse_at h]
  have := nameFrom_at h
  rw [List.drop_zero] at this
  rw [show (true : Bool) = (0 == 0) from rfl, this]
  unfold nameB
  cases small s[0] <;> simp
theorem rising_at {l : List Int} {last many : Int} {k : Nat} (h : k < l.length) : rising last many (l.drop k) = (decide (last < l[k]) && decide (l[k] < many) && rising l[k] many (l.drop (k + 1))) := by
  rw [drop_cons h, rising]
theorem rising_end (l : List Int) (last many : Int) : rising last many (l.drop l.length) = true := by
  rw [List.drop_of_length_le (Nat.le_refl _)]; rfl
theorem rising_lt {l : List Int} {last many : Int} {k : Nat} (h : k < l.length) (h1 : ¬ last < l[k]) : rising last many (l.drop k) = false := by
  rw [rising_at h, decide_eq_false h1]; rfl
theorem rising_ge {l : List Int} {last many : Int} {k : Nat} (h : k < l.length) (h1 : ¬ l[k] < many) : rising last many (l.drop k) = false := by
  rw [rising_at h, decide_eq_false h1]; simp
theorem rising_go {l : List Int} {last many : Int} {k : Nat} (h : k < l.length) (h1 : last < l[k]) (h2 : l[k] < many) : rising last many (l.drop k) = rising l[k] many (l.drop (k + 1)) := by
  rw [rising_at h, decide_eq_true h1, decide_eq_true h2]; rfl
theorem isEmpty_len (l : List Int) : l.isEmpty = ((l.length : Int) == 0) := by
  cases l with
  | nil => rfl
  | cons x r => simp; omega
/-- What is left once all but the cells and Before stand. -/
theorem okA_of {a : Alr} (hg : inB a.grid 1 8 = true) (h1 : isName a.ev.data.toList = true) (h2 : inB a.ver 1 1000 = true) (h3 : inB a.tm 0 1073741824 = true) (h4 : a.of ≤ 256) (h5 : inB a.n 1 a.of = true) (h6 : (a.wd == ((a.cells.length : Int) == 0)) = true) :
    okA a = (rising (-1) (manyCells a.grid) a.cells && (if a.ver = 1 then decide (a.before = 0) else inB a.before 0 2147483646)) := by
  unfold okA
  rw [hg, h1, h2, h3, decide_eq_true h4, h5, isEmpty_len, h6]
  simp
theorem okA_parts {a : Alr} (h : okA a = true) : inB a.grid 1 8 = true ∧ isName a.ev.data.toList = true ∧ inB a.ver 1 1000 = true ∧ inB a.tm 0 1073741824 = true ∧ a.of ≤ 256 ∧ inB a.n 1 a.of = true ∧ (a.wd == ((a.cells.length : Int) == 0)) = true ∧
    rising (-1) (manyCells a.grid) a.cells = true ∧ (if a.ver = 1 then decide (a.before = 0) else inB a.before 0 2147483646) = true := by
  unfold okA at h
  simp only [Bool.and_eq_true, decide_eq_true_eq, isEmpty_len] at h
  exact ⟨h.1.1.1.1.1.1.1.1, h.1.1.1.1.1.1.1.2, h.1.1.1.1.1.1.2, h.1.1.1.1.1.2, h.1.1.1.1.2, h.1.1.1.2, h.1.1.2, h.1.2, h.2⟩
theorem okA_not {a : Alr} (h : okA a = true → False) : okA a = false := by simpa using h
/-- What the specification asks first. -/
def pre1 (a : Alr) : Bool := isName a.ev.data.toList && inB a.ver 1 1000 && inB a.tm 0 1073741824 && inB a.n 1 a.of && decide (a.of ≤ 256) && inB a.grid 1 8
def pre2 (a : Alr) : Bool := pre1 a && inB a.before 0 2147483646 && (decide (1 < a.ver) || a.before == 0) && (((a.cells.length : Int) == 0) == a.wd)
theorem okA_pre (a : Alr) : okA a = (pre2 a && rising (-1) (manyCells a.grid) a.cells) := by
  unfold okA pre2 pre1
  rw [isEmpty_len]
  by_cases h1 : inB a.ver 1 1000 = true
  · have b1 := inB_true.1 h1
    by_cases hv : a.ver = 1
    · have h2 : decide (1 < a.ver) = false := decide_eq_false (by omega)
      rw [if_pos hv, h2, h1]
      by_cases hb : a.before = 0
      · rw [hb]
        have h3 : inB (0 : Int) 0 2147483646 = true := inB_mk (by omega)
        rw [h3]
        cases inB a.grid 1 8 <;> cases isName a.ev.data.toList <;> cases inB a.tm 0 1073741824 <;> cases decide (a.of ≤ 256) <;> cases inB a.n 1 a.of <;> cases a.wd <;> cases ((a.cells.length : Int) == 0) <;> simp
      · have h3 : (a.before == 0) = false := by simpa using hb
        rw [h3, decide_eq_false hb]
        simp
    · have h2 : decide (1 < a.ver) = true := decide_eq_true (by omega)
      rw [if_neg hv, h2, h1]
      cases inB a.grid 1 8 <;> cases isName a.ev.data.toList <;> cases inB a.tm 0 1073741824 <;> cases decide (a.of ≤ 256) <;> cases inB a.n 1 a.of <;> cases a.wd <;> cases ((a.cells.length : Int) == 0) <;> cases inB a.before 0 2147483646 <;> simp
  · have h1' : inB a.ver 1 1000 = false := by simpa using h1
    rw [h1']
    simp
theorem pre2_grid {a : Alr} (h : pre2 a = true) : inB a.grid 1 8 = true := by
  unfold pre2 pre1 at h
  simp only [Bool.and_eq_true] at h
  exact h.1.1.1.2
/-- The number before the place k. -/
def prevOf (l : List Int) (k : Nat) : Int := if k = 0 then -1 else l.getD (k - 1) 0
theorem prevOf_succ {l : List Int} {k : Nat} (h : k < l.length) : prevOf l (k + 1) = l[k] := by
  simp [prevOf, List.getD, h]
/-- What the specification asks at the place k. -/
def okAt (l : List Int) (many : Int) (k : Nat) (c : Int) : Bool := inB c 0 (many - 1) && (k == 0 || decide (prevOf l k < c))
theorem okAt_rising {l : List Int} {many : Int} {k : Nat} (h : k < l.length) (h0 : 0 < k → 0 ≤ prevOf l k) :
    (okAt l many k l[k] && rising (prevOf l (k + 1)) many (l.drop (k + 1))) = rising (prevOf l k) many (l.drop k) := by
  rw [rising_at h, prevOf_succ h]
  congr 1
  unfold okAt
  by_cases hk : k = 0
  · subst hk
    rw [show prevOf l 0 = -1 from rfl, Bool.eq_iff_iff]
    simp [inB_true]
    omega
  · have := h0 (by omega)
    rw [Bool.eq_iff_iff]
    simp [inB_true, hk]
    omega
theorem okAt_nn {l : List Int} {many : Int} {k : Nat} (h : k < l.length) (h1 : okAt l many k l[k] = true) : 0 < k + 1 → 0 ≤ prevOf l (k + 1) := by
  intro _
  rw [prevOf_succ h]
  unfold okAt at h1
  simp only [Bool.and_eq_true] at h1
  exact (inB_true.1 h1.1).1
theorem okAt_no {l : List Int} {many c : Int} {k : Nat} (h : inB c 0 (many - 1) = false) : okAt l many k c = false := by unfold okAt; rw [h]; rfl
theorem okAt_first {l : List Int} {many c : Int} {k : Nat} (h : inB c 0 (many - 1) = true) (hk : k = 0) : okAt l many k c = true := by subst hk; unfold okAt; rw [h]; rfl
theorem okAt_lt {l : List Int} {many c : Int} {k : Nat} (h : inB c 0 (many - 1) = true) (hk : prevOf l k < c) : okAt l many k c = true := by unfold okAt; rw [h, decide_eq_true hk]; simp
theorem okAt_ge {l : List Int} {many c : Int} {k : Nat} (h0 : ¬ k = 0) (hk : ¬ prevOf l k < c) : okAt l many k c = false := by unfold okAt; rw [decide_eq_false hk]; simp [h0]
theorem prevOf_pos {l : List Int} {k : Nat} (h0 : ¬ k = 0) (h : k - 1 < l.length) : prevOf l k = l[k - 1] := by
  simp [prevOf, h0, List.getD, h]
/-- An error of a check. -/
def errA (ok : Bool) (code : Int) : Int := if ok then 0 else code
end Al
end Go.Proofs.YtpphnnijnnfngaaGreatDoor

/-
  A region that draws its order and whose calls make memory: one walk of the text's order serves every order, in the class of the worlds that are as this one was below its heap's size (the library's wp_region_quiet at this class).
-/
namespace Go.Proofs.YtpphnnijnnfngaaGreatDoor
open Go.RowKit

/-- A world that is as W was, below W's heap's size. -/
def BW (W : World) : Type := { w' : World // Below W.heap.size W w' }
def BW.w {W : World} (z : BW W) : World := z.val
theorem BW.below {W : World} (z : BW W) : Below W.heap.size W z.w := z.property
instance (W : World) : Nonempty (BW W) := ⟨⟨W, Below.refl _ _⟩⟩
theorem BW.cell (W : World) : ∀ (z : BW W) (b o : Nat), b < W.heap.size → z.w.cell? ⟨b, o, none⟩ = W.cell? ⟨b, o, none⟩ := fun z b o h => z.below.cell (p := ⟨b, o, none⟩) h
theorem wp_region_bw {P : Program} {id : Nat} {Q : Exit → Act → World → Prop} {a : Act} {w : World} {l : List Oper} (hm : P.follows .mixedOrders = true) (hB : Region.lexB .any l.toArray = true)
    (h : wpQuiet P l.toArray (fun w' => ∃ z : BW w, w' = z.w) (fun a' => ∀ w', Below w.heap.size w w' → Q .normal a' w') l a) : (Code.region id l.toArray true).wp P Q a w := by
  refine wp_region_quiet (C := fun w' => ∃ z : BW w, w' = z.w) hm hB ⟨⟨_, (Below.refl _ _).drew⟩, rfl⟩ ?_
  have e : (fun a' : Act => ∀ w', (∃ z : BW w, w' = z.w) → Q .normal a' w') = fun a' => ∀ w', Below w.heap.size w w' → Q .normal a' w' := by
    funext a'
    refine propext ⟨fun h w' hb => h w' ⟨⟨w', hb⟩, rfl⟩, fun h w' ⟨z, hz⟩ => ?_⟩
    subst hz
    exact h _ z.below
  rw [e]
  simpa using h
theorem wp_region_bw2 {P : Program} {id : Nat} {Q : Exit → Act → World → Prop} {a : Act} {w : World} {l : List Oper} (hm : P.follows .mixedOrders = true) (hB : Region.lexB .any l.toArray = true)
    (h : (∀ (z : BW w) (b o : Nat), b < w.heap.size → z.w.cell? ⟨b, o, none⟩ = w.cell? ⟨b, o, none⟩) → wpQuiet P l.toArray (fun w' => ∃ z : BW w, w' = z.w) (fun a' => ∀ w', Below w.heap.size w w' → Q .normal a' w') l a) : (Code.region id l.toArray true).wp P Q a w :=
  wp_region_bw hm hB (h (BW.cell w))
theorem bwCall {P : Program} {f : FuncId} {args : Array Value} {W : World} {z : BW W} {v : Value} (h : Calls P f args z.w fun e w' => e = .returned v ∧ Below z.w.heap.size z.w w') :
    Calls P f args z.w fun e w'' => e = .returned v ∧ ∃ z' : BW W, w'' = z'.w :=
  h.mono fun _ w'' ⟨he, hb⟩ => ⟨he, ⟨w'', z.below.trans (hb.mono z.below.size)⟩, rfl⟩
theorem bwSame {P : Program} {f : FuncId} {args : Array Value} {W : World} {z : BW W} {v : Value} (h : Calls P f args z.w fun e w' => e = .returned v ∧ z.w = w') :
    Calls P f args z.w fun e w'' => e = .returned v ∧ ∃ z' : BW W, w'' = z'.w :=
  h.mono fun _ _ ⟨he, hb⟩ => ⟨he, z, hb.symm⟩
theorem bwDrew {P : Program} {f : FuncId} {args : Array Value} {W : World} {z : BW W} {v : Value} (h : Calls P f args z.w fun e w' => e = .returned v ∧ ∃ n, w' = z.w.drewN n) :
    Calls P f args z.w fun e w'' => e = .returned v ∧ ∃ z' : BW W, w'' = z'.w :=
  h.mono fun _ w'' ⟨he, n, hb⟩ => ⟨he, ⟨w'', by rw [hb]; exact below_drewN z.below n⟩, rfl⟩
end Go.Proofs.YtpphnnijnnfngaaGreatDoor

/-
  The walks of the two functions that ask whether a string is a name.
-/
namespace Go.Proofs.YtpphnnijnnfngaaGreatDoor
open Go.RowKit Al

theorem small_t {b : UInt8} (h : small b = true) : (97 : Int) ≤ (b.toNat : Int) ∧ (b.toNat : Int) ≤ 122 := inB_true.1 h
theorem small_f {b : UInt8} (h : small b = false) : (b.toNat : Int) < 97 ∨ 122 < (b.toNat : Int) := inB_false.1 h
theorem digit_t {b : UInt8} (h : digit b = true) : (48 : Int) ≤ (b.toNat : Int) ∧ (b.toNat : Int) ≤ 57 := inB_true.1 h
theorem digit_f {b : UInt8} (h : digit b = false) : (b.toNat : Int) < 48 ∨ 57 < (b.toNat : Int) := inB_false.1 h

/-- What a byte of a name decides, in one word: small; the place is the first; '_'; a digit. -/
def byteOk (k : Nat) (b : UInt8) : Bool := small b || (!(k == 0) && nameB b)

theorem byteOk_first {k : Nat} {b : UInt8} (h1 : small b = false) (h2 : k = 0) : byteOk k b = false := by
  subst h2
  unfold byteOk
  rw [h1]
  rfl

set_option maxHeartbeats 1000000 in
theorem isName_ (s : ByteArray) (w : World) (hs : s.size ≤ maxLen) :
    Calls Tryz.prog 122 #[.string s] w fun e w' => e = .returned (.bool (isName s.data.toList)) ∧ w = w' := by
  unfold maxLen at hs
  go_enter Tryz.func122, Tryz.ntmps122
  go_wp2
  go_loop [8] (fun i => ∃ k : Nat, k ≤ s.size ∧ i = .int .i64 k ∧ Hid (nameFrom (k == 0) (s.data.toList.drop k) = nameFrom true s.data.toList)) (fun i => s.size - (intOf i).toNat)
  case atStart => exact ⟨0, Nat.zero_le _, rfl, rfl⟩
  case round =>
    obtain ⟨k, hk, rfl, hp⟩ := hrel
    by_cases hlt : k < s.size
    · have HA := Lib.hid (nameFrom_at hlt)
      have hnext : byteOk k s[k] = true → Hid (nameFrom (k + 1 == 0) (s.data.toList.drop (k + 1)) = nameFrom true s.data.toList) := by
        intro hb
        show _ = _
        rw [← hp.out, HA.out]
        unfold byteOk at hb
        rw [hb]
        rfl
      have hstop : byteOk k s[k] = false → isName s.data.toList = false := by
        intro hb
        rw [isName_size, ← hp.out, HA.out]
        unfold byteOk at hb
        rw [hb]
        simp
      have HN := Lib.hid hnext
      have HS := Lib.hid hstop
      clear hnext hstop
      by_cases h1 : small s[k] = true
      · have b1 := small_t h1
        have hb := Lib.hid (show byteOk k s[k] = true by unfold byteOk; rw [h1]; rfl)
        clear h1
        go_wp2
        all_goals
          go_round
          case rel => exact ⟨k + 1, by omega, by go_num, HN.out hb.out⟩
          case measure => simp [intOf]; omega
      · have h1' : small s[k] = false := by simpa using h1
        have b1 := small_f h1'
        by_cases h2 : k = 0
        · have hb := Lib.hid (byteOk_first h1' h2)
          have h2' : ((k : Int) == 0) = true := by rw [h2]; rfl
          clear h1 h1' h2
          rcases b1 with b1 | b1
          all_goals
            try have bd2 : decide ((s[k].toNat : Int) ≤ 122) = false := decide_eq_false (by omega)
            go_wp2
            all_goals (go_ret; exact ⟨ret_bool (HS.out hb.out).symm, rfl⟩)
        · have h2' : ((k : Int) == 0) = false := by simpa using h2
          by_cases h3 : (s[k].toNat : Int) = 95
          · have h3' : ((s[k].toNat : Int) != 95) = false := by simp [h3]
            have hb := Lib.hid (show byteOk k s[k] = true by unfold byteOk nameB; simp [h1', h2, h3])
            clear h1 h1' h2 h3
            rcases b1 with b1 | b1
            all_goals
              go_wp2
              all_goals
                go_round
                case rel => exact ⟨k + 1, by omega, by go_num, HN.out hb.out⟩
                case measure => simp [intOf]; omega
          · have h3' : ((s[k].toNat : Int) != 95) = true := by simp [h3]
            by_cases h4 : digit s[k] = true
            · have b2 := digit_t h4
              have hb := Lib.hid (show byteOk k s[k] = true by unfold byteOk nameB; simp [h1', h2, h4])
              clear h1 h1' h2 h3 h4
              rcases b1 with b1 | b1
              all_goals
                go_wp2
                all_goals
                  go_round
                  case rel => exact ⟨k + 1, by omega, by go_num, HN.out hb.out⟩
                  case measure => simp [intOf]; omega
            · have h4' : digit s[k] = false := by simpa using h4
              have b2 := digit_f h4'
              have hb := Lib.hid (show byteOk k s[k] = false by unfold byteOk nameB; simp [h1', h2, h3, h4'])
              clear h1 h1' h2 h3 h4 h4'
              rcases b1 with b1 | b1 <;> rcases b2 with b2 | b2
              all_goals first
                | (exfalso; omega)
                | (try have bd2 : decide ((s[k].toNat : Int) ≤ 122) = false := decide_eq_false (by omega)
                   go_wp2
                   all_goals (go_ret; exact ⟨ret_bool (HS.out hb.out).symm, rfl⟩))
    · obtain rfl : k = s.size := by omega
      have HE := Lib.hid (nameFrom_end (s := s) (s.size == 0))
      have HF : Hid (isName s.data.toList = inB s.size 1 16) := by
        show _ = _
        rw [isName_size, ← hp.out, HE.out, Bool.and_true]
      go_wp2
      all_goals (go_ret; exact ⟨ret_bool (by rw [HF.out, inB_eq]; simp; try omega), rfl⟩)

end Go.Proofs.YtpphnnijnnfngaaGreatDoor
