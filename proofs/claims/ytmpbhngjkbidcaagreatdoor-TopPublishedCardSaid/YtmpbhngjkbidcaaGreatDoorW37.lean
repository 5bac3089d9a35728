/-
  The walk of standing, of the specification: how an event stands by its notices.
-/
import Derived.Test.YtmpbhngjkbidcaaGreatDoorW35
import Derived.Test.YtmpbhngjkbidcaaGreatDoorW23
import Derived.Test.YtmpbhngjkbidcaaGreatDoorW19
import Derived.Test.YtmpbhngjkbidcaaGreatDoorW24
import Derived.Deep.RegionLaw
import Derived.Deep.AppendLies
import Derived.Test.YtmpbhngjkbidcaaGreatDoorW36
namespace Go.Proofs.YtmpbhngjkbidcaaGreatDoor
open Go.RowKit Al

/-- Two alerts of a version that are not the same. -/
def clash (a b : Alr) : Bool := a.ver == b.ver && !sameB a b
def clashAt (L : List It) (k i : Nat) : Bool := match L[k]?, L[i]? with
  | some x, some y => clash x.n.a y.n.a
  | _, _ => false
/-- Does number i clash with one of the first j? -/
def dispIn (L : List It) (i j : Nat) : Bool := (List.range j).any fun k => clashAt L k i
/-- Do two of the first i clash? -/
def disp (L : List It) : Nat → Bool
  | 0 => false
  | i + 1 => disp L i || dispIn L i i
def verAt (L : List It) (i : Nat) : Int := match L[i]? with
  | some x => x.n.a.ver
  | none => 0
/-- The first one of the greatest version, of the first i. -/
def bestI (L : List It) : Nat → Nat
  | 0 => 0
  | i + 1 => if verAt L (bestI L i) < verAt L i then i else bestI L i
theorem bestI_le (L : List It) : ∀ i, bestI L i ≤ i
  | 0 => Nat.le_refl _
  | i + 1 => by
    unfold bestI
    have := bestI_le L i
    split <;> omega
theorem bestI_lt (L : List It) : ∀ i, 0 < i → bestI L i < i
  | i + 1, _ => by
    unfold bestI
    have := bestI_le L i
    split <;> omega
theorem verAt_eq {L : List It} {i : Nat} (h : i < L.length) : verAt L i = L[i].n.a.ver := by unfold verAt; rw [List.getElem?_eq_getElem h]
theorem clashAt_eq {L : List It} {k i : Nat} (hk : k < L.length) (h : i < L.length) : clashAt L k i = clash L[k].n.a L[i].n.a := by unfold clashAt; rw [List.getElem?_eq_getElem hk, List.getElem?_eq_getElem h]
theorem dispIn_next (L : List It) (i j : Nat) : dispIn L i (j + 1) = (dispIn L i j || clashAt L j i) := by
  unfold dispIn
  rw [List.range_succ, List.any_append]
  simp
/-- How an event stands: the state, the version, the digest. -/
structure Std where
  ev : ByteArray
  st : Int
  ver : Int
  dig : Int
def Std.lst (s : Std) : List Value := [.string s.ev, .int .i64 s.st, .int .i64 s.ver, .int .i64 s.dig]
/-- How an event stands by its valid notices. -/
def standS (ev : ByteArray) (L : List It) : Std :=
  if L.any (fun x => x.n.a.wd) then ⟨ev, 2, 0, 0⟩ else if disp L L.length then ⟨ev, 3, 0, 0⟩ else
  match L[bestI L L.length]? with
  | some x => ⟨ev, 1, x.n.a.ver, digA x.n.a⟩
  | none => ⟨ev, 1, 0, 0⟩
theorem rSame_is (a b : Alr) (A : Option Addr) (c : Nat) (D : Option Addr) (d : Nat) (w : World) (ha : AIn w a A c) (hb : AIn w b D d) (v : Bool) (hv : sameB a b = v) :
    Calls Tryz.prog 46 #[a.val A c, b.val D d] w fun e w' => e = .returned (.bool v) ∧ Below w.heap.size w w' := hv ▸ rSame_ a b A c D d w ha hb
end Go.Proofs.YtmpbhngjkbidcaaGreatDoor

/-
  The walk of standing, of the specification.
-/
namespace Go.Proofs.YtmpbhngjkbidcaaGreatDoor
open Go.RowKit Al

theorem lt4 {p : Nat → Prop} (h : p 0 ∧ p 1 ∧ p 2 ∧ p 3) : ∀ j, j < 4 → p j
  | 0, _ => h.1 | 1, _ => h.2.1 | 2, _ => h.2.2.1 | 3, _ => h.2.2.2
  | n + 4, h' => absurd h' (by omega)
def StdT (s : Std) (w : World) (e : Ending) (w' : World) : Prop := e = .returned (.agg s.lst.toArray) ∧ Below w.heap.size w w'
def SuRel (w W0 : World) (L : List It) (d b i : Value) (wr : World) : Prop := ∃ (k : Nat) (dv : Bool) (bv : Nat), k ≤ L.length ∧ Hid ((L.take k).any (fun x => x.n.a.wd) = false) ∧ Hid (disp L k = dv) ∧ Hid (bestI L k = bv) ∧ d = .bool dv ∧ b = .int .i64 bv ∧ i = .int .i64 k ∧ Below (w.heap.size + 1) W0 wr
def SvRel (w W0 : World) (L : List It) (k : Nat) (d j : Value) (wr : World) : Prop := ∃ (jj : Nat) (dv : Bool), jj ≤ k ∧ Hid ((disp L k || dispIn L k jj) = dv) ∧ d = .bool dv ∧ j = .int .i64 jj ∧ Below (w.heap.size + 1) W0 wr

end Go.Proofs.YtmpbhngjkbidcaaGreatDoor

/-
  The board of the specification, in memory; the walks of of, last, Force, History of the specification.
-/
namespace Go.Proofs.YtmpbhngjkbidcaaGreatDoor
open Go.RowKit Al

/-- A board of the specification: its roll, its notices. -/
structure SpAt (w : World) (R : Nat → Prop) (y : Nat) (ks : List (Int × Int)) (q : Int) (K : Option Addr) (kc : Nat) (L : List It) (N : Option Addr) (nc : Nat) : Prop where
  c0 : w.cell? ⟨y, 0, none⟩ = some (.slice K ks.length kc)
  c1 : w.cell? ⟨y, 1, none⟩ = some (.int .i64 q)
  c2 : w.cell? ⟨y, 2, none⟩ = some (.slice N L.length nc)
  f2 : w.frozen? ⟨y, 2, none⟩ = false
  keys : SlR w R 2 K ks.length kc (keyCells ks)
  row : w.ownsRow 0 72 10 (.slice N L.length nc) L.length (itCells L)
  its : ∀ x ∈ L, ItIn w R x
  rok : rollOk ks q = true
  max : L.length ≤ 256
  ry : ¬ R y
  ny : ∀ a, N = some a → ¬ R a.block ∧ a.block ≠ y
  lt : y < w.heap.size
  rl : ∀ i, R i → i < w.heap.size
/-- The blocks of a board of the specification. -/
def SpF (R : Nat → Prop) (y : Nat) (N : Option Addr) (i : Nat) : Prop := R i ∨ i = y ∨ ∃ a, N = some a ∧ a.block = i
theorem SpAt.keep {w w' : World} {R F : Nat → Prop} {y : Nat} {ks : List (Int × Int)} {q : Int} {K : Option Addr} {kc : Nat} {L : List It} {N : Option Addr} {nc : Nat} (h : SpAt w R y ks q K kc L N nc) (k : Kp F w w') (hF : ∀ i, SpF R y N i → ¬ F i) : SpAt w' R y ks q K kc L N nc := by
  have fy : ¬ F y := hF y (.inr (.inl rfl))
  have fr : ∀ i, R i → ¬ F i := fun i hi => hF i (.inl hi)
  have cc : ∀ j, w'.cell? ⟨y, j, none⟩ = w.cell? ⟨y, j, none⟩ := fun j => k.cell (p := ⟨y, j, none⟩) h.lt fy
  refine ⟨(cc 0).trans h.c0, (cc 1).trans h.c1, (cc 2).trans h.c2, (k.frozen (p := ⟨y, 2, none⟩) h.lt fy).trans h.f2, h.keys.keep k fr, own_keep h.row k (fun g hg => hF g (.inr (.inr ?_))),
    fun x hx => (h.its x hx).keep k fr, h.rok, h.max, h.ry, h.ny, Nat.lt_of_lt_of_le h.lt k.size, fun i hi => Nat.lt_of_lt_of_le (h.rl i hi) k.size⟩
  cases hN : N with
  | none => rw [hN] at hg; cases hg
  | some a => rw [hN] at hg; cases hg; exact ⟨a, rfl, rfl⟩
/-- A board of the specification whose blocks are among those of S. -/
def Sp (w : World) (S : Nat → Prop) (y : Nat) (ks : List (Int × Int)) (q : Int) (ns : List Ntc) : Prop :=
  ∃ R K kc L N nc, SpAt w R y ks q K kc L N nc ∧ L.map (·.n) = ns ∧ ∀ i, SpF R y N i → S i
theorem Sp.keep {w w' : World} {S F : Nat → Prop} {y : Nat} {ks : List (Int × Int)} {q : Int} {ns : List Ntc} (h : Sp w S y ks q ns) (k : Kp F w w') (hF : ∀ i, S i → ¬ F i) : Sp w' S y ks q ns := by
  obtain ⟨R, K, kc, L, N, nc, h1, h2, h3⟩ := h
  exact ⟨R, K, kc, L, N, nc, h1.keep k (fun i hi => hF i (h3 i hi)), h2, h3⟩
theorem Sp.mono {w : World} {S S' : Nat → Prop} {y : Nat} {ks : List (Int × Int)} {q : Int} {ns : List Ntc} (h : Sp w S y ks q ns) (hS : ∀ i, S i → S' i) : Sp w S' y ks q ns := by
  obtain ⟨R, K, kc, L, N, nc, h1, h2, h3⟩ := h
  exact ⟨R, K, kc, L, N, nc, h1, h2, fun i hi => hS i (h3 i hi)⟩
theorem Sp.below {w w' : World} {S : Nat → Prop} {y : Nat} {ks : List (Int × Int)} {q : Int} {ns : List Ntc} (h : Sp w S y ks q ns) (hb : Below w.heap.size w w') : Sp w' S y ks q ns := h.keep (F := fun _ => False) (Kp.of_below hb) (fun _ _ f => f)
theorem Sp.cut {w : World} {S : Nat → Prop} {y : Nat} {ks : List (Int × Int)} {q : Int} {ns : List Ntc} (h : Sp w S y ks q ns) : Sp w (fun i => S i ∧ i < w.heap.size) y ks q ns := by
  obtain ⟨R, K, kc, L, N, nc, h1, h2, h3⟩ := h
  refine ⟨R, K, kc, L, N, nc, h1, h2, fun i hi => ⟨h3 i hi, ?_⟩⟩
  rcases hi with hi | rfl | ⟨a, ha, rfl⟩
  · exact h1.rl i hi
  · exact h1.lt
  · exact (own_lt h1.row (g := a.block) (by rw [ha]; rfl)).2

end Go.Proofs.YtmpbhngjkbidcaaGreatDoor

/-
  The walk of Settle, of the specification.
-/
namespace Go.Proofs.YtmpbhngjkbidcaaGreatDoor
open Go.RowKit Al
attribute [local go_sem ↓] Go.wp_at_zero Go.wp_at_succ

theorem mem_insW {m n : ByteArray} : ∀ {out : List ByteArray}, m ∈ insW n out → m = n ∨ m ∈ out
  | [], h => by simp [insW] at h; exact .inl h
  | x :: r, h => by
    unfold insW at h
    split at h
    · rcases List.mem_cons.1 h with h | h
      · exact .inl h
      · exact .inr h
    · rcases List.mem_cons.1 h with h | h
      · exact .inr (by rw [h]; simp)
      · rcases mem_insW h with h | h
        · exact .inl h
        · exact .inr (List.mem_cons_of_mem _ h)
theorem mem_evW {m : ByteArray} : ∀ {L : List It} {out : List ByteArray}, m ∈ L.foldl (fun out x => if wordIn x.n.a.ev out then out else insW x.n.a.ev out) out → m ∈ out ∨ ∃ x ∈ L, x.n.a.ev = m
  | [], out, h => .inl h
  | x :: L, out, h => by
    rw [List.foldl_cons] at h
    rcases mem_evW h with h | ⟨y, hy, e⟩
    · split at h
      · exact .inl h
      · rcases mem_insW h with h | h
        · exact .inr ⟨x, by simp, h.symm⟩
        · exact .inl h
    · exact .inr ⟨y, List.mem_cons_of_mem _ hy, e⟩
theorem evW_some {m : ByteArray} {L : List It} (h : m ∈ evW L) : 0 < (L.filter (ofEv m)).length := by
  rcases mem_evW h with h | ⟨x, hx, e⟩
  · cases h
  · refine List.length_pos_iff.2 (fun e2 => ?_)
    have : x ∈ L.filter (ofEv m) := List.mem_filter.2 ⟨hx, by unfold ofEv; rw [e]; simp⟩
    rw [e2] at this
    cases this
theorem evW_len (L : List It) : (evW L).length ≤ L.length := by
  have key : ∀ (L : List It) (out : List ByteArray), (L.foldl (fun out x => if wordIn x.n.a.ev out then out else insW x.n.a.ev out) out).length ≤ out.length + L.length := by
    intro L
    induction L with
    | nil => intro out; simp
    | cons x L ih =>
      intro out
      rw [List.foldl_cons]
      refine Nat.le_trans (ih _) ?_
      split
      · simp
      · rw [insW_len]; simp; omega
  have := key L []
  unfold evW
  simpa using this
/-- The valid notices. -/
def validN (ks : List (Int × Int)) (q : Int) (L : List It) : List It := L.filter fun x => noticeE ks q x.n == 0
/-- How all events stand. -/
def settleS (ks : List (Int × Int)) (q : Int) (L : List It) : List Std := (evW (validN ks q L)).map fun m => standS m ((validN ks q L).filter (ofEv m))
def stCells (l : List Std) : List Value := l.flatMap Std.lst
theorem Std.len (s : Std) : s.lst.length = 4 := rfl
theorem stCells_snoc (l : List Std) (s : Std) : stCells (l ++ [s]) = stCells l ++ s.lst := by simp [stCells]
theorem std_one (s : Std) : ∀ u ∈ s.lst, u.oneCell' = true := by
  intro u hu
  simp [Std.lst] at hu
  rcases hu with rfl | rfl | rfl | rfl <;> rfl
/-- Standings in memory of the call's own, with an error. -/
def OwnSt (l : List Std) (k : Int) (w : World) (e : Ending) (w' : World) : Prop := ∃ A c, e = .returned (.tuple #[.slice A l.length c, .int .i64 k]) ∧ w'.ownsRow w.heap.size 84 4 (.slice A l.length c) l.length (stCells l) ∧ Below w.heap.size w w'
theorem infoStd : (Tryz.prog.info? 84).map (fun i => (i.zero, i.size, i.bytes)) = some (some (.agg #[.string ⟨#[]⟩, .int .i64 0, .int .i64 0, .int .i64 0]), 4, 40) := by kernel_rfl
end Go.Proofs.YtmpbhngjkbidcaaGreatDoor

/-
  The walk of Settle, of the specification, for a valid roll and few notices.
-/
namespace Go.Proofs.YtmpbhngjkbidcaaGreatDoor
open Go.RowKit Al
attribute [local go_sem ↓] Go.wp_at_zero Go.wp_at_succ

def SlRel (w3 : World) (E : List ByteArray) (g : ByteArray → Std) (o i : Value) (wr : World) : Prop :=
  ∃ (k : Nat) (A : Option Addr) (c : Nat), k ≤ E.length ∧ o = .slice A k c ∧ i = .int .i64 k ∧ wr.ownsRow w3.heap.size 84 4 (.slice A k c) k (stCells ((E.take k).map g)) ∧ Below w3.heap.size w3 wr
theorem st_next {E : List ByteArray} {g : ByteArray → Std} {k : Nat} (hk : k < E.length) : stCells ((E.take (k + 1)).map g) = stCells ((E.take k).map g) ++ (g E[k]).lst := by
  rw [List.take_succ_eq_append_getElem hk, List.map_append, List.map_cons, List.map_nil, stCells_snoc]
end Go.Proofs.YtmpbhngjkbidcaaGreatDoor

/-
  The walk of sameStandings, of lists that are equal; Settle of the specification for every roll and notices.
-/
namespace Go.Proofs.YtmpbhngjkbidcaaGreatDoor
open Go.RowKit Al

theorem Sl.std_at {w : World} {B n c : Nat} {A : Option Addr} {l : List Std} (h : Sl w B 4 A n c (stCells l)) {k : Nat} (hk : k < l.length) :
    ∃ b off, A = some ⟨b, off, none⟩ ∧ b < B ∧ w.cell? ⟨b, off + k * 4, none⟩ = some (.string l[k].ev) ∧ w.cell? ⟨b, off + k * 4 + 1, none⟩ = some (.int .i64 l[k].st) ∧ w.cell? ⟨b, off + k * 4 + 2, none⟩ = some (.int .i64 l[k].ver) ∧ w.cell? ⟨b, off + k * 4 + 3, none⟩ = some (.int .i64 l[k].dig) := by
  have hn : n = l.length := by have := h.len; unfold stCells at this; rw [flat_size Std.len] at this; omega
  obtain ⟨b, off, e, hb, hc⟩ := h.at_ (by omega)
  have at_ : ∀ j u, j < 4 → l[k].lst[j]? = some u → w.cell? ⟨b, off + k * 4 + j, none⟩ = some u := fun j u hj hu => by
    rw [Nat.add_assoc]
    exact hc _ _ ((flat_at Std.len hk hj).trans hu)
  exact ⟨b, off, e, hb, at_ 0 _ (by decide) rfl, at_ 1 _ (by decide) rfl, at_ 2 _ (by decide) rfl, at_ 3 _ (by decide) rfl⟩
/-- How all events stand, or the error. -/
def settleR (ks : List (Int × Int)) (q : Int) (L : List It) : List Std × Int := if manyE ks q L.length = 0 then (settleS ks q L, 0) else ([], manyE ks q L.length)
theorem manyE_zero {ks : List (Int × Int)} {q : Int} {len : Nat} (h : manyE ks q len = 0) : rollOk ks q = true ∧ len ≤ 64 := by
  unfold manyE at h
  split at h
  · rename_i h1
    split at h
    · cases h
    · exact ⟨h1, by omega⟩
  · cases h
end Go.Proofs.YtmpbhngjkbidcaaGreatDoor

/-
  Plain: of each version the different texts of notices, and who signed each one.
-/
namespace Go.Proofs.YtmpbhngjkbidcaaGreatDoor
open Go.RowKit Al

/-- What is not there yet goes behind. -/
def addI (a : List Int) (y : Int) : List Int := if y ∈ a then a else a ++ [y]
def uni (a l : List Int) : List Int := l.foldl addI a
theorem mem_addI {a : List Int} {y z : Int} : z ∈ addI a y ↔ z ∈ a ∨ z = y := by
  unfold addI
  split
  · rename_i h
    exact ⟨.inl, fun e => e.elim id (fun e => e ▸ h)⟩
  · simp
theorem mem_uni {z : Int} : ∀ {l a : List Int}, z ∈ uni a l ↔ z ∈ a ∨ z ∈ l
  | [], a => by simp [uni]
  | y :: l, a => by
    have h : uni a (y :: l) = uni (addI a y) l := rfl
    rw [h, mem_uni, mem_addI]
    simp [or_assoc]
theorem uni_snoc (a l : List Int) (y : Int) : uni a (l ++ [y]) = addI (uni a l) y := by simp [uni]
theorem addI_len (a : List Int) (y : Int) : (addI a y).length ≤ a.length + 1 := by
  unfold addI
  split <;> simp
theorem uni_len : ∀ (l a : List Int), (uni a l).length ≤ a.length + l.length
  | [], a => by simp [uni]
  | y :: l, a => by
    have h : uni a (y :: l) = uni (addI a y) l := rfl
    rw [h]
    have h1 := uni_len l (addI a y)
    have h2 := addI_len a y
    simp
    omega
/-- Who signed a notice; its text. -/
def It.who (x : It) : List Int := x.n.sg.map (·.1)
def It.tx (x : It) : List UInt8 := textL x.n.a
def addT (v : Int) (a : List (List UInt8)) (x : It) : List (List UInt8) := if x.n.a.ver = v then (if x.tx ∈ a then a else a ++ [x.tx]) else a
def addS (v : Int) (s : List UInt8) (a : List Int) (x : It) : List Int := if x.n.a.ver = v ∧ x.tx = s then uni a x.who else a
/-- The different texts of a version. -/
def textsV (L : List It) (v : Int) : List (List UInt8) := L.foldl (addT v) []
/-- Who signed a text of a version. -/
def sgs (L : List It) (v : Int) (s : List UInt8) : List Int := L.foldl (addS v s) []
theorem textsV_snoc (L : List It) (x : It) (v : Int) : textsV (L ++ [x]) v = addT v (textsV L v) x := by simp [textsV]
theorem sgs_snoc (L : List It) (x : It) (v : Int) (s : List UInt8) : sgs (L ++ [x]) v s = addS v s (sgs L v s) x := by simp [sgs]
theorem mem_addT {v : Int} {a : List (List UInt8)} {x : It} {s : List UInt8} : s ∈ addT v a x ↔ s ∈ a ∨ (x.n.a.ver = v ∧ x.tx = s) := by
  unfold addT
  by_cases h : x.n.a.ver = v
  · rw [if_pos h]
    split
    · rename_i h2
      exact ⟨.inl, fun e => e.elim id (fun e => e.2 ▸ h2)⟩
    · simp [h, eq_comm]
  · rw [if_neg h]
    simp [h]
theorem mem_addS {v : Int} {s : List UInt8} {a : List Int} {x : It} {y : Int} : y ∈ addS v s a x ↔ y ∈ a ∨ (x.n.a.ver = v ∧ x.tx = s ∧ y ∈ x.who) := by
  unfold addS
  split
  · rename_i h
    rw [mem_uni]
    simp [h.1, h.2]
  · rename_i h
    exact ⟨.inl, fun e => e.elim id (fun e => absurd ⟨e.1, e.2.1⟩ h)⟩
theorem mem_textsV {L : List It} {v : Int} {s : List UInt8} : s ∈ textsV L v ↔ ∃ x ∈ L, x.n.a.ver = v ∧ x.tx = s := by
  have key : ∀ (L : List It) (a : List (List UInt8)), s ∈ L.foldl (addT v) a ↔ s ∈ a ∨ ∃ x ∈ L, x.n.a.ver = v ∧ x.tx = s := by
    intro L
    induction L with
    | nil => intro a; simp
    | cons x L ih =>
      intro a
      rw [List.foldl_cons, ih, mem_addT]
      simp [or_assoc]
  unfold textsV
  rw [key]
  simp
theorem mem_sgs {L : List It} {v : Int} {s : List UInt8} {y : Int} : y ∈ sgs L v s ↔ ∃ x ∈ L, x.n.a.ver = v ∧ x.tx = s ∧ y ∈ x.who := by
  have key : ∀ (L : List It) (a : List Int), y ∈ L.foldl (addS v s) a ↔ y ∈ a ∨ ∃ x ∈ L, x.n.a.ver = v ∧ x.tx = s ∧ y ∈ x.who := by
    intro L
    induction L with
    | nil => intro a; simp
    | cons x L ih =>
      intro a
      rw [List.foldl_cons, ih, mem_addS]
      simp [or_assoc]
  unfold sgs
  rw [key]
  simp
theorem textsV_nodup (L : List It) (v : Int) : (textsV L v).Nodup := by
  have key : ∀ (L : List It) (a : List (List UInt8)), a.Nodup → (L.foldl (addT v) a).Nodup := by
    intro L
    induction L with
    | nil => intro a h; exact h
    | cons x L ih =>
      intro a h
      rw [List.foldl_cons]
      refine ih _ ?_
      unfold addT
      split
      · split
        · exact h
        · rename_i h2
          refine List.nodup_append.2 ⟨h, by simp, fun u hu w hw e => h2 ?_⟩
          rw [List.mem_singleton.1 hw] at e
          exact e ▸ hu
      · exact h
  exact key L [] List.nodup_nil
theorem sgs_none {L : List It} {v : Int} {s : List UInt8} (h : s ∉ textsV L v) : sgs L v s = [] := by
  cases hs : sgs L v s with
  | nil => rfl
  | cons y l =>
    obtain ⟨x, hx, h1, h2, _⟩ := mem_sgs.1 (show y ∈ sgs L v s by rw [hs]; simp)
    exact absurd (mem_textsV.2 ⟨x, hx, h1, h2⟩) h
theorem sgs_len {M : Nat} {v : Int} {s : List UInt8} : ∀ (L : List It), (∀ x ∈ L, x.n.sg.length ≤ M) → (sgs L v s).length ≤ L.length * M := by
  have key : ∀ (L : List It) (a : List Int), (∀ x ∈ L, x.n.sg.length ≤ M) → (L.foldl (addS v s) a).length ≤ a.length + L.length * M := by
    intro L
    induction L with
    | nil => intro a _; simp
    | cons x L ih =>
      intro a h
      rw [List.foldl_cons]
      have h1 := ih (addS v s a x) (fun z hz => h z (List.mem_cons_of_mem _ hz))
      have h2 : (addS v s a x).length ≤ a.length + M := by
        have hx := h x List.mem_cons_self
        unfold addS
        split
        · have h3 := uni_len x.who a
          have h4 : x.who.length = x.n.sg.length := by simp [It.who]
          omega
        · omega
      have h5 : (x :: L).length * M = L.length * M + M := by simp [Nat.add_mul]
      omega
  intro L h
  have := key L [] h
  simpa [sgs] using this
theorem textsV_len (L : List It) (v : Int) : (textsV L v).length ≤ L.length := by
  have key : ∀ (L : List It) (a : List (List UInt8)), (L.foldl (addT v) a).length ≤ a.length + L.length := by
    intro L
    induction L with
    | nil => intro a; simp
    | cons x L ih =>
      intro a
      rw [List.foldl_cons]
      have h1 := ih (addT v a x)
      have h2 : (addT v a x).length ≤ a.length + 1 := by
        unfold addT
        split
        · split <;> simp
        · omega
      simp
      omega
  have := key L []
  simpa [textsV] using this
end Go.Proofs.YtmpbhngjkbidcaaGreatDoor
