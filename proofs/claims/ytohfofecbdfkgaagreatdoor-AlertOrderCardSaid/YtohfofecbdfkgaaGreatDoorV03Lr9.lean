/-
  The walk of shuffled: the notices in another order, with two more.
-/
import Derived.Test.YtohfofecbdfkgaaGreatDoorV02Lr9
import Derived.Test.YtohfofecbdfkgaaGreatDoorU09
import Derived.Deep.RegionHeld3
import Derived.Deep.RegionLaw
namespace Go.Proofs.YtohfofecbdfkgaaGreatDoor
open Go.RowKit Al

/-- The remaining notices of a slice. -/
theorem Sl.drop_it {w : World} {B nc g : Nat} {M : List It} {k : Nat} (h : Sl w B 10 (some ⟨g, 0, none⟩) k nc (itCells M)) (hk : M.length = k) {p : Nat} (hp : p ≤ k) {A : Option Addr} (hA : A = some ⟨g, 0, none⟩ ∧ nc = p ∨ A = some ⟨g, p * 10, none⟩) : Sl w B 10 A (k - p) (nc - p) (itCells (M.drop p)) := by
  subst hk
  have hl : (M.drop p).length = M.length - p := List.length_drop
  have hc := h.cap
  refine ⟨by rw [itCells_len, hl], by omega, by have := h.max; omega, fun e => ?_, fun hn => ?_⟩
  · rcases hA with ⟨rfl, _⟩ | rfl <;> cases e
  · have hA2 : A = some ⟨g, p * 10, none⟩ := by
      rcases hA with ⟨_, h2⟩ | h2
      · omega
      · exact h2
    obtain ⟨b, off, e, hb, hcell⟩ := h.at_ (by omega)
    obtain ⟨rfl, rfl⟩ : b = g ∧ off = 0 := by injection e with e; injection e with e1 e2; exact ⟨e1.symm, e2.symm⟩
    refine ⟨b, p * 10, hA2, hb, fun j u hu => ?_⟩
    have h2 := hcell (p * 10 + j) u (by
      have e2 : itCells M = itCells (M.take p) ++ itCells (M.drop p) := by rw [← itCells_app, List.take_append_drop]
      have e3 : (itCells (M.take p)).length = p * 10 := by rw [itCells_len, List.length_take, Nat.min_eq_left hp]
      rw [e2, List.getElem?_append_right (by omega), e3, Nat.add_sub_cancel_left]
      exact hu)
    rw [Nat.zero_add] at h2
    exact h2
theorem Sl.take_at {w : World} {B nc g : Nat} {M : List It} {k : Nat} (h : Sl w B 10 (some ⟨g, 0, none⟩) k nc (itCells M)) (hk : M.length = k) {p : Nat} (hp : p ≤ k) : Sl w B 10 (some ⟨g, 0, none⟩) p nc (itCells (M.take p)) := by
  subst hk
  have h2 := h.take_it hp
  rw [List.length_take, Nat.min_eq_left hp] at h2
  exact h2
theorem own_zero {w : World} {base : Nat} {e : TypeId} {size g off c n : Nat} {o : Option Nat} {xs : List Value} (h : w.ownsRow base e size (.slice (some ⟨g, off, o⟩) n c) n xs) : off = 0 ∧ o = none := by
  rcases h.2 with ⟨hv, _⟩ | ⟨g', cap, cur, hv, _⟩
  · cases hv
  · injection hv with h1 _ _; injection h1 with h1; injection h1 with _ h2 h3; exact ⟨h2, h3⟩
theorem own_nil0 {w : World} {base : Nat} {e : TypeId} {size c n : Nat} {xs : List Value} (h : w.ownsRow base e size (.slice none n c) n xs) : c = 0 ∧ n = 0 := by
  rcases h.2 with ⟨hv, h0⟩ | ⟨g', cap, cur, hv, _⟩
  · injection hv with _ _ h3; exact ⟨h3, h0⟩
  · cases hv
/-- A slice over a block that was just made. -/
theorem slBuild {w w' : World} {X : List It} {n : Nat} {ty : TypeId} {o : Obj} (ho : o = .cells (itCells X).toArray ty) (hn : X.length = n) (hm : n ≤ maxLen) (hb : Below (w.heap.size + 1) (w.alloc o) w') : Sl w' (w.heap.size + 1) 10 (some ⟨w.heap.size, 0, none⟩) n n (itCells X) := by
  subst ho hn
  refine Sl.below ⟨itCells_len _, Nat.le_refl _, hm, fun e => (by cases e), fun _ => ⟨_, _, rfl, Nat.lt_succ_self _, fun j u hu => ?_⟩⟩ hb
  simp [go_sem, hu]
theorem slBuild2 {w w' : World} {X : List It} {n g B : Nat} {ty : TypeId} {o : Obj} (ho : o = .cells (itCells X).toArray ty) (hn : X.length = n) (hm : n ≤ maxLen) (hg : g = w.heap.size) (hB : B = g + 1) (hb : Below (w.heap.size + 1) (w.alloc o) w') : Sl w' B 10 (some ⟨g, 0, none⟩) n n (itCells X) := by
  subst hg hB
  exact slBuild ho hn hm hb
/-- A notice's cells lie at the head of a block. -/
@[reducible] def Ten (w : World) (g : Nat) (y : It) : Prop :=
  w.cell? ⟨g, 0, none⟩ = some (.string y.n.a.ev) ∧ w.cell? ⟨g, 1, none⟩ = some (.int .i64 y.n.a.ver) ∧ w.cell? ⟨g, 2, none⟩ = some (.int .i64 y.n.a.tm) ∧ w.cell? ⟨g, 3, none⟩ = some (.int .i64 y.n.a.n) ∧ w.cell? ⟨g, 4, none⟩ = some (.int .i64 y.n.a.of) ∧ w.cell? ⟨g, 5, none⟩ = some (.int .i64 y.n.a.grid) ∧ w.cell? ⟨g, 6, none⟩ = some (.slice y.A y.n.a.cells.length y.c) ∧ w.cell? ⟨g, 7, none⟩ = some (.bool y.n.a.wd) ∧ w.cell? ⟨g, 8, none⟩ = some (.int .i64 y.n.a.before) ∧ w.cell? ⟨g, 9, none⟩ = some (.slice y.S y.n.sg.length y.sc)
theorem ten_of {w w' : World} {g : Nat} {y : It} (h : Ten w g y) (hk : ∀ o, w'.cell? ⟨g, o, none⟩ = w.cell? ⟨g, o, none⟩) : Ten w' g y := by
  obtain ⟨h0, h1, h2, h3, h4, h5, h6, h7, h8, h9⟩ := h
  exact ⟨(hk 0).trans h0, (hk 1).trans h1, (hk 2).trans h2, (hk 3).trans h3, (hk 4).trans h4, (hk 5).trans h5, (hk 6).trans h6, (hk 7).trans h7, (hk 8).trans h8, (hk 9).trans h9⟩
theorem ten1 {w w' : World} {base N c1 g : Nat} {e : TypeId} {A1 : Option Addr} {X : List It} {y : It} (h0 : 0 < X.length) (hy : X[0] = y) (o1 : w'.ownsRow base e 10 (.slice A1 N c1) N (itCells X)) (g1 : w.grownBy w' (Value.slice A1 N c1).ownBlock) (hg : g < w.heap.size) (h : Ten w g y) : Ten w' g y := by
  obtain ⟨b, off, rfl, _, y0, y1, y2, y3, y4, y5, y6, y7, y8, y9⟩ := (Sl.of_own o1).it_at h0
  obtain ⟨rfl, _⟩ : off = 0 ∧ (none : Option Nat) = none := own_zero o1
  rw [hy] at y0 y1 y2 y3 y4 y5 y6 y7 y8 y9
  by_cases hb : b = g
  · subst hb
    simp only [Nat.zero_mul, Nat.zero_add] at y0 y1 y2 y3 y4 y5 y6 y7 y8 y9
    exact ⟨y0, y1, y2, y3, y4, y5, y6, y7, y8, y9⟩
  · exact ten_of h fun o => g1.cell_far ⟨g, o, none⟩ hg (fun e => hb (Option.some.inj e).symm)
theorem step_append_sl {P : Program} {w : World} {ops : Array Oper} {o : Oper} {a : Act} {K : Act → World → Prop} {Q : Exit → Act → World → Prop} {E : Prop} (hgd : o.guard = none) (s x : Operand) (t : TypeId)
    (ho : o.op = .call { callee := .builtin .append, args := #[s, x], argTypes := #[t, t] })
    (base : Nat) (e : TypeId) (i : TypeInfo) (z : Value) (size bytes : Nat) (ht : P.underlying t = some (.slice e)) (hi : P.info? e = some i) (hz : i.zero = some z)
    (hsize : i.size = size) (hby : i.bytes = bytes) (hzs : z.cells.size = size) (hsz : 0 < size)
    (v : Value) (n : Nat) (xs : List Value) (hs : a.eval s = v) (hown : w.ownsRow base e size v n xs)
    (B : Nat) (A : Option Addr) (m c : Nat) (news : List Value) (hx : a.eval x = .slice A m c) (hsl : Sl w B size A m c news) (h1 : ∀ u ∈ news, u.oneCell' = true)
    (h63 : n + m ≤ maxLen) (hbytes : (n + m) * bytes ≤ 140737488355328) (hbase : base ≤ w.heap.size)
    (h : ∀ v' w', w'.ownsRow base e size v' (n + m) (xs ++ news) → w.grownBy w' v.ownBlock → (v'.ownBlock = v.ownBlock ∨ v'.ownBlock = some w.heap.size) → K (a.put o.dst v') w') :
    if Region.wanted o (yielded ops a.tmps) = true then Oper.wp P o a w K Q else E := by
  have hw : Region.wanted o (yielded ops a.tmps) = true := by simp [Region.wanted, hgd]
  rw [if_pos hw]
  obtain ⟨v', w', hr, h2, h3, h5⟩ := run_append_sl (P := P) w base t o.type e i z size bytes ht hi hz hsize hby hzs hsz v n xs hown B A m c news hsl h1 h63 hbytes hbase
  unfold Oper.wp execOp
  simp only [ho, resolve, invoke, builtin, Sem.run_bind, Sem.run_pure, Result.andThen_ok, List.map_toArray, List.map_cons, List.map_nil, hs, hx, hr]
  exact h v' w' h2 h3 h5

theorem ins_mem {M : List It} {p : Nat} {x y : It} {T : List It} (h : ∀ x, x ∈ M ↔ x ∈ T) : y ∈ M.take p ++ [x] ++ M.drop p ↔ y ∈ T ++ [x] := by
  have e : y ∈ M ↔ y ∈ M.take p ∨ y ∈ M.drop p := by rw [← List.mem_append, List.take_append_drop]
  simp only [List.mem_append, List.mem_singleton]
  rw [← h, e]
  constructor
  · rintro ((h1 | h1) | h1)
    · exact .inl (.inl h1)
    · exact .inr h1
    · exact .inl (.inr h1)
  · rintro ((h1 | h1) | h1)
    · exact .inl (.inl h1)
    · exact .inr h1
    · exact .inl (.inr h1)
theorem ins_len {M : List It} {k p : Nat} {x : It} (h : M.length = k) (hp : p ≤ k) : (M.take p ++ [x] ++ M.drop p).length = k + 1 := by
  rw [List.length_append, List.length_append, List.length_take, List.length_drop, h]
  simp
  omega
/-- Appending to a row: the old row turns only if the new one lies there. -/
theorem run_append_keep {P : Program} (w : World) (base : Nat) (t ty e : TypeId) (i : TypeInfo) (z : Value) (size bytes : Nat) (ht : P.underlying t = some (.slice e)) (hi : P.info? e = some i) (hz : i.zero = some z)
    (hsize : i.size = size) (hby : i.bytes = bytes) (hzs : z.cells.size = size) (hsz : 0 < size)
    (g n cap : Nat) (xs : List Value) (hown : w.ownsRow base e size (.slice (some ⟨g, 0, none⟩) n cap) n xs) (ad : Addr) (m c : Nat) (news : List Value) (hl : news.length = m * size) (hnews : ∀ j u, news[j]? = some u → w.cell? (ad.add j) = some u)
    (h1 : ∀ u ∈ news, u.oneCell' = true) (h63 : n + m ≤ maxLen) (hbytes : (n + m) * bytes ≤ 140737488355328) (hbase : base ≤ w.heap.size) :
    ∃ v' w', (Builtin.append_ #[t, t] ty #[.slice (some ⟨g, 0, none⟩) n cap, .slice (some ad) m c]).run P w = .ok v' w' ∧ w'.ownsRow base e size v' (n + m) (xs ++ news) ∧ w.grownBy w' v'.ownBlock ∧ (v'.ownBlock = some g ∨ v'.ownBlock = some w.heap.size) := by
  obtain ⟨v', w', k1, k2, k3, _, k5⟩ := run_append_own_at (P := P) w base t ty e i z size bytes ht hi hz hsize hby hzs hsz _ n xs hown ad m c news hl hnews h1 h63 hbytes hbase
  refine ⟨v', w', k1, k2, ?_, k5⟩
  rcases k5 with h5 | h5
  · rw [h5]; exact k3
  · subst hsize hby
    have h64 : n + m ≤ 9223372036854775807 := by simp only [maxLen] at h63; omega
    by_cases hr : n + m ≤ cap
    · rcases hown.2 with ⟨hv, _⟩ | ⟨g2, cap2, cur, hv, _, hg, _, _, hcs, _⟩
      · cases hv
      · cases hv
        have hfit : n * i.size + news.length ≤ cur.size := by rw [hl, hcs, ← Nat.add_mul]; exact Nat.mul_le_mul_right _ hr
        have h2 := run_append_room (P := P) w t ty e i ht hi g n cap cur hg ad m c news hl hnews h1 hr hfit
        rw [h2] at k1
        cases k1
        exact k3
    · have h2 := run_append_grow (P := P) w t ty e i z ht hi hz ⟨g, 0, none⟩ n cap xs hown.1 (hown.cells (g := g) rfl) ad m c news hl hnews (by omega) (by omega) (growslice_fits (by omega) hbytes)
      rw [h2] at k1
      cases k1
      exact ⟨rfl, rfl, rfl, by simp, fun k hk _ => heap_alloc_old w.drew _ (by simpa using hk)⟩
theorem step_append_keep {P : Program} {w : World} {ops : Array Oper} {o : Oper} {a : Act} {K : Act → World → Prop} {Q : Exit → Act → World → Prop} {E : Prop} (hgd : o.guard = none) (s x : Operand) (t : TypeId)
    (ho : o.op = .call { callee := .builtin .append, args := #[s, x], argTypes := #[t, t] })
    (base : Nat) (e : TypeId) (i : TypeInfo) (z : Value) (size bytes : Nat) (ht : P.underlying t = some (.slice e)) (hi : P.info? e = some i) (hz : i.zero = some z)
    (hsize : i.size = size) (hby : i.bytes = bytes) (hzs : z.cells.size = size) (hsz : 0 < size)
    (g n cap : Nat) (xs : List Value) (hs : a.eval s = .slice (some ⟨g, 0, none⟩) n cap) (hown : w.ownsRow base e size (.slice (some ⟨g, 0, none⟩) n cap) n xs)
    (B : Nat) (A : Option Addr) (m c : Nat) (news : List Value) (hx : a.eval x = .slice A m c) (hsl : Sl w B size A m c news) (hm : 0 < m) (h1 : ∀ u ∈ news, u.oneCell' = true)
    (h63 : n + m ≤ maxLen) (hbytes : (n + m) * bytes ≤ 140737488355328) (hbase : base ≤ w.heap.size)
    (h : ∀ v' w', w'.ownsRow base e size v' (n + m) (xs ++ news) → w.grownBy w' v'.ownBlock → (v'.ownBlock = some g ∨ v'.ownBlock = some w.heap.size) → K (a.put o.dst v') w') :
    if Region.wanted o (yielded ops a.tmps) = true then Oper.wp P o a w K Q else E := by
  have hw : Region.wanted o (yielded ops a.tmps) = true := by simp [Region.wanted, hgd]
  rw [if_pos hw]
  obtain ⟨b, off, rfl, _, hc⟩ := hsl.at_ hm
  obtain ⟨v', w', hr, h2, h3, h5⟩ := run_append_keep (P := P) w base t o.type e i z size bytes ht hi hz hsize hby hzs hsz g n cap xs hown ⟨b, off, none⟩ m c news hsl.len (fun j u hu => by
    have ha : (⟨b, off, none⟩ : Addr).add j = ⟨b, off + j, none⟩ := Addr.add_lit ..
    rw [ha]
    exact hc j u hu) h1 h63 hbytes hbase
  unfold Oper.wp execOp
  simp only [ho, resolve, invoke, builtin, Sem.run_bind, Sem.run_pure, Result.andThen_ok, List.map_toArray, List.map_cons, List.map_nil, hs, hx, hr]
  exact h v' w' h2 h3 h5
def CutSh (k : Nat) (s7 : Value) (wr wx : World) : Prop := ∃ p : Nat, p ≤ k ∧ s7 = .int .i64 (p : Int) ∧ wx = wr
def ShRel (w : World) (L : List It) (o i : Value) (wr : World) : Prop :=
  ∃ (k : Nat) (M : List It) (A : Option Addr) (c : Nat), k ≤ L.length ∧ Hid (M.length = k) ∧ o = .slice A k c ∧ i = .int .i64 k ∧ Hid (∀ x, x ∈ M ↔ x ∈ L.take k) ∧ Hid (wr.ownsRow w.heap.size 54 10 (.slice A k c) k (itCells M)) ∧ Hid (Below w.heap.size w wr)
set_option maxRecDepth 100000 in
set_option maxHeartbeats 8000000 in
theorem shuffled_ (L : List It) (N : Option Addr) (nc : Nat) (ord : List Int) (O : Option Addr) (oc : Nat) (w : World) (hL : Sl w w.heap.size 10 N L.length nc (itCells L)) (hI : ∀ x ∈ L, NIn w x.n x.A x.c x.S x.sc) (hO : Sl w w.heap.size 1 O ord.length oc (ints ord)) (hlen : L.length * 120 ≤ 140737488355328) :
    Calls Tryz.prog 28 #[.slice N L.length nc, .slice O ord.length oc] w (OwnSh L w) := by
  obtain ⟨i0, hi, hz0, hz1, hz2⟩ := info_parts infoNtc
  have HL := Lib.hid hL
  have HO := Lib.hid hO
  have HI := Lib.hid hI
  clear hL hO hI
  go_enter Tryz.func28, Tryz.ntmps28
  go_wp2_with fail
  go_loopw [5, 6] (fun o i wr => ShRel w L o i wr) (fun _ i _ => L.length - (Go.RowKit.intOf i).toNat)
  case atStart => exact ⟨0, [], none, 0, Nat.zero_le _, Lib.hid rfl, rfl, rfl, Lib.hid (fun x => Iff.rfl), Lib.hid (World.ownsRow_nil _ _ _ _), Lib.hid (Below.refl _ _)⟩
  case round =>
    obtain ⟨k, M, A, c, hk, HM, rfl, rfl, HS, HR, HB⟩ := hrel
    have hsz := HB.out.size
    by_cases hlt : k < L.length
    · obtain ⟨nb, off, rfl, hnb, y0, y1, y2, y3, y4, y5, y6, y7, y8, y9⟩ := (HL.out.below HB.out).it_at hlt
      have i1' : (k : Int) < (L.length : Int) := by omega
      have hb2 : nb < wr.heap.size := by omega
      have HX : Hid (L.take (k + 1) = L.take k ++ [L[k]]) := List.take_succ_eq_append_getElem hlt
      obtain ⟨x, hx⟩ : ∃ x, x = L[k] := ⟨_, rfl⟩
      rw [← hx] at y0 y1 y2 y3 y4 y5 y6 y7 y8 y9 HX
      clear hx
      have i0' : (0 : Int) ≤ (k : Int) := by omega
      go_upto_if 18 with fail
      go_cut [7] from 9 to 42 (fun s7 wx => CutSh k s7 wr wx)
      case first =>
        by_cases hio : k < ord.length
        · have j1' : (k : Int) < (ord.length : Int) := by omega
          obtain ⟨ob, ooff, rfl, hob, hoc⟩ := (HO.out.below HB.out).int_at hio hio
          obtain ⟨p, hp⟩ : ∃ p : Nat, ord[k] % ((k : Int) + 1) = (p : Int) := ⟨(ord[k] % ((k : Int) + 1)).toNat, (Int.toNat_of_nonneg (Int.emod_nonneg _ (by omega))).symm⟩
          have hp2 : p ≤ k := by have := Int.emod_lt_of_pos ord[k] (show (0 : Int) < (k : Int) + 1 by omega); omega
          have HP := Lib.hid hp
          clear hp
          obtain ⟨z, hz⟩ : ∃ z, z = ord[k] := ⟨_, rfl⟩
          rw [← hz] at hoc HP
          clear hz
          go_wp2_with (go_at_call 11; refine (Mod_is z _ p _ (by omega) (by omega) HP.out).mono ?_; rintro e w1 ⟨rfl, rfl⟩)
          go_meet
          case rel => exact ⟨p, hp2, rfl, rfl⟩
        · have j1' : ¬ (k : Int) < (ord.length : Int) := by omega
          go_wp2_with fail
          go_meet
          case rel => exact ⟨0, Nat.zero_le _, rfl, rfl⟩
      case rest =>
        obtain ⟨p, hp2, rfl, rfl⟩ := hcut
        have p0 : (0 : Int) ≤ (p : Int) := by omega
        have p1 : (p : Int) ≤ (k : Int) := by omega
        rcases A with _ | ⟨g, off, e⟩
        · obtain ⟨rfl, rfl⟩ : c = 0 ∧ k = 0 := own_nil0 HR.out
          obtain rfl : p = 0 := by omega
          obtain rfl : M = [] := List.eq_nil_of_length_eq_zero HM.out
          simp only [Nat.zero_mul, Nat.add_zero] at y0 y1 y2 y3 y4 y5 y6 y7 y8 y9
          go_wp2_with fail
          have DC : Below wc.heap.size wc wc := Below.refl _ _
          go_region_held3 (fun w' => ∀ b o, b < wc.heap.size → w'.cell? ⟨b, o, none⟩ = wc.cell? ⟨b, o, none⟩) (first | exact kN | exact fun b o h => rfl | exact fun b o h => (Below.trans DC (show Below wc.heap.size _ _ from (by (repeat (first | exact Below.refl _ _ | assumption | refine below_drewN ?_ _ | refine Below.drew ?_ | refine Below.setCell ?_ (by first | omega | (simp; done) | (simp; omega)) _ | refine Below.alloc ?_ (by first | omega | (simp; done) | (simp; omega)) _))))).cell (p := ⟨b, o, none⟩) h)
            (first
              | (refine step_append_sl rfl (.tmp 27) (.tmp 30) 25 rfl wc.heap.size 54 i0 (.agg #[.string ⟨#[]⟩, .int .i64 0, .int .i64 0, .int .i64 0, .int .i64 0, .int .i64 0, .slice none 0 0, .bool false, .int .i64 0, .slice none 0 0]) 10 120 Tryz.underlying25 hi hz0 hz1 hz2 rfl (by decide) (.slice none 0 0) 0 [] rfl (World.ownsRow_nil _ _ _ _) wc.heap.size _ _ _ (itCells []) rfl ((Sl.nilS wc wc.heap.size 10).below (Below.trans DC (by (repeat (first | exact Below.refl _ _ | assumption | refine below_drewN ?_ _ | refine Below.drew ?_ | refine Below.setCell ?_ (by first | omega | (simp; done) | (simp; omega)) _ | refine Below.alloc ?_ (by first | omega | (simp; done) | (simp; omega)) _))))) (itCells_one _) (by unfold maxLen; omega) (by omega) (by first | exact Nat.le_refl _ | omega | (simp; done) | (simp; omega)) ?_; intro v1 w1 o1 g1 _; rw [Nat.zero_add, List.nil_append] at o1; obtain ⟨A1, c1, rfl⟩ := own_form o1; have E1 := Below.trans ((Below.refl (wc.heap.size + 1) (World.alloc wc _)).drew) (Below.grown (Below.refl (wc.heap.size + 1) (World.drew (World.alloc wc _))) g1 (by simp) (fun _ e => by cases e)); have sE := E1.size; (try simp at sE); have DC := Below.grown (Below.trans DC (show Below wc.heap.size _ _ from (by (repeat (first | exact Below.refl _ _ | assumption | refine below_drewN ?_ _ | refine Below.drew ?_ | refine Below.setCell ?_ (by first | omega | (simp; done) | (simp; omega)) _ | refine Below.alloc ?_ (by first | omega | (simp; done) | (simp; omega)) _))))) g1 (by first | exact Nat.le_refl _ | omega | (simp; done) | (simp; omega)) (fun _ e => by cases e); have kN := (fun b o (h : b < wc.heap.size) => DC.cell (p := ⟨b, o, none⟩) h); have sA := DC.size; clear g1)
              | (refine step_append_sl rfl (.tmp 27) (.tmp 30) 25 rfl wc.heap.size 54 i0 (.agg #[.string ⟨#[]⟩, .int .i64 0, .int .i64 0, .int .i64 0, .int .i64 0, .int .i64 0, .slice none 0 0, .bool false, .int .i64 0, .slice none 0 0]) 10 120 Tryz.underlying25 hi hz0 hz1 hz2 rfl (by decide) (.slice none 0 0) 0 [] rfl (World.ownsRow_nil _ _ _ _) wc.heap.size _ _ _ (itCells []) rfl ((Sl.nilS wc wc.heap.size 10).below (Below.trans DC (by (repeat (first | exact Below.refl _ _ | assumption | refine below_drewN ?_ _ | refine Below.drew ?_ | refine Below.setCell ?_ (by first | omega | (simp; done) | (simp; omega)) _ | refine Below.alloc ?_ (by first | omega | (simp; done) | (simp; omega)) _))))) (itCells_one _) (by unfold maxLen; omega) (by omega) (by first | exact Nat.le_refl _ | omega | (simp; done) | (simp; omega)) ?_; intro v1 w1 o1 g1 _; rw [Nat.zero_add, List.nil_append] at o1; obtain ⟨A1, c1, rfl⟩ := own_form o1; have DC := Below.grown (Below.trans DC (show Below wc.heap.size _ _ from (by (repeat (first | exact Below.refl _ _ | assumption | refine below_drewN ?_ _ | refine Below.drew ?_ | refine Below.setCell ?_ (by first | omega | (simp; done) | (simp; omega)) _ | refine Below.alloc ?_ (by first | omega | (simp; done) | (simp; omega)) _))))) g1 (by first | exact Nat.le_refl _ | omega | (simp; done) | (simp; omega)) (fun _ e => by cases e); have kN := (fun b o (h : b < wc.heap.size) => DC.cell (p := ⟨b, o, none⟩) h); have sA := DC.size; clear g1)
              | (refine step_append_sl rfl (.tmp 31) (.tmp 36) 25 rfl wc.heap.size 54 i0 (.agg #[.string ⟨#[]⟩, .int .i64 0, .int .i64 0, .int .i64 0, .int .i64 0, .int .i64 0, .slice none 0 0, .bool false, .int .i64 0, .slice none 0 0]) 10 120 Tryz.underlying25 hi hz0 hz1 hz2 rfl (by decide) _ _ _ rfl (own_below o1 (Nat.le_refl _) (by (repeat (first | exact Below.refl _ _ | assumption | refine below_drewN ?_ _ | refine Below.drew ?_ | refine Below.setCell ?_ (by first | omega | (simp; done) | (simp; omega)) _ | refine Below.alloc ?_ (by first | omega | (simp; done) | (simp; omega)) _)))) _ _ 1 1 (itCells [x]) rfl (by first | exact slBuild (X := [x]) rfl rfl (by decide) (Below.refl _ _) | exact slBuild (X := [x]) rfl rfl (by decide) E1) (itCells_one _) (by unfold maxLen; omega) (by omega) (by first | exact Nat.le_refl _ | omega | (simp; done) | (simp; omega)) ?_; intro v2 w2 o2 g2 _; rw [← itCells_app] at o2; obtain ⟨A2, c2, rfl⟩ := own_form o2; have DC := Below.grown (Below.trans DC (show Below wc.heap.size _ _ from (by (repeat (first | exact Below.refl _ _ | assumption | refine below_drewN ?_ _ | refine Below.drew ?_ | refine Below.setCell ?_ (by first | omega | (simp; done) | (simp; omega)) _ | refine Below.alloc ?_ (by first | omega | (simp; done) | (simp; omega)) _))))) g2 (by first | exact Nat.le_refl _ | omega | (simp; done) | (simp; omega)) (fun g hg => Nat.le_trans (by first | exact Nat.le_refl _ | omega | (simp; done) | (simp; omega)) (own_base o1 hg)); have kN := (fun b o (h : b < wc.heap.size) => DC.cell (p := ⟨b, o, none⟩) h); have sA := DC.size; clear g2)
              | (refine step_append_sl rfl (.tmp 37) (.tmp 40) 25 rfl wc.heap.size 54 i0 (.agg #[.string ⟨#[]⟩, .int .i64 0, .int .i64 0, .int .i64 0, .int .i64 0, .int .i64 0, .slice none 0 0, .bool false, .int .i64 0, .slice none 0 0]) 10 120 Tryz.underlying25 hi hz0 hz1 hz2 rfl (by decide) _ _ _ rfl (own_below o2 (Nat.le_refl _) (by (repeat (first | exact Below.refl _ _ | assumption | refine below_drewN ?_ _ | refine Below.drew ?_ | refine Below.setCell ?_ (by first | omega | (simp; done) | (simp; omega)) _ | refine Below.alloc ?_ (by first | omega | (simp; done) | (simp; omega)) _)))) wc.heap.size _ _ _ (itCells []) rfl ((Sl.nilS wc wc.heap.size 10).below (Below.trans DC (by (repeat (first | exact Below.refl _ _ | assumption | refine below_drewN ?_ _ | refine Below.drew ?_ | refine Below.setCell ?_ (by first | omega | (simp; done) | (simp; omega)) _ | refine Below.alloc ?_ (by first | omega | (simp; done) | (simp; omega)) _))))) (itCells_one _) (by unfold maxLen; omega) (by omega) (by first | exact Nat.le_refl _ | omega | (simp; done) | (simp; omega)) ?_; intro v3 w3 o3 g3 _; rw [← itCells_app, show 0 + 1 + 0 = 1 from (by omega)] at o3; obtain ⟨A3, c3, rfl⟩ := own_form o3; have DC := Below.grown (Below.trans DC (show Below wc.heap.size _ _ from (by (repeat (first | exact Below.refl _ _ | assumption | refine below_drewN ?_ _ | refine Below.drew ?_ | refine Below.setCell ?_ (by first | omega | (simp; done) | (simp; omega)) _ | refine Below.alloc ?_ (by first | omega | (simp; done) | (simp; omega)) _))))) g3 (by first | exact Nat.le_refl _ | omega | (simp; done) | (simp; omega)) (fun g hg => Nat.le_trans (by first | exact Nat.le_refl _ | omega | (simp; done) | (simp; omega)) (own_base o2 hg)); have kN := (fun b o (h : b < wc.heap.size) => DC.cell (p := ⟨b, o, none⟩) h); have sA := DC.size; clear g3))
          all_goals
            go_wp2_with fail
            go_roundw
            case rel => exact ⟨1, [x], A3, c3, by omega, Lib.hid rfl, rfl, by go_num, Lib.hid (fun y => by rw [HX.out]; simp), Lib.hid (own_more o3 hsz), Lib.hid (HB.out.trans (DC.mono hsz))⟩
            case measure => simp [Go.RowKit.intOf]; omega
        · obtain ⟨rfl, rfl⟩ : off = 0 ∧ e = none := own_zero HR.out
          have hkc : k ≤ c := (Sl.of_own HR.out).cap
          have p2 : (p : Int) ≤ (c : Int) := by omega
          have hcm : c ≤ maxLen := (Sl.of_own HR.out).max
          unfold maxLen at hcm
          have HTK := Lib.hid ((Sl.of_own HR.out).take_at HM.out (p := p) (by omega))
          by_cases hpc : c = p
          · obtain rfl : c = p := hpc
            obtain rfl : k = c := by omega
            have HDR : Hid (Sl wc wc.heap.size 10 (some ⟨g, 0, none⟩) 0 0 (itCells (M.drop k))) := by
              rw [List.drop_eq_nil_of_le (Nat.le_of_eq HM.out)]
              exact ⟨rfl, Nat.le_refl _, Nat.zero_le _, fun e => (by cases e), fun h => absurd h (by omega)⟩
            go_wp2_with fail
            have DC : Below wc.heap.size wc wc := Below.refl _ _
            go_region_held3 (fun w' => ∀ b o, b < wc.heap.size → w'.cell? ⟨b, o, none⟩ = wc.cell? ⟨b, o, none⟩) (first | exact kN | exact fun b o h => rfl | exact fun b o h => (Below.trans DC (show Below wc.heap.size _ _ from (by (repeat (first | exact Below.refl _ _ | assumption | refine below_drewN ?_ _ | refine Below.drew ?_ | refine Below.setCell ?_ (by first | omega | (simp; done) | (simp; omega)) _ | refine Below.alloc ?_ (by first | omega | (simp; done) | (simp; omega)) _))))).cell (p := ⟨b, o, none⟩) h)
              (first
                | (refine step_append_sl rfl (.tmp 27) (.tmp 30) 25 rfl wc.heap.size 54 i0 (.agg #[.string ⟨#[]⟩, .int .i64 0, .int .i64 0, .int .i64 0, .int .i64 0, .int .i64 0, .slice none 0 0, .bool false, .int .i64 0, .slice none 0 0]) 10 120 Tryz.underlying25 hi hz0 hz1 hz2 rfl (by decide) (.slice none 0 0) 0 [] rfl (World.ownsRow_nil _ _ _ _) wc.heap.size _ _ _ (itCells (M.take k)) rfl (HTK.out.below (Below.trans DC (by (repeat (first | exact Below.refl _ _ | assumption | refine below_drewN ?_ _ | refine Below.drew ?_ | refine Below.setCell ?_ (by first | omega | (simp; done) | (simp; omega)) _ | refine Below.alloc ?_ (by first | omega | (simp; done) | (simp; omega)) _))))) (itCells_one _) (by unfold maxLen; omega) (by omega) (by first | exact Nat.le_refl _ | omega | (simp; done) | (simp; omega)) ?_; intro v1 w1 o1 g1 _; rw [Nat.zero_add, List.nil_append] at o1; obtain ⟨A1, c1, rfl⟩ := own_form o1; have E1 := Below.trans ((Below.refl (wc.heap.size + 1) (World.alloc wc _)).drew) (Below.grown (Below.refl (wc.heap.size + 1) (World.drew (World.alloc wc _))) g1 (by simp) (fun _ e => by cases e)); have sE := E1.size; (try simp at sE); have DC := Below.grown (Below.trans DC (show Below wc.heap.size _ _ from (by (repeat (first | exact Below.refl _ _ | assumption | refine below_drewN ?_ _ | refine Below.drew ?_ | refine Below.setCell ?_ (by first | omega | (simp; done) | (simp; omega)) _ | refine Below.alloc ?_ (by first | omega | (simp; done) | (simp; omega)) _))))) g1 (by first | exact Nat.le_refl _ | omega | (simp; done) | (simp; omega)) (fun _ e => by cases e); have kN := (fun b o (h : b < wc.heap.size) => DC.cell (p := ⟨b, o, none⟩) h); have sA := DC.size; clear g1)
                | (refine step_append_sl rfl (.tmp 27) (.tmp 30) 25 rfl wc.heap.size 54 i0 (.agg #[.string ⟨#[]⟩, .int .i64 0, .int .i64 0, .int .i64 0, .int .i64 0, .int .i64 0, .slice none 0 0, .bool false, .int .i64 0, .slice none 0 0]) 10 120 Tryz.underlying25 hi hz0 hz1 hz2 rfl (by decide) (.slice none 0 0) 0 [] rfl (World.ownsRow_nil _ _ _ _) wc.heap.size _ _ _ (itCells (M.take k)) rfl (HTK.out.below (Below.trans DC (by (repeat (first | exact Below.refl _ _ | assumption | refine below_drewN ?_ _ | refine Below.drew ?_ | refine Below.setCell ?_ (by first | omega | (simp; done) | (simp; omega)) _ | refine Below.alloc ?_ (by first | omega | (simp; done) | (simp; omega)) _))))) (itCells_one _) (by unfold maxLen; omega) (by omega) (by first | exact Nat.le_refl _ | omega | (simp; done) | (simp; omega)) ?_; intro v1 w1 o1 g1 _; rw [Nat.zero_add, List.nil_append] at o1; obtain ⟨A1, c1, rfl⟩ := own_form o1; have DC := Below.grown (Below.trans DC (show Below wc.heap.size _ _ from (by (repeat (first | exact Below.refl _ _ | assumption | refine below_drewN ?_ _ | refine Below.drew ?_ | refine Below.setCell ?_ (by first | omega | (simp; done) | (simp; omega)) _ | refine Below.alloc ?_ (by first | omega | (simp; done) | (simp; omega)) _))))) g1 (by first | exact Nat.le_refl _ | omega | (simp; done) | (simp; omega)) (fun _ e => by cases e); have kN := (fun b o (h : b < wc.heap.size) => DC.cell (p := ⟨b, o, none⟩) h); have sA := DC.size; clear g1)
                | (refine step_append_sl rfl (.tmp 31) (.tmp 36) 25 rfl wc.heap.size 54 i0 (.agg #[.string ⟨#[]⟩, .int .i64 0, .int .i64 0, .int .i64 0, .int .i64 0, .int .i64 0, .slice none 0 0, .bool false, .int .i64 0, .slice none 0 0]) 10 120 Tryz.underlying25 hi hz0 hz1 hz2 rfl (by decide) _ _ _ rfl (own_below o1 (Nat.le_refl _) (by (repeat (first | exact Below.refl _ _ | assumption | refine below_drewN ?_ _ | refine Below.drew ?_ | refine Below.setCell ?_ (by first | omega | (simp; done) | (simp; omega)) _ | refine Below.alloc ?_ (by first | omega | (simp; done) | (simp; omega)) _)))) _ _ 1 1 (itCells [x]) rfl (by first | exact slBuild (X := [x]) rfl rfl (by decide) (Below.refl _ _) | exact slBuild (X := [x]) rfl rfl (by decide) E1) (itCells_one _) (by unfold maxLen; omega) (by omega) (by first | exact Nat.le_refl _ | omega | (simp; done) | (simp; omega)) ?_; intro v2 w2 o2 g2 _; rw [← itCells_app] at o2; obtain ⟨A2, c2, rfl⟩ := own_form o2; have DC := Below.grown (Below.trans DC (show Below wc.heap.size _ _ from (by (repeat (first | exact Below.refl _ _ | assumption | refine below_drewN ?_ _ | refine Below.drew ?_ | refine Below.setCell ?_ (by first | omega | (simp; done) | (simp; omega)) _ | refine Below.alloc ?_ (by first | omega | (simp; done) | (simp; omega)) _))))) g2 (by first | exact Nat.le_refl _ | omega | (simp; done) | (simp; omega)) (fun g hg => Nat.le_trans (by first | exact Nat.le_refl _ | omega | (simp; done) | (simp; omega)) (own_base o1 hg)); have kN := (fun b o (h : b < wc.heap.size) => DC.cell (p := ⟨b, o, none⟩) h); have sA := DC.size; clear g2)
                | (refine step_append_sl rfl (.tmp 37) (.tmp 40) 25 rfl wc.heap.size 54 i0 (.agg #[.string ⟨#[]⟩, .int .i64 0, .int .i64 0, .int .i64 0, .int .i64 0, .int .i64 0, .slice none 0 0, .bool false, .int .i64 0, .slice none 0 0]) 10 120 Tryz.underlying25 hi hz0 hz1 hz2 rfl (by decide) _ _ _ rfl (own_below o2 (Nat.le_refl _) (by (repeat (first | exact Below.refl _ _ | assumption | refine below_drewN ?_ _ | refine Below.drew ?_ | refine Below.setCell ?_ (by first | omega | (simp; done) | (simp; omega)) _ | refine Below.alloc ?_ (by first | omega | (simp; done) | (simp; omega)) _)))) wc.heap.size _ _ _ (itCells (M.drop k)) rfl (HDR.out.below (Below.trans DC (by (repeat (first | exact Below.refl _ _ | assumption | refine below_drewN ?_ _ | refine Below.drew ?_ | refine Below.setCell ?_ (by first | omega | (simp; done) | (simp; omega)) _ | refine Below.alloc ?_ (by first | omega | (simp; done) | (simp; omega)) _))))) (itCells_one _) (by unfold maxLen; omega) (by omega) (by first | exact Nat.le_refl _ | omega | (simp; done) | (simp; omega)) ?_; intro v3 w3 o3 g3 _; rw [← itCells_app, show k + 1 + 0 = k + 1 from (by omega)] at o3; obtain ⟨A3, c3, rfl⟩ := own_form o3; have DC := Below.grown (Below.trans DC (show Below wc.heap.size _ _ from (by (repeat (first | exact Below.refl _ _ | assumption | refine below_drewN ?_ _ | refine Below.drew ?_ | refine Below.setCell ?_ (by first | omega | (simp; done) | (simp; omega)) _ | refine Below.alloc ?_ (by first | omega | (simp; done) | (simp; omega)) _))))) g3 (by first | exact Nat.le_refl _ | omega | (simp; done) | (simp; omega)) (fun g hg => Nat.le_trans (by first | exact Nat.le_refl _ | omega | (simp; done) | (simp; omega)) (own_base o2 hg)); have kN := (fun b o (h : b < wc.heap.size) => DC.cell (p := ⟨b, o, none⟩) h); have sA := DC.size; clear g3))
            all_goals
              go_wp2_with fail
              go_roundw
              case rel => exact ⟨k + 1, M.take k ++ [x] ++ M.drop k, A3, c3, by omega, Lib.hid (ins_len HM.out hp2), rfl, by go_num, Lib.hid (fun y => by rw [HX.out]; exact ins_mem HS.out), Lib.hid (own_more o3 hsz), Lib.hid (HB.out.trans (DC.mono hsz))⟩
              case measure => simp [Go.RowKit.intOf]; omega
          · have HDR : Hid (Sl wc wc.heap.size 10 (some ⟨g, p * 10, none⟩) (k - p) (c - p) (itCells (M.drop p))) := (Sl.of_own HR.out).drop_it HM.out (by omega) (.inr rfl)
            go_wp2_with fail
            have DC : Below wc.heap.size wc wc := Below.refl _ _
            go_region_held3 (fun w' => ∀ b o, b < wc.heap.size → w'.cell? ⟨b, o, none⟩ = wc.cell? ⟨b, o, none⟩) (first | exact kN | exact fun b o h => rfl | exact fun b o h => (Below.trans DC (show Below wc.heap.size _ _ from (by (repeat (first | exact Below.refl _ _ | assumption | refine below_drewN ?_ _ | refine Below.drew ?_ | refine Below.setCell ?_ (by first | omega | (simp; done) | (simp; omega)) _ | refine Below.alloc ?_ (by first | omega | (simp; done) | (simp; omega)) _))))).cell (p := ⟨b, o, none⟩) h)
              (first
                | (refine step_append_sl rfl (.tmp 27) (.tmp 30) 25 rfl wc.heap.size 54 i0 (.agg #[.string ⟨#[]⟩, .int .i64 0, .int .i64 0, .int .i64 0, .int .i64 0, .int .i64 0, .slice none 0 0, .bool false, .int .i64 0, .slice none 0 0]) 10 120 Tryz.underlying25 hi hz0 hz1 hz2 rfl (by decide) (.slice none 0 0) 0 [] rfl (World.ownsRow_nil _ _ _ _) wc.heap.size _ _ _ (itCells (M.take p)) rfl (HTK.out.below (Below.trans DC (by (repeat (first | exact Below.refl _ _ | assumption | refine below_drewN ?_ _ | refine Below.drew ?_ | refine Below.setCell ?_ (by first | omega | (simp; done) | (simp; omega)) _ | refine Below.alloc ?_ (by first | omega | (simp; done) | (simp; omega)) _))))) (itCells_one _) (by unfold maxLen; omega) (by omega) (by first | exact Nat.le_refl _ | omega | (simp; done) | (simp; omega)) ?_; intro v1 w1 o1 g1 _; rw [Nat.zero_add, List.nil_append] at o1; obtain ⟨A1, c1, rfl⟩ := own_form o1; have E1 := Below.trans ((Below.refl (wc.heap.size + 1) (World.alloc wc _)).drew) (Below.grown (Below.refl (wc.heap.size + 1) (World.drew (World.alloc wc _))) g1 (by simp) (fun _ e => by cases e)); have sE := E1.size; (try simp at sE); have DC := Below.grown (Below.trans DC (show Below wc.heap.size _ _ from (by (repeat (first | exact Below.refl _ _ | assumption | refine below_drewN ?_ _ | refine Below.drew ?_ | refine Below.setCell ?_ (by first | omega | (simp; done) | (simp; omega)) _ | refine Below.alloc ?_ (by first | omega | (simp; done) | (simp; omega)) _))))) g1 (by first | exact Nat.le_refl _ | omega | (simp; done) | (simp; omega)) (fun _ e => by cases e); have kN := (fun b o (h : b < wc.heap.size) => DC.cell (p := ⟨b, o, none⟩) h); have sA := DC.size; clear g1)
                | (refine step_append_sl rfl (.tmp 27) (.tmp 30) 25 rfl wc.heap.size 54 i0 (.agg #[.string ⟨#[]⟩, .int .i64 0, .int .i64 0, .int .i64 0, .int .i64 0, .int .i64 0, .slice none 0 0, .bool false, .int .i64 0, .slice none 0 0]) 10 120 Tryz.underlying25 hi hz0 hz1 hz2 rfl (by decide) (.slice none 0 0) 0 [] rfl (World.ownsRow_nil _ _ _ _) wc.heap.size _ _ _ (itCells (M.take p)) rfl (HTK.out.below (Below.trans DC (by (repeat (first | exact Below.refl _ _ | assumption | refine below_drewN ?_ _ | refine Below.drew ?_ | refine Below.setCell ?_ (by first | omega | (simp; done) | (simp; omega)) _ | refine Below.alloc ?_ (by first | omega | (simp; done) | (simp; omega)) _))))) (itCells_one _) (by unfold maxLen; omega) (by omega) (by first | exact Nat.le_refl _ | omega | (simp; done) | (simp; omega)) ?_; intro v1 w1 o1 g1 _; rw [Nat.zero_add, List.nil_append] at o1; obtain ⟨A1, c1, rfl⟩ := own_form o1; have DC := Below.grown (Below.trans DC (show Below wc.heap.size _ _ from (by (repeat (first | exact Below.refl _ _ | assumption | refine below_drewN ?_ _ | refine Below.drew ?_ | refine Below.setCell ?_ (by first | omega | (simp; done) | (simp; omega)) _ | refine Below.alloc ?_ (by first | omega | (simp; done) | (simp; omega)) _))))) g1 (by first | exact Nat.le_refl _ | omega | (simp; done) | (simp; omega)) (fun _ e => by cases e); have kN := (fun b o (h : b < wc.heap.size) => DC.cell (p := ⟨b, o, none⟩) h); have sA := DC.size; clear g1)
                | (refine step_append_sl rfl (.tmp 31) (.tmp 36) 25 rfl wc.heap.size 54 i0 (.agg #[.string ⟨#[]⟩, .int .i64 0, .int .i64 0, .int .i64 0, .int .i64 0, .int .i64 0, .slice none 0 0, .bool false, .int .i64 0, .slice none 0 0]) 10 120 Tryz.underlying25 hi hz0 hz1 hz2 rfl (by decide) _ _ _ rfl (own_below o1 (Nat.le_refl _) (by (repeat (first | exact Below.refl _ _ | assumption | refine below_drewN ?_ _ | refine Below.drew ?_ | refine Below.setCell ?_ (by first | omega | (simp; done) | (simp; omega)) _ | refine Below.alloc ?_ (by first | omega | (simp; done) | (simp; omega)) _)))) _ _ 1 1 (itCells [x]) rfl (by first | exact slBuild (X := [x]) rfl rfl (by decide) (Below.refl _ _) | exact slBuild (X := [x]) rfl rfl (by decide) E1) (itCells_one _) (by unfold maxLen; omega) (by omega) (by first | exact Nat.le_refl _ | omega | (simp; done) | (simp; omega)) ?_; intro v2 w2 o2 g2 _; rw [← itCells_app] at o2; obtain ⟨A2, c2, rfl⟩ := own_form o2; have DC := Below.grown (Below.trans DC (show Below wc.heap.size _ _ from (by (repeat (first | exact Below.refl _ _ | assumption | refine below_drewN ?_ _ | refine Below.drew ?_ | refine Below.setCell ?_ (by first | omega | (simp; done) | (simp; omega)) _ | refine Below.alloc ?_ (by first | omega | (simp; done) | (simp; omega)) _))))) g2 (by first | exact Nat.le_refl _ | omega | (simp; done) | (simp; omega)) (fun g hg => Nat.le_trans (by first | exact Nat.le_refl _ | omega | (simp; done) | (simp; omega)) (own_base o1 hg)); have kN := (fun b o (h : b < wc.heap.size) => DC.cell (p := ⟨b, o, none⟩) h); have sA := DC.size; clear g2)
                | (refine step_append_sl rfl (.tmp 37) (.tmp 40) 25 rfl wc.heap.size 54 i0 (.agg #[.string ⟨#[]⟩, .int .i64 0, .int .i64 0, .int .i64 0, .int .i64 0, .int .i64 0, .slice none 0 0, .bool false, .int .i64 0, .slice none 0 0]) 10 120 Tryz.underlying25 hi hz0 hz1 hz2 rfl (by decide) _ _ _ rfl (own_below o2 (Nat.le_refl _) (by (repeat (first | exact Below.refl _ _ | assumption | refine below_drewN ?_ _ | refine Below.drew ?_ | refine Below.setCell ?_ (by first | omega | (simp; done) | (simp; omega)) _ | refine Below.alloc ?_ (by first | omega | (simp; done) | (simp; omega)) _)))) wc.heap.size _ _ _ (itCells (M.drop p)) rfl (HDR.out.below (Below.trans DC (by (repeat (first | exact Below.refl _ _ | assumption | refine below_drewN ?_ _ | refine Below.drew ?_ | refine Below.setCell ?_ (by first | omega | (simp; done) | (simp; omega)) _ | refine Below.alloc ?_ (by first | omega | (simp; done) | (simp; omega)) _))))) (itCells_one _) (by unfold maxLen; omega) (by omega) (by first | exact Nat.le_refl _ | omega | (simp; done) | (simp; omega)) ?_; intro v3 w3 o3 g3 _; rw [← itCells_app, show p + 1 + (k - p) = k + 1 from (by omega)] at o3; obtain ⟨A3, c3, rfl⟩ := own_form o3; have DC := Below.grown (Below.trans DC (show Below wc.heap.size _ _ from (by (repeat (first | exact Below.refl _ _ | assumption | refine below_drewN ?_ _ | refine Below.drew ?_ | refine Below.setCell ?_ (by first | omega | (simp; done) | (simp; omega)) _ | refine Below.alloc ?_ (by first | omega | (simp; done) | (simp; omega)) _))))) g3 (by first | exact Nat.le_refl _ | omega | (simp; done) | (simp; omega)) (fun g hg => Nat.le_trans (by first | exact Nat.le_refl _ | omega | (simp; done) | (simp; omega)) (own_base o2 hg)); have kN := (fun b o (h : b < wc.heap.size) => DC.cell (p := ⟨b, o, none⟩) h); have sA := DC.size; clear g3))
            all_goals
              go_wp2_with fail
              go_roundw
              case rel => exact ⟨k + 1, M.take p ++ [x] ++ M.drop p, A3, c3, by omega, Lib.hid (ins_len HM.out hp2), rfl, by go_num, Lib.hid (fun y => by rw [HX.out]; exact ins_mem HS.out), Lib.hid (own_more o3 hsz), Lib.hid (HB.out.trans (DC.mono hsz))⟩
              case measure => simp [Go.RowKit.intOf]; omega
    · obtain rfl : k = L.length := by omega
      have hml := HM.out
      have HMS : Hid (∀ y, y ∈ M ↔ y ∈ L) := fun y => by have := HS.out y; rwa [List.take_length] at this
      have HSL := Lib.hid (Sl.of_own HR.out)
      have HNI : Hid (∀ y ∈ M, NIn wr y.n y.A y.c y.S y.sc) := fun y hy => (HI.out y ((HMS.out y).1 hy)).below HB.out
      clear hml
      by_cases h0 : 0 < L.length ∧ L.length < 62
      · obtain ⟨h1, h2⟩ := h0
        have i1' : (0 : Int) < (L.length : Int) := by omega
        have i2' : (L.length : Int) < 62 := by omega
        have hM0 : 0 < M.length := by have := HM.out; omega
        obtain ⟨g, off, rfl, hg, y0, y1, y2, y3, y4, y5, y6, y7, y8, y9⟩ := HSL.out.it_at hM0
        obtain ⟨rfl, _⟩ : off = 0 ∧ (none : Option Nat) = none := own_zero HR.out
        have HY := Lib.hid (HNI.out M[0] (List.getElem_mem hM0))
        have HYM := Lib.hid (List.getElem_mem hM0)
        obtain ⟨y, hy⟩ : ∃ y, y = M[0] := ⟨_, rfl⟩
        rw [← hy] at y0 y1 y2 y3 y4 y5 y6 y7 y8 y9 HY HYM
        have HYE := Lib.hid hy
        clear hy
        simp only [Nat.zero_mul, Nat.zero_add] at y0 y1 y2 y3 y4 y5 y6 y7 y8 y9
        go_wp2_with fail
        have HT : Hid (∀ W', Below (g + 1) wr W' → Ten W' g y) := fun W' hW => ten_of ⟨y0, y1, y2, y3, y4, y5, y6, y7, y8, y9⟩ fun o => hW.cell (p := ⟨g, o, none⟩) (Nat.lt_succ_self _)
        have hMl : 0 < (M ++ [y, (⟨⟨y.n.a, [(-1, 0)]⟩, y.A, y.c, some ⟨wr.heap.size, 0, none⟩, 1⟩ : It)]).length := by simp
        have HM9 : Hid ((M ++ [y, (⟨⟨y.n.a, [(-1, 0)]⟩, y.A, y.c, some ⟨wr.heap.size, 0, none⟩, 1⟩ : It)])[0] = y) := by show _ = _; rw [List.getElem_append_left hM0]; exact HYE.out.symm
        go_region_held3 (fun w' => w'.cell? ⟨g, 0, none⟩ = some (.string y.n.a.ev) ∧ w'.cell? ⟨g, 1, none⟩ = some (.int .i64 y.n.a.ver) ∧ w'.cell? ⟨g, 2, none⟩ = some (.int .i64 y.n.a.tm) ∧ w'.cell? ⟨g, 3, none⟩ = some (.int .i64 y.n.a.n) ∧ w'.cell? ⟨g, 4, none⟩ = some (.int .i64 y.n.a.of) ∧ w'.cell? ⟨g, 5, none⟩ = some (.int .i64 y.n.a.grid) ∧ w'.cell? ⟨g, 6, none⟩ = some (.slice y.A y.n.a.cells.length y.c) ∧ w'.cell? ⟨g, 7, none⟩ = some (.bool y.n.a.wd) ∧ w'.cell? ⟨g, 8, none⟩ = some (.int .i64 y.n.a.before) ∧ w'.cell? ⟨g, 9, none⟩ = some (.slice y.S y.n.sg.length y.sc)) (first | exact kM | exact HT.out _ (by (repeat (first | exact Below.refl _ _ | assumption | refine below_drewN ?_ _ | refine Below.drew ?_ | refine Below.setCell ?_ (by first | omega | (simp; done) | (simp; omega)) _ | refine Below.alloc ?_ (by first | omega | (simp; done) | (simp; omega)) _))))
          (first
            | (refine step_append_keep rfl (.tmp 51) (.tmp 62) 25 rfl w.heap.size 54 i0 (.agg #[.string ⟨#[]⟩, .int .i64 0, .int .i64 0, .int .i64 0, .int .i64 0, .int .i64 0, .slice none 0 0, .bool false, .int .i64 0, .slice none 0 0]) 10 120 Tryz.underlying25 hi hz0 hz1 hz2 rfl (by decide) g L.length c (itCells M) rfl (own_below HR.out (Nat.le_refl _) (by (repeat (first | exact Below.refl _ _ | assumption | refine below_drewN ?_ _ | refine Below.drew ?_ | refine Below.setCell ?_ (by first | omega | (simp; done) | (simp; omega)) _ | refine Below.alloc ?_ (by first | omega | (simp; done) | (simp; omega)) _)))) _ _ 2 2 (itCells [y, ⟨⟨y.n.a, [(-1, 0)]⟩, y.A, y.c, some ⟨wr.heap.size, 0, none⟩, 1⟩]) rfl (slBuild2 (w := wr.alloc _) rfl rfl (by decide) (by simp) rfl (Below.refl _ _).drew) (by decide) (itCells_one _) (by unfold maxLen; omega) (by omega) (by first | exact Nat.le_refl _ | omega | (simp; done) | (simp; omega)) ?_; intro v1 w1 o1 g1 hat1; rw [← itCells_app] at o1; obtain ⟨A1, c1, rfl⟩ := own_form o1; have kM := ten1 hMl HM9.out o1 g1 (by first | omega | (simp; done) | (simp; omega)) (HT.out _ (by (repeat (first | exact Below.refl _ _ | assumption | refine below_drewN ?_ _ | refine Below.drew ?_ | refine Below.setCell ?_ (by first | omega | (simp; done) | (simp; omega)) _ | refine Below.alloc ?_ (by first | omega | (simp; done) | (simp; omega)) _)))); have DC := Below.grown (show Below w.heap.size wr _ from (by (repeat (first | exact Below.refl _ _ | assumption | refine below_drewN ?_ _ | refine Below.drew ?_ | refine Below.setCell ?_ (by first | omega | (simp; done) | (simp; omega)) _ | refine Below.alloc ?_ (by first | omega | (simp; done) | (simp; omega)) _)))) g1 (by first | exact Nat.le_refl _ | omega | (simp; done) | (simp; omega)) (fun g hg => own_base o1 hg)))
        all_goals
          have hne : some wr.heap.size ≠ (Value.slice A1 (L.length + 2) c1).ownBlock := fun e => by
            rcases hat1 with h | h <;> rw [h] at e <;> simp at e <;> (try omega)
          have z0 : w1.cell? ⟨wr.heap.size, 0, none⟩ = some (.int .i64 (-1)) := by rw [g1.cell_far ⟨wr.heap.size, 0, none⟩ (by simp; omega) hne]; simp [go_sem]
          have z1 : w1.cell? ⟨wr.heap.size, 1, none⟩ = some (.int .i64 0) := by rw [g1.cell_far ⟨wr.heap.size, 1, none⟩ (by simp; omega) hne]; simp [go_sem]
          have hz9 : wr.heap.size < w1.heap.size := by have := g1.size; simp at this; omega
          have HBW := Lib.hid (HB.out.trans DC)
          have HZ0 := Lib.hid (And.intro z0 z1)
          have HO1 := Lib.hid o1
          clear z0 z1 o1 g1 hat1 hne DC kM HT HM9 hMl y0 y1 y2 y3 y4 y5 y6 y7 y8 y9
          go_wp2_with fail
          go_ret
          have hXl : (M ++ [y, (⟨⟨y.n.a, [(-1, 0)]⟩, y.A, y.c, some ⟨wr.heap.size, 0, none⟩, 1⟩ : It)]).length = L.length + 2 := by rw [List.length_append, HM.out]; rfl
          have hyL := (HMS.out y).1 HYM.out
          have hyN := (HI.out y hyL).below HBW.out
          refine ⟨M ++ [y, ⟨⟨y.n.a, [(-1, 0)]⟩, y.A, y.c, some ⟨wr.heap.size, 0, none⟩, 1⟩], A1, c1, ⟨fun x hx => List.mem_append_left _ ((HMS.out x).2 hx), fun x hx => ?_, .inr ⟨by rw [hXl]; omega, by omega⟩⟩, by show Ending.returned (.slice A1 (L.length + 2) c1) = _; rw [hXl], by rw [hXl]; exact Sl.of_own HO1.out, fun x hx => ?_, HBW.out⟩
          · rcases List.mem_append.1 hx with h | h
            · exact .inl ((HMS.out x).1 h)
            · rcases List.mem_cons.1 h with h | h
              · subst h; exact .inl hyL
              · obtain rfl := List.mem_singleton.1 h; exact .inr rfl
          · rcases List.mem_append.1 hx with h | h
            · exact (HI.out x ((HMS.out x).1 h)).below HBW.out
            · rcases List.mem_cons.1 h with h | h
              · subst h; exact hyN
              · obtain rfl := List.mem_singleton.1 h
                refine ⟨hyN.al, ⟨rfl, Nat.le_refl _, by show 1 ≤ maxLen; decide, fun e => (by cases e), fun _ => ⟨_, 0, rfl, hz9, fun j u hu => ?_⟩⟩⟩
                rcases j with _ | _ | j
                · simp [keyCells] at hu; subst hu; exact HZ0.out.1
                · simp [keyCells] at hu; subst hu; exact HZ0.out.2
                · simp [keyCells] at hu
      · have h3 : L.length = 0 ∨ 62 ≤ L.length := by omega
        clear h0
        rcases h3 with h3 | h3
        · have i1' : ¬ (0 : Int) < (L.length : Int) := by omega
          clear h3
          go_wp2_with fail
          go_ret
          exact ⟨M, A, c, ⟨fun y hy => (HMS.out y).2 hy, fun y hy => .inl ((HMS.out y).1 hy), .inl HM.out⟩, by show Ending.returned (.slice A L.length c) = _; rw [HM.out], by rw [HM.out]; exact HSL.out, HNI.out, HB.out⟩
        · have i1' : (0 : Int) < (L.length : Int) := by omega
          have i2' : ¬ (L.length : Int) < 62 := by omega
          go_wp2_with fail
          go_ret
          exact ⟨M, A, c, ⟨fun y hy => (HMS.out y).2 hy, fun y hy => .inl ((HMS.out y).1 hy), .inl HM.out⟩, by show Ending.returned (.slice A L.length c) = _; rw [HM.out], by rw [HM.out]; exact HSL.out, HNI.out, HB.out⟩
end Go.Proofs.YtohfofecbdfkgaaGreatDoor
