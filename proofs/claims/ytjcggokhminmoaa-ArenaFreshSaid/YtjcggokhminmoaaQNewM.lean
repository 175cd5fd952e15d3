/-
machine.New.
machine: the kit of the machine's own calls: its functions and methods.
machine: the kit of the machine's own calls, as a kit of tasks (ownK), and Own.
machine: the own kit keeps to what a kit's tasks are asked (ownK_ok).
-/
import Derived.Test.YtjcggokhminmoaaQMoveB
import Derived.Maps.Own
import Derived.Test.YtjcggokhminmoaaQMchS
import Derived.Laws.EntriesVeiled
namespace Go
open Go.RowKit
theorem MachAt.app_seat {w w1 : World} {base xb : Nat} {st : MachS} {v : MachV} (H : MachAt w base xb st v) (hon : st.on = none) {v' : Value} {x : Seat} (hown : w1.RowV base 125 5 v' (st.seats.length + 1) (seatC st.seats ++ x.cells)) (ho : RowOut w w1 v.vse v' st.seats.length 1) :
    MachOut w base xb v { st with seats := st.seats ++ [x] } (w1.setCell ⟨xb, 8, none⟩ v') := by
  have hn : ∀ k, v'.rowBlock = some k → v.vse.rowBlock = some k ∨ k = w.heap.size := fun k hk => ho.news hk
  have hlt := H.lt
  have hx := hlt xb (.inl rfl)
  have hc2 : ∀ k, v.col k ≠ 3 → v.vse.rowBlock ≠ some k := fun k hk e => hk (H.ce k e)
  have e2 : ({ st with seats := st.seats ++ [x] } : MachS).seatsNow = st.seats ++ [x] := by unfold MachS.seatsNow; simp only [hon]
  have e3 : ({ st with seats := st.seats ++ [x] } : MachS).callsNow = st.callsNow := by unfold MachS.callsNow; simp only [hon]
  have hblk : w1.heap[xb]? = some (.cells #[.pointer (some ⟨v.mb, 0, none⟩), .int .i64 st.d.th, .int .i64 st.d.now, st.callC v, st.toldC v, .bool st.d.used, v.vsh, v.kit, v.vse, .int .i64 st.moves, v.vca] 120) := by
    rw [ho.block hx.2 (hc2 _ (by rw [H.cx]; decide))]; exact H.blk
  have hne : ∀ k, v'.rowBlock = some k → k ≠ xb := fun k hk e => by
    rcases hn k hk with h1 | h1
    · exact H.ne k h1 e
    · omega
  refine ⟨{ v with vse := v', col := fun k => if w.heap.size ≤ k then 3 else v.col k }, ⟨?_, H.ge, ?_, ?_, ?_, ?_, ?_, ?_, ?_, ?_, ?_⟩, ?_, ?_, rfl, rfl⟩
  · simp [World.setCell, Array.getElem?_modify, hblk]
    unfold MachS.callC MachS.toldC
    simp only [hon]
    exact ⟨trivial, trivial⟩
  · exact (ho.mem H.mem (fun k hk => hc2 k (by rw [H.cm k hk]; decide))).set_other H.nm _
  · exact (ho.kept H.rsh (fun k hk => hc2 k (by rw [H.cs k hk]; decide))).set H.ns _
  · rw [e2, seatC_snoc, List.length_append]
    exact hown.set hne _
  · rw [e3]; exact (ho.kept H.rca (fun k hk => hc2 k (by rw [H.cc k hk]; decide))).set H.nc _
  · show (if _ then _ else _) = _
    rw [if_neg (by omega)]; exact H.cx
  · intro k e
    show (if _ then _ else _) = _
    rw [if_neg (by have := (H.mem.lt k e).2; omega)]; exact H.cm k e
  · intro k e
    show (if _ then _ else _) = _
    rw [if_neg (by have := (H.rsh.lt k e).2; omega)]; exact H.cs k e
  · intro k e
    show (if _ then _ else _) = _
    split
    · rfl
    · rcases hn k e with h1 | h1
      · exact H.ce k h1
      · omega
  · intro k e
    show (if _ then _ else _) = _
    rw [if_neg (by have := (H.rca.lt k e).2; omega)]; exact H.cc k e
  · exact (Only.out ho (fun k hk => .inr (.inr (.inr (.inl hk))))).set (.inl (.inl rfl)) _
  · rintro k (e | e | e | e | e)
    · exact .inl (.inl e)
    · exact .inl (.inr (.inl e))
    · exact .inl (.inr (.inr (.inl e)))
    · rcases hn k e with h1 | h1
      · exact .inl (.inr (.inr (.inr (.inl h1))))
      · exact .inr (by omega)
    · exact .inl (.inr (.inr (.inr (.inr e))))
/-- a new machine with k seats -/
def newS (l : List Int) (k : Nat) : MachS := { d := ⟨⟨l, [], [], 0⟩, [], false, 0, 0, 0, 0, 0⟩, on := none, seats := List.replicate k ⟨.nilIface, false, -1, 0, 0⟩, moves := 0, calls := [] }
def NewAt (w : World) (kit : Value) (l : List Int) (k xb : Nat) (wr : World) : Prop := ∃ v, MachAt wr w.heap.size xb (newS l k) v ∧ Only (fun _ => False) w wr ∧ v.kit = kit
theorem Only.own {F : Nat → Prop} {w wr w1 : World} (h : Only (fun _ => False) w wr) (k : Only F wr w1) (hF : ∀ i, F i → w.heap.size ≤ i) : Only (fun _ => False) w w1 :=
  h.trans k (fun i hi => .inr (hF i hi))
end Go
namespace Go.Proofs.Ytjcggokhminmoaa
open Go.ChangeShapes Go.WideShapes Go.ChangeAt Go.RowKit

theorem infoSeat : (Try.prog.info? 125).map (fun i => (i.zero, i.size, i.bytes)) = some (some (.agg #[.nilIface, .bool false, .int .i64 0, .int .i64 0, .int .i64 0]), 5, 48) := by kernel_rfl

theorem newm_bad {w : World} (n : Int) (vx kit : Value) (hn : n < 1 ∨ 16 < n) : Calls Try.prog 39 #[.int .i64 n, vx, kit] w fun e w' => e = .returned (.tuple #[.pointer none, .int .i64 1]) ∧ w = w' := by
  rcases hn with hn | hn
  · go_enter Try.func39, Try.ntmps39
    go_wp2
    go_ret2
    exact ⟨rfl, rfl⟩
  · have hn2 : decide (n < 1) = false := by simp; omega
    go_enter Try.func39, Try.ntmps39
    go_wp2
    go_ret2
    exact ⟨rfl, rfl⟩
theorem newm_long {w : World} (n : Int) (o : Option Addr) (m c : Nat) (kit : Value) (h1 : 1 ≤ n) (h16 : n ≤ 16) (hm : 8192 < m) (hm2 : m ≤ 9223372036854775807) : Calls Try.prog 39 #[.int .i64 n, .slice o m c, kit] w fun e w' => e = .returned (.tuple #[.pointer none, .int .i64 3]) ∧ w = w' := by
  have HL := Lib.hid (new_long (w := w) o m c hm hm2)
  have hn2 : decide (n < 1) = false := by simp; omega
  clear hm hm2
  go_enter Try.func39, Try.ntmps39
  go_wp2_with (go_at_call 60; refine HL.out.mono ?_; rintro e w1 ⟨rfl, rfl⟩)
  go_ret2
  exact ⟨rfl, rfl⟩

/-- what New leaves -/
def NewRes (w : World) (kit : Value) (l : List Int) (n : Nat) (e : Ending) (w' : World) : Prop := ∃ xb, e = .returned (.tuple #[.pointer (some ⟨xb, 0, none⟩), .int .i64 0]) ∧ NewAt w kit l n xb w'

set_option maxRecDepth 100000 in
set_option maxHeartbeats 2000000 in
theorem newm_ok {w : World} (n : Nat) {vx : Value} {km : Option Nat} {l : List Int} (hs : w.Src 1 vx l.length (u64s l)) (hl : l.length ≤ 8192) (h1 : 1 ≤ n) (h16 : n ≤ 16) :
    Calls Try.prog 39 #[.int .i64 (n : Int), vx, .map km] w (NewRes w (.map km) l n) := by
  have HN := Lib.hid (new_ok hs hl)
  have hn2 : decide ((n : Int) < 1) = false := by simp; omega
  obtain ⟨i0, ii, iz0, iz1, iz2⟩ := info_parts infoSeat
  have HII := Lib.hid ii
  have HZ0 := Lib.hid iz0
  have HZ1 := Lib.hid iz1
  have HZ2 := Lib.hid iz2
  have S1 := Lib.hid (show ∀ u ∈ [Value.nilIface, .bool false, .int .i64 (-1), .int .i64 0, .int .i64 0], u.oneCell' = true by simp [Value.oneCell'])
  clear hs ii iz0 iz1 iz2
  go_enter Try.func39, Try.ntmps39
  go_wp2_with (go_at_call 60; refine HN.out.mono ?_; rintro e w1 ⟨mb, mv, rfl, hm, ho⟩; have HM := Lib.hid hm; have HO := Lib.hid ho; clear hm ho)
  go_loopg [31] n (fun g sl wr => ∃ k : Nat, k ≤ n ∧ n ≤ k + g ∧ sl = .int .i64 (k : Int) ∧ Hid (NewAt w (.map km) l k w1.heap.size wr))
  case atStart =>
    refine ⟨0, by omega, by omega, by go_num, Lib.hid ?_⟩
    have hlt := HM.out.lt
    have hsz := HO.out.size
    refine ⟨⟨mb, mv, .slice none 0 0, .slice none 0 0, .slice none 0 0, .map km, fun k => if k = w1.heap.size then 0 else 1⟩, ⟨heap_alloc_new w1 _, hsz, HM.out.alloc _, World.RowV_none _ _ _ _ _, World.RowV_none _ _ _ _ _, World.RowV_none _ _ _ _ _, by simp, ?_, by simp [Value.rowBlock], by simp [Value.rowBlock], by simp [Value.rowBlock]⟩, HO.out.alloc _, rfl⟩
    intro k hk
    have := (hlt k hk).2
    simp; omega
  case round =>
    obtain ⟨k, hk1, hk2, rfl, hN⟩ := hrel
    by_cases hlt : k < n
    · obtain ⟨v, hA, hO, hKi⟩ := hN.out
      obtain ⟨c0, c1, c2, c3, c4, c5, c6, c7, c8, c9, c10, z, lt⟩ := hA.head
      have S2 := Lib.hid (show (newS l k).seats.length + 1 ≤ maxLen by simp [newS, maxLen]; omega)
      have S3 := Lib.hid (show (((newS l k).seats.length + 1) + ((newS l k).seats.length + 1) / 4 + 192) * 48 ≤ 281474976710656 by simp [newS]; omega)
      have HA := Lib.hid hA
      have HOO := Lib.hid hO
      have HKi := Lib.hid hKi
      have hnx : v.vse.rowBlock ≠ some w1.heap.size := fun e => HA.out.ne _ e rfl
      clear c0 c1 c2 c3 c4 c5 c6 c7 c9 c10 hA hO hKi hN
      go_wp2_with (at_builtin; refine wpList_append_row _ rfl _ _ 118 rfl w.heap.size 125 i0 _ 5 48 Try.underlying118 HII.out HZ0.out HZ1.out HZ2.out rfl v.vse (newS l k).seats.length (seatC (newS l k).seats) rfl (HA.out.rse.alloc _) _ 1 _ rfl (World.Src.one rfl rfl) S1.out S2.out S3.out (by have := HA.out.base_le; simp; omega) ?_; intro v' w3 hown hout; obtain ⟨o', c', rfl, hn', hm'⟩ := hown.form; have hx3 := hout.block (k := w1.heap.size) (by have := lt; simp; omega) hnx; have r8 : w3.cell? ⟨w1.heap.size, 8, none⟩ = some v.vse := (World.cell?_of_block hx3).trans (HA.out.alloc _).head.2.2.2.2.2.2.2.2.1; have rz : ∀ j, w3.frozen? ⟨w1.heap.size, j, none⟩ = false := fun j => (World.frozen?_of_block hx3).trans ((HA.out.alloc _).head.2.2.2.2.2.2.2.2.2.2.2.1 j); have rlt : w1.heap.size < w3.heap.size := Nat.lt_of_lt_of_le (by have := lt; simp; omega) hout.size; have HWN := Lib.hid hown; have HOU := Lib.hid hout; clear hown hout hm' hx3)
      go_roundg (n - (k + 1))
      case measure => omega
      case rel =>
        refine ⟨k + 1, by omega, by omega, by go_num, Lib.hid ?_⟩
        obtain ⟨v4, k1, k2, k3, e3, e4⟩ := MachAt.app_seat (x := ⟨.nilIface, false, -1, 0, 0⟩) (HA.out.alloc _) rfl HWN.out HOU.out
        refine ⟨v4, ?_, ?_, by rw [e4]; exact HKi.out⟩
        · have : (newS l (k + 1)) = { newS l k with seats := (newS l k).seats ++ [⟨.nilIface, false, -1, 0, 0⟩] } := by unfold newS; rw [List.replicate_succ']
          rw [this]
          exact k1
        · exact (HOO.out.alloc _).own k2 (fun i hi => (HA.out.lt i hi).1)
    · obtain rfl : k = n := by omega
      go_wp2
      go_ret2
      exact ⟨_, rfl, hN.out⟩
end Go.Proofs.Ytjcggokhminmoaa
namespace Go
open Go.RowKit
/-- a step that tells: point, answer -/
def DeskS.tell (d : DeskS) (x : Int) : DeskS := { d with pt := d.now, ak := 2, av := wrap64 x }
end Go
namespace Go.Proofs.Ytjcggokhminmoaa
open Go.ChangeShapes Go.WideShapes Go.ChangeAt Go.RowKit

/-- what a maker of the own kit leaves -/
def OwnMade (w : World) (ok : Bool) (T : TypeId) (o : Obj) (e : Ending) (w' : World) : Prop :=
  (ok = false ∧ e = .returned .nilIface ∧ Only (fun _ => False) w w') ∨ (ok = true ∧ ∃ k, w.heap.size ≤ k ∧ e = .returned (.iface T (.pointer (some ⟨k, 0, none⟩))) ∧ w'.heap[k]? = some o ∧ Only (fun _ => False) w w')

end Go.Proofs.Ytjcggokhminmoaa
namespace Go
open Go.RowKit
inductive Tk where
  | look (a : Int)
  | bump (a saw : Int) (ld : Bool)
deriving DecidableEq
def Tk.step (t : Tk) (d : DeskS) : Tk × DeskS × Bool := match t with
  | .look a => (.look a, (d.load a).tell (d.word a), true)
  | .bump a _ false => (.bump a (d.word a) true, d.load a, false)
  | .bump a saw true => if d.swaps a saw then (.bump a saw true, (d.swap a saw (IntKind.u64.wrap (saw + 1))).tell saw, true) else (.bump a saw false, d.swap a saw (IntKind.u64.wrap (saw + 1)), false)
def ownMake (size : Int) (mv : Mv) : Option Tk := if (decide (0 ≤ mv.arg) && decide (mv.arg < size)) = true then (if mv.op = 1 then some (.look mv.arg) else if mv.op = 2 then some (.bump mv.arg 0 false) else none) else none
theorem tstep_few (t : Tk) (d : DeskS) : (t.step d).2.1.mem.log.length ≤ d.mem.log.length + 2 ∧ (t.step d).2.1.mem.ahead.length ≤ d.mem.ahead.length + 2 ∧ (t.step d).2.1.shifts = d.shifts ∧ (t.step d).2.1.th = d.th ∧ (t.step d).2.1.now = d.now := by
  cases t with
  | look a =>
    have := dload_len d a
    exact ⟨by show (d.load a).mem.log.length ≤ _; omega, by show (d.load a).mem.ahead.length ≤ _; omega, this.2.2.1, this.2.2.2.1, this.2.2.2.2⟩
  | bump a saw ld =>
    cases ld with
    | false =>
      have := dload_len d a
      exact ⟨by show (d.load a).mem.log.length ≤ _; omega, by show (d.load a).mem.ahead.length ≤ _; omega, this.2.2.1, this.2.2.2.1, this.2.2.2.2⟩
    | true =>
      have := dswap_len d a saw (IntKind.u64.wrap (saw + 1))
      unfold Tk.step
      simp only
      split
      · exact ⟨by show (d.swap a saw _).mem.log.length ≤ _; omega, by show (d.swap a saw _).mem.ahead.length ≤ _; omega, this.2.2.1, this.2.2.2.1, this.2.2.2.2⟩
      · exact ⟨by show (d.swap a saw _).mem.log.length ≤ _; omega, by show (d.swap a saw _).mem.ahead.length ≤ _; omega, this.2.2.1, this.2.2.2.1, this.2.2.2.2⟩
end Go
namespace Go.Proofs.Ytjcggokhminmoaa
open Go.ChangeShapes Go.WideShapes Go.ChangeAt Go.RowKit
end Go.Proofs.Ytjcggokhminmoaa
namespace Go
open Go.RowKit
theorem Only.two {F G : Nat → Prop} {w w' : World} (h : Only F w w') (hG : ∀ k, F k → G k) : Only G w w' := h.mono fun k _ hk => hG k hk

section
variable {w w' : World} {b : Nat} {size : Int} {kit : Value} {vs : List Value} {ts : List (Option Tk)} {F : Nat → Prop} {kb sb tb : Nat} {col blk : Nat → Nat}
end

end Go
namespace Go.Proofs.Ytjcggokhminmoaa
open Go.ChangeShapes Go.WideShapes Go.ChangeAt Go.RowKit
theorem TaskOut.ofDesk {K : Kits} (hK : KitsOk K) {w w' : World} {base xb i : Nat} {st : MachS} {v : MachV} {vs : List Value} {s : K.S} {ts : List (Option K.T)} {F : Nat → Prop} {r : K.S × K.T × DeskS × Bool} (H : MK K w base xb st v vs s ts F)
    (hd : DeskOut w base xb v { st with d := r.2.2.1 } w') (hA : K.At w' base v.kit vs r.1 (ts.set i (some r.2.1)) F) : TaskOut K w base xb st v vs ts F i r (.returned (.bool r.2.2.2)) w' := by
  obtain ⟨v1, h1, h2, h3, e1, e2, e3, e4⟩ := hd
  refine ⟨rfl, v1, F, ⟨h1, by rw [e4]; exact hA, fun k hk ho => ?_, H.tasks, by simp [H.len]⟩, h2.mono (fun k _ hk => .inl hk), h3, fun k hk => .inl hk, e1, e2, e3, e4⟩
  rcases h3 k ho with h | h
  · exact H.sep k hk h
  · have := (hK.lt H.k k hk).2; omega

end Go.Proofs.Ytjcggokhminmoaa
