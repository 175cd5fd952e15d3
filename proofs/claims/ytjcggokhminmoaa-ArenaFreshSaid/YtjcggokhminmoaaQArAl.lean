/-
Arena laws, plain: a thread alone ends within so many steps (aNeed, restN). Plain.
A machine with an arena, beside blocks of others (TabF); reclaimlaw04: table, rest, num, awake.
Lists of moves that are laid anew (mvsC): as a source, as a row.
-/
import Derived.Test.YtjcggokhminmoaaQArKn
import Derived.Test.YtjcggokhminmoaaQMvA
import Derived.Test.YtjcggokhminmoaaQArPl
namespace Go
open Go.RowKit
open Go.Proofs.Ytjcggokhminmoaa
variable {ab : Nat}

def headNeed (at' : Int) (same : Bool) : Nat := if at' = 1 then 3 else if at' = 2 then (if same then 2 else 5) else (if same then 1 else 4)
/-- how many steps a task needs at most, if its thread alone makes steps -/
def aNeed (W : List Int) (s : ArS) (i : Nat) (rd : Bool) : ATk → Nat
  | .take q => headNeed q.at' (decide (wHead W = q.head))
  | .give p => headNeed p.at' (decide (wHead W = p.head))
  | .flush p => if rd then headNeed p.at' (decide (wHead W = p.head)) + 3 * (((s.caches[i]?).getD []).length - 1) else (if ((s.caches[i]?).getD []).length = 0 then 1 else 3 * ((s.caches[i]?).getD []).length)
theorem headNeed_pos (a : Int) (b : Bool) : 1 ≤ headNeed a b ∧ headNeed a b ≤ 5 := by unfold headNeed; (repeat' split) <;> omega
theorem aNeed_pos (W : List Int) (s : ArS) (i : Nat) (rd : Bool) (tk : ATk) : 1 ≤ aNeed W s i rd tk := by
  cases tk with
  | take q => exact (headNeed_pos _ _).1
  | give q => exact (headNeed_pos _ _).1
  | flush q =>
    unfold aNeed
    cases rd with
    | true => simp only [if_true]; have := (headNeed_pos q.at' (decide (wHead W = q.head))).1; omega
    | false => simp only [Bool.false_eq_true, if_false]; split <;> omega
theorem aNeed_le (W : List Int) (s : ArS) (i : Nat) (rd : Bool) (tk : ATk) : (tk.op ≠ 12 → aNeed W s i rd tk ≤ 5) ∧ (rd = true → ∀ c, s.caches[i]? = some c → 1 ≤ c.length → aNeed W s i rd tk ≤ 3 * c.length + 2 ∨ tk.op ≠ 12) ∧ (rd = false → ∀ c, s.caches[i]? = some c → aNeed W s i rd tk ≤ 3 * c.length + 1 ∨ tk.op ≠ 12) := by
  cases tk with
  | take q => exact ⟨fun _ => (headNeed_pos _ _).2, fun _ _ _ _ => .inr (by simp [ATk.op]), fun _ _ _ => .inr (by simp [ATk.op])⟩
  | give q => exact ⟨fun _ => (headNeed_pos _ _).2, fun _ _ _ _ => .inr (by simp [ATk.op]), fun _ _ _ => .inr (by simp [ATk.op])⟩
  | flush q =>
    refine ⟨fun h => absurd rfl h, fun hr c hc hl => .inl ?_, fun hr c hc => .inl ?_⟩
    · subst hr
      unfold aNeed
      rw [hc]
      have := (headNeed_pos q.at' (decide (wHead W = q.head))).2
      simp only [if_true, Option.getD_some]
      omega
    · subst hr
      unfold aNeed
      rw [hc]
      simp only [Bool.false_eq_true, if_false, Option.getD_some]
      split <;> omega
section
variable {W : List Int} {s : ArS} {ts : Nat → Option (Bool × ATk)} {mv i : Nat} {rd : Bool} {tk : ATk} {o : AOut}
theorem astep_need (H : AInv W s ts mv) (ho : AStep W s i rd tk o) {t2 : ATk} (h2 : o.tk = some t2) : aNeed o.W o.s i true t2 + 1 ≤ aNeed W s i rd tk := by
  obtain ⟨n1, n2, n3, n4, n5, n6, n7, n8, n9, n10, n11⟩ := ok_small H.ok
  have hlay : ∀ (c d : List Int), s.caches[i]? = some c → (s.caches.set i d)[i]? = some d := fun c d hc => List.getElem?_set_self (List.getElem?_eq_some_iff.1 hc).1
  cases ho with
  | takeCached => cases h2
  | @takeLoad _ q hr hq hx => cases h2; simp [aNeed, headNeed, hq]
  | takeFull => cases h2
  | @takeNext q k hq hk hl => cases h2; simp only [aNeed, headNeed, hq]; by_cases e : wHead W = q.head <;> simp [e]
  | takeYes => cases h2
  | @takeNo q hq hne => cases h2; simp [aNeed, headNeed, hq, hne]
  | giveCached => cases h2
  | @giveLoad _ p hr hp => cases h2; simp [aNeed, headNeed, hp]
  | @giveStore p k hp hk hkl => cases h2; simp only [aNeed, headNeed, hp, wHead_set_spare n5]; by_cases e : wHead W = p.head <;> simp [e]
  | giveYes => cases h2
  | @giveNo p hp hne => cases h2; simp [aNeed, headNeed, hp, hne]
  | flushEmpty => cases h2
  | @flushFirst p c k hc => cases h2; simp [aNeed, headNeed, hc]; omega
  | @flushLoad p hp => cases h2; simp [aNeed, headNeed, hp]; omega
  | @flushStore p k hp hk hkl => cases h2; simp only [aNeed, headNeed, hp, wHead_set_spare n5]; by_cases e : wHead W = p.head <;> simp [e] <;> omega
  | flushLast => cases h2
  | @flushMore p c k k2 hp hk hkl he hc =>
    cases h2
    simp [aNeed, headNeed, hp, he, hc, ArS.lay, ArS.put, hlay _ _ hc]
    omega
  | @flushNo p hp hne => cases h2; simp [aNeed, headNeed, hp, hne]; omega
end

def stepMv (i : Int) : Mv := ⟨i, 0, 0, 0⟩
/-- a thread's call is stepped to its end, m steps at most -/
def restN (p : PM (arK ab)) (i : Int) : Nat → PM (arK ab)
  | 0 => p
  | m + 1 => if p.busyB i then restN (p.move (stepMv i)).1 i m else p
theorem restN_idle (p : PM (arK ab)) (i : Int) (m : Nat) (h : p.busyB i = false) : restN p i m = p := by
  cases m with
  | zero => rfl
  | succ m => simp [restN, h]
theorem busyB_iff (p : PM (arK ab)) (i : Nat) : p.busyB (i : Int) = true ↔ ∃ (se : PSeat ATk) (t : ATk), p.seats[i]? = some se ∧ se.task = some t := by
  unfold PM.busyB
  rw [if_neg (by omega), Int.toNat_natCast]
  cases hs : p.seats[i]? with
  | none => exact ⟨fun h => (by cases h), fun ⟨se2, t, h1, h2⟩ => (by cases h1)⟩
  | some se =>
    cases ht : se.task with
    | none => exact ⟨fun h => (by simp only [ht] at h; cases h), fun ⟨se2, t, h1, h2⟩ => (by cases h1; rw [ht] at h2; cases h2)⟩
    | some t => exact ⟨fun _ => ⟨se, t, rfl, ht⟩, fun _ => (by simp only [ht]; rfl)⟩
theorem busyB_out (p : PM (arK ab)) (i : Int) (h : i < 0 ∨ (p.seats.length : Int) ≤ i) : p.busyB i = false := by
  unfold PM.busyB
  rcases h with h | h
  · rw [if_pos h]
  · by_cases h0 : i < 0
    · rw [if_pos h0]
    · rw [if_neg h0, List.getElem?_eq_none (by omega)]
/-- the step of a busy thread -/
theorem step_move {p : PM (arK ab)} (hm : p.moves < 65536) {i : Nat} {se : PSeat ATk} {t : ATk} (hs : p.seats[i]? = some se) (ht : se.task = some t) : p.move (stepMv i) = (p.step i se t, true) := by
  unfold PM.move stepMv
  rw [if_neg (by omega)]
  simp only [Int.toNat_natCast]
  rw [if_neg (by omega)]
  simp only [hs, ht, if_true]
/-- what holds of a thread's run alone, and that it ends -/
theorem rest_ind {I : PM (arK ab) → Prop} {i : Nat} (hI : ∀ q se t o, AH q → q.seats[i]? = some se → se.task = some t → PStepA q i se t o → I q → I (q.step i se t)) :
    ∀ (m : Nat) {p : PM (arK ab)}, AH p → I p → p.moves + m ≤ 65536 → (∀ se t, p.seats[i]? = some se → se.task = some t → aNeed p.words p.s i se.ready t ≤ m) →
      AH (restN p i m) ∧ I (restN p i m) ∧ (restN p i m).busyB i = false ∧ (restN p i m).moves ≤ p.moves + m := by
  intro m
  induction m with
  | zero =>
    intro p hA hIp hm hn
    refine ⟨hA, hIp, ?_, Nat.le_refl _⟩
    rw [Bool.eq_false_iff]
    intro hb
    obtain ⟨se, t, hs, ht⟩ := (busyB_iff p i).1 hb
    have := hn se t hs ht
    have := aNeed_pos p.words p.s i se.ready t
    omega
  | succ m ih =>
    intro p hA hIp hm hn
    cases hb : p.busyB i with
    | false => rw [restN_idle p i _ hb]; exact ⟨hA, hIp, hb, by omega⟩
    | true =>
      obtain ⟨se, t, hs, ht⟩ := (busyB_iff p i).1 hb
      obtain ⟨o, k⟩ := pm_astep hA.pa hs ht
      have e1 : restN p i (m + 1) = restN (p.step i se t) i m := by
        show (if p.busyB i then restN (p.move (stepMv i)).1 i m else p) = _
        rw [hb, if_pos rfl, step_move (by omega) hs ht]
      rw [e1]
      have hi := (List.getElem?_eq_some_iff.1 hs).1
      have h1 := hA.step (by omega) hs ht k
      obtain ⟨a, b, c, d⟩ := ih h1 (hI p se t o hA hs ht k hIp) (by rw [k.moves]; omega) (fun se2 t2 hs2 ht2 => by
        rw [k.seats, List.getElem?_set_self hi] at hs2
        cases hs2
        simp only at ht2
        rw [k.words, k.s]
        have h1 := astep_need hA.pa.inv k.st ht2
        have h2 := hn se t hs ht
        show aNeed o.W o.s i true t2 ≤ m
        omega)
      exact ⟨a, b, c, by rw [k.moves] at d; omega⟩
/-- the bound that the law asks: 5, or 3 for each slot of the cache and 3 -/
theorem need_most {p : PM (arK ab)} (hA : PA p) {i : Nat} {se : PSeat ATk} {t : ATk} (hs : p.seats[i]? = some se) (ht : se.task = some t) : aNeed p.words p.s i se.ready t ≤ if t.op = 12 then 3 * (p.s.cache i).length + 3 else 5 := by
  have hts := pmTs_of hs ht
  obtain ⟨hil, hT⟩ := hA.inv.task i se.ready t hts
  have hc : p.s.caches[i]? = some p.s.caches[i] := List.getElem?_eq_getElem hil
  rw [(cache_eq hc).1]
  obtain ⟨h1, h2, h3⟩ := aNeed_le p.words p.s i se.ready t
  by_cases e : t.op = 12
  · rw [if_pos e]
    cases hr : se.ready with
    | false =>
      rcases h3 hr _ hc with h | h
      · rw [hr] at h; omega
      · exact absurd e h
    | true =>
      have hl : 1 ≤ p.s.caches[i].length := by
        cases t with
        | take q => cases e
        | give q => cases e
        | flush q =>
          obtain ⟨_, c, k, hck, _⟩ := hT.2 hr
          rw [Option.some.inj (hc.symm.trans hck)]
          simp
      rcases h2 hr _ hc hl with h | h
      · rw [hr] at h; omega
      · exact absurd e h
  · rw [if_neg e]
    exact h1 e
end Go
namespace Go.Proofs.Ytjcggokhminmoaa
open Go.ChangeShapes Go.WideShapes Go.ChangeAt Go.RowKit Go.Shelf

/-- the machine, all of it new since w0; the blocks G are not its own -/
structure TabF (ab : Nat) (w0 : World) (xb : Nat) (kit : Value) (p : PM (arK ab)) (G : Nat → Prop) (F : Nat → Prop) (wr : World) : Prop where
  m : PMAt (arK ab) wr w0.heap.size xb p kit F
  on : Only (fun k => w0.heap.size ≤ k) w0 wr
  out : ∀ k, G k → ¬ F k ∧ k < wr.heap.size
def TabI (ab : Nat) (w0 : World) (xb : Nat) (kit : Value) (p : PM (arK ab)) (G : Nat → Prop) (wr : World) : Prop := ∃ F, TabF ab w0 xb kit p G F wr
section
variable {ab xb : Nat} {w0 wr w' : World} {kit : Value} {p : PM (arK ab)} {G G' : Nat → Prop}
theorem TabI.lt (h : TabI ab w0 xb kit p G wr) {k : Nat} (hk : G k) : k < wr.heap.size := by
  obtain ⟨F, h⟩ := h
  exact (h.out k hk).2
theorem TabI.on (h : TabI ab w0 xb kit p G wr) : Only (fun _ => False) w0 wr := by
  obtain ⟨F, h⟩ := h
  exact ⟨h.on.os, h.on.tape, h.on.output, h.on.size, fun k hk _ => h.on.block k hk (by omega)⟩
/-- what leaves the machine's blocks, and brings new ones perhaps -/
theorem TabI.other (h : TabI ab w0 xb kit p G wr) {H : Nat → Prop} (ho : Only H wr w') (hH : ∀ k, H k → k < wr.heap.size → G k) (hH0 : ∀ k, H k → w0.heap.size ≤ k) (hG : ∀ k, G' k → G k ∨ (wr.heap.size ≤ k ∧ k < w'.heap.size)) : TabI ab w0 xb kit p G' w' := by
  obtain ⟨F, h⟩ := h
  have hF : ∀ k, F k → k < wr.heap.size := fun k hk => (h.m.lt (arK_ok ab) k hk).2
  have hs := ho.size
  refine ⟨F, h.m.of_block (arK_ok ab) fun k hk => ho.block k (hF k hk) (fun x => (h.out k (hH k x (hF k hk))).1 hk), h.on.trans ho (fun k hk => .inl (hH0 k hk)), fun k hk => ?_⟩
  rcases hG k hk with h1 | h1
  · have := h.out k h1
    exact ⟨this.1, by omega⟩
  · exact ⟨fun x => by have := hF k x; omega, h1.2⟩
theorem TabI.only (h : TabI ab w0 xb kit p G wr) (ho : Only (fun _ => False) wr w') : TabI ab w0 xb kit p G w' := h.other ho (fun _ x => x.elim) (fun _ x => x.elim) (fun _ x => .inl x)
theorem TabI.set (h : TabI ab w0 xb kit p G wr) {b o : Nat} (hb : G b) (hb0 : w0.heap.size ≤ b) (u : Value) : TabI ab w0 xb kit p G (wr.setCell ⟨b, o, none⟩ u) :=
  h.other (H := fun k => k = b) (Only.set (F := fun k => k = b) (Only.refl _ wr) (p := ⟨b, o, none⟩) (.inl rfl) u) (fun k hk _ => by rw [hk]; exact hb) (fun k hk => by rw [hk]; exact hb0) (fun _ x => .inl x)
theorem TabI.mono (h : TabI ab w0 xb kit p G wr) (hG : ∀ k, G' k → G k) : TabI ab w0 xb kit p G' wr := h.other (Only.refl (fun _ => False) _) (fun _ x => x.elim) (fun _ x => x.elim) (fun k x => .inl (hG k x))
/-- a move -/
def TabMv (ab : Nat) (w0 : World) (xb : Nat) (kit : Value) (p : PM (arK ab)) (G : Nat → Prop) (wr : World) (mv : Mv) (e : Ending) (w' : World) : Prop := e = .returned (.bool (p.move mv).2) ∧ TabI ab w0 xb kit (p.move mv).1 G w' ∧ ∀ k, G k → w'.heap[k]? = wr.heap[k]?
theorem tab_move (h : TabI ab w0 xb kit p G wr) (hG : p.Good) (mv : Mv) : Calls Try.prog 21 #[.pointer (some ⟨xb, 0, none⟩), mv.v] wr (TabMv ab w0 xb kit p G wr mv) := by
  obtain ⟨F, h⟩ := h
  refine (pm_move (arK_ok ab) hG h.m mv).mono ?_
  rintro e w' ⟨he, F', h1, h2, h3⟩
  have hs := h2.size
  refine ⟨he, ⟨F', h1, h.on.trans h2 (fun i hi => .inl (h.m.lt (arK_ok ab) i hi).1), fun k hk => ?_⟩, fun k hk => h2.block k (h.out k hk).2 (h.out k hk).1⟩
  have hk' := h.out k hk
  refine ⟨fun x => ?_, by omega⟩
  rcases h3 k x with h4 | h4
  · exact hk'.1 h4
  · omega
theorem tab_busy (h : TabI ab w0 xb kit p G wr) (hG : p.Good) (t : Int) : Calls Try.prog 25 #[.pointer (some ⟨xb, 0, none⟩), .int .i64 t] wr fun e w' => e = .returned (.bool (p.busyB t)) ∧ Below wr.heap.size wr w' := by
  obtain ⟨F, h⟩ := h
  exact busy_at (arK_ok ab) hG h.m t
theorem tab_call (h : TabI ab w0 xb kit p G wr) (hG : p.Good) (t : Int) : Calls Try.prog 26 #[.pointer (some ⟨xb, 0, none⟩), .int .i64 t] wr fun e w' => e = .returned (.tuple #[(p.callR t).1.v, .bool (p.callR t).2]) ∧ Below wr.heap.size wr w' := by
  obtain ⟨F, h⟩ := h
  exact call_at hG h.m t
theorem tab_run (h : TabI ab w0 xb kit p G wr) (hG : p.Good) (hw : p.words.length ≤ 1000000) : Calls Try.prog 30 #[.pointer (some ⟨xb, 0, none⟩)] wr (RunRes wr p.run) := by
  obtain ⟨F, h⟩ := h
  exact pm_run hG h.m hw
theorem tab_arena (h : TabI ab w0 xb kit p G wr) : ∃ av, ArAt wr w0.heap.size ab p.s av ∧ ∀ k, G k → ¬ av.own ab k := by
  obtain ⟨F, h⟩ := h
  obtain ⟨av, h1, h2⟩ := arAt_of h.m
  exact ⟨av, h1, fun k hk x => (h.out k hk).1 (h2 k x)⟩
theorem tab_lt (h : TabI ab w0 xb kit p G wr) : w0.heap.size ≤ wr.heap.size := by
  obtain ⟨F, h⟩ := h
  exact h.on.size
end
/-- the block of a Table -/
def tabO (a0 a1 a2 a3 a4 a5 a6 : Int) (ab xb : Nat) : Obj := .cells #[.int .i64 a0, .int .i64 a1, .int .i64 a2, .int .i64 a3, .int .i64 a4, .int .i64 a5, .int .i64 a6, .pointer (some ⟨ab, 0, none⟩), .pointer (some ⟨xb, 0, none⟩)] 61 (0, 0)
theorem boxT {w : World} {b : Nat} {a0 a1 a2 a3 a4 a5 a6 : Int} {ab xb : Nat} (h : w.heap[b]? = some (tabO a0 a1 a2 a3 a4 a5 a6 ab xb)) : w.cell? ⟨b, 0, none⟩ = some (.int .i64 a0) ∧ w.cell? ⟨b, 1, none⟩ = some (.int .i64 a1) ∧ w.cell? ⟨b, 2, none⟩ = some (.int .i64 a2) ∧ w.cell? ⟨b, 3, none⟩ = some (.int .i64 a3) ∧
    w.cell? ⟨b, 4, none⟩ = some (.int .i64 a4) ∧ w.cell? ⟨b, 5, none⟩ = some (.int .i64 a5) ∧ w.cell? ⟨b, 6, none⟩ = some (.int .i64 a6) ∧ w.cell? ⟨b, 7, none⟩ = some (.pointer (some ⟨ab, 0, none⟩)) ∧ w.cell? ⟨b, 8, none⟩ = some (.pointer (some ⟨xb, 0, none⟩)) ∧ b < w.heap.size :=
  ⟨by simp [World.cell?, h, tabO], by simp [World.cell?, h, tabO], by simp [World.cell?, h, tabO], by simp [World.cell?, h, tabO], by simp [World.cell?, h, tabO], by simp [World.cell?, h, tabO], by simp [World.cell?, h, tabO], by simp [World.cell?, h, tabO], by simp [World.cell?, h, tabO], (Array.getElem?_eq_some_iff.1 h).1⟩

theorem num4_any (x : Int) (w : World) : Calls Try.prog 13 #[.int .i64 x] w fun e w' => e = .returned (.int .i64 x) ∧ w = w' := by
  go_enter Try.func13, Try.ntmps13
  go_wp2
  go_ret
  exact ⟨rfl, rfl⟩
/-- what table answers -/
def TabRes (w : World) (a0 a1 a2 a3 a4 a5 a6 : Int) (e : Ending) (w' : World) : Prop := ∃ tb ab xb kit w0, e = .returned (.pointer (some ⟨tb, 0, none⟩)) ∧ Only (fun _ => False) w w0 ∧ TabI ab w0 xb kit (arP ab a0 a1 a2 a3 a4 a5 a6 0) (fun k => k = tb) w' ∧ w'.heap[tb]? = some (tabO a0 a1 a2 a3 a4 a5 a6 ab xb) ∧ w0.heap.size ≤ tb

set_option maxRecDepth 100000 in
set_option maxHeartbeats 2000000 in
theorem table_any (a0 a1 a2 a3 a4 a5 a6 : Int) (hok : okCfg a0 a1 a2 a3 a4 a5 a6 = true) (w : World) : Calls Try.prog 19 #[.agg #[.int .i64 a0, .int .i64 a1, .int .i64 a2, .int .i64 a3, .int .i64 a4, .int .i64 a5, .int .i64 a6]] w (TabRes w a0 a1 a2 a3 a4 a5 a6) := by
  obtain ⟨b0, b1, b2, b3, b4, b5, b6, bm⟩ := ok_bounds hok
  obtain ⟨n, rfl⟩ : ∃ n : Nat, a0 = (n : Int) := ⟨a0.toNat, by omega⟩
  have HN := Lib.hid (fun w => arnew_ok (n : Int) a1 a2 a3 a4 a5 a6 0 a5.toNat n hok (Lib.hid (by omega)) (Lib.hid rfl) (by omega) w)
  have HF := Lib.hid (fun w => arfirst_any (n : Int) a1 a2 a3 a4 a5 a6 0 hok (by omega) w)
  have hsz := ar_size (h := hok) (u := 0)
  have h1 : 1 ≤ n := by omega
  have h16 : n ≤ 16 := by omega
  clear hok b0 b1 b2 b3 b4 b5 b6 bm
  go_enter Try.func19, Try.ntmps19
  go_upto_region 1 with (fail)
  refine gen_world ?_
  intro W0 hW0
  have HW0 : Hid (Only (fun _ => False) w W0) := Lib.hid (by rw [hW0]; exact (Below.only0 (by repeat (first | exact Below.refl _ _ | apply Below.drew | apply Below.more1 | apply Below.alloc1 | (refine Below.setCell ?_ (by first | exact Nat.le_refl _ | (simp; done) | (simp; omega)) _)))))
  have hcb : W0.heap[w.heap.size]? = some (.cells #[.int .i64 (n : Int), .int .i64 a1, .int .i64 a2, .int .i64 a3, .int .i64 a4, .int .i64 a5, .int .i64 a6] 23 (0, 0)) := by rw [hW0]; exact heap_alloc_new w _
  obtain ⟨k0, k1, k2, k3, k4, k5, k6, kl⟩ := boxI hcb
  have HCB := Lib.hid hcb
  clear hW0 hcb
  go_upto_region 4 with (first
    | (go_at_call 11; refine (HN.out _).mono ?_; rintro e w1 ⟨ab, av, rfl, hA, hO⟩; have HA := Lib.hid hA; have HO := Lib.hid hO; clear hA hO)
    | (go_at_call 13; refine (num4_any _ _).mono ?_; rintro e wn ⟨rfl, rfl⟩))
  have HCB2 := Lib.hid (HO.out.blockF HCB.out (fun x => x))
  have HO3 := Lib.hid (HW0.out.trans HO.out (fun _ x => x.elim))
  clear k0 k1 k2 k3 k4 k5 k6 kl HCB HN
  obtain ⟨k0, k1, k2, k3, k4, k5, k6, kl⟩ := boxI HCB2.out
  have q0 := fun q : LaterF (fun _ => False) w1 => q.cell k0 kl (fun x => x)
  have q1 := fun q : LaterF (fun _ => False) w1 => q.cell k1 kl (fun x => x)
  have q2 := fun q : LaterF (fun _ => False) w1 => q.cell k2 kl (fun x => x)
  have q3 := fun q : LaterF (fun _ => False) w1 => q.cell k3 kl (fun x => x)
  have q4 := fun q : LaterF (fun _ => False) w1 => q.cell k4 kl (fun x => x)
  have q5 := fun q : LaterF (fun _ => False) w1 => q.cell k5 kl (fun x => x)
  have q6 := fun q : LaterF (fun _ => False) w1 => q.cell k6 kl (fun x => x)
  clear k0 k1 k2 k3 k4 k5 k6
  refine wp_region_plan (fun wz => ∃ q : LaterF (fun _ => False) w1, wz = q.W) [3, 5, 6] [0, 1, 2, 4] (.fork 3 [] (.fork 5 [] (.fork 6 [7, 8, 9, 10] (.tail 11) .none) .none) .none) oper0 (by kernel_rfl) (by kernel_rfl) (laterF_in (Only.refl _ _).drew) ?_
  simp only [wpPlan, List.map_cons, List.map_nil, List.getD_cons_zero, List.getD_cons_succ, List.drop_succ_cons, List.drop_zero]
  repeat (first | go_big_quiet_skip | (go_big_quiet_want; go_big_quiet_op; go_big_quiet_on))
  refine wpQuiet_nil ?_
  refine ⟨?_, trivial⟩
  go_wp2_with (go_at_call 33; refine (HF.out _).mono ?_; rintro e w2 ⟨wg, rfl, hsr, hO2⟩; have HSR := Lib.hid hsr; have HO2 := Lib.hid ((Only.refl (fun _ => False) w1).drew.trans hO2 (fun _ x => x.elim)); simp only [id]; clear hsr hO2)
  refine strict_on ?_
  refine ⟨?_, ?_⟩
  · exact laterF_in HO2.out
  repeat (first | go_big_quiet_skip | (go_big_quiet_want; go_big_quiet_op; go_big_quiet_on))
  refine wpQuiet_nil ?_
  try with_reducible refine ⟨?_, trivial⟩
  go_wp2_with (go_at_call 40; refine (akit_any (HA.out.only HO2.out (fun _ _ x => x))).mono ?_; rintro e w3 ⟨kb, bx, rfl, hmap, hbx, hk1, hk2, hk3, ho⟩; have HMP := Lib.hid hmap; have HBX := Lib.hid hbx; have HK1 := Lib.hid hk1; have HK2 := Lib.hid hk2; have HO4 := Lib.hid ho; have HNW := Lib.hid (newm_ok (w := w3) (km := some kb) n (HSR.out.only ho) (by rw [arWords_len]; exact hsz) h1 h16); clear hmap hbx hk1 hk2 hk3 ho)
  refine strict_on ?_
  refine ⟨?_, ?_⟩
  · exact laterF_in (HO2.out.trans HO4.out (fun _ x => x.elim))
  repeat (first | go_big_quiet_skip | (go_big_quiet_want; go_big_quiet_op; go_big_quiet_on))
  refine wpQuiet_nil ?_
  try with_reducible refine ⟨?_, trivial⟩
  go_wp2_with (go_at_call 39; refine HNW.out.mono ?_; rintro e w4 ⟨xb, rfl, hna⟩; obtain ⟨Fn, hpm, hon⟩ := par_of (HA.out.only HO2.out (fun _ _ x => x)) HO4.out HMP.out HBX.out HK1.out HK2.out hna (by simp [arNew]); have HPM := Lib.hid hpm; have HON := Lib.hid hon; clear hna hpm hon)
  refine strict_on ?_
  refine ⟨?_, ?_⟩
  · exact laterF_in ((HO2.out.trans HO4.out (fun _ x => x.elim)).trans HON.out (fun _ x => x.elim))
  repeat (first | go_big_quiet_skip | (go_big_quiet_want; go_big_quiet_op; go_big_quiet_on))
  refine wpQuiet_nil ?_
  try with_reducible refine ⟨?_, trivial⟩
  have HO14 := Lib.hid ((HO2.out.trans HO4.out (fun _ x => x.elim)).trans HON.out (fun _ x => x.elim))
  have hcb4 := HO14.out.blockF HCB2.out (fun x => x)
  obtain ⟨k0, k1, k2, k3, k4, k5, k6, kl4⟩ := boxI hcb4
  clear q0 q1 q2 q3 q4 q5 q6 HCB2 kl hcb4 HMP HBX HK1 HK2 HNW HSR HA HF
  go_wp2_with (go_at_call 13; refine (num4_any _ _).mono ?_; rintro e wn ⟨rfl, rfl⟩)
  go_ret
  have hz := HPM.out.lt (arK_ok ab)
  have hs0 := (HO.out.trans HO14.out (fun _ x => x.elim)).size
  refine ⟨w4.heap.size, ab, xb, .map (some kb), W0, rfl, HW0.out, ⟨Fn, ?_, ?_, ?_⟩, heap_alloc_new _ _, hs0⟩
  · exact HPM.out.only (arK_ok ab) ((Only.refl (fun _ => False) _).alloc _) (fun _ _ x => x)
  · exact ((HO.out.trans HO14.out (fun _ x => x.elim)).alloc _).mono (fun _ _ x => x.elim)
  · rintro k rfl
    exact ⟨fun x => by have := hz _ x; omega, by simp⟩
end Go.Proofs.Ytjcggokhminmoaa
namespace Go
open Go.RowKit
open Go.Proofs.Ytjcggokhminmoaa

def mvsC (l : List Mv) : List Value := l.flatMap Mv.cells
theorem mvsC_len (l : List Mv) : (mvsC l).length = l.length * 4 := by
  induction l with
  | nil => rfl
  | cons m l ih => simp only [mvsC, List.flatMap_cons, List.length_append, List.length_cons] at ih ⊢; rw [ih]; simp [Mv.cells]; omega
theorem mvsC_get (l : List Mv) (i j : Nat) (hi : i < l.length) (hj : j < 4) : (mvsC l)[i * 4 + j]? = l[i].cells[j]? := flat_get (f := Mv.cells) (k := 4) (fun _ => rfl) l i j hi hj
theorem mvsC_app (a b : List Mv) : mvsC (a ++ b) = mvsC a ++ mvsC b := by simp [mvsC]
theorem mvsC_one (l : List Mv) : ∀ u ∈ mvsC l, u.oneCell' = true := by
  intro u hu
  simp only [mvsC, List.mem_flatMap, Mv.cells] at hu
  obtain ⟨x, _, hx⟩ := hu
  simp at hx
  rcases hx with rfl | rfl | rfl | rfl <;> rfl
theorem addr_add (b off j : Nat) : (⟨b, off, none⟩ : Addr).add j = ⟨b, off + j, none⟩ := by unfold Addr.add; split <;> simp_all
end Go
namespace Go.Proofs.Ytjcggokhminmoaa
open Go.ChangeShapes Go.WideShapes Go.ChangeAt Go.RowKit Go.Shelf
theorem infoMove : (Try.prog.info? 64).map (fun i => (i.zero, i.size, i.bytes)) = some (some (.agg #[.int .i64 0, .int .i64 0, .int .i64 0, .int .i64 0]), 4, 32) := by kernel_rfl
theorem MvsIn.src {w : World} {om : Option Addr} {cm : Nat} {ms : List Mv} (h : MvsIn w (.slice om ms.length cm) ms) (hn : om = none → cm = 0) : w.Src 4 (.slice om ms.length cm) ms.length (mvsC ms) := by
  obtain ⟨o, c, e, h1, h2, h3⟩ := h
  cases e
  refine ⟨mvsC_len ms, ?_⟩
  cases om with
  | none =>
    have := hn rfl
    subst this
    have h0 : ms.length = 0 := by omega
    exact .inl ⟨by rw [h0], h0⟩
  | some ad =>
    refine .inr ⟨ad, cm, rfl, h1, fun j u hu => ?_⟩
    have hj := (List.getElem?_eq_some_iff.1 hu).1
    rw [mvsC_len] at hj
    have hi : j / 4 < ms.length := by omega
    obtain ⟨b, off, e1, hb, c0, c1, c2, c3⟩ := h3 (j / 4) hi
    cases e1
    have hjj : j = j / 4 * 4 + j % 4 := by omega
    have hr : j % 4 < 4 := Nat.mod_lt _ (by omega)
    rw [addr_add]
    rw [hjj, mvsC_get ms _ _ hi hr] at hu
    rw [hjj]
    generalize j % 4 = r at *
    generalize hq : j / 4 = q at *
    rw [← Nat.add_assoc]
    rcases (by omega : r = 0 ∨ r = 1 ∨ r = 2 ∨ r = 3) with rfl | rfl | rfl | rfl
    · cases hu; exact c0
    · cases hu; exact c1
    · cases hu; exact c2
    · cases hu; exact c3
theorem MvsIn.of_row {w : World} {base : Nat} {v : Value} {ms : List Mv} (h : w.RowV base 64 4 v ms.length (mvsC ms)) : MvsIn w v ms := by
  obtain ⟨o, c, rfl, h1, h2⟩ := h.form
  refine ⟨o, c, rfl, h1, h2, fun i hi => ?_⟩
  obtain ⟨g, cap, e, f1, f2, f3, f4, f5, f6⟩ := h.some_form (by omega)
  simp only [Value.slice.injEq] at e
  obtain ⟨rfl, _, rfl⟩ := e
  refine ⟨g, 0, rfl, f3, ?_, ?_, ?_, ?_⟩
  · rw [Nat.zero_add]; exact f6 (i * 4 + 0) _ (mvsC_get ms i 0 hi (by omega))
  · rw [Nat.zero_add]; exact f6 (i * 4 + 1) _ (mvsC_get ms i 1 hi (by omega))
  · rw [Nat.zero_add]; exact f6 (i * 4 + 2) _ (mvsC_get ms i 2 hi (by omega))
  · rw [Nat.zero_add]; exact f6 (i * 4 + 3) _ (mvsC_get ms i 3 hi (by omega))
end Go.Proofs.Ytjcggokhminmoaa
