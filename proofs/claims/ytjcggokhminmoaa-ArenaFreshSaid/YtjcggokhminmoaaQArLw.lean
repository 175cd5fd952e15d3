/-
reclaimlaw04: what the laws' walks share (LwI): a table in the heap, with its machine at p.
Plain facts of a run of a machine with an arena: how many seats, how many moves; a thread alone ends (alone_done).
Arena laws, plain: the tags of Free (SwI). Plain.
Arena laws, plain: what is given back can be taken again (agA .. agD). Plain.
arena.Count.
-/
import Derived.Test.YtjcggokhminmoaaQArRs
import Derived.Test.YtjcggokhminmoaaQArKn
import Derived.Test.YtjcggokhminmoaaQArAl
import Derived.Test.YtjcggokhminmoaaQArCa
import Derived.WalkMore
namespace Go.Proofs.Ytjcggokhminmoaa
open Go.ChangeShapes Go.WideShapes Go.ChangeAt Go.RowKit Go.Shelf

theorem _root_.Go.Only.belowF {w w' : World} (h : Only (fun _ => False) w w') : Below w.heap.size w w' := ⟨h.os, h.tape, h.output, h.size, fun k hk => h.block k hk (fun x => x)⟩
/-- a configuration's box -/
def cfgO (a0 a1 a2 a3 a4 a5 a6 : Int) : Obj := .cells #[.int .i64 a0, .int .i64 a1, .int .i64 a2, .int .i64 a3, .int .i64 a4, .int .i64 a5, .int .i64 a6] 23 (0, 0)
theorem boxC {w : World} {b : Nat} {a0 a1 a2 a3 a4 a5 a6 : Int} (h : w.heap[b]? = some (cfgO a0 a1 a2 a3 a4 a5 a6)) : w.cell? ⟨b, 0, none⟩ = some (.int .i64 a0) ∧ w.cell? ⟨b, 1, none⟩ = some (.int .i64 a1) ∧ w.cell? ⟨b, 2, none⟩ = some (.int .i64 a2) ∧ w.cell? ⟨b, 3, none⟩ = some (.int .i64 a3) ∧
    w.cell? ⟨b, 4, none⟩ = some (.int .i64 a4) ∧ w.cell? ⟨b, 5, none⟩ = some (.int .i64 a5) ∧ w.cell? ⟨b, 6, none⟩ = some (.int .i64 a6) ∧ b < w.heap.size := boxI h
/-- the table tb, its machine at p; since W0 nothing else has changed; G: blocks that are not the machine's -/
structure LwI (W0 : World) (a0 a1 a2 a3 a4 a5 a6 : Int) (tb ab xb : Nat) (kit : Value) (w0 : World) (p : PM (arK ab)) (wr : World) : Prop where
  tab : TabI ab w0 xb kit p (fun k => k = tb) wr
  blk : wr.heap[tb]? = some (tabO a0 a1 a2 a3 a4 a5 a6 ab xb)
  on0 : Only (fun _ => False) W0 w0
section
variable {W0 w0 wr w' : World} {a0 a1 a2 a3 a4 a5 a6 : Int} {tb ab xb : Nat} {kit : Value} {p : PM (arK ab)}
theorem LwI.on (h : LwI W0 a0 a1 a2 a3 a4 a5 a6 tb ab xb kit w0 p wr) : Only (fun _ => False) W0 wr := h.on0.trans h.tab.on (fun _ x => x.elim)
theorem LwI.only (h : LwI W0 a0 a1 a2 a3 a4 a5 a6 tb ab xb kit w0 p wr) (ho : Only (fun _ => False) wr w') : LwI W0 a0 a1 a2 a3 a4 a5 a6 tb ab xb kit w0 p w' :=
  ⟨h.tab.only ho, ho.blockF h.blk (fun x => x), h.on0⟩
theorem LwI.below (h : LwI W0 a0 a1 a2 a3 a4 a5 a6 tb ab xb kit w0 p wr) (hb : Below wr.heap.size wr w') : LwI W0 a0 a1 a2 a3 a4 a5 a6 tb ab xb kit w0 p w' := h.only (Below.only0 hb)
/-- behind table -/
theorem LwI.start {e : Ending} (h : TabRes W0 a0 a1 a2 a3 a4 a5 a6 e w') : ∃ tb ab xb kit w0, e = .returned (.pointer (some ⟨tb, 0, none⟩)) ∧ LwI W0 a0 a1 a2 a3 a4 a5 a6 tb ab xb kit w0 (arP ab a0 a1 a2 a3 a4 a5 a6 0) w' := by
  obtain ⟨tb, ab, xb, kit, w0, he, ho, ht, hb, hg⟩ := h
  exact ⟨tb, ab, xb, kit, w0, he, ht, hb, ho⟩
def LwMv (W0 : World) (a0 a1 a2 a3 a4 a5 a6 : Int) (tb ab xb : Nat) (kit : Value) (w0 : World) (p : PM (arK ab)) (mv : Mv) (_wr : World) (e : Ending) (w' : World) : Prop :=
  e = .returned (.bool (p.move mv).2) ∧ LwI W0 a0 a1 a2 a3 a4 a5 a6 tb ab xb kit w0 (p.move mv).1 w'
theorem lw_move (h : LwI W0 a0 a1 a2 a3 a4 a5 a6 tb ab xb kit w0 p wr) (hG : p.Good) (mv : Mv) : Calls Try.prog 21 #[.pointer (some ⟨xb, 0, none⟩), mv.v] wr (LwMv W0 a0 a1 a2 a3 a4 a5 a6 tb ab xb kit w0 p mv wr) := by
  obtain ⟨h1, h2, h3⟩ := h
  obtain ⟨F, hF⟩ := h1
  refine (pm_move (arK_ok ab) hG hF.m mv).mono ?_
  rintro e w' ⟨he, F', k1, k2, k3⟩
  have hs := k2.size
  have hout := hF.out tb rfl
  refine ⟨he, ⟨F', k1, hF.on.trans k2 (fun i hi => .inl (hF.m.lt (arK_ok ab) i hi).1), ?_⟩, (k2.block tb hout.2 hout.1).trans h2, h3⟩
  rintro k rfl
  refine ⟨fun x => ?_, by omega⟩
  rcases k3 k x with h4 | h4
  · exact hout.1 h4
  · omega
theorem lw_busy (h : LwI W0 a0 a1 a2 a3 a4 a5 a6 tb ab xb kit w0 p wr) (hG : p.Good) (t : Int) : Calls Try.prog 25 #[.pointer (some ⟨xb, 0, none⟩), .int .i64 t] wr fun e w' => e = .returned (.bool (p.busyB t)) ∧ Below wr.heap.size wr w' := tab_busy h.tab hG t
theorem lw_call (h : LwI W0 a0 a1 a2 a3 a4 a5 a6 tb ab xb kit w0 p wr) (hG : p.Good) (t : Int) : Calls Try.prog 26 #[.pointer (some ⟨xb, 0, none⟩), .int .i64 t] wr fun e w' => e = .returned (.tuple #[(p.callR t).1.v, .bool (p.callR t).2]) ∧ Below wr.heap.size wr w' := tab_call h.tab hG t
theorem lw_cached (h : LwI W0 a0 a1 a2 a3 a4 a5 a6 tb ab xb kit w0 p wr) (hA : PA p) (t : Int) : Calls Try.prog 23 #[.pointer (some ⟨ab, 0, none⟩), .int .i64 t] wr (Cloned wr 3 1 (p.s.cache t).length (intsC (p.s.cache t))) := by
  obtain ⟨av, h1, h2⟩ := tab_arena h.tab
  refine acached_any h1 (fun c hc => ?_) t
  obtain ⟨i, hi, rfl⟩ := List.getElem_of_mem hc
  have h3 := (hA.inv.cache i _ (List.getElem?_eq_getElem hi)).2.1
  have h4 := (ok_small hA.inv.ok).2.2.2.2.2.2.2.2.2.2
  omega
theorem lw_state (h : LwI W0 a0 a1 a2 a3 a4 a5 a6 tb ab xb kit w0 p wr) (k : Int) : Calls Try.prog 28 #[.pointer (some ⟨ab, 0, none⟩), .int .i64 k] wr fun e w' => e = .returned (.tuple #[.int .i64 (p.s.state k).1, .int .i64 (p.s.state k).2.1, .int .i64 (p.s.state k).2.2]) ∧ Below wr.heap.size wr w' := by
  obtain ⟨av, h1, h2⟩ := tab_arena h.tab
  exact state_any h1 k
theorem lw_rest (h : LwI W0 a0 a1 a2 a3 a4 a5 a6 tb ab xb kit w0 p wr) (hG : p.Good) (th : Int) : Calls Try.prog 27 #[.pointer (some ⟨tb, 0, none⟩), .int .i64 th] wr fun e w' => e = .returned (.tuple #[]) ∧ LwI W0 a0 a1 a2 a3 a4 a5 a6 tb ab xb kit w0 (restN p th 400) w' := by
  refine (rest_any h.tab hG h.blk rfl th).mono ?_
  rintro e w' ⟨he, h1, h2⟩
  exact ⟨he, h1, (h2 tb rfl).trans h.blk, h.on0⟩
end
end Go.Proofs.Ytjcggokhminmoaa
namespace Go
open Go.RowKit
open Go.Proofs.Ytjcggokhminmoaa
section
variable {ab : Nat} {a0 a1 a2 a3 a4 a5 a6 : Int} {u : Nat}
theorem PM.moves_goes {K : Kits} (p : PM K) (ms : List Mv) : (p.goes ms).moves ≤ p.moves + ms.length := by
  induction ms generalizing p with
  | nil => exact Nat.le_refl _
  | cons m ms ih =>
    have h1 := ih (p.move m).1
    have h2 := (p.moves_le m).2
    show ((p.move m).1.goes ms).moves ≤ p.moves + (ms.length + 1)
    omega
theorem PM.seats_move {K : Kits} (p : PM K) (mv : Mv) : (p.move mv).1.seats.length = p.seats.length := by
  rcases p.move_cases mv with ⟨_, e⟩ | ⟨_, e⟩ | ⟨_, i, se, t, _, _, _, _, e⟩ | ⟨_, i, se, t, _, _, _, _, _, e⟩
  · rw [e]
  · rw [e]; rfl
  · rw [e]; exact List.length_set ..
  · rw [e]; exact List.length_set ..
theorem PM.seats_goes {K : Kits} (p : PM K) (ms : List Mv) : (p.goes ms).seats.length = p.seats.length := by
  induction ms generalizing p with
  | nil => rfl
  | cons m ms ih => exact (ih (p.move m).1).trans (p.seats_move m)
theorem arP_len (ms : List Mv) : ((arP ab a0 a1 a2 a3 a4 a5 a6 u).goes ms).seats.length = a0.toNat := by
  rw [PM.seats_goes]
  simp [arP, PM.init]
theorem arP_ahN (h : okCfg a0 a1 a2 a3 a4 a5 a6 = true) (hu : (u : Int) ≤ a5) (ms : List Mv) : AH ((arP ab a0 a1 a2 a3 a4 a5 a6 u).goes ms) := (arP_ah h hu).runs ms
theorem callR_busy {p : PM (arK ab)} (h : AH p) {i : Nat} {se : PSeat ATk} {t : ATk} (hs : p.seats[i]? = some se) (ht : se.task = some t) : ∃ c, p.callR i = (c, true) ∧ c.op = t.op := by
  obtain ⟨_, _, l, c, e1, e2, e3, e4, _⟩ := h.busy i se t hs ht
  refine ⟨c, ?_, e4⟩
  unfold PM.callR
  rw [if_neg (by omega), Int.toNat_natCast, hs]
  simp only
  rw [e1, if_neg (by omega), Int.toNat_natCast, getD_of e2]
/-- how many steps the law grants -/
def mostN (p : PM (arK ab)) (i : Nat) : Nat := if (p.callR i).1.op = 12 then 3 * (p.s.cache i).length + 3 else 5
theorem cache_small {p : PM (arK ab)} (h : PA p) (t : Int) : (p.s.cache t).length ≤ 64 := by
  unfold ArS.cache
  split
  · rename_i ht
    have ht' : 0 ≤ t ∧ t < (p.s.caches.length : Int) := by simpa [ArS.thread] using ht
    have hi : t.toNat < p.s.caches.length := by omega
    have e : p.s.caches.getD t.toNat [] = p.s.caches[t.toNat] := getD_of (List.getElem?_eq_getElem hi)
    rw [e]
    have h3 := (h.inv.cache _ _ (List.getElem?_eq_getElem hi)).2.1
    have h4 := (ok_small h.inv.ok).2.2.2.2.2.2.2.2.2.2
    omega
  · simp
theorem most_small {p : PM (arK ab)} (h : PA p) (i : Nat) : mostN p i ≤ 195 := by
  have := cache_small h i
  unfold mostN
  split <;> omega
theorem alone_done {p : PM (arK ab)} (h : AH p) (hm : p.moves + 195 ≤ 65536) (i : Nat) : (restN p i (mostN p i)).busyB i = false := by
  have hms := most_small h.pa i
  refine (rest_ind (I := fun _ => True) (fun _ _ _ _ _ _ _ _ _ => trivial) (mostN p i) h trivial (by omega) (fun se t hs ht => ?_)).2.2.1
  obtain ⟨c, hc, hop⟩ := callR_busy h hs ht
  have := need_most h.pa hs ht
  unfold mostN
  rw [hc]
  simp only
  rw [hop]
  exact this
end
end Go
namespace Go
open Go.RowKit
open Go.Proofs.Ytjcggokhminmoaa
variable {ab : Nat}

def TkPush.seen (p : TkPush) : Option Int := if p.at' = 2 ∨ p.at' = 3 then some p.head else none
def ATk.seen : ATk → Option Int
  | .take q => if q.at' = 2 ∨ q.at' = 3 then some q.head else none
  | .give p => p.seen
  | .flush p => p.seen
/-- what a step does to the word Free -/
inductive AAcc (W : List Int) (tk : ATk) (o : AOut) : Prop
  | none (ha : o.acc = []) (hw : wHead o.W = wHead W) (ho : o.tk = none) : AAcc W tk o
  | load (ha : o.acc = [(1, 0, 0, 0, wHead W)]) (hw : wHead o.W = wHead W) (ho : ∀ t2, o.tk = some t2 → t2.seen = some (wHead W)) : AAcc W tk o
  | other (kd ad x y z : Int) (ha : o.acc = [(kd, ad, x, y, z)]) (hd : ad ≠ 0) (hw : wHead o.W = wHead W) (ho : ∀ t2, o.tk = some t2 → t2.seen = tk.seen) : AAcc W tk o
  | yes (x : Int) (ha : o.acc = [(3, 0, wHead W, x, wHead W)]) (hw : wHead o.W = x) (hx : hTag x = hTag (wHead W) + 1) (hxd : hTag x = x / 4294967296) (ho : ∀ t2, o.tk = some t2 → t2.seen = .none) : AAcc W tk o
  | no (h x : Int) (ha : o.acc = [(3, 0, h, x, wHead W)]) (hs : tk.seen = some h) (hne : wHead W ≠ h) (hw : wHead o.W = wHead W) (ho : ∀ t2, o.tk = some t2 → t2.seen = .none) : AAcc W tk o
section
variable {W : List Int} {s : ArS} {ts : Nat → Option (Bool × ATk)} {mv i : Nat} {rd : Bool} {tk : ATk} {o : AOut}
theorem astep_acc (H : AInv W s ts mv) (hmv : mv ≤ 65536) (ht : ts i = some (rd, tk)) (ho : AStep W s i rd tk o) : AAcc W tk o := by
  have hT := (H.task i rd tk ht).2
  obtain ⟨n1, n2, n3, n4, n5, n6, n7, n8, n9, n10, n11⟩ := ok_small H.ok
  have hW : 0 < W.length := by rw [H.wl]; omega
  have htag := H.tag
  have h0 : 0 ≤ hTag (wHead W) := by rw [H.head.tag n2]; have := H.head.1; omega
  have hup : tagUp (wHead W) = hTag (wHead W) + 1 := tagUp_eq H.head n2 (by omega)
  have hnew : ∀ k : Int, -1 ≤ k → k < (s.n : Int) → hTag (mkHead (tagUp (wHead W)) k) = hTag (wHead W) + 1 ∧ hTag (mkHead (tagUp (wHead W)) k) = mkHead (tagUp (wHead W)) k / 4294967296 := fun k h1 h2 => by
    obtain ⟨k1, k2, k3⟩ := head_new (t := hTag (wHead W) + 1) (s := s) (by omega) (by omega) h1 h2 n2
    rw [hup]
    exact ⟨k3, k1.tag n2⟩
  cases ho with
  | takeCached => exact .none rfl rfl rfl
  | takeLoad => exact .load rfl rfl (fun t2 e => by cases e; rfl)
  | takeFull => exact .load rfl rfl (fun t2 e => by cases e)
  | @takeNext q k hq hk hl => exact .other _ _ _ _ _ rfl (by omega) rfl (fun t2 e => by cases e; simp [ATk.seen, hq])
  | @takeYes q k hq hk hl he =>
    obtain ⟨_, _, _, _, h5⟩ := hT
    have h6 := (h5 hq).1
    have h7 := h6.idx n2
    rw [← he]
    obtain ⟨g1, g2⟩ := hnew (lIdx q.next) (by rw [h7]; have := h6.1; omega) (by rw [h7]; have := h6.2; omega)
    exact .yes _ rfl (wHead_set hW _) g1 g2 (fun t2 e => by cases e)
  | @takeNo q hq hne => exact .no q.head _ rfl (by simp [ATk.seen, hq]) hne rfl (fun t2 e => by cases e; simp [ATk.seen])
  | giveCached => exact .none rfl rfl rfl
  | giveLoad => exact .load rfl rfl (fun t2 e => by cases e; rfl)
  | @giveStore p k hp hk hkl => exact .other _ _ _ _ _ rfl (by omega) (wHead_set_spare n5 _ _) (fun t2 e => by cases e; simp [ATk.seen, TkPush.seen, hp])
  | @giveYes p k hp hk hkl he =>
    rw [← he]
    obtain ⟨g1, g2⟩ := hnew (k : Int) (by omega) (by omega)
    exact .yes _ rfl (wHead_set hW _) g1 g2 (fun t2 e => by cases e)
  | @giveNo p hp hne => exact .no p.head _ rfl (by simp [ATk.seen, TkPush.seen, hp]) hne rfl (fun t2 e => by cases e; simp [ATk.seen, TkPush.seen])
  | flushEmpty => exact .none rfl rfl rfl
  | flushFirst => exact .load rfl rfl (fun t2 e => by cases e; rfl)
  | flushLoad => exact .load rfl rfl (fun t2 e => by cases e; rfl)
  | @flushStore p k hp hk hkl => exact .other _ _ _ _ _ rfl (by omega) (wHead_set_spare n5 _ _) (fun t2 e => by cases e; simp [ATk.seen, TkPush.seen, hp])
  | @flushLast p k hp hk hkl he hc =>
    rw [← he]
    obtain ⟨g1, g2⟩ := hnew (k : Int) (by omega) (by omega)
    exact .yes _ rfl (wHead_set hW _) g1 g2 (fun t2 e => by cases e)
  | @flushMore p c k k2 hp hk hkl he hc =>
    rw [← he]
    obtain ⟨g1, g2⟩ := hnew (k : Int) (by omega) (by omega)
    exact .yes _ rfl (wHead_set hW _) g1 g2 (fun t2 e => by cases e; simp [ATk.seen, TkPush.seen])
  | @flushNo p hp hne => exact .no p.head _ rfl (by simp [ATk.seen, TkPush.seen, hp]) hne rfl (fun t2 e => by cases e; simp [ATk.seen, TkPush.seen])
end

/-- what the law carries along the trace -/
structure SwS where
  tag : Int
  last : Int
  ld : List Int
def swNext (S : SwS) (x : Nat) (a : Acc) : SwS :=
  if a.ad ≠ 0 then S
  else if a.kd = 1 then { S with ld := S.ld.set a.th.toNat x }
  else if a.saw = a.old then { S with tag := S.tag + 1, last := x }
  else S
structure SwOk (S : SwS) (n : Nat) (a : Acc) : Prop where
  th : 0 ≤ a.th ∧ a.th < (n : Int)
  kd : a.ad = 0 → a.kd = 1 ∨ a.kd = 3
  load : a.ad = 0 → a.kd = 1 → a.saw / 4294967296 = S.tag
  yes : a.ad = 0 → a.kd = 3 → a.saw = a.old → a.nw / 4294967296 = S.tag + 1
  no : a.ad = 0 → a.kd = 3 → a.saw ≠ a.old → S.ld.getD a.th.toNat 0 ≤ S.last
  pos : a.ad = 0 → 0 ≤ a.saw ∧ (a.kd = 3 → a.saw = a.old → 0 ≤ a.nw)
def swAt (n : Nat) (log : List Acc) : Nat → SwS
  | 0 => ⟨0, -1, List.replicate n 0⟩
  | k + 1 => match log[k]? with
    | some a => swNext (swAt n log k) k a
    | none => swAt n log k
theorem swAt_app (n : Nat) (log l : List Acc) : ∀ k, k ≤ log.length → swAt n (log ++ l) k = swAt n log k
  | 0, _ => rfl
  | k + 1, h => by
    unfold swAt
    rw [List.getElem?_append_left (by omega), swAt_app n log l k (by omega)]
theorem swAt_snoc (n : Nat) (log : List Acc) (a : Acc) : swAt n (log ++ [a]) (log.length + 1) = swNext (swAt n log log.length) log.length a := by
  rw [swAt, List.getElem?_append_right (Nat.le_refl _), Nat.sub_self, swAt_app n log [a] log.length (Nat.le_refl _)]
  rfl
theorem swAt_facts (n : Nat) (log : List Acc) : ∀ k, 0 ≤ (swAt n log k).tag ∧ (swAt n log k).tag ≤ (k : Int) ∧ -1 ≤ (swAt n log k).last ∧ (swAt n log k).last < (k : Int) ∧ (swAt n log k).ld.length = n
  | 0 => by simp [swAt]
  | k + 1 => by
    obtain ⟨h1, h2, h3, h4, h5⟩ := swAt_facts n log k
    rw [swAt]
    split
    · rename_i a _
      unfold swNext
      split
      · exact ⟨h1, by push_cast; omega, h3, by push_cast; omega, h5⟩
      · split
        · exact ⟨h1, by push_cast; omega, h3, by push_cast; omega, by simp [h5]⟩
        · split
          · refine ⟨by simp only; omega, by simp only; push_cast; omega, by simp only; omega, by simp only; push_cast; omega, h5⟩
          · exact ⟨h1, by push_cast; omega, h3, by push_cast; omega, h5⟩
    · exact ⟨h1, by push_cast; omega, h3, by push_cast; omega, h5⟩
theorem swAt_next (n : Nat) (log : List Acc) (k : Nat) (h : k < log.length) : swAt n log (k + 1) = swNext (swAt n log k) k log[k] := by
  rw [swAt, List.getElem?_eq_getElem h]
structure SwI (p : PM (arK ab)) : Prop where
  all : ∀ (k : Nat) (a : Acc), p.log[k]? = some a → SwOk (swAt p.seats.length p.log k) p.seats.length a
  tag : (swAt p.seats.length p.log p.log.length).tag = hTag (wHead p.words)
  len : (swAt p.seats.length p.log p.log.length).ld.length = p.seats.length
  small : ∀ j : Nat, (swAt p.seats.length p.log p.log.length).ld.getD j 0 ≤ (p.log.length : Int)
  seen : ∀ (i : Nat) (rd : Bool) (tk : ATk) (h : Int), pmTs p i = some (rd, tk) → tk.seen = some h → (swAt p.seats.length p.log p.log.length).last < (swAt p.seats.length p.log p.log.length).ld.getD i 0 → wHead p.words = h
section
variable {p : PM (arK ab)}
theorem SwI.step (h : SwI p) (hA : AH p) {i : Nat} {se : PSeat ATk} {t : ATk} {o : AOut} (hs : p.seats[i]? = some se) (ht : se.task = some t) (k : PStepA p i se t o) : SwI (p.step i se t) := by
  have hts := pmTs_of hs ht
  have hi := (List.getElem?_eq_some_iff.1 hs).1
  have hH := hA.pa.inv
  have n2 := (ok_small hH.ok).2.1
  have hacc := astep_acc hH hA.mv hts k.st
  have hn : (p.step i se t).seats.length = p.seats.length := by rw [k.seats, List.length_set]
  have hT : pmTs (p.step i se t) = updT (pmTs p) i (o.tk.map fun t => (true, t)) := pmTs_set p i _ hi k.seats
  obtain ⟨S, hS⟩ : ∃ S, S = swAt p.seats.length p.log p.log.length := ⟨_, rfl⟩
  have h2 := h.tag
  have h3 := h.len
  have h4 := h.small
  have h5 := h.seen
  rw [← hS] at h2 h3 h4 h5
  -- one entry behind the trace
  have one : ∀ (a : Acc) (h1 : (p.step i se t).log = p.log ++ [a]), SwOk S p.seats.length a → (swNext S p.log.length a).tag = hTag (wHead (p.step i se t).words) → (swNext S p.log.length a).ld.length = p.seats.length →
      (∀ j : Nat, (swNext S p.log.length a).ld.getD j 0 ≤ (p.log.length : Int) + 1) →
      (∀ (j : Nat) (rd : Bool) (tk : ATk) (h : Int), updT (pmTs p) i (o.tk.map fun t => (true, t)) j = some (rd, tk) → tk.seen = some h → (swNext S p.log.length a).last < (swNext S p.log.length a).ld.getD j 0 → wHead (p.step i se t).words = h) → SwI (p.step i se t) := by
    intro a h1 ok e2 e3 e4 e5
    have hl : (p.step i se t).log.length = p.log.length + 1 := by rw [h1]; simp
    have hend : swAt p.seats.length (p.step i se t).log (p.step i se t).log.length = swNext S p.log.length a := by rw [hl, h1, swAt_snoc, hS]
    refine ⟨fun x b hx => ?_, by rw [hn, hend]; exact e2, by rw [hn, hend]; exact e3, fun j => by rw [hn, hend, hl]; have := e4 j; push_cast; omega, ?_⟩
    · rw [hn]
      rw [h1] at hx ⊢
      by_cases hxl : x < p.log.length
      · rw [List.getElem?_append_left hxl] at hx
        rw [swAt_app _ _ _ x (by omega)]
        exact h.all x b hx
      · rw [List.getElem?_append_right (by omega)] at hx
        have h0 : x - p.log.length = 0 := by
          have := (List.getElem?_eq_some_iff.1 hx).1
          simp at this
          omega
        rw [h0] at hx
        cases hx
        obtain rfl : x = p.log.length := by omega
        rw [swAt_app _ _ _ _ (Nat.le_refl _), ← hS]
        exact ok
    · rw [hn, hend, hT]
      exact e5
  have hlog := k.log
  have hw := k.words
  have hth : (0 : Int) ≤ (i : Int) ∧ (i : Int) < (p.seats.length : Int) := ⟨by omega, by omega⟩
  have hdiv : hTag (wHead p.words) = wHead p.words / 4294967296 := hH.head.tag n2
  have hnn : 0 ≤ wHead p.words := hH.head.1
  have hnx : 0 ≤ wHead (p.step i se t).words := (k.pa hA.pa hA.mv hs ht).inv.head.1
  have keep : ∀ (j : Nat) (rd : Bool) (tk : ATk) (hh : Int), (∀ t2, o.tk = some t2 → t2.seen = .none) → updT (pmTs p) i (o.tk.map fun t => (true, t)) j = some (rd, tk) → tk.seen = some hh → pmTs p j = some (rd, tk) := by
    intro j rd tk hh hno hj hk
    unfold updT at hj
    split at hj
    · cases ho : o.tk with
      | none => rw [ho] at hj; cases hj
      | some t2 =>
        rw [ho] at hj
        simp only [Option.map_some, Option.some.injEq, Prod.mk.injEq] at hj
        rw [← hj.2, hno t2 ho] at hk
        cases hk
    · exact hj
  cases hacc with
  | none ha hw' ho =>
    have hl : (p.step i se t).log = p.log := by rw [hlog, ha]; simp
    refine ⟨by rw [hn, hl]; exact h.all, by rw [hn, hl, hw, hw']; exact h.tag, by rw [hn, hl]; exact h.len, by rw [hn, hl]; exact h.small, ?_⟩
    intro j rd tk hh hj hk hlt
    rw [hn, hl] at hlt
    rw [hT] at hj
    rw [hw, hw']
    exact h.seen j rd tk hh (keep j rd tk hh (fun t2 e => by rw [ho] at e; cases e) hj hk) hk hlt
  | load ha hw' ho =>
    refine one ⟨p.moves, i, 1, 0, 0, 0, wHead p.words⟩ (by rw [hlog, ha]; rfl) ⟨hth, fun _ => .inl rfl, fun _ _ => (by rw [h2]; exact hdiv.symm), fun _ e => (by cases e), fun _ e => (by cases e), fun _ => ⟨hnn, fun e => (by cases e)⟩⟩ ?_ ?_ ?_ ?_
    · rw [hw, hw']; exact h2
    · simp [swNext, h3]
    · intro j
      show (S.ld.set _ _).getD j 0 ≤ _
      rw [List.getD_eq_getElem?_getD, List.getElem?_set]
      have := h4 j
      rw [List.getD_eq_getElem?_getD] at this
      split
      · split
        · simp; omega
        · simp; omega
      · omega
    · intro j rd tk hh hj hk hlt
      rw [hw, hw']
      unfold updT at hj
      split at hj
      · cases hot : o.tk with
        | none => rw [hot] at hj; cases hj
        | some t2 =>
          rw [hot] at hj
          simp only [Option.map_some, Option.some.injEq, Prod.mk.injEq] at hj
          rw [← hj.2, ho t2 hot] at hk
          exact Option.some.inj hk
      · rename_i hne
        refine h5 j rd tk hh hj hk ?_
        have e : (swNext S p.log.length ⟨p.moves, i, 1, 0, 0, 0, wHead p.words⟩).ld.getD j 0 = S.ld.getD j 0 := by
          show (S.ld.set _ _).getD j 0 = _
          rw [List.getD_eq_getElem?_getD, List.getElem?_set_ne (by simp; omega), ← List.getD_eq_getElem?_getD]
        rw [e] at hlt
        exact hlt
  | other kd ad x y z ha hd hw' ho =>
    have hsn : swNext S p.log.length ⟨p.moves, i, kd, ad, x, y, z⟩ = S := by unfold swNext; rw [if_pos hd]
    refine one ⟨p.moves, i, kd, ad, x, y, z⟩ (by rw [hlog, ha]; rfl) ⟨hth, fun e => absurd e hd, fun e => absurd e hd, fun e => absurd e hd, fun e => absurd e hd, fun e => absurd e hd⟩ ?_ ?_ ?_ ?_
    · rw [hsn, hw, hw']; exact h2
    · rw [hsn]; exact h3
    · rw [hsn]; intro j; have := h4 j; omega
    · rw [hsn]
      intro j rd tk hh hj hk hlt
      rw [hw, hw']
      unfold updT at hj
      split at hj
      · rename_i ej
        subst ej
        cases hot : o.tk with
        | none => rw [hot] at hj; cases hj
        | some t2 =>
          rw [hot] at hj
          simp only [Option.map_some, Option.some.injEq, Prod.mk.injEq] at hj
          rw [← hj.2, ho t2 hot] at hk
          exact h5 _ se.ready t hh hts hk hlt
      · exact h5 j rd tk hh hj hk hlt
  | yes x ha hw' hx hxd ho =>
    have hsn : swNext S p.log.length ⟨p.moves, i, 3, 0, wHead p.words, x, wHead p.words⟩ = { S with tag := S.tag + 1, last := p.log.length } := by unfold swNext; simp
    refine one ⟨p.moves, i, 3, 0, wHead p.words, x, wHead p.words⟩ (by rw [hlog, ha]; rfl) ⟨hth, fun _ => .inr rfl, fun _ e => (by cases e), fun _ _ _ => (by show x / 4294967296 = _; rw [h2, ← hxd, hx]), fun _ _ e => absurd rfl e, fun _ => ⟨hnn, fun _ _ => (by rw [hw, hw'] at hnx; exact hnx)⟩⟩ ?_ ?_ ?_ ?_
    · rw [hsn, hw, hw', hx, ← h2]
    · rw [hsn]; exact h3
    · rw [hsn]; intro j; have := h4 j; show S.ld.getD j 0 ≤ _; omega
    · rw [hsn]
      intro j rd tk hh hj hk hlt
      have := h4 j
      have hlt' : (p.log.length : Int) < S.ld.getD j 0 := hlt
      omega
  | no hd x ha hsn' hne hw' ho =>
    have hsn : swNext S p.log.length ⟨p.moves, i, 3, 0, hd, x, wHead p.words⟩ = S := by unfold swNext; simp [hne]
    refine one ⟨p.moves, i, 3, 0, hd, x, wHead p.words⟩ (by rw [hlog, ha]; rfl) ⟨hth, fun _ => .inr rfl, fun _ e => (by cases e), fun _ _ e => absurd e hne, fun _ _ _ => ?_, fun _ => ⟨hnn, fun _ e => absurd e hne⟩⟩ ?_ ?_ ?_ ?_
    · show S.ld.getD (i : Int).toNat 0 ≤ S.last
      rw [Int.toNat_natCast]
      rcases Int.lt_or_le S.last (S.ld.getD i 0) with hlt | hle
      · exact absurd (h5 i se.ready t hd hts hsn' hlt) hne
      · exact hle
    · rw [hsn, hw, hw']; exact h2
    · rw [hsn]; exact h3
    · rw [hsn]; intro j; have := h4 j; omega
    · rw [hsn]
      intro j rd tk hh hj hk hlt
      rw [hw, hw']
      exact h5 j rd tk hh (keep j rd tk hh ho hj hk) hk hlt
theorem make_seen {s : ArS} {mv : Mv} {t : ATk} (h : arMake s mv = some t) : t.seen = none := by
  unfold arMake at h
  split at h
  · cases h; rfl
  · split at h
    · split at h
      · cases h; rfl
      · cases h
    · split at h
      · cases h; rfl
      · cases h
theorem SwI.begin (h : SwI p) {i : Nat} {se : PSeat ATk} {t : ATk} {mv : Mv} (hs : p.seats[i]? = some se) (hmk : arMake p.s mv = some t) : SwI (p.begin i mv t) := by
  have hi := (List.getElem?_eq_some_iff.1 hs).1
  have hn : (p.begin i mv t).seats.length = p.seats.length := by show (p.seats.set _ _).length = _; rw [List.length_set]
  refine ⟨by rw [hn]; exact h.all, by rw [hn]; exact h.tag, by rw [hn]; exact h.len, by rw [hn]; exact h.small, ?_⟩
  rw [hn]
  intro j rd tk hh hj hk hlt
  rw [pmTs_set p i ⟨some t, false, p.calls.length, 1, 0⟩ hi rfl] at hj
  unfold updT at hj
  split at hj
  · cases hj
    rw [make_seen hmk] at hk
    cases hk
  · exact h.seen j rd tk hh hj hk hlt
theorem SwI.init (hl : p.log = []) (hw : hTag (wHead p.words) = 0) (ht : ∀ i rd tk, pmTs p i = some (rd, tk) → tk.seen = none) : SwI p := by
  refine ⟨fun k a h => (by rw [hl] at h; cases h), by rw [hl]; exact hw.symm, by rw [hl]; simp [swAt], fun j => ?_, fun i rd tk h h1 h2 => (by rw [ht i rd tk h1] at h2; cases h2)⟩
  rw [hl]
  show (List.replicate _ (0 : Int)).getD j 0 ≤ _
  rw [List.getD_eq_getElem?_getD, List.getElem?_replicate]
  split <;> simp
theorem SwI.runs (h : AH p) (hI : SwI p) (ms : List Mv) : SwI (p.goes ms) := by
  induction ms generalizing p with
  | nil => exact hI
  | cons m ms ih =>
    obtain ⟨h1, h2⟩ := AH.goes (I := SwI) (fun _ _ _ h => ⟨h.all, h.tag, h.len, h.small, h.seen⟩) (fun p i se t o hA _ hs ht k _ h => h.step hA hs ht k) (fun p i se t mv _ _ hs _ _ _ hmk _ h => h.begin hs hmk) h hI m
    exact ih h1 h2
end
end Go
namespace Go
open Go.RowKit
open Go.Proofs.Ytjcggokhminmoaa
variable {ab : Nat}

/-- a slot is free, cached, or owned by a thread -/
def StI (p : PM (arK ab)) : Prop := ∀ (k : Nat) (y : Int × Int), p.s.slots[k]? = some y → y.1 = 0 ∨ y.1 = 1 ∨ (y.1 = 2 ∧ ∃ i : Nat, y.2 = (i : Int) ∧ i < p.seats.length)
section
variable {p : PM (arK ab)}
theorem StI.step (h : StI p) (hA : PA p) {i : Nat} {se : PSeat ATk} {t : ATk} {o : AOut} (hs : p.seats[i]? = some se) (ht : se.task = some t) (k : PStepA p i se t o) : StI (p.step i se t) := by
  have hE := astep_eff hA.inv (pmTs_of hs ht) k.st
  have hi := (List.getElem?_eq_some_iff.1 hs).1
  have hn : (p.step i se t).seats.length = p.seats.length := by rw [k.seats, List.length_set]
  intro j y hy
  rw [k.s] at hy
  rw [hn]
  have hset : ∀ (kk : Nat) (x : Int × Int), o.s.slots = p.s.slots.set kk x → y = x ∨ p.s.slots[j]? = some y := fun kk x e => by
    rw [e] at hy
    rcases set_cases hy with ⟨_, e2⟩ | e2
    · exact .inl e2.symm
    · exact .inr e2
  cases hE with
  | stay hs' _ _ => rw [hs'] at hy; exact h j y hy
  | told kk _ _ hs' _ _ _ =>
    rcases hset kk _ hs' with rfl | e
    · exact .inr (.inr ⟨rfl, i, rfl, hi⟩)
    · exact h j y e
  | given kk q _ _ _ x z hx hs' _ _ =>
    rcases hset kk _ hs' with rfl | e
    · rcases hx with rfl | rfl
      · exact .inl rfl
      · exact .inr (.inl rfl)
    · exact h j y e
  | flushed kk _ _ hs' _ =>
    rcases hset kk _ hs' with rfl | e
    · exact .inl rfl
    · exact h j y e
theorem StI.move (h : StI p) (hA : AH p) (m : Mv) : StI (p.move m).1 :=
  (AH.goes (I := StI) (fun _ _ _ h => h) (fun p i se t o hA _ hs ht k _ h => h.step hA.pa hs ht k) (fun p i se t mv _ _ _ _ _ _ _ _ h => fun k y hy => by
    rcases h k y hy with h1 | h1 | ⟨h1, i', h2, h3⟩
    · exact .inl h1
    · exact .inr (.inl h1)
    · exact .inr (.inr ⟨h1, i', h2, by show i' < (p.seats.set _ _).length; rw [List.length_set]; exact h3⟩)) hA h m).2
theorem StI.runs (h : StI p) (hA : AH p) (ms : List Mv) : StI (p.goes ms) := by
  induction ms generalizing p with
  | nil => exact h
  | cons m ms ih => exact ih (h.move hA m) (hA.move m)

theorem restN_more (i : Int) : ∀ (m k : Nat) (p : PM (arK ab)), (restN p i m).busyB i = false → restN p i (m + k) = restN p i m
  | 0, k, p, h => restN_idle p i _ h
  | m + 1, k, p, h => by
    cases hb : p.busyB i with
    | false => rw [restN_idle p i _ hb, restN_idle p i _ hb]
    | true =>
      have e : ∀ m, restN p i (m + 1) = restN (p.move (stepMv i)).1 i m := fun m => by
        show (if p.busyB i then _ else p) = _
        rw [hb, if_pos rfl]
      rw [show m + 1 + k = (m + k) + 1 by omega, e, e]
      rw [e] at h
      exact restN_more i m k _ h
/-- the calls that are stepped to their ends, thread by thread -/
def agA (p : PM (arK ab)) : Nat → PM (arK ab)
  | 0 => p
  | k + 1 => restN (agA p k) k 400
/-- the slots below k are given back -/
def agB (p : PM (arK ab)) : Nat → PM (arK ab)
  | 0 => p
  | k + 1 => if (agB p k).s.st k = 2 then restN ((agB p k).move ⟨((agB p k).s.slot k).2, 11, k, 0⟩).1 ((agB p k).s.slot k).2 400 else agB p k
/-- the caches below k are flushed -/
def agC (p : PM (arK ab)) : Nat → PM (arK ab)
  | 0 => p
  | k + 1 => restN ((agC p k).move ⟨k, 12, 0, 0⟩).1 k 400
/-- n slots are taken -/
def agD (p : PM (arK ab)) : Nat → PM (arK ab)
  | 0 => p
  | k + 1 => restN ((agD p k).move ⟨0, 10, 0, 0⟩).1 0 400
def IdleAll (p : PM (arK ab)) : Prop := ∀ (i : Nat) (se : PSeat ATk), p.seats[i]? = some se → se.task = none
/-- a thread's need, in moves that are left -/
theorem need_small (hA : PA p) {i : Nat} {se : PSeat ATk} {t : ATk} (hs : p.seats[i]? = some se) (ht : se.task = some t) : aNeed p.words p.s i se.ready t ≤ 195 := by
  have h := need_most hA hs ht
  have hts := pmTs_of hs ht
  obtain ⟨hil, hT⟩ := hA.inv.task i se.ready t hts
  have hc : p.s.caches[i]? = some p.s.caches[i] := List.getElem?_eq_getElem hil
  have h1 := (hA.inv.cache i _ hc).2.1
  have h2 := (ok_small hA.inv.ok).2.2.2.2.2.2.2.2.2.2
  rw [(cache_eq hc).1] at h
  split at h
  · omega
  · omega
theorem agA_ok (hA : AH p) (hS : StI p) : ∀ (k : Nat), k ≤ p.seats.length → p.moves + 195 * k ≤ 65536 → AH (agA p k) ∧ StI (agA p k) ∧ (agA p k).seats.length = p.seats.length ∧ (∀ (i : Nat) (se : PSeat ATk), i < k → (agA p k).seats[i]? = some se → se.task = none) ∧ (agA p k).moves ≤ p.moves + 195 * k := by
  intro k
  induction k with
  | zero => exact fun _ _ => ⟨hA, hS, rfl, fun i se h => by omega, Nat.le_refl _⟩
  | succ k ih =>
    intro hk hm
    obtain ⟨a1, a2, a3, a4, a5⟩ := ih (by omega) (by omega)
    obtain ⟨b1, b2, b3, b4⟩ := rest_ind (I := fun q => StI q ∧ q.seats.length = p.seats.length ∧ ∀ j, j ≠ k → q.seats[j]? = (agA p k).seats[j]?) (i := k) (fun q se t o hq hs ht kk ⟨h1, h2, h3⟩ => ⟨h1.step hq.pa hs ht kk, by rw [kk.seats, List.length_set]; exact h2, fun j hj => by rw [kk.seats, List.getElem?_set_ne (Ne.symm hj)]; exact h3 j hj⟩) 195 a1 ⟨a2, a3, fun _ _ => rfl⟩ (by omega) (fun se t hs ht => need_small a1.pa hs ht)
    have e : agA p (k + 1) = restN (agA p k) k 195 := by
      show restN (agA p k) k (195 + 205) = _
      exact restN_more _ 195 205 _ b3
    rw [e]
    refine ⟨b1, b2.1, b2.2.1, fun i se hi hs => ?_, by omega⟩
    by_cases ei : i = k
    · subst ei
      cases ht : se.task with
      | none => rfl
      | some t =>
        have := (busyB_iff _ i).2 ⟨se, t, hs, ht⟩
        rw [b3] at this
        cases this
    · rw [b2.2.2 i ei] at hs
      exact a4 i se (by omega) hs
theorem agA_idle (hA : AH p) (hS : StI p) (hm : p.moves + 195 * p.seats.length ≤ 65536) : AH (agA p p.seats.length) ∧ StI (agA p p.seats.length) ∧ (agA p p.seats.length).seats.length = p.seats.length ∧ IdleAll (agA p p.seats.length) ∧ (agA p p.seats.length).moves ≤ p.moves + 195 * p.seats.length := by
  obtain ⟨a1, a2, a3, a4, a5⟩ := agA_ok hA hS p.seats.length (Nat.le_refl _) hm
  exact ⟨a1, a2, a3, fun i se hs => a4 i se (by have := (List.getElem?_eq_some_iff.1 hs).1; omega) hs, a5⟩
/-- a call begins -/
theorem begin_move {mv : Mv} {i : Nat} {se : PSeat ATk} {t : ATk} (hm : p.moves < 65536) (hth : mv.th = (i : Int)) (hs : p.seats[i]? = some se) (hi : se.task = none) (hop : mv.op ≠ 0) (hmk : arMake p.s mv = some t) : p.move mv = (p.begin i mv t, true) := by
  have hmk' : (arK ab).make p.s mv = some t := hmk
  unfold PM.move
  rw [if_neg (by omega), hth]
  simp only [Int.toNat_natCast]
  rw [if_neg (by omega)]
  simp only [hs, hi, if_neg hop, hmk']
theorem seats_begin (i : Nat) (mv : Mv) (t : ATk) : (p.begin i mv t).seats = p.seats.set i ⟨some t, false, p.calls.length, 1, 0⟩ := rfl
/-- a thread's run alone, while its call is on its way (J) and behind it (E) -/
theorem alone_run {J : PM (arK ab) → ATk → Prop} {E : PM (arK ab) → Prop} {h : Nat}
    (hJ : ∀ (r : PM (arK ab)) (se : PSeat ATk) (t : ATk) (o : AOut), AH r → r.seats[h]? = some se → se.task = some t → PStepA r h se t o → J r t → (∀ t2, o.tk = some t2 → J (r.step h se t) t2) ∧ (o.tk = none → E (r.step h se t))) :
    ∀ (m : Nat) (p : PM (arK ab)) (se : PSeat ATk) (t : ATk), AH p → p.seats[h]? = some se → se.task = some t → J p t → p.moves + m ≤ 65536 → aNeed p.words p.s h se.ready t ≤ m →
      AH (restN p h m) ∧ E (restN p h m) ∧ (∃ se', (restN p h m).seats[h]? = some se' ∧ se'.task = none) ∧ (∀ j, j ≠ h → (restN p h m).seats[j]? = p.seats[j]?) ∧ (restN p h m).seats.length = p.seats.length ∧
      (∀ j, j ≠ h → (restN p h m).s.caches[j]? = p.s.caches[j]?) ∧ (restN p h m).s.n = p.s.n ∧ (StI p → StI (restN p h m)) ∧ (restN p h m).moves ≤ p.moves + m := by
  intro m
  induction m with
  | zero =>
    intro p se t hA hs ht hj hm hn
    have := aNeed_pos p.words p.s h se.ready t
    omega
  | succ m ih =>
    intro p se t hA hs ht hj hm hn
    have hb : p.busyB h = true := (busyB_iff p h).2 ⟨se, t, hs, ht⟩
    have hi := (List.getElem?_eq_some_iff.1 hs).1
    obtain ⟨o, k⟩ := pm_astep hA.pa hs ht
    have e1 : restN p h (m + 1) = restN (p.step h se t) h m := by
      show (if p.busyB h then restN (p.move (stepMv h)).1 h m else p) = _
      rw [hb, if_pos rfl, step_move (by omega) hs ht]
    have h1 := hA.step (by omega) hs ht k
    obtain ⟨j1, j2⟩ := hJ p se t o hA hs ht k hj
    have q1 : ∀ j, j ≠ h → (p.step h se t).seats[j]? = p.seats[j]? := fun j hj => by rw [k.seats, List.getElem?_set_ne (Ne.symm hj)]
    have q2 : (p.step h se t).seats.length = p.seats.length := by rw [k.seats, List.length_set]
    have q3 : ∀ j, j ≠ h → (p.step h se t).s.caches[j]? = p.s.caches[j]? := fun j hj => by rw [k.s]; exact astep_other k.st hj
    have q4 : (p.step h se t).s.n = p.s.n := by rw [k.s]; exact (astep_same k.st).1
    have q5 : StI p → StI (p.step h se t) := fun x => x.step hA.pa hs ht k
    have q6 : (p.step h se t).seats[h]? = some ⟨o.tk, true, se.last, (o.ans.getD (se.ak, se.av)).1, (o.ans.getD (se.ak, se.av)).2⟩ := by rw [k.seats, List.getElem?_set_self hi]
    rw [e1]
    cases ho : o.tk with
    | none =>
      have hidle : (p.step h se t).busyB h = false := by
        rw [Bool.eq_false_iff]
        intro hb2
        obtain ⟨se2, t2, hs2, ht2⟩ := (busyB_iff _ h).1 hb2
        rw [q6] at hs2
        cases hs2
        simp only [ho] at ht2
        cases ht2
      rw [restN_idle _ _ _ hidle]
      exact ⟨h1, j2 ho, ⟨_, q6, ho⟩, q1, q2, q3, q4, q5, by rw [k.moves]; omega⟩
    | some t2 =>
      have hn2 := astep_need hA.pa.inv k.st ho
      obtain ⟨r1, r2, r3, r4, r5, r6, r7, r8, r9⟩ := ih (p.step h se t) _ t2 h1 q6 ho (j1 t2 ho) (by rw [k.moves]; omega) (by rw [k.words, k.s]; show aNeed o.W o.s h true t2 ≤ m; omega)
      exact ⟨r1, r2, r3, fun j hj => (r4 j hj).trans (q1 j hj), r5.trans q2, fun j hj => (r6 j hj).trans (q3 j hj), r7.trans q4, fun x => r8 (q5 x), by rw [k.moves] at r9; omega⟩
/-- a call from its beginning to its end -/
theorem call_run {J : PM (arK ab) → ATk → Prop} {E : PM (arK ab) → Prop} {h : Nat}
    (hJ : ∀ (r : PM (arK ab)) (se : PSeat ATk) (t : ATk) (o : AOut), AH r → r.seats[h]? = some se → se.task = some t → PStepA r h se t o → J r t → (∀ t2, o.tk = some t2 → J (r.step h se t) t2) ∧ (o.tk = none → E (r.step h se t)))
    {p : PM (arK ab)} (hA : AH p) (hI : IdleAll p) {mv : Mv} (hth : mv.th = (h : Int)) (hl : h < p.seats.length) (hop : mv.op ≠ 0) {t : ATk} (hmk : arMake p.s mv = some t) (hj : J (p.begin h mv t) t) (m : Nat) (hm4 : m ≤ 400) (hm : p.moves + 1 + m ≤ 65536) (hn : aNeed p.words p.s h false t ≤ m) :
    AH (restN (p.move mv).1 h 400) ∧ E (restN (p.move mv).1 h 400) ∧ IdleAll (restN (p.move mv).1 h 400) ∧ (restN (p.move mv).1 h 400).seats.length = p.seats.length ∧
      (∀ j, j ≠ h → (restN (p.move mv).1 h 400).s.caches[j]? = p.s.caches[j]?) ∧ (restN (p.move mv).1 h 400).s.n = p.s.n ∧ (StI p → StI (restN (p.move mv).1 h 400)) ∧ (restN (p.move mv).1 h 400).moves ≤ p.moves + 1 + m := by
  obtain ⟨se, hse⟩ : ∃ se, p.seats[h]? = some se := ⟨_, List.getElem?_eq_getElem hl⟩
  have hmv := begin_move (p := p) (by omega) hth hse (hI h se hse) hop hmk
  have hpa := hA.pa.move mv
  rw [hmv] at hpa ⊢
  have hb := hA.begin (by omega) hth hse hmk hpa
  have hbs : (p.begin h mv t).seats[h]? = some ⟨some t, false, p.calls.length, 1, 0⟩ := by rw [seats_begin, List.getElem?_set_self hl]
  obtain ⟨r1, r2, ⟨se', r3, r3'⟩, r4, r5, r6, r7, r8, r9⟩ := alone_run hJ m (p.begin h mv t) _ t hb hbs rfl hj (by show p.moves + 1 + m ≤ _; omega) hn
  have hidle : (restN (p.begin h mv t) h m).busyB h = false := by
    rw [Bool.eq_false_iff]
    intro hb2
    obtain ⟨se2, t2, hs2, ht2⟩ := (busyB_iff _ h).1 hb2
    rw [r3] at hs2
    cases hs2
    rw [r3'] at ht2
    cases ht2
  have e : restN (p.begin h mv t) h 400 = restN (p.begin h mv t) h m := by
    rw [show 400 = m + (400 - m) by omega]
    exact restN_more _ m _ _ hidle
  rw [e]
  have hlen : (p.begin h mv t).seats.length = p.seats.length := by rw [seats_begin, List.length_set]
  refine ⟨r1, r2, fun j sj hj => ?_, r5.trans hlen, r6, r7, fun x => r8 fun k y hy => ?_, r9⟩
  · by_cases ej : j = h
    · subst ej
      rw [r3] at hj
      cases hj
      exact r3'
    · rw [r4 j ej, seats_begin, List.getElem?_set_ne (Ne.symm ej)] at hj
      exact hI j sj hj
  · rcases x k y hy with h1 | h1 | ⟨h1, i', h2, h3⟩
    · exact .inl h1
    · exact .inr (.inl h1)
    · exact .inr (.inr ⟨h1, i', h2, by rw [hlen]; exact h3⟩)
theorem st_set {s s' : ArS} {k : Nat} {x y : Int} (hk : k < s.n) (e : s'.slots = s.slots.set k (x, y)) (j : Nat) : s'.st j = if j = k then x else s.st j := by
  rw [← put_st s k j x y hk]
  show (s'.slots.getD j (0, 0)).1 = _
  rw [e]
  rfl
theorem agB_ok (hA : AH p) (hS : StI p) (hI : IdleAll p) : ∀ (k : Nat), k ≤ p.s.n → p.moves + 4 * k ≤ 65536 → AH (agB p k) ∧ StI (agB p k) ∧ IdleAll (agB p k) ∧ (agB p k).seats.length = p.seats.length ∧ (agB p k).s.n = p.s.n ∧ (∀ j, j < k → (agB p k).s.st j ≠ 2) ∧ (agB p k).moves ≤ p.moves + 4 * k := by
  intro k
  induction k with
  | zero => exact fun _ _ => ⟨hA, hS, hI, rfl, rfl, fun j h => by omega, Nat.le_refl _⟩
  | succ k ih =>
    intro hk hm
    obtain ⟨a1, a2, a3, a4, a5, a6, a7⟩ := ih (by omega) (by omega)
    have e0 : agB p (k + 1) = if (agB p k).s.st k = 2 then restN ((agB p k).move ⟨((agB p k).s.slot k).2, 11, k, 0⟩).1 ((agB p k).s.slot k).2 400 else agB p k := rfl
    rw [e0]
    generalize agB p k = q at *
    by_cases h2 : q.s.st k = 2
    · obtain ⟨y, hy⟩ := slot_some (s := q.s) (k := k) (by omega)
      have hy1 : y.1 = 2 := by rw [← st_of hy]; exact h2
      have hsl : q.s.slot k = y := by unfold ArS.slot; rw [Int.toNat_natCast]; exact getD_of (by simpa using hy)
      obtain ⟨h, hh, hhl⟩ : ∃ i : Nat, y.2 = (i : Int) ∧ i < q.seats.length := by
        rcases a2 k y hy with e | e | ⟨_, e⟩
        · omega
        · omega
        · exact e
      have hmk : arMake q.s ⟨h, 11, k, 0⟩ = some (.give ⟨k, 1, 0, h⟩) := by
        unfold arMake
        simp only [show ¬ ((11 : Int) = 10) by decide, if_false, if_true]
        rw [if_pos]
        have hkn : (k : Int) < (q.s.slots.length : Int) := by unfold ArS.n at *; omega
        simp [ArS.has, hsl, hy1, hh, hkn]
      rw [if_pos h2, hsl, hh]
      obtain ⟨b1, ⟨b2, b3⟩, b4, b5, b6, b7, b8, b9⟩ := call_run (h := h) (J := fun r t => (∃ q', t = .give q' ∧ q'.slot = (k : Int)) ∧ r.s.n = q.s.n ∧ ∀ j, q.s.st j ≠ 2 → r.s.st j ≠ 2) (E := fun r => (∀ j, q.s.st j ≠ 2 → r.s.st j ≠ 2) ∧ r.s.st k ≠ 2)
        (fun r se t o hr hs ht kk ⟨⟨q', h1, h2'⟩, h3, h4⟩ => by
          have hE := astep_eff hr.pa.inv (pmTs_of hs ht) kk.st
          have hsame := (astep_same kk.st).1
          rw [kk.s]
          cases hE with
          | stay hs' _ hg =>
            rw [hs']
            refine ⟨fun t2 ht2 => ⟨?_, h3, h4⟩, fun hno => absurd (by rw [h1]; rfl) (hg hno)⟩
            obtain ⟨q2, x1, x2⟩ := (astep_next kk.st ht2).2.2.1 q' h1
            exact ⟨q2, x1, x2.trans h2'⟩
          | told k' hk' _ hs' htop hot _ => rw [h1] at htop; cases htop
          | given k' q2 hq2 hqs hk' x z hx hs' hot _ =>
            rw [h1] at hq2
            cases hq2
            obtain rfl : k' = k := by omega
            have hst := st_set (getD_n hk').1 hs'
            refine ⟨fun t2 ht2 => (by rw [hot] at ht2; cases ht2), fun _ => ⟨fun j hj => ?_, ?_⟩⟩
            · rw [hst]
              split
              · rcases hx with rfl | rfl <;> decide
              · exact h4 j hj
            · rw [hst, if_pos rfl]
              rcases hx with rfl | rfl <;> decide
          | flushed k' htop _ _ _ => rw [h1] at htop; cases htop)
        a1 a3 (mv := ⟨h, 11, k, 0⟩) rfl (by omega) (by show (11 : Int) ≠ 0; decide) hmk ⟨⟨_, rfl, rfl⟩, rfl, fun j hj => hj⟩ 3 (by omega) (by omega) (by simp [aNeed, headNeed])
      refine ⟨b1, b8 a2, b4, b5.trans a4, b7.trans a5, fun j hj => ?_, by omega⟩
      by_cases e : j = k
      · subst e; exact b3
      · exact b2 j (a6 j (by omega))
    · rw [if_neg h2]
      refine ⟨a1, a2, a3, a4, a5, fun j hj => ?_, by omega⟩
      by_cases e : j = k
      · subst e; exact h2
      · exact a6 j (by omega)
theorem agC_ok (hA : AH p) (hS : StI p) (hI : IdleAll p) (h2 : ∀ j, p.s.st j ≠ 2) : ∀ (k : Nat), k ≤ p.seats.length → p.moves + 194 * k ≤ 65536 → AH (agC p k) ∧ StI (agC p k) ∧ IdleAll (agC p k) ∧ (agC p k).seats.length = p.seats.length ∧ (agC p k).s.n = p.s.n ∧
    (∀ j, (agC p k).s.st j ≠ 2) ∧ (∀ j, j < k → (agC p k).s.caches[j]? = some []) ∧ (agC p k).moves ≤ p.moves + 194 * k := by
  intro k
  induction k with
  | zero => exact fun _ _ => ⟨hA, hS, hI, rfl, rfl, h2, fun j h => by omega, Nat.le_refl _⟩
  | succ k ih =>
    intro hk hm
    obtain ⟨a1, a2, a3, a4, a5, a6, a7, a8⟩ := ih (by omega) (by omega)
    have e0 : agC p (k + 1) = restN ((agC p k).move ⟨k, 12, 0, 0⟩).1 k 400 := rfl
    rw [e0]
    generalize agC p k = q at *
    have hmk : arMake q.s ⟨k, 12, 0, 0⟩ = some (.flush ⟨0, 0, 0, k⟩) := rfl
    have hil : k < q.s.caches.length := by rw [← a1.pa.len]; omega
    have hc : q.s.caches[k]? = some q.s.caches[k] := List.getElem?_eq_getElem hil
    have hneed : aNeed q.words q.s k false (.flush ⟨0, 0, 0, k⟩) ≤ 193 := by
      have h1 := (a1.pa.inv.cache k _ hc).2.1
      have h3 := (ok_small a1.pa.inv.ok).2.2.2.2.2.2.2.2.2.2
      unfold aNeed
      rw [hc]
      simp only [Bool.false_eq_true, if_false, Option.getD_some]
      split <;> omega
    obtain ⟨b1, ⟨b2, b3⟩, b4, b5, b6, b7, b8, b9⟩ := call_run (h := k) (J := fun r t => t.op = 12 ∧ ∀ j, r.s.st j ≠ 2) (E := fun r => (∀ j, r.s.st j ≠ 2) ∧ r.s.caches[k]? = some [])
      (fun r se t o hr hs ht kk ⟨h1, h4⟩ => by
        have hE := astep_eff hr.pa.inv (pmTs_of hs ht) kk.st
        have hst : ∀ j, o.s.st j ≠ 2 := fun j => by
          cases hE with
          | stay hs' _ _ => rw [hs']; exact h4 j
          | told k' _ _ _ htop _ _ => rw [h1] at htop; cases htop
          | given k' q2 hq2 _ _ _ _ _ _ _ _ => rw [hq2] at h1; cases h1
          | flushed k' _ hk' hs' _ =>
            rw [st_set (getD_n hk').1 hs']
            split
            · decide
            · exact h4 j
        rw [kk.s]
        exact ⟨fun t2 ht2 => ⟨(astep_next kk.st ht2).1.trans h1, hst⟩, fun hno => ⟨hst, astep_flushed kk.st h1 hno⟩⟩)
      a1 a3 (mv := ⟨k, 12, 0, 0⟩) rfl (by omega) (by show (12 : Int) ≠ 0; decide) hmk ⟨rfl, a6⟩ 193 (by omega) (by omega) hneed
    refine ⟨b1, b8 a2, b4, b5.trans a4, b7.trans a5, b2, fun j hj => ?_, by omega⟩
    by_cases e : j = k
    · subst e; exact b3
    · rw [b6 j e]; exact a7 j (by omega)
/-- behind the flushes all slots are free -/
theorem agC_free (hA : AH p) (hS : StI p) (h2 : ∀ j, p.s.st j ≠ 2) (hc : ∀ j, j < p.seats.length → p.s.caches[j]? = some []) : ∀ k, k < p.s.n → p.s.st k = 0 := by
  intro k hk
  obtain ⟨y, hy⟩ := slot_some hk
  rw [st_of hy]
  rcases hS k y hy with e | e | ⟨e, _⟩
  · exact e
  · exfalso
    obtain ⟨y1, y2⟩ := y
    simp only at e
    subst e
    obtain ⟨i, c, rfl, h3, h4⟩ := hA.pa.inv.cached k y2 hy
    have hil := (List.getElem?_eq_some_iff.1 h3).1
    rw [← hA.pa.len] at hil
    rw [hc i hil] at h3
    cases h3
    cases h4
  · exact absurd (by rw [st_of hy]; exact e) (h2 k)

/-! pigeons -/
theorem nodup_le : ∀ (N : Nat) (l : List Nat), l.Nodup → (∀ x ∈ l, x < N) → l.length ≤ N
  | 0, l, _, h => by
    cases l with
    | nil => simp
    | cons x l => have := h x (by simp); omega
  | N + 1, l, hd, h => by
    by_cases e : N ∈ l
    · have h1 := nodup_le N (l.erase N) (hd.erase N) (fun x hx => by
        have h2 := (List.Nodup.mem_erase_iff hd).1 hx
        have := h x h2.2
        omega)
      rw [List.length_erase_of_mem e] at h1
      omega
    · have := nodup_le N l hd (fun x hx => by
        have := h x hx
        have : x ≠ N := fun e' => e (e' ▸ hx)
        omega)
      omega
theorem all_ge : ∀ (N : Nat) (l : List Nat), (∀ x, x < N → x ∈ l) → N ≤ l.length
  | 0, _, _ => Nat.zero_le _
  | N + 1, l, h => by
    have h1 := all_ge N (l.erase N) (fun x hx => (List.mem_erase_of_ne (by omega)).2 (h x (by omega)))
    rw [List.length_erase_of_mem (h N (by omega))] at h1
    have : 0 < l.length := List.length_pos_of_mem (h N (by omega))
    omega

/-- what is told, take by take -/
def agSeen (p : PM (arK ab)) : Nat → List Nat
  | 0 => []
  | k + 1 => ((agD p (k + 1)).callR 0).1.av.toNat :: agSeen p k
structure AgD (p : PM (arK ab)) (n : Nat) : Prop where
  ah : AH (agD p n)
  idle : IdleAll (agD p n)
  len : (agD p n).seats.length = p.seats.length
  sl : (agD p n).s.n = p.s.n
  ca : ∀ (j : Nat) (c : List Int), (agD p n).s.caches[j]? = some c → c = []
  st : ∀ k, k < p.s.n → ((agD p n).s.st k = 2 ∧ k ∈ agSeen p n) ∨ ((agD p n).s.st k = 0 ∧ k ∉ agSeen p n)
  nd : (agSeen p n).Nodup
  many : (agSeen p n).length = n
  lt : ∀ x ∈ agSeen p n, x < p.s.n
  mv : (agD p n).moves ≤ p.moves + 4 * n
def AgE (q : PM (arK ab)) (r : PM (arK ab)) : Prop := ∃ c : Cal, r.callR 0 = (c, true) ∧
  ((c.ak = 2 ∧ ∃ k : Nat, k < q.s.n ∧ c.av = (k : Int) ∧ q.s.st k = 0 ∧ r.s.slots = q.s.slots.set k (2, 0) ∧ r.s.caches = q.s.caches) ∨ (c.ak = 4 ∧ ∀ k, k < q.s.n → q.s.st k ≠ 0))
theorem agD_call {n : Nat} (h : AgD p n) (h0 : 0 < p.seats.length) (hm : (agD p n).moves + 4 ≤ 65536) : AH (agD p (n + 1)) ∧ AgE (agD p n) (agD p (n + 1)) ∧ IdleAll (agD p (n + 1)) ∧ (agD p (n + 1)).seats.length = p.seats.length ∧ (agD p (n + 1)).s.n = p.s.n ∧ (agD p (n + 1)).moves ≤ (agD p n).moves + 4 := by
  have e0 : agD p (n + 1) = restN ((agD p n).move ⟨0, 10, 0, 0⟩).1 0 400 := rfl
  rw [e0]
  obtain ⟨a1, a2, a3, a4, a5, a6, a7, a8, a9, a10⟩ := h
  generalize agD p n = q at *
  have hmk : arMake q.s ⟨0, 10, 0, 0⟩ = some (.take ⟨0, 1, 0, 0, 0, false⟩) := rfl
  have hil : 0 < q.s.caches.length := by rw [← a1.pa.len]; omega
  have hc0 : q.s.caches[0]? = some [] := by
    have hc : q.s.caches[0]? = some q.s.caches[0] := List.getElem?_eq_getElem hil
    rw [hc, a5 0 _ hc]
  obtain ⟨b1, b2, b4, b5, b6, b7, b8, b9⟩ := call_run (h := 0) (J := fun r t => t.op = 10 ∧ r.s = q.s) (E := AgE q)
    (fun r se t o hr hs ht kk ⟨h1, h4⟩ => by
      refine ⟨fun t2 ht2 => ?_, fun hno => ?_⟩
      · obtain ⟨n1, _, _, _, n5⟩ := astep_next kk.st ht2
        exact ⟨n1.trans h1, by rw [kk.s, n5 h1]; exact h4⟩
      · obtain ⟨l, c, K⟩ := hr.call hs ht kk
        have hl := (List.getElem?_eq_some_iff.1 K.at').1
        have hi := (List.getElem?_eq_some_iff.1 hs).1
        have hcr : (r.step 0 se t).callR 0 = ({ c with en := r.moves, ak := (o.ans.getD (1, 0)).1, av := (o.ans.getD (1, 0)).2 }, true) := by
          unfold PM.callR
          rw [if_neg (by decide), show (0 : Int).toNat = 0 from rfl, kk.seats, List.getElem?_set_self hi]
          simp only
          rw [K.last, if_neg (by omega), K.calls, hno]
          simp only [Option.isNone_none, if_true, Int.toNat_natCast]
          rw [getD_of (List.getElem?_set_self hl)]
        have hcs : r.s.caches[0]? = some [] := by rw [h4]; exact hc0
        refine ⟨_, hcr, ?_⟩
        rcases astep_ends kk.st hno with ⟨_, h5⟩ | ⟨h5, _⟩
        · rcases h5 with ⟨k, h5⟩ | ⟨g1, g2, g3, g4, g5⟩
          · have hE := astep_eff hr.pa.inv (pmTs_of hs ht) kk.st
            cases hE with
            | stay _ ha _ => exact absurd h5 (ha _)
            | told k' hk' h2' hs' _ _ ha =>
              rw [ha]
              refine .inl ⟨rfl, k', by rw [← h4]; exact hk', rfl, ?_, by rw [kk.s, hs', h4]; rfl, by rw [kk.s, astep_took kk.st h1 hcs, h4]⟩
              rcases h2' with h2' | h2'
              · rw [← h4]; exact h2'
              · exfalso
                obtain ⟨y, hy⟩ := slot_some hk'
                have := st_of hy
                obtain ⟨y1, y2⟩ := y
                simp only at this
                obtain rfl : y1 = 1 := by omega
                obtain ⟨i', c', _, h6, h7⟩ := hr.pa.inv.cached k' y2 hy
                rw [h4] at h6
                rw [a5 i' c' h6] at h7
                cases h7
            | given _ _ hq _ _ _ _ _ _ _ _ => rw [hq] at h1; cases h1
            | flushed _ htop _ _ _ => rw [h1] at htop; cases htop
          · rw [g1]
            refine .inr ⟨rfl, ?_⟩
            rw [← h4]
            exact none_free hr.pa.inv g2
        · exact absurd h1 h5)
    a1 a2 (mv := ⟨0, 10, 0, 0⟩) rfl (by omega) (by show (10 : Int) ≠ 0; decide) hmk ⟨rfl, rfl⟩ 3 (by omega) (by omega) (by simp [aNeed, headNeed])
  exact ⟨b1, b2, b4, b5.trans a3, b7.trans a4, by omega⟩
/-- as long as there are slots, each take tells a new one -/
theorem agD_next {n : Nat} (h : AgD p n) (h0 : 0 < p.seats.length) (hm : p.moves + 4 * n + 4 ≤ 65536) (hn : n < p.s.n) : AgD p (n + 1) ∧ ∃ (c : Cal) (k : Nat), (agD p (n + 1)).callR 0 = (c, true) ∧ c.ak = 2 ∧ c.av = (k : Int) ∧ k < p.s.n ∧ k ∉ agSeen p n := by
  have hmv := h.mv
  obtain ⟨b1, ⟨c, hc, hcase⟩, b4, b5, b7, b9⟩ := agD_call h h0 (by omega)
  have hfree : ∃ k, k < p.s.n ∧ k ∉ agSeen p n := by
    by_cases e : ∃ k, k < p.s.n ∧ k ∉ agSeen p n
    · exact e
    · exfalso
      have := all_ge p.s.n (agSeen p n) (fun x hx => by
        by_cases e2 : x ∈ agSeen p n
        · exact e2
        · exact absurd ⟨x, hx, e2⟩ e)
      have := h.many
      omega
  obtain ⟨kf, hkf, hkn⟩ := hfree
  rcases hcase with ⟨h2, k, hk, hav, hst, hsl, hca⟩ | ⟨h4, hno⟩
  · rw [h.sl] at hk
    have hks : k ∉ agSeen p n := by
      rcases h.st k hk with ⟨e, _⟩ | ⟨_, e⟩
      · omega
      · exact e
    have hsee : agSeen p (n + 1) = k :: agSeen p n := by
      show ((agD p (n + 1)).callR 0).1.av.toNat :: agSeen p n = _
      rw [hc]
      simp only
      rw [hav, Int.toNat_natCast]
    have hst2 := st_set (s := (agD p n).s) (s' := (agD p (n + 1)).s) (k := k) (by rw [h.sl]; exact hk) hsl
    refine ⟨⟨b1, b4, b5, b7, fun j d hd => h.ca j d (by rw [← hca]; exact hd), fun j hj => ?_, ?_, ?_, ?_, by omega⟩, c, k, hc, h2, hav, hk, hks⟩
    · rw [hst2, hsee]
      by_cases e : j = k
      · subst e
        rw [if_pos rfl]
        exact .inl ⟨rfl, by simp⟩
      · rw [if_neg e]
        rcases h.st j hj with ⟨x1, x2⟩ | ⟨x1, x2⟩
        · exact .inl ⟨x1, by simp [x2]⟩
        · exact .inr ⟨x1, by simp [x2, e]⟩
    · rw [hsee]; exact List.nodup_cons.2 ⟨hks, h.nd⟩
    · rw [hsee, List.length_cons, h.many]
    · rw [hsee]
      intro x hx
      rcases List.mem_cons.1 hx with rfl | hx
      · exact hk
      · exact h.lt x hx
  · exfalso
    rcases h.st kf hkf with ⟨_, e⟩ | ⟨e, _⟩
    · exact hkn e
    · exact hno kf (by rw [h.sl]; exact hkf) e
/-- and then none -/
theorem agD_last (h : AgD p p.s.n) (h0 : 0 < p.seats.length) (hm : p.moves + 4 * p.s.n + 4 ≤ 65536) : ∃ c : Cal, (agD p (p.s.n + 1)).callR 0 = (c, true) ∧ c.ak = 4 := by
  have hmv := h.mv
  obtain ⟨b1, ⟨c, hc, hcase⟩, b4, b5, b7, b9⟩ := agD_call h h0 (by omega)
  rcases hcase with ⟨h2, k, hk, hav, hst, hsl, hca⟩ | ⟨h4, hno⟩
  · exfalso
    rw [h.sl] at hk
    rcases h.st k hk with ⟨e, _⟩ | ⟨_, e⟩
    · omega
    · have := nodup_le p.s.n (k :: agSeen p p.s.n) (List.nodup_cons.2 ⟨e, h.nd⟩) (fun x hx => by
        rcases List.mem_cons.1 hx with rfl | hx
        · exact hk
        · exact h.lt x hx)
      rw [List.length_cons, h.many] at this
      omega
  · exact ⟨c, hc, h4⟩
theorem agD_zero (hA : AH p) (hI : IdleAll p) (hc : ∀ (j : Nat) (c : List Int), p.s.caches[j]? = some c → c = []) (h0 : ∀ k, k < p.s.n → p.s.st k = 0) : AgD p 0 :=
  ⟨hA, hI, rfl, rfl, hc, fun k hk => .inr ⟨h0 k hk, by simp [agSeen]⟩, List.nodup_nil, rfl, fun x hx => (by cases hx), Nat.le_refl _⟩
end
end Go
namespace Go.Proofs.Ytjcggokhminmoaa
open Go.ChangeShapes Go.WideShapes Go.ChangeAt Go.RowKit

set_option maxRecDepth 100000 in
set_option maxHeartbeats 1000000 in
theorem acount_any {w : World} {base ab : Nat} {s : ArS} {av : ArV} (H : ArAt w base ab s av) (x : Int) : Calls Try.prog 29 #[.pointer (some ⟨ab, 0, none⟩), .int .i64 x] w fun e w' =>
    e = .returned (.int .i64 (cntUpto s.slots x s.slots.length : Int)) ∧ Below w.heap.size w w' := by
  have hn1 := (ok_small H.ok).1
  have hn2 := (ok_small H.ok).2.1
  unfold ArS.n at hn1 hn2
  obtain ⟨g, cap, e, h1, h2, h3, h4, h5, h6, h7, h8⟩ := H.slotAt (i := 0) (by omega)
  obtain ⟨c0, c1, c2, c3, c4, c5, c6, c7, c8, z, lt⟩ := H.head
  rw [e] at c7
  have HH := Lib.hid H
  have H3 := Lib.hid h3
  unfold maxLen at h2
  clear c0 c1 c2 c3 c4 c5 c6 c8 z H e h3 h5 h6 h7 h8
  go_enter Try.func29, Try.ntmps29
  go_wp2
  go_step3
  go_wp2
  go_step3
  go_wp2
  go_loopg [5, 15] s.slots.length (fun gh s5 s15 wr => ∃ k : Nat, k ≤ s.slots.length ∧ s.slots.length ≤ k + gh ∧ s5 = .int .i64 (cntUpto s.slots x k : Int) ∧ s15 = .int .i64 (k : Int) ∧ ∃ os d, wr = w.more os d)
  case atStart => exact ⟨0, by omega, by omega, by simp [cntUpto], by go_num, #[], w.drawn, by simp [World.more]⟩
  case round =>
    obtain ⟨k, hk1, hk2, rfl, rfl, os, d, rfl⟩ := hrel
    by_cases hlt : k < s.slots.length
    · obtain ⟨g', cap', e', _, _, h3', _, _, _, h7', h8'⟩ := HH.out.slotAt hlt
      obtain rfl : g' = g := by rw [H3.out] at h3'; exact (Option.some.inj h3').symm
      have HN := Lib.hid (cntUpto_succ s.slots x k hlt)
      have hle := cntUpto_le s.slots x k
      obtain ⟨a, b, hab⟩ : ∃ a b, s.slots[k] = (a, b) := ⟨_, _, rfl⟩
      rw [hab] at h7' h8' HN
      simp only at h7' h8' HN
      clear e' h3' hab
      by_cases q : a = x
      · subst q
        rw [if_pos rfl] at HN
        go_wp2
        go_roundg (s.slots.length - (k + 1))
        case measure => omega
        case rel => exact ⟨k + 1, by omega, by omega, by rw [HN.out]; go_num, by go_num, RowKit.Below.more (by repeat (first | exact Below.refl _ _ | apply Below.drew | apply Below.more1 | apply Below.alloc1))⟩
      · rw [if_neg q] at HN
        have d1 : decide (a = x) = false := decide_eq_false q
        have d2 : (a == x) = false := beq_eq_false_iff_ne.2 q
        go_wp2
        go_roundg (s.slots.length - (k + 1))
        case measure => omega
        case rel => exact ⟨k + 1, by omega, by omega, by rw [HN.out]; go_num, by go_num, RowKit.Below.more (by repeat (first | exact Below.refl _ _ | apply Below.drew | apply Below.more1 | apply Below.alloc1))⟩
    · obtain rfl : k = s.slots.length := by omega
      go_wp2
      rw [Exit.noGoto_ret]
      go_ret
      exact ⟨rfl, (by repeat (first | exact Below.refl _ _ | apply Below.drew | apply Below.more1 | apply Below.alloc1))⟩
end Go.Proofs.Ytjcggokhminmoaa
