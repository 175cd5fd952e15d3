/-
machine.Play: a run of a script of the machine's own calls.
-/
import Derived.Test.YtbhbpfpggfcpgaaPmG
namespace Go.Proofs.Ytbhbpfpggfcpgaa
open Go.ChangeShapes Go.WideShapes Go.ChangeAt Go.RowKit Go.Shelf

/-- a list of moves that can be read -/
def MvsIn (w : World) (va : Value) (ms : List Mv) : Prop :=
  ∃ o c, va = .slice o ms.length c ∧ ms.length ≤ c ∧ c ≤ maxLen ∧ ∀ i (h : i < ms.length), ∃ b off, o = some ⟨b, off, none⟩ ∧ b < w.heap.size ∧
    w.cell? ⟨b, off + i * 4 + 0, none⟩ = some (.int .i64 ms[i].th) ∧ w.cell? ⟨b, off + i * 4 + 1, none⟩ = some (.int .i64 ms[i].op) ∧ w.cell? ⟨b, off + i * 4 + 2, none⟩ = some (.int .i64 ms[i].arg) ∧ w.cell? ⟨b, off + i * 4 + 3, none⟩ = some (.int .i64 ms[i].data)
theorem MvsIn.of_block {w w' : World} {va : Value} {ms : List Mv} (h : MvsIn w va ms) (hb : ∀ k, k < w.heap.size → w'.heap[k]? = w.heap[k]?) (hs : w.heap.size ≤ w'.heap.size) : MvsIn w' va ms := by
  obtain ⟨o, c, e, h1, h2, h3⟩ := h
  refine ⟨o, c, e, h1, h2, fun i hi => ?_⟩
  obtain ⟨b, off, e1, hl, c0, c1, c2, c3⟩ := h3 i hi
  exact ⟨b, off, e1, by omega, (World.cell?_of_block (hb b hl)).trans c0, (World.cell?_of_block (hb b hl)).trans c1, (World.cell?_of_block (hb b hl)).trans c2, (World.cell?_of_block (hb b hl)).trans c3⟩
theorem MvsIn.only {w w' : World} {va : Value} {ms : List Mv} (h : MvsIn w va ms) (ho : Only (fun _ => False) w w') : MvsIn w' va ms := h.of_block (fun k hl => ho.block k hl (fun x => x)) ho.size
theorem _root_.Go.World.Src.only {w w' : World} {k n : Nat} {v : Value} {xs : List Value} (h : w.Src k v n xs) (ho : Only (fun _ => False) w w') : w'.Src k v n xs := h.of_block fun b hl => ho.block b hl (fun x => x)

/-- while the moves are made -/
def PlayI (w0 : World) (l : List Int) (size : Int) (n xb : Nat) (kit : Value) (ms : List Mv) (wr : World) : Prop :=
  ∃ F, PMAt (ownK size) wr w0.heap.size xb ((PM.init (ownK size) l n ()).goes ms) kit F ∧ Only (fun _ => False) w0 wr
theorem PlayI.next {w0 wr w' : World} {l : List Int} {size : Int} {n xb : Nat} {kit : Value} {F : Nat → Prop} {ms : List Mv} {mv : Mv} {e : Ending} (h : PMAt (ownK size) wr w0.heap.size xb ((PM.init (ownK size) l n ()).goes ms) kit F) (ho : Only (fun _ => False) w0 wr)
    (hm : MoveOut (ownK size) wr w0.heap.size xb ((PM.init (ownK size) l n ()).goes ms) kit F mv e w') : e = .returned (.bool (((PM.init (ownK size) l n ()).goes ms).move mv).2) ∧ PlayI w0 l size n xb kit (ms ++ [mv]) w' := by
  obtain ⟨he, F', h1, h2, h3⟩ := hm
  refine ⟨he, F', ?_, ho.trans h2 (fun i hi => .inr (h.lt (ownK_ok size) i hi).1)⟩
  rw [PM.goes_snoc]
  exact h1
theorem PlayI.only {w0 wr w' : World} {l : List Int} {size : Int} {n xb : Nat} {kit : Value} {ms : List Mv} (h : PlayI w0 l size n xb kit ms wr) (ho : Only (fun _ => False) wr w') : PlayI w0 l size n xb kit ms w' := by
  obtain ⟨F, h1, h2⟩ := h
  exact ⟨F, h1.only (ownK_ok size) ho (fun _ _ x => x), h2.trans ho (fun _ x => x.elim)⟩

/-- the run that comes of a script -/
def ownRun (l : List Int) (n : Nat) (ms : List Mv) : RunS := ((PM.init (ownK l.length) l n ()).goes ms).run
/-- what Play leaves -/
def PlayRes (w : World) (l : List Int) (n : Nat) (ms : List Mv) (e : Ending) (w' : World) : Prop :=
  ∃ x : RunVs, e = .returned (.tuple #[x.v, .int .i64 0]) ∧ RunAt w' w.heap.size x (ownRun l n ms) ∧ Only (fun _ => False) w w'

theorem own_good (l : List Int) (n : Nat) (ms : List Mv) (h1 : 1 ≤ n) (h16 : n ≤ 16) : ((PM.init (ownK l.length) l n ()).goes ms).Good := PM.Good.goes (ownK_ok _) (PM.Good.init _ _ _ _ h1 (by omega)) ms
theorem own_len (l : List Int) (n : Nat) (ms : List Mv) : ((PM.init (ownK l.length) l n ()).goes ms).words.length = l.length := PM.words_lens (own_words _) _ ms
theorem take_next {α : Type} (l : List α) (k : Nat) (h : k < l.length) : l.take (k + 1) = l.take k ++ [l[k]] := by
  rw [List.take_succ_eq_append_getElem h]

theorem PlayRes.fin {w W wx : World} {l : List Int} {n : Nat} {ms : List Mv} {x : RunVs} (h : RunAt wx W.heap.size x (ownRun l n ms)) (ho : Only (fun _ => False) w W) (hlt : w.heap.size < W.heap.size) (hx : Only (fun _ => False) W wx) {w' : World}
    (hk : ∀ k, k ≠ w.heap.size → w'.heap[k]? = wx.heap[k]?) (hos : w'.os = wx.os) (hta : w'.tape = wx.tape) (hou : w'.output = wx.output) (hsz : wx.heap.size ≤ w'.heap.size) :
    RunAt w' w.heap.size x (ownRun l n ms) ∧ Only (fun _ => False) w w' := by
  have h1 := ho.size
  have h2 := hx.size
  refine ⟨(h.of_block fun k hk' => hk k (by have := (h.lt k hk').1; omega)).base_mono (by omega), ⟨hos.trans (hx.os.trans ho.os), hta.trans (hx.tape.trans ho.tape), hou.trans (hx.output.trans ho.output), by omega, fun k hl _ => ?_⟩⟩
  rw [hk k (by omega), hx.block k (by omega) (fun x => x), ho.block k hl (fun x => x)]

set_option maxRecDepth 100000 in
set_option maxHeartbeats 4000000 in
theorem play_ok {w : World} (n : Nat) {vx vm : Value} {l : List Int} {ms : List Mv} (hs : w.Src 1 vx l.length (u64s l)) (hl : l.length ≤ 8192) (hm : MvsIn w vm ms) (hms : ms.length ≤ 65536) (h1 : 1 ≤ n) (h16 : n ≤ 16) :
    Calls Try.prog 21 #[.int .i64 (n : Int), vx, vm] w (PlayRes w l n ms) := by
  have HS := Lib.hid hs
  obtain ⟨ox, cx, rfl⟩ : ∃ o c, vx = .slice o l.length c := by
    rcases hs.2 with ⟨rfl, h0⟩ | ⟨ad, c, rfl, hc, _⟩
    · exact ⟨none, 0, by rw [h0]⟩
    · exact ⟨some ad, c, rfl⟩
  have HMI := Lib.hid hm
  obtain ⟨om, cm, rfl, hm1, hm2, hm3⟩ := hm
  have HM := Lib.hid hm3
  unfold maxLen at hm2
  have hms2 : decide ((65536 : Int) < (ms.length : Int)) = false := by simp; omega
  clear hs hm3
  go_enter Try.func21, Try.ntmps21
  go_wp2_with (first
    | (go_at_call 16; refine (own_at _).mono ?_; rintro e w1 ⟨kb, sb, tb, rfl, hk, ho⟩; have HK := Lib.hid hk; have HO := Lib.hid ho; have HN := Lib.hid (newm_ok (w := w1) (km := some kb) n ((HS.out.alloc _).only ho) hl h1 h16); clear hk ho)
    | (go_at_call 15; refine HN.out.mono ?_; rintro e w2 ⟨xb, rfl, hna⟩; obtain ⟨Fn, hpm, hon⟩ := newAt_pm HK.out HO.out hna; have HI := Lib.hid (show PlayI (run0 w) l l.length n xb (.map (some kb)) [] w2 from ⟨Fn, hpm, hon⟩); clear hna hpm hon))
  go_loopg [31] ms.length (fun g sl wr => ∃ k : Nat, k ≤ ms.length ∧ ms.length ≤ k + g ∧ sl = .int .i64 (k : Int) ∧ Hid (PlayI (run0 w) l l.length n xb (.map (some kb)) (ms.take k) wr))
  case atStart => exact ⟨0, by omega, by omega, by go_num, HI⟩
  case round =>
    obtain ⟨k, hk1, hk2, rfl, hI⟩ := hrel
    by_cases hlt : k < ms.length
    · obtain ⟨F, hA, hO⟩ := hI.out
      have hw : Only (fun _ => False) w wr := ((Only.refl _ w).alloc _).trans hO (fun _ x => x.elim)
      obtain ⟨b, off, rfl, hb, m0, m1, m2, m3⟩ := HM.out k hlt
      replace m0 := (hw.cellAt (p := ⟨b, off + k * 4 + 0, none⟩) hb (fun x => x)).trans m0
      replace m1 := (hw.cellAt (p := ⟨b, off + k * 4 + 1, none⟩) hb (fun x => x)).trans m1
      replace m2 := (hw.cellAt (p := ⟨b, off + k * 4 + 2, none⟩) hb (fun x => x)).trans m2
      replace m3 := (hw.cellAt (p := ⟨b, off + k * 4 + 3, none⟩) hb (fun x => x)).trans m3
      simp only [Nat.add_zero] at m0
      have hbr : b < wr.heap.size := Nat.lt_of_lt_of_le hb hw.size
      have HG := Lib.hid (own_good l n (ms.take k) h1 h16)
      have HA := Lib.hid (hA.only (ownK_ok _) ((Only.refl _ wr).alloc (.cells #[.int .i64 ms[k].th, .int .i64 ms[k].op, .int .i64 ms[k].arg, .int .i64 ms[k].data] 34)) (fun _ _ x => x))
      have HOO := Lib.hid (hO.alloc (.cells #[.int .i64 ms[k].th, .int .i64 ms[k].op, .int .i64 ms[k].arg, .int .i64 ms[k].data] 34))
      have HT := Lib.hid (take_next ms k hlt)
      clear hA hO hI hw HI HM
      go_wp2_with (go_at_call 17; refine (pm_move (ownK_ok _) HG.out HA.out ms[k]).mono ?_; rintro e w3 hmo; obtain ⟨rfl, hnx⟩ := PlayI.next HA.out HOO.out hmo; have HNX := Lib.hid hnx; clear hmo hnx)
      go_roundg (ms.length - (k + 1))
      case measure => omega
      case rel => exact ⟨k + 1, by omega, by omega, by go_num, by rw [HT.out]; exact HNX⟩
    · obtain rfl : k = ms.length := by omega
      obtain ⟨F, hA, hO⟩ := hI.out
      rw [List.take_length] at hA
      have HR := Lib.hid (pm_run (own_good l n ms h1 h16) hA (by rw [own_len]; omega))
      have HOO := Lib.hid hO
      clear hA hO hI HI HM
      have hrc : wr.heap[w.heap.size]? = some (.cells #[.slice none 0 0, .slice none 0 0, .slice none 0 0, .slice none 0 0] 41 (0, 0)) := by
        rw [HOO.out.block w.heap.size (by simp [run0]) (fun x => x)]
        exact heap_alloc_new w _
      have HRC := Lib.hid hrc
      clear hrc
      go_wp2_with (go_at_call 19; refine HR.out.mono ?_; rintro e w3 ⟨x, he, hra, hro⟩; obtain ⟨xa, xt, xb', xc⟩ := x; obtain ⟨oa, ca, e1, _, _⟩ := hra.wa.form; obtain ⟨ot, ct, e2, _, _⟩ := hra.wt.form; obtain ⟨ob, cb, e3, _, _⟩ := hra.wb.form; obtain ⟨oc, cc, e4, _, _⟩ := hra.wc.form; simp only at e1 e2 e3 e4; subst e1; subst e2; subst e3; subst e4; (unfold RunVs.v at he); subst he; have hc3 := (hro.block w.heap.size (Array.getElem?_eq_some_iff.1 HRC.out).1 (fun x => x)).trans HRC.out; have HRA := Lib.hid hra; have HRO := Lib.hid hro; have HC3 := Lib.hid hc3; have e0 : w3.cell? ⟨w.heap.size, 0, none⟩ = some (.slice none 0 0) := (by simp [World.cell?, hc3]); have e1 : w3.cell? ⟨w.heap.size, 1, none⟩ = some (.slice none 0 0) := (by simp [World.cell?, hc3]); have e2 : w3.cell? ⟨w.heap.size, 2, none⟩ = some (.slice none 0 0) := (by simp [World.cell?, hc3]); have e3 : w3.cell? ⟨w.heap.size, 3, none⟩ = some (.slice none 0 0) := (by simp [World.cell?, hc3]); have ez : ∀ j, w3.frozen? ⟨w.heap.size, j, none⟩ = false := fun j => (by simp [World.frozen?, hc3]); have hrl := (Array.getElem?_eq_some_iff.1 hc3).1; clear hra hro hc3)
      have hwo : Only (fun _ => False) w wr := ((Only.refl _ w).alloc _).trans HOO.out (fun _ x => x.elim)
      have hwl : w.heap.size < wr.heap.size := (Array.getElem?_eq_some_iff.1 HRC.out).1
      refine bodyPost_ret (v := .tuple #[.agg #[.slice oa ((PM.init (ownK ↑l.length) l n ()).goes ms).run.calls.length ca, .slice ot ((PM.init (ownK ↑l.length) l n ()).goes ms).run.trace.length ct, .slice ob ((PM.init (ownK ↑l.length) l n ()).goes ms).run.shifts.length cb, .slice oc ((PM.init (ownK ↑l.length) l n ()).goes ms).run.words.length cc], .int .i64 0]) ?_ rfl ⟨⟨.slice oa ((PM.init (ownK ↑l.length) l n ()).goes ms).run.calls.length ca, .slice ot ((PM.init (ownK ↑l.length) l n ()).goes ms).run.trace.length ct, .slice ob ((PM.init (ownK ↑l.length) l n ()).goes ms).run.shifts.length cb, .slice oc ((PM.init (ownK ↑l.length) l n ()).goes ms).run.words.length cc⟩, rfl, PlayRes.fin HRA.out hwo hwl HRO.out (fun k g1 => (Below.heap_setCell _ _ _ _ g1).trans ((Below.heap_setCell _ _ _ _ g1).trans ((Below.heap_setCell _ _ _ _ g1).trans (Below.heap_setCell _ _ _ _ g1)))) rfl rfl rfl (by simp [World.setCell])⟩
      have hf : ((((w3.setCell ⟨w.heap.size, 0, none⟩ (.slice oa ((PM.init (ownK ↑l.length) l n ()).goes ms).run.calls.length ca)).setCell ⟨w.heap.size, 1, none⟩ (.slice ot ((PM.init (ownK ↑l.length) l n ()).goes ms).run.trace.length ct)).setCell ⟨w.heap.size, 2, none⟩ (.slice ob ((PM.init (ownK ↑l.length) l n ()).goes ms).run.shifts.length cb)).setCell ⟨w.heap.size, 3, none⟩ (.slice oc ((PM.init (ownK ↑l.length) l n ()).goes ms).run.words.length cc)).heap[w.heap.size]? = some (.cells #[.slice oa ((PM.init (ownK ↑l.length) l n ()).goes ms).run.calls.length ca, .slice ot ((PM.init (ownK ↑l.length) l n ()).goes ms).run.trace.length ct, .slice ob ((PM.init (ownK ↑l.length) l n ()).goes ms).run.shifts.length cb, .slice oc ((PM.init (ownK ↑l.length) l n ()).goes ms).run.words.length cc] 41 (0, 0)) := by
        simp [World.setCell, Array.getElem?_modify, HC3.out]
      generalize ((((w3.setCell ⟨w.heap.size, 0, none⟩ (.slice oa ((PM.init (ownK ↑l.length) l n ()).goes ms).run.calls.length ca)).setCell ⟨w.heap.size, 1, none⟩ (.slice ot ((PM.init (ownK ↑l.length) l n ()).goes ms).run.trace.length ct)).setCell ⟨w.heap.size, 2, none⟩ (.slice ob ((PM.init (ownK ↑l.length) l n ()).goes ms).run.shifts.length cb)).setCell ⟨w.heap.size, 3, none⟩ (.slice oc ((PM.init (ownK ↑l.length) l n ()).goes ms).run.words.length cc)) = Wf at hf ⊢
      have g0 : Wf.cell? ⟨w.heap.size, 0, none⟩ = some (.slice oa ((PM.init (ownK ↑l.length) l n ()).goes ms).run.calls.length ca) := by simp [World.cell?, hf]
      have g1 : Wf.cell? ⟨w.heap.size, 1, none⟩ = some (.slice ot ((PM.init (ownK ↑l.length) l n ()).goes ms).run.trace.length ct) := by simp [World.cell?, hf]
      have g2 : Wf.cell? ⟨w.heap.size, 2, none⟩ = some (.slice ob ((PM.init (ownK ↑l.length) l n ()).goes ms).run.shifts.length cb) := by simp [World.cell?, hf]
      have g3 : Wf.cell? ⟨w.heap.size, 3, none⟩ = some (.slice oc ((PM.init (ownK ↑l.length) l n ()).goes ms).run.words.length cc) := by simp [World.cell?, hf]
      simp [results, Try.results21, go_sem, g0, g1, g2, g3]
end Go.Proofs.Ytbhbpfpggfcpgaa
