/-
reclaimlaw04: spares: the free list's slots out of the words.
-/
import Derived.Test.YtjcggokhminmoaaQArLw
import Derived.Test.YtjcggokhminmoaaQMchS
namespace Go
open Go.RowKit
open Go.Proofs.Ytjcggokhminmoaa
def natsI (L : List Nat) : List Int := L.map fun k : Nat => (k : Int)
theorem chain_step {s : ArS} {W : List Int} {x : Int} {k : Nat} {L : List Nat} (h : Chain s W x (k :: L)) : x = (k : Int) ∧ k < s.n ∧ Chain s W (s.spare W k - 1) L := h
theorem chain_link {W : List Int} : linkIndex (wHead W) = wHead W % 4294967296 - 1 := rfl
theorem natsI_len (L : List Nat) : (natsI L).length = L.length := by simp [natsI]
theorem natsI_snoc (L : List Nat) (k : Nat) : intsC (natsI (L ++ [k])) = intsC (natsI L) ++ [.int .i64 (k : Int)] := by simp [natsI, intsC]
end Go
namespace Go.Proofs.Ytjcggokhminmoaa
open Go.ChangeShapes Go.WideShapes Go.ChangeAt Go.RowKit Go.Shelf

/-- what spares answers -/
def SprRes (w : World) (L : List Nat) (e : Ending) (w' : World) : Prop := ∃ v, e = .returned (.tuple #[v, .bool true]) ∧ w'.RowV w.heap.size 3 1 v L.length (intsC (natsI L)) ∧ Only (fun _ => False) w w'
/-- while it is on its way -/
def SprI (Wb : World) (v : Value) (L : List Nat) (wr : World) : Prop := wr.RowV Wb.heap.size 3 1 v L.length (intsC (natsI L)) ∧ Only (fun _ => False) Wb wr
set_option maxRecDepth 100000 in
set_option maxHeartbeats 4000000 in
theorem spares_any {w : World} (a0 a1 a2 a3 a4 a5 a6 : Int) (hok : okCfg a0 a1 a2 a3 a4 a5 a6 = true) {s : ArS} {W : List Int} {g cap : Nat} (h5 : s.c5 = a5) (hsl : (s.slots.length : Int) = s.c5) (hsb : (s.sb : Int) = baseF a1 a2 a5 a6 9) (hsz : (s.size : Int) = baseF a1 a2 a5 a6 13) (hwl : W.length = s.size) (hfit : s.sb + s.n ≤ s.size) (hsmall : s.size ≤ 8192)
    (hs : w.Src 1 (.slice (some ⟨g, 0, none⟩) W.length cap) W.length (u64s W)) (hlt : g < w.heap.size) (hcap : W.length ≤ cap ∧ cap ≤ maxLen) (h0 : 0 ≤ wHead W) (hnn : ∀ k, k < s.n → 0 ≤ s.spare W k) {L : List Nat} (hL : Chain s W (linkIndex (wHead W)) L) (hnd : L.Nodup) (hall : ∀ k ∈ L, k < s.n) :
    Calls Try.prog 41 #[.agg #[.int .i64 a0, .int .i64 a1, .int .i64 a2, .int .i64 a3, .int .i64 a4, .int .i64 a5, .int .i64 a6], .slice (some ⟨g, 0, none⟩) W.length cap] w (SprRes w L) := by
  have hll := nodup_le s.n L hnd hall
  obtain ⟨n, hn⟩ : ∃ n, n = s.n := ⟨_, rfl⟩
  have hn5 : a5 = (n : Int) := by rw [hn, ← h5, ← hsl]; rfl
  subst hn5
  have hn10 : 0 < n ∧ n ≤ 1024 := by have := (ok_bounds hok).2.2.2.2.2.1; omega
  have HSZ := Lib.hid (fun w => by have := rsize_any a0 a1 a2 a3 a4 (n : Int) a6 hok w; rw [← hsz, ← hwl] at this; exact this)
  have HBS := Lib.hid (fun w => by have := base_any a0 a1 a2 a3 a4 (n : Int) a6 hok 10 (by omega) (by omega) w; rw [show (10 - 1 : Int).toNat = 9 from rfl, ← hsb] at this; exact this)
  obtain ⟨i0, ii, iz0, iz1, iz2⟩ := info_parts infoIntG
  have HII := Lib.hid ii
  have HZ0 := Lib.hid iz0
  have HZ1 := Lib.hid iz1
  have HZ2 := Lib.hid iz2
  have S1 := Lib.hid (fun k : Nat => (show ∀ u ∈ [Value.int .i64 (k : Int)], u.oneCell' = true by simp [Value.oneCell']))
  have hcell : ∀ k, k < W.length → w.cell? ⟨g, k, none⟩ = some (.int .u64 (W.getD k 0)) := fun k hk => by
    rcases hs.2 with ⟨e, _⟩ | ⟨ad, c, e, _, hc⟩
    · cases e
    · cases e
      have := hc k (.int .u64 (W.getD k 0)) (by simp [u64s, hk])
      rwa [add_none] at this
  have hdn : ((W.length : Int) != (W.length : Int)) = false := by simp
  have c0 := hcell 0 (by omega)
  have hh : W.getD 0 0 = wHead W := rfl
  rw [hh] at c0
  have HCE := Lib.hid (fun k (hk : k < n) => hcell (s.sb + k) (by omega))
  have HNN := Lib.hid hnn
  have HCH := Lib.hid hL
  have HAL := Lib.hid hall
  have hwl8 : W.length ≤ 8192 := by omega
  have hpos : 0 < W.length := by omega
  have HNS := Lib.hid hn
  obtain ⟨hc1, hc2⟩ := hcap
  unfold maxLen at hc2
  have hsbn : s.sb + n ≤ W.length := by omega
  clear hcell hs hnd hL hall hsz hsb h5 hsl hnn hh hok ii iz0 iz1 iz2 hwl hfit hn
  go_enter Try.func41, Try.ntmps41
  go_upto_region 5 with (go_at_call 50; refine (HSZ.out _).mono ?_; rintro e w1 ⟨rfl, hb1⟩; obtain ⟨os, d, rfl⟩ := hb1.more; clear hb1)
  refine gen_world ?_
  intro Wb hWb
  have HWb : Hid (Only (fun _ => False) w Wb) := Lib.hid (by rw [hWb]; exact (Below.only0 (by repeat (first | exact Below.refl _ _ | apply Below.drew | apply Below.more1 | apply Below.alloc1 | (refine Below.setCell ?_ (by first | exact Nat.le_refl _ | (simp; done) | (simp; omega)) _)))))
  have hcb : Wb.heap[w.heap.size]? = some (cfgO a0 a1 a2 a3 a4 (n : Int) a6) := by rw [hWb]; exact (World.heap_more _ _ _ _ (by simp)).trans (heap_alloc_new w _)
  have HCB := Lib.hid hcb
  have hx0 : 0 ≤ wHead W % 4294967296 := Int.emod_nonneg _ (by decide)
  have HX : Hid (∃ x : Int, x = wHead W % 4294967296 ∧ 0 ≤ x ∧ Chain s W (x - 1) L) := Lib.hid ⟨_, rfl, hx0, HCH.out⟩
  have HI0 : Hid (SprI Wb (.slice none 0 0) [] Wb) := Lib.hid ⟨World.RowV_none _ _ _ _ _, Only.refl _ _⟩
  clear hWb hcb HSZ c0 HCH hdn hx0
  go_loopg [6, 7] (L.length + 1) (fun gh s6 s7 wr => ∃ (L1 L2 : List Nat) (o : Option Addr) (c : Nat) (x : Int), L = L1 ++ L2 ∧ L2.length + 1 ≤ gh ∧ s6 = .slice o L1.length c ∧ s7 = .int .u64 x ∧ 0 ≤ x ∧ c ≤ 9223372036854775807 ∧ Hid (Chain s W (x - 1) L2) ∧ Hid (SprI Wb (.slice o L1.length c) L1 wr))
  case atStart =>
    obtain ⟨x, h1, h2, h3⟩ := HX.out
    exact ⟨[], L, none, 0, x, rfl, by omega, rfl, by rw [h1], h2, by omega, Lib.hid h3, HI0⟩
  case round =>
    clear HI0 HX
    obtain ⟨L1, L2, o, c, x, hLL, hgh, rfl, rfl, hx0, hcm, hCH, hI⟩ := hrel
    have HLL := Lib.hid hLL
    have hl1 : L1.length ≤ n := by have := congrArg List.length hLL; rw [List.length_append] at this; have := HNS.out; omega
    clear hLL
    obtain ⟨k0, k1, k2, k3, k4, k5, k6, kl⟩ := boxC (hI.out.2.blockF HCB.out (fun x => x))
    have hw : Only (fun _ => False) w wr := HWb.out.trans hI.out.2 (fun _ x => x.elim)
    cases L2 with
    | nil =>
      have hx : x = 0 := by have : x - 1 = -1 := hCH.out; omega
      subst hx
      have hLe : L = L1 := by have := HLL.out; simpa using this
      have hd1 : decide ((L1.length : Int) ≤ (n : Int)) = true := by simp; omega
      have HR := Lib.hid (hI.out.1.base_mono HWb.out.size)
      have HOO := Lib.hid hw
      clear k0 k1 k2 k3 k4 k6 hw hI hCH
      go_upto_region 11 with (fail)
      go_wp2
      refine wp_region_more_lit (by kernel_rfl) (by kernel_rfl) ?_
      repeat (first | go_big_quiet_skip | (go_big_quiet_want; go_big_quiet_op; first | go_big_quiet_on | (apply Exists.intro; refine ⟨fun _ => ?_, ?_⟩; (focus (fail)); go_big_quiet_on)))
      refine wpQuiet_nil ?_
      intro osq dq
      go_wp2
      go_ret2
      rw [hLe]
      exact ⟨_, rfl, HR.out.more _ _, HOO.out.more _ _⟩
    | cons k L2 =>
      obtain ⟨e1, e2, e3⟩ := chain_step hCH.out
      have hkn : k < n := by have := HNS.out; omega
      obtain rfl : x = (k : Int) + 1 := by omega
      have mk : wr.cell? ⟨g, s.sb + k, none⟩ = some (.int .u64 (s.spare W k)) := (hw.cellAt (p := ⟨g, s.sb + k, none⟩) hlt (fun x => x)).trans (HCE.out k hkn)
      have hglt := Nat.lt_of_lt_of_le hlt hw.size
      have hny := HNN.out k (by have := HNS.out; omega)
      have HE3 := Lib.hid e3
      have hlx : (L1.length : Int) ≤ 1024 := by omega
      have d1 : decide ((n : Int) ≤ (k : Int)) = false := by simp; omega
      have d2 : decide ((n : Int) < (L1.length : Int)) = false := by simp; omega
      have S1k := Lib.hid (S1.out k)
      have S2 := Lib.hid (show L1.length + 1 ≤ maxLen by unfold maxLen; omega)
      have S3 := Lib.hid (show ((L1.length + 1) + (L1.length + 1) / 4 + 192) * 8 ≤ 281474976710656 by omega)
      have hbz := hI.out.2.size
      clear hCH e1 e2 e3 hw
      generalize s.spare W k = y at *
      go_upto_region 10 with (at_builtin; refine wpList_append_row _ rfl _ _ 53 rfl Wb.heap.size 3 i0 _ 1 8 Try.underlying53 HII.out HZ0.out HZ1.out HZ2.out rfl (.slice o L1.length c) L1.length (intsC (natsI L1)) rfl (hI.out.1.alloc _) _ 1 _ rfl (World.Src.one rfl rfl) S1k.out S2.out S3.out (by simp; omega) ?_; intro v' w5 hown hout; have HWN := Lib.hid hown; have HWO := Lib.hid hout; clear hown hout)
      obtain ⟨ov, cv, ev, _, hcv⟩ := HWN.out.form
      subst ev
      unfold maxLen at hcv
      have oa : Only (fun _ => False) Wb w5 := ((hI.out.2.alloc _).trans (Only.out (F := fun j => (Value.slice o L1.length c).rowBlock = some j) HWO.out (fun _ hj => hj)) (fun j hj => .inr (hI.out.1.lt j hj).1))
      have HI5 : Hid (SprI Wb (.slice ov (L1 ++ [k]).length cv) (L1 ++ [k]) w5) := Lib.hid ⟨by rw [natsI_snoc, List.length_append]; exact HWN.out, oa⟩
      have mk5 := (oa.cellAt (p := ⟨g, s.sb + k, none⟩) (Nat.lt_of_lt_of_le hlt HWb.out.size) (fun x => x)).trans ((hI.out.2.cellAt (p := ⟨g, s.sb + k, none⟩) (Nat.lt_of_lt_of_le hlt HWb.out.size) (fun x => x)).symm.trans mk)
      obtain ⟨z0, z1, z2, z3, z4, z5, z6, zl⟩ := boxC (oa.blockF HCB.out (fun x => x))
      have hgl5 := Nat.lt_of_lt_of_le (Nat.lt_of_lt_of_le hlt HWb.out.size) oa.size
      clear oa mk hI k0 k1 k2 k3 k4 k5 k6 kl HWN HWO hglt S1k S2 S3
      go_wp2_with (go_at_call 53; refine (HBS.out _).mono ?_; rintro e w1 ⟨rfl, hb1⟩; obtain ⟨os, d, rfl⟩ := hb1.more; clear hb1)
      go_roundg (gk - 1)
      case measure => omega
      case rel => exact ⟨L1 ++ [k], L2, ov, cv, y, by rw [HLL.out]; simp, by simp only [List.length_cons] at hgh; omega, by simp, rfl, hny, hcv, HE3, Lib.hid ⟨HI5.out.1.more _ _, HI5.out.2.more _ _⟩⟩
end Go.Proofs.Ytjcggokhminmoaa
