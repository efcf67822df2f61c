/- Package table's Find and Guard. -/
import Derived.Test.YtmdnmknmniabeaaTab6
namespace Go.Proofs.Ytmdnmknmniabeaa
open Go.RowKit Pw
set_option linter.unusedSimpArgs false
set_option linter.unusedVariables false

def otherF (t : Tb) (kind k : Int) (n : Int) : Bool := decide ((getT t n).k ≠ kind) || decide ((getT t n).n ≠ k)
def findL (t : Tb) (kind k : Int) : List Int := (pagesL t).filter fun n => !otherF t kind k n
set_option maxHeartbeats 1000000 in
set_option maxRecDepth 100000 in
theorem find1_any (t : Tb) (cs : Array Value) (kind k n : Int) (b1 b2 b3 : Nat) (w : World) (h : TbR w cs t) (h1 : Blk w b1 cs 24) (h2 : Blk w b2 #[.int .i64 kind] 3) (h3 : Blk w b3 #[.int .i64 k] 3) :
    Calls Try.prog 62 #[.int .i64 n, .pointer (some ⟨b1, 0, none⟩), .pointer (some ⟨b2, 0, none⟩), .pointer (some ⟨b3, 0, none⟩)] w fun r w' => r = .returned (.bool (otherF t kind k n)) ∧ Below w.heap.size w w' := by
  go_enter Try.func62, Try.ntmps62
  go_wp2_with (refine wpList_ld rfl 24 (.tmp 1) rfl b1 0 rfl cs.toList h1.rd _ Try.underlying24 tab_agg (by rw [Array.length_toList, h.sz]; exact tab_size) ?_)
  refine (tget_any t cs n _ h).mono ?_
  rintro r w1 ⟨rfl, hb1⟩
  have hc2 := (h2.ext hb1).cell
  have hc3 := (h3.ext hb1).cell
  have hge2 := h2.lt
  have hge3 := h3.lt
  have hs1 := hb1.size
  generalize hE : getT t n = E
  have hfin : Hid (otherF t kind k n = (decide (E.k ≠ kind) || decide (E.n ≠ k))) := Lib.hid (by unfold otherF; rw [hE])
  clear hE
  by_cases hk : E.k = kind
  · have hkk : (E.k != kind) = false := by simp [hk]
    have hfin2 : Hid (otherF t kind k n = (E.n != k)) := Lib.hid (by rw [hfin.out, Bool.eq_iff_iff]; simp [hk])
    clear hk hfin
    go_wp2_with (refine wpList_stv rfl _ (.tmp 6) (.tmp 9) rfl w1.heap.size 0 _ (enL E) rfl rfl rfl _ _ (Blk.new _ _ _) (Nat.le_refl 3) entry_size (en_one E) ?_)
    intro w2 hx2 hgr2
    have hx2' : Blk w2 w1.heap.size (enC E) 26 := by simpa [putAt, enL, enC] using hx2
    have hcx := hx2'.cell
    have hc20 := (((h2.ext hb1).alloc _).grown hgr2 (fun e => by have := Option.some.inj e; omega)).cell
    have hc30 := (((h3.ext hb1).alloc _).grown hgr2 (fun e => by have := Option.some.inj e; omega)).cell
    have hbel2 : Below w.heap.size w w2 := (hb1.alloc hb1.size _).grown hgr2 (le_alloc' hb1.size _) (fun k hk => by cases hk; exact hb1.size)
    have e0 : (enC E)[0]? = some (.int .i64 E.k) := rfl
    have e1 : (enC E)[1]? = some (.int .i64 E.n) := rfl
    clear hc2 hc3 hx2
    go_wp2
    go_ret
    exact ⟨ret_bool hfin2.out.symm, hbel2⟩
  · have hkk : (E.k != kind) = true := by simpa using hk
    have hfin2 : Hid (otherF t kind k n = true) := Lib.hid (by rw [hfin.out]; simp [hk])
    clear hk hfin
    go_wp2_with (refine wpList_stv rfl _ (.tmp 6) (.tmp 9) rfl w1.heap.size 0 _ (enL E) rfl rfl rfl _ _ (Blk.new _ _ _) (Nat.le_refl 3) entry_size (en_one E) ?_)
    intro w2 hx2 hgr2
    have hx2' : Blk w2 w1.heap.size (enC E) 26 := by simpa [putAt, enL, enC] using hx2
    have hcx := hx2'.cell
    have hc20 := (((h2.ext hb1).alloc _).grown hgr2 (fun e => by have := Option.some.inj e; omega)).cell
    have hc30 := (((h3.ext hb1).alloc _).grown hgr2 (fun e => by have := Option.some.inj e; omega)).cell
    have hbel2 : Below w.heap.size w w2 := (hb1.alloc hb1.size _).grown hgr2 (le_alloc' hb1.size _) (fun k hk => by cases hk; exact hb1.size)
    have e0 : (enC E)[0]? = some (.int .i64 E.k) := rfl
    have e1 : (enC E)[1]? = some (.int .i64 E.n) := rfl
    clear hc2 hc3 hx2
    go_wp2
    go_ret
    exact ⟨ret_bool hfin2.out.symm, hbel2⟩
set_option maxHeartbeats 1000000 in
set_option maxRecDepth 100000 in
theorem tfind_any (t : Tb) (cs : Array Value) (kind k : Int) (w : World) (h : TbR w cs t) : Calls Try.prog 24 #[.agg cs, .int .i64 kind, .int .i64 k] w fun r w' => ∃ v, r = .returned v ∧ Own w' w.heap.size 3 1 v (findL t kind k).length ((findL t kind k).map inV) ∧ Below w.heap.size w w' := by
  go_enter Try.func24, Try.ntmps24
  go_upto_region 1 with (fail)
  refine abs3 (fun W => Code.wp _ _ _ _ W) fun W0 hb0 hx0 hk0 hn0 hs0 => ?_
  have hge : w.heap.size + 2 < W0.heap.size := hn0.lt
  clear hs0
  go_wp2_with (refine wpList_ld rfl 24 (.tmp 3) rfl w.heap.size 0 rfl cs.toList hx0.rd _ Try.underlying24 tab_agg (by rw [Array.length_toList, h.sz]; exact tab_size) ?_)
  refine (tpages_any t cs _ (h.below hb0)).mono ?_
  rintro r w1 ⟨v, rfl, ho1, hb1⟩
  have hT : TellF W0.heap.size W0 (.pointer (some ⟨w.heap.size, 0, none⟩)) (.pointer (some ⟨w.heap.size + 1, 0, none⟩)) (.pointer (some ⟨w.heap.size + 2, 0, none⟩)) (otherF t kind k) :=
    fun n W hW hWs => find1_any t cs kind k n _ _ _ W ((h.below hb0).below hW) (hx0.ext hW) (hk0.ext hW) (hn0.ext hW)
  go_wp2_with fail
  refine (delint_any (pagesL t) v W0.heap.size W0 w1 _ _ _ (otherF t kind k) ho1 (Nat.le_trans (pagesTo_le t 64) (by decide)) hT hb1 hb1.size).mono ?_
  rintro r w2 ⟨v2, rfl, ho2, hb2⟩
  go_wp2
  go_ret
  exact ⟨_, rfl, ho2.mono hb0.size, hb0.trans ((hb1.trans hb2).mono hb0.size)⟩
end Go.Proofs.Ytmdnmknmniabeaa
