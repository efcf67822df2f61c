/- The document's WithFile and Create. -/
import Derived.Test.YtmdnmknmniabeaaSt2
import Derived.Test.YtmdnmknmniabeaaSt8
import Derived.Test.YtmdnmknmniabeaaGrow2
import Derived.BigRegion
namespace Go.Proofs.Ytmdnmknmniabeaa
open Go.RowKit Go.Maps Pw
set_option linter.unusedSimpArgs false
set_option linter.unusedVariables false

/-- What was answered stays as it is, whatever is done to a block g that was there ahead of the call and is no part of the argument. -/
def Stay (w w' : World) (a : Option Addr) (c : Nat) (ps : List PF) (a' : Option Addr) (c' : Nat) (ps' : List PF) : Prop :=
  ∀ (w0 W : World) (g : Nat), FsR w0 a c ps → Below w0.heap.size w0 W → g < w.heap.size → w'.grownBy W (some g) → FsR W a' c' ps'
theorem stay_nil (w w' : World) (a : Option Addr) (c : Nat) (ps : List PF) : Stay w w' a c ps none 0 [] := fun _ _ _ _ _ _ _ => ⟨Nat.le_refl _, Nat.zero_le _, fun _ => rfl, fun j u h => by simp at h, fun p h => by simp at h⟩
theorem stay_same (w w' : World) (a : Option Addr) (c : Nat) (ps : List PF) : Stay w w' a c ps a c ps := fun _ _ _ h hb _ _ => h.below hb
theorem stay_set {w w' : World} {a : Option Addr} {c : Nat} {ps : List PF} {a' : Option Addr} {n c' F B1 B2 : Nat} {p : PF} (hn : n = ps.length) (hO : Own w' B1 61 2 (.slice a' n c') n ((ps.set F p).flatMap pfL)) (hB1 : w.heap.size ≤ B1)
    (hP : Own w' B2 3 1 (.slice p.a p.l.length p.c) p.l.length (p.l.map inV)) (hB2 : w.heap.size ≤ B2) : Stay w w' a c ps a' c' (ps.set F p) := by
  intro w0 W g h0 hb hg hgr
  subst hn
  have h1 := hO.grown hgr (fun k hk e => by have := hO.ge k hk; have := Option.some.inj e; omega)
  have h2 := hP.grown hgr (fun k hk e => by have := hP.ge k hk; have := Option.some.inj e; omega)
  obtain ⟨_, _, e7, hle7, hmx7, hnl7, hrd7⟩ := h1.rd
  cases e7
  obtain ⟨a8, c8, e8, hle8, hmx8, hnl8, hrd8⟩ := h2.rd
  simp only [Value.slice.injEq, true_and] at e8
  obtain ⟨e81, e82⟩ := e8
  rw [← e81] at hnl8 hrd8
  rw [← e82] at hle8 hmx8 hnl8
  refine ⟨by rw [List.length_set]; exact hle7, hmx7, hnl7, hrd7, fun q hq => ?_⟩
  rcases List.mem_or_eq_of_mem_set hq with hq | rfl
  · exact (h0.good q hq).below hb
  · exact ⟨hle8, hmx8, hnl8, hrd8⟩
set_option maxHeartbeats 2000000 in
set_option maxRecDepth 100000 in
theorem rwith_any (ps : List PF) (k : Int) (a : Option Addr) (c F : Nat) (p : PF) (w : World) (h : FsR w a c ps) (hF : F < ps.length) (hp : p.good w) (h5 : ps.length ≤ 5) :
    Calls Try.prog 65 #[.agg (stC a ps.length c k), .int .i64 F, .agg #[.int .i64 p.n, .slice p.a p.l.length p.c]] w fun r w' => ∃ a' c', r = .returned (.agg (stC a' ps.length c' k)) ∧ FsR w' a' c' (ps.set F p) ∧ Own w' w.heap.size 61 2 (.slice a' ps.length c') ps.length ((ps.set F p).flatMap pfL) ∧ Below w.heap.size w w' := by
  have hlc := Nat.le_trans h.le h.mx
  unfold maxLen at hlc
  have hFi : (F : Int) < (ps.length : Int) := by omega
  unfold stC
  go_enter Try.func65, Try.ntmps65
  go_upto_region 1 with (fail)
  refine abs3 (fun W => Code.wp _ _ _ _ W) fun W0 hb0 hx0 hf0 hr0 hs0 => ?_
  clear hs0
  have hcx := (hx0.alloc (.cells #[] 61)).cell
  go_upto_region 2 with (at_builtin; (refine wpList_app rfl (.tmp 8) (.tmp 10) 45 rfl w.heap.size 61 _ 2 32 Try.underlying45 file_info rfl (by decide) _ _ _ rfl (Own.empty _ _ hb0.size) a ps.length c (ps.flatMap pfL) rfl h.nl h.le (files_len ps) (h.rd.below (hb0.alloc hb0.size _)) (files_one ps) (by unfold maxLen; omega) (by omega) (le_alloc' hb0.size _) ?_))
  intro v1 w1 ho1 hgr1
  have hb1 : Below W0.heap.size W0 w1 := ((Below.refl _ _).alloc (Nat.le_refl _) _).grown hgr1 (le_alloc _ _) (fun k hk => by cases hk; exact Nat.le_refl _)
  have hbel1 := below_next hb0 hb1
  have hx1 := hx0.ext hb1
  have hf1 := hf0.ext hb1
  have hr1 := hr0.ext hb1
  have ho1' : Own w1 w.heap.size 61 2 v1 ps.length (ps.flatMap pfL) := by simpa using ho1
  obtain ⟨g, off, cap, cur, rfl, hBg, hblk, hfit, hset⟩ := own_putn pfL_len (by decide) rfl ho1' F hF
  clear hcx hb0 hx0 hf0 hr0 hb1 ho1 hgr1 ho1'
  have hcf := hf1.cell
  go_upto_region 3 with (refine wpList_stv rfl _ _ _ rfl g (off + F * 2) _ (pfL p) rfl rfl rfl _ _ hblk hfit file_size (pfL_one p) ?_)
  intro w2 hb2 hgr2
  have ho2 := hset w2 p hb2
  have hx2 := blk_keep hx1 hblk (by decide) hgr2
  have hr2 := blk_keep hr1 hblk (by decide) hgr2
  have hbel2 := hbel1.grown hgr2 hbel1.size (fun k hk => by cases hk; exact hBg)
  clear hcf hbel1 hx1 hf1 hr1 hblk hset hb2 hgr2 hfit
  obtain ⟨a2, c2, e2, hle2, hmx2, hnl2, hrd2⟩ := ho2.rd
  simp only [Value.slice.injEq] at e2
  obtain ⟨rfl, he2, rfl⟩ := e2
  clear he2
  have hcx := hx2.cell
  go_wp2_with (refine wpList_stw rfl _ _ _ rfl (w.heap.size + 2) #[.slice (some ⟨g, off, none⟩) ps.length cap, .int .i64 k] rfl rfl _ _ hr2 rfl store_size (sl_in _ _ _ _) ?_)
  intro w3 hr3 hgr3
  have ho3 := own_keep ho2 hr2 (by decide) hgr3
  have hbel3 := hbel2.grown hgr3 hbel2.size (fun k hk => by cases hk; omega)
  go_wp2
  refine bodyPost_ret (v := .agg #[.slice (some ⟨g, off, none⟩) ps.length cap, .int .i64 k]) (results_c Try.results65 _ _ (w.heap.size + 2) _ _ _ rfl hr3 Try.underlying47 rfl store_size) rfl ?_
  obtain ⟨a3, c3, e3, hle3, hmx3, hnl3, hrd3⟩ := ho3.rd
  simp only [Value.slice.injEq] at e3
  obtain ⟨rfl, _, rfl⟩ := e3
  refine ⟨_, _, rfl, ⟨by rw [List.length_set]; exact hle3, hmx3, hnl3, hrd3, fun q hq => ?_⟩, ho3, hbel3⟩
  rcases List.mem_or_eq_of_mem_set hq with hq | rfl
  · exact (h.good q hq).below hbel3
  · exact hp.below hbel3
end Go.Proofs.Ytmdnmknmniabeaa
