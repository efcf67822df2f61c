import Derived.Test.YtkjobhcnlppcnaaZ2
import Derived.BigRegion
import Derived.BigQuiet
import Derived.Deep.OwnRows
set_option linter.unusedSimpArgs false
set_option linter.unusedVariables false
set_option maxHeartbeats 4000000
set_option maxRecDepth 100000
namespace Go.Proofs.Ytkjobhcnlppcnaa
open Go.RowKit Go.Maps Pw
def inF (s:St) (f i:Int):Prop:=(0 ≤ f ∧ f < s.fs.length) ∧ 0 ≤ i ∧ i < (fileAt s f).b.length
theorem fileAt_nat {s:St} {F:Nat} {x:Fi} (h:s.fs[F]? = some x):fileAt s F = x:=by
 unfold fileAt
 rw [if_pos (by omega),Int.toNat_natCast,List.getD_eq_getElem?_getD,h]; rfl
theorem file_get {s:St} {f:Int} (h:0 ≤ f ∧ f < s.fs.length):s.fs[f.toNat]? = some (fileAt s f):=by
 unfold fileAt
 rw [if_pos h.1,List.getD_eq_getElem?_getD,List.getElem?_eq_getElem (by omega)]; rfl
theorem block_get {s:St} {f i:Int} (h:inF s f i):(fileAt s f).b[i.toNat]? = some (blockAt s f i):=by
 unfold blockAt
 rw [List.getD_eq_getElem?_getD,List.getElem?_eq_getElem (by have:=h.2; omega)]; rfl
theorem block_mem {s:St} {f i:Int} (h:inF s f i):blockAt s f i ∈ blks s:=
 List.mem_flatMap.2 ⟨_,List.mem_of_getElem? (file_get h.1),List.mem_of_getElem? (block_get h)⟩
theorem mem_blks {s:St} {x:Int} (h:x ∈ blks s):∃ f i,inF s f i ∧ blockAt s f i = x:=by
 obtain ⟨fi,h1,h2⟩:=List.mem_flatMap.1 h
 obtain ⟨F,hF,rfl⟩:=List.mem_iff_getElem.1 h1
 obtain ⟨I,hI,rfl⟩:=List.mem_iff_getElem.1 h2
 have hf:fileAt s F = s.fs[F]:=fileAt_nat (List.getElem?_eq_getElem hF)
 have hin:inF s F I:=⟨by omega,by omega,by rw [hf]; omega⟩
 refine ⟨F,I,hin,?_⟩
 have:=block_get hin
 rw [hf,Int.toNat_natCast,List.getElem?_eq_getElem hI] at this
 exact (Option.some.inj this).symm
theorem posB_inj:∀ {l:List Int} {I J:Nat} {v:Int},(posB l).Nodup → l[I]? = some v → l[J]? = some v → 0 ≤ v → I = J
 | [],_,_,_,_,h,_,_=>by simp at h
 | a :: l,0,0,_,_,_,_,_=>rfl
 | a :: l,0,J + 1,v,hn,h1,h2,h0=>by
  simp only [List.getElem?_cons_zero,Option.some.injEq] at h1
  subst h1
  rw [posB_nn h0] at hn
  exact ((List.nodup_cons.1 hn).1 (mem_posB.2 ⟨List.mem_of_getElem? (by simpa using h2:l[J]? = some a),h0⟩)).elim
 | a :: l,I + 1,0,v,hn,h1,h2,h0=>by
  simp only [List.getElem?_cons_zero,Option.some.injEq] at h2
  subst h2
  rw [posB_nn h0] at hn
  exact ((List.nodup_cons.1 hn).1 (mem_posB.2 ⟨List.mem_of_getElem? (by simpa using h1:l[I]? = some a),h0⟩)).elim
 | a :: l,I + 1,J + 1,v,hn,h1,h2,h0=>by
  have:(posB l).Nodup:=by
   have hs:(posB l).Sublist (posB (a :: l)):=(List.sublist_cons_self a l).filter _
   exact hn.sublist hs
  have h3:=posB_inj (I:=I) (J:=J) this (by simpa using h1) (by simpa using h2) h0
  omega
theorem flat_inj:∀ {fs:List Fi} {F G I J:Nat} {x y:Fi} {v:Int},(posB (fs.flatMap Fi.b)).Nodup → fs[F]? = some x → fs[G]? = some y → x.b[I]? = some v → y.b[J]? = some v → 0 ≤ v → F = G ∧ I = J
 | [],_,_,_,_,_,_,_,_,h,_,_,_,_=>by simp at h
 | a :: fs,F,G,I,J,x,y,v,hn,hF,hG,hI,hJ,h0=>by
  rw [List.flatMap_cons,posB_app,List.nodup_append] at hn
  obtain ⟨n1,n2,n3⟩:=hn
  cases F with
  | zero=>
   simp only [List.getElem?_cons_zero,Option.some.injEq] at hF
   subst hF
   cases G with
   | zero=>
    simp only [List.getElem?_cons_zero,Option.some.injEq] at hG
    subst hG
    exact ⟨rfl,posB_inj n1 hI hJ h0⟩
   | succ G=>
    exact absurd rfl (n3 v (mem_posB.2 ⟨List.mem_of_getElem? hI,h0⟩) v (mem_posB.2 ⟨List.mem_flatMap.2 ⟨y,List.mem_of_getElem? (by simpa using hG),List.mem_of_getElem? hJ⟩,h0⟩))
  | succ F=>
   cases G with
   | zero=>
    simp only [List.getElem?_cons_zero,Option.some.injEq] at hG
    subst hG
    exact absurd rfl (n3 v (mem_posB.2 ⟨List.mem_of_getElem? hJ,h0⟩) v (mem_posB.2 ⟨List.mem_flatMap.2 ⟨x,List.mem_of_getElem? (by simpa using hF),List.mem_of_getElem? hI⟩,h0⟩))
   | succ G=>
    obtain ⟨e1,e2⟩:=flat_inj n2 (by simpa using hF) (by simpa using hG) hI hJ h0
    exact ⟨by omega,e2⟩
theorem block_uniq {s:St} (h:wrongSt s = 0) {f i g j:Int} (h1:inF s f i) (h2:inF s g j) (h0:0 ≤ blockAt s f i) (he:blockAt s f i = blockAt s g j):f = g ∧ i = j:=by
 have hn:=(wrongSt_iff.1 h).2.2
 obtain ⟨e1,e2⟩:=flat_inj hn (file_get h1.1) (file_get h2.1) (block_get h1) (by rw [he]; exact block_get h2) h0
 have:=h1.1; have:=h1.2; have:=h2.1; have:=h2.2
 omega
theorem file_ok {s:St} (h:wrongSt s = 0) {f:Int} (hf:0 ≤ f ∧ f < s.fs.length):fileOk s.count (fileAt s f):=(wrongSt_iff.1 h).2.1 _ (List.mem_of_getElem? (file_get hf))
theorem block_lt {s:St} (h:wrongSt s = 0) {f i:Int} (hi:inF s f i) : -1 ≤ blockAt s f i ∧ blockAt s f i < s.count:=
 (file_ok h hi.1).2.2.2 _ (List.mem_of_getElem? (block_get hi))
theorem inF_lt {s:St} (h:wrongSt s = 0) {f i:Int} (hi:inF s f i):f < 5 ∧ i < 12 ∧ i * 8 < (fileAt s f).n ∧ (fileAt s f).n ≤ 96:=by
 have h1:=(wrongSt_iff.1 h).1
 obtain ⟨a1,a2,a3,_⟩:=file_ok h hi.1
 have h2:=hi.1; have h3:=hi.2
 rw [a3] at h3
 unfold countS at h3
 split at h3 <;> omega
structure Blocked (s s' : St) (f i b:Int):Prop where
 right:wrongSt s' = 0
 count:s'.count = s.count
 len:s'.fs.length = s.fs.length
 size:∀ g,(fileAt s' g).n = (fileAt s g).n
 lenb:∀ g,(fileAt s' g).b.length = (fileAt s g).b.length
 at_:blockAt s' f i = b
 other:∀ g j,0 ≤ j → ¬ (g = f ∧ j = i) → blockAt s' g j = blockAt s g j
 b0:0 ≤ b
 bc:b < s.count
 used:∀ x,0 ≤ x → (x ∈ blks s' ↔ x = b ∨ x ∈ blks s)
 was:(blockAt s f i = b ∧ s' = s) ∨ (blockAt s f i < 0 ∧ b ∉ blks s ∧ leftSt s' = leftSt s - 1)
theorem inF.same {s s' : St} {f i:Int} (h:inF s f i) (h1:s'.fs.length = s.fs.length) (h2:∀ g,(fileAt s' g).b.length = (fileAt s g).b.length):inF s' f i:=⟨by rw [h1]; exact h.1,by rw [h2]; exact h.2⟩
theorem blocked {s:St} {f i:Int} (h:blockE s f i = 0):inF s f i ∧ Blocked s (blockS s f i) f i (blockN s f i):=by
 have ha:=block_after h
 obtain ⟨hw,F,I,x,v,rfl,rfl,hf,hv,hfa,hba,hc⟩:=block_parts h
 have hF:=(List.getElem?_eq_some_iff.1 hf).1
 have hI:=(List.getElem?_eq_some_iff.1 hv).1
 have hin:inF s F I:=⟨by omega,by omega,by rw [hfa]; omega⟩
 refine ⟨hin,?_⟩
 have hb:=block_lt hw hin
 rcases hc with ⟨h0,hS,hN⟩ | ⟨hn,h0,hN,hS⟩
 ·rw [hS,hN]
  rw [hba] at hb
  exact ⟨hw,rfl,rfl,fun _=>rfl,fun _=>rfl,hba,fun _ _ _ _=>rfl,h0,hb.2,fun y _=>⟨.inr,fun h=>h.elim (fun e=>by rw [e,← hba]; exact block_mem hin) id⟩,.inl ⟨hba,rfl⟩⟩
 ·obtain ⟨hXc,hu⟩:=freeSt_ok h0
  have hbk:=unusedB hu
  have hleft:=ha.2.2.2.2
  rw [hba] at hleft
  have hleft:leftSt (blockS s F I) = leftSt s - 1:=by
   rcases hleft with ⟨e,_⟩ | ⟨_,_,e⟩
   ·omega
   ·exact e
  have hright:=ha.1
  rw [hS] at hright hleft
  rw [hS,hN]
  generalize hs' : (⟨s.fs.set F ⟨x.n,x.b.set I (freeSt s)⟩,s.count⟩:St) = s' at *
  have hfile:∀ g,fileAt s' g = if g = F then ⟨x.n,x.b.set I (freeSt s)⟩ else fileAt s g:=by
   intro g
   rw [← hs']
   unfold fileAt
   simp only
   by_cases g0:0 ≤ g
   ·rw [if_pos g0,if_pos g0,List.getD_eq_getElem?_getD,List.getElem?_set]
    by_cases e:g = F
    ·rw [if_pos e,if_pos (by omega),if_pos (by omega)]; rfl
    ·rw [if_neg e,if_neg (by omega),List.getD_eq_getElem?_getD]
   ·rw [if_neg g0,if_neg g0,if_neg (by omega)]
  have hlen:s'.fs.length = s.fs.length:=by rw [← hs']; exact List.length_set
  have hlenb:∀ g,(fileAt s' g).b.length = (fileAt s g).b.length:=by
   intro g
   rw [hfile]
   by_cases e:g = F
   ·rw [if_pos e,e,hfa]; exact List.length_set
   ·rw [if_neg e]
  have hat:blockAt s' F I = freeSt s:=by
   unfold blockAt
   rw [hfile,if_pos rfl,Int.toNat_natCast,List.getD_eq_getElem?_getD,List.getElem?_set_self hI]
   rfl
  have hoth:∀ g j,0 ≤ j → ¬ (g = (F:Int) ∧ j = (I:Int)) → blockAt s' g j = blockAt s g j:=by
   intro g j hj hne
   unfold blockAt
   rw [hfile]
   by_cases e:g = F
   ·rw [if_pos e,e,hfa]
    simp only
    rw [List.getD_eq_getElem?_getD,List.getElem?_set_ne (by omega),List.getD_eq_getElem?_getD]
   ·rw [if_neg e]
  refine ⟨hright,by rw [← hs'],hlen,fun g => ?_,hlenb,hat,hoth,h0,hXc,fun y hy => ?_,.inr ⟨by rw [hba]; exact hn,hbk,hleft⟩⟩
  ·rw [hfile]
   by_cases e:g = F
   ·rw [if_pos e,e,hfa]
   ·rw [if_neg e]
  ·constructor
   ·intro hm
    obtain ⟨g,j,hin',hbe⟩:=mem_blks hm
    by_cases e:g = (F:Int) ∧ j = (I:Int)
    ·rw [e.1,e.2,hat] at hbe
     exact .inl hbe.symm
    ·rw [hoth g j hin'.2.1 e] at hbe
     refine .inr ?_
     rw [← hbe]
     exact block_mem ⟨by rw [← hlen]; exact hin'.1,by rw [← hlenb]; exact hin'.2⟩
   ·rintro (e | hm)
    ·rw [e,← hat]; exact block_mem (hin.same hlen hlenb)
    ·obtain ⟨g,j,hin',hbe⟩:=mem_blks hm
     have e:¬ (g = (F:Int) ∧ j = (I:Int)):=by
      rintro ⟨e1,e2⟩
      rw [e1,e2,hba] at hbe
      omega
     rw [← hbe,← hoth g j hin'.2.1 e]
     exact block_mem (hin'.same hlen hlenb)
def pgA (m:Ma) (p:Nat) (n:Int):Option Pg:=onA (spN m p).ar n
def ltC (a b:Cc):Prop:=a.f < b.f ∨ a.f = b.f ∧ a.i < b.i
def FitF (x:Fr) (g:Pg) (w:Bool):Prop:=
 (0 ≤ x.f → x.f = g.fi ∧ x.i = g.pg) ∧ (g.sh = true → 0 ≤ x.f) ∧ (w = true → g.wr = true) ∧ (w = true → 0 ≤ x.f → g.sh = true) ∧ (w = true → x.f < 0 → x.r ≤ 1)
structure FitE (m:Ma) (g:Pg) (e:En):Prop where
 sw:e.k = 2 → e.n < m.sl.length ∧ g.sh = false
 lt:e.k = 1 → e.n < m.m.fs.length
 fr:e.k = 1 → FitF (frN m e.n.toNat) g e.w
structure CaOk (m:Ma):Prop where
 file:∀ c ∈ m.ca,inF m.st c.f c.i
 lt:∀ c ∈ m.ca,0 ≤ c.k ∧ c.k < m.m.fs.length
 fr:∀ c ∈ m.ca,1 ≤ (frN m c.k.toNat).r ∧ (frN m c.k.toNat).f = c.f ∧ (frN m c.k.toNat).i = c.i
 srt:m.ca.Pairwise ltC
def caN (m:Ma) (i:Int):Nat:=m.ca.countP fun c=>decide (c.k = i)
structure Rt (m:Ma):Prop where
 pt:Pt m
 trim:(∀ b:Int,0 ≤ b → b < m.dk.blocks.length → b ∈ blks m.st ∨ m.dk.blocks.getD b.toNat zPg = zPg) ∧ ∀ q ∈ m.dk.queue,q.1 ∈ blks m.st
 live:∀ p,(spN m p).lv = false → (spN m p).ar = [] ∧ ∀ n,(ent m p n).k = 0
 ca:CaOk m
 en:∀ p n,(ent m p n).k ≠ 0 → ∃ g,pgA m p n = some g ∧ FitE m g (ent m p n)
 cf:∀ i:Nat,i < m.m.fs.length → (frN m i).r = caN m i + holdN m 1 i
 fc:∀ i:Nat,i < m.m.fs.length → 0 ≤ (frN m i).f → ∃ c ∈ m.ca,c.k = i
 cs:∀ s:Nat,s < m.sl.length → slN m s = holdN m 2 s
structure Co (m:Ma):Prop where
 tail:∀ c ∈ m.ca,cutPage (frN m c.k.toNat).p ((fileAt m.st c.f).n - c.i * 8) = (frN m c.k.toNat).p
 clean:∀ c ∈ m.ca,(frN m c.k.toNat).d = false → (frN m c.k.toNat).p = diskP m c.f c.i
 anon:∀ i:Nat,i < m.m.fs.length → (frN m i).d = true → 0 ≤ (frN m i).f
def seeN (m:Ma) (p:Nat) (n:Int):Page × Bool × Int:=
 match pgA m p n with
 | none=>(zPg,false,5)
 | some g=>
  if (ent m p n).k = 1 then ((frAt m (ent m p n).n).p,decide ((frAt m (ent m p n).n).f < 0),0)
  else if (ent m p n).k = 2 then (readP m.sw (ent m p n).n,true,wrong_or m.sw (ent m p n).n)
  else if g.fi < 0 then (zPg,false,0)
  else if (m.st.fs.length:Int) ≤ g.fi ∨ endB m.st g.fi g.pg = true then (zPg,false,9)
  else (contentP m g.fi g.pg,false,0)
structure Vis (m m' : Ma):Prop where
 sk:Skel m m'
 files:m'.st.fs.length = m.st.fs.length
 size:∀ f,(fileAt m'.st f).n = (fileAt m.st f).n
 lenb:∀ f,(fileAt m'.st f).b.length = (fileAt m.st f).b.length
 see:∀ p n,seeN m' p n = seeN m p n
 con:∀ f i,inF m.st f i → contentP m' f i = contentP m f i
theorem Vis.refl (m:Ma):Vis m m:=⟨.refl m,rfl,fun _=>rfl,fun _=>rfl,fun _ _=>rfl,fun _ _ _=>rfl⟩
theorem Vis.trans {a b c:Ma} (h:Vis a b) (k:Vis b c):Vis a c:=
 ⟨h.sk.trans k.sk,k.files.trans h.files,fun f=>(k.size f).trans (h.size f),fun f=>(k.lenb f).trans (h.lenb f),fun p n=>(k.see p n).trans (h.see p n),fun f i hi=>(k.con f i (hi.same h.files h.lenb)).trans (h.con f i hi)⟩
theorem ltC_irr (a:Cc):¬ ltC a a:=fun h=>by unfold ltC at h; omega
theorem srt_eq:∀ {l:List Cc},l.Pairwise ltC → ∀ {a b:Cc},a ∈ l → b ∈ l → a.f = b.f → a.i = b.i → a = b
 | [],_,_,_,h,_,_,_=>by cases h
 | c :: l,hs,a,b,ha,hb,e1,e2=>by
  obtain ⟨h1,h2⟩:=List.pairwise_cons.1 hs
  rcases List.mem_cons.1 ha with e | ha <;> rcases List.mem_cons.1 hb with e' | hb
  ·rw [e,e']
  ·have:=h1 b hb; rw [e] at e1 e2; unfold ltC at this; omega
  ·have:=h1 a ha; rw [e'] at e1 e2; unfold ltC at this; omega
  ·exact srt_eq h2 ha hb e1 e2
theorem CaOk.uniq {m:Ma} (h:CaOk m) {a b:Cc} (ha:a ∈ m.ca) (hb:b ∈ m.ca) (hk:a.k = b.k):a = b:=by
 have h1:=h.fr a ha
 have h2:=h.fr b hb
 rw [hk] at h1
 exact srt_eq h.srt ha hb (h1.2.1.symm.trans h2.2.1) (h1.2.2.symm.trans h2.2.2)
theorem srt_count {k:Int}:∀ {l:List Cc},l.Pairwise ltC → (∀ a ∈ l,∀ b ∈ l,a.k = b.k → a = b) → l.countP (fun c=>decide (c.k = k)) ≤ 1
 | [],_,_=>Nat.zero_le _
 | c :: l,hs,hu=>by
  obtain ⟨h1,h2⟩:=List.pairwise_cons.1 hs
  have ih:=srt_count (k:=k) h2 (fun a ha b hb=>hu a (List.mem_cons_of_mem _ ha) b (List.mem_cons_of_mem _ hb))
  rw [List.countP_cons]
  by_cases hc:c.k = k
  ·rw [if_pos (by simpa using hc)]
   have:l.countP (fun c=>decide (c.k = k)) = 0:=by
    rw [List.countP_eq_zero]
    intro d hd hdk
    have e:=hu c List.mem_cons_self d (List.mem_cons_of_mem _ hd) (by rw [hc]; exact (of_decide_eq_true hdk).symm)
    have:=h1 d hd
    rw [← e] at this
    exact ltC_irr _ this
   omega
  ·rw [if_neg (by simpa using hc)]; omega
theorem CaOk.one {m:Ma} (h:CaOk m) {c:Cc} (hc:c ∈ m.ca):caN m c.k = 1:=by
 have h1:=srt_count (k:=c.k) h.srt (fun a ha b hb=>h.uniq ha hb)
 have h2:0 < m.ca.countP (fun d=>decide (d.k = c.k)):=List.countP_pos_iff.2 ⟨c,hc,by simp⟩
 unfold caN; omega
theorem CaOk.none {m:Ma} {i:Int} (h:∀ c ∈ m.ca,c.k ≠ i):caN m i = 0:=by
 unfold caN
 rw [List.countP_eq_zero]
 intro c hc hk
 exact h c hc (of_decide_eq_true hk)
theorem geC_iff {f i:Int} {c:Cc}:geC f i c = true ↔ f < c.f ∨ c.f = f ∧ i ≤ c.i:=by unfold geC; simp
theorem at_le (l:List Cc) (f i:Int):atC l f i ≤ l.length:=by
 unfold atC
 cases h:l.findIdx? (geC f i) with
 | none=>exact Nat.le_refl _
 | some k=>exact Nat.le_of_lt (List.findIdx?_eq_some_iff_getElem.1 h).1
def lookC (m:Ma) (f i:Int):Option Cc:=m.ca.find? fun c=>decide (c.f = f) && decide (c.i = i)
theorem look_cases (m:Ma) (f i:Int):(∃ c,lookC m f i = some c ∧ c ∈ m.ca ∧ c.f = f ∧ c.i = i) ∨ (lookC m f i = none ∧ ∀ c ∈ m.ca,¬ (c.f = f ∧ c.i = i)):=by
 cases hl:lookC m f i with
 | none=>
  refine .inr ⟨rfl,fun c hc hk => ?_⟩
  have:=List.find?_eq_none.1 hl c hc
  simp only [Bool.and_eq_true,decide_eq_true_eq] at this
  exact this hk
 | some d=>
  have h1:=List.find?_some hl
  simp only [Bool.and_eq_true,decide_eq_true_eq] at h1
  exact .inl ⟨d,rfl,List.mem_of_find?_eq_some hl,h1⟩
theorem content_eq (m:Ma) (f i:Int):contentP m f i = match lookC m f i with
  | some c=>(frAt m c.k).p
  | none=>diskP m f i:=rfl
theorem frAt_nat {m:Ma} (k:Nat):frAt m (k:Int) = frN m k:=rfl
theorem find_pg {l:List Ar} {n:Int} (h:0 ≤ findA l n):onA l n = some (pgOf (l.getD (findA l n).toNat zAr) n) ∧ inA n (l.getD (findA l n).toNat zAr) = true:=by
 induction l with
 | nil=>unfold findA idx at h; simp at h
 | cons a r ih=>
  rw [onA_cons]
  by_cases ha:inA n a = true
  ·have h0:findA (a :: r) n = 0:=by unfold findA idx; rw [List.findIdx?_cons,if_pos ha]; rfl
   rw [h0,if_pos ha]
   exact ⟨rfl,ha⟩
  ·have h1:findA (a :: r) n = if 0 ≤ findA r n then findA r n + 1 else -1:=by
    unfold findA idx
    rw [List.findIdx?_cons,if_neg ha]
    cases r.findIdx? (inA n) with
    | none=>rfl
    | some k=>
     simp only [Option.map_some]
     rw [if_pos (by omega)]
     rfl
   rw [if_neg ha]
   by_cases h2:0 ≤ findA r n
   ·rw [h1,if_pos h2]
    have e:(findA r n + 1).toNat = (findA r n).toNat + 1:=by omega
    rw [e]
    exact ih h2
   ·rw [h1,if_neg h2] at h
    omega
def seeE (m:Ma) (g:Pg) (e:En):Page × Bool × Int:=
 if e.k = 1 then ((frAt m e.n).p,decide ((frAt m e.n).f < 0),0)
 else if e.k = 2 then (readP m.sw e.n,true,wrong_or m.sw e.n)
 else if g.fi < 0 then (zPg,false,0)
 else if (m.st.fs.length:Int) ≤ g.fi ∨ endB m.st g.fi g.pg = true then (zPg,false,9)
 else (contentP m g.fi g.pg,false,0)
theorem seeN_some {m:Ma} {p:Nat} {n:Int} {g:Pg} (h:pgA m p n = some g):seeN m p n = seeE m g (ent m p n):=by
 unfold seeN; rw [h]; rfl
theorem seeN_none {m:Ma} {p:Nat} {n:Int} (h:pgA m p n = none):seeN m p n = (zPg,false,5):=by
 unfold seeN; rw [h]
theorem pg_in:∀ {l:List Ar} {lo:Int} {n:Int} {g:Pg},srtF lo l → onA l n = some g → 0 ≤ g.pg ∧ g.pg < 12 ∧ -1 ≤ g.fi ∧ g.fi < 5 ∧ (g.fi < 0 → g.sh = false ∧ g.pg = 0) ∧ 0 ≤ n ∧ n < 64
 | [],_,_,_,_,h=>by cases h
 | a :: r,lo,n,g,hs,h=>by
  rw [onA_cons] at h
  by_cases ha:inA n a = true
  ·rw [if_pos ha] at h
   have h1:=inA_iff.1 ha
   have h2:=hs.1
   unfold areaE at h2
   split at h2
   ·cases h2
   ·split at h2
    ·cases h2
    ·rename_i h3 h4
     cases h
     unfold pgOf
     simp only
     have h5:¬ (a.fi < 0 ∧ (a.ba ≠ 0 ∨ a.sh = true)):=fun h=>h4 (.inl h)
     have h6:¬ (0 ≤ a.fi ∧ 12 - (a.en - a.fr) < a.ba):=fun h=>h4 (.inr h)
     refine ⟨?_,?_,by omega,by omega,fun h7=>⟨?_,if_neg (by omega)⟩,by omega,by omega⟩
     ·split <;> omega
     ·split <;> omega
     ·cases hsh:a.sh with
      | false=>rfl
      | true=>exact absurd ⟨h7,.inr hsh⟩ h5
  ·rw [if_neg ha] at h
   exact pg_in hs.2.2 h
theorem Pt.pg {m:Ma} (h:Pt m) {p:Nat} {n:Int} {g:Pg} (hg:pgA m p n = some g):0 ≤ g.pg ∧ g.pg < 12 ∧ -1 ≤ g.fi ∧ g.fi < 5 ∧ (g.fi < 0 → g.sh = false ∧ g.pg = 0) ∧ 0 ≤ n ∧ n < 64:=
 pg_in (okF_srt0 (wrongA_iff.1 (h.arN p)).2) hg
theorem not_end {s:St} (h:wrongSt s = 0) {f i:Int} (hf:0 ≤ f) (hi:0 ≤ i) (hn:¬ ((s.fs.length:Int) ≤ f ∨ endB s f i = true)):inF s f i:=by
 have h1:¬ (s.fs.length:Int) ≤ f:=fun h=>hn (.inl h)
 have h2:¬ endB s f i = true:=fun h=>hn (.inr h)
 have h3:=(file_ok h (f:=f) (by omega)).2.2.1
 refine ⟨by omega,hi,?_⟩
 rw [h3]
 unfold endB at h2
 simpa using h2
structure Files (s s' : St):Prop where
 len:s'.fs.length = s.fs.length
 size:∀ f,(fileAt s' f).n = (fileAt s f).n
 lenb:∀ f,(fileAt s' f).b.length = (fileAt s f).b.length
theorem Files.refl (s:St):Files s s:=⟨rfl,fun _=>rfl,fun _=>rfl⟩
theorem Files.of {s s' : St} (h:s' = s):Files s s':=by subst h; exact .refl _
theorem Files.inF {s s' : St} (h:Files s s') {f i:Int}:inF s' f i ↔ inF s f i:=by
 unfold Go.Proofs.Ytkjobhcnlppcnaa.inF; rw [h.len,h.lenb]
theorem endB_same {s s' : St} (h:Files s s') (f i:Int):endB s' f i = endB s f i:=by unfold endB; rw [h.size]
theorem see_same {m m' : Ma} {g:Pg} {e:En} (hw:wrongSt m.st = 0) (hg:0 ≤ g.pg) (hf:Files m.st m'.st) (hc:∀ f i,inF m.st f i → contentP m' f i = contentP m f i)
  (h1:e.k = 1 → (frAt m' e.n).p = (frAt m e.n).p ∧ (frAt m' e.n).f = (frAt m e.n).f) (h2:e.k = 2 → readP m'.sw e.n = readP m.sw e.n ∧ wrong_or m'.sw e.n = wrong_or m.sw e.n):seeE m' g e = seeE m g e:=by
 unfold seeE
 by_cases k1:e.k = 1
 ·rw [if_pos k1,if_pos k1,(h1 k1).1,(h1 k1).2]
 ·rw [if_neg k1,if_neg k1]
  by_cases k2:e.k = 2
  ·rw [if_pos k2,if_pos k2,(h2 k2).1,(h2 k2).2]
  ·rw [if_neg k2,if_neg k2,hf.len,endB_same hf]
   by_cases g0:g.fi < 0
   ·rw [if_pos g0,if_pos g0]
   ·rw [if_neg g0,if_neg g0]
    by_cases he:(m.st.fs.length:Int) ≤ g.fi ∨ endB m.st g.fi g.pg = true
    ·rw [if_pos he,if_pos he]
    ·rw [if_neg he,if_neg he,hc _ _ (not_end hw (by omega) hg he)]
theorem vis_of {m m' : Ma} (h:Pt m) (sk:Skel m m') (hf:Files m.st m'.st) (hc:∀ f i,inF m.st f i → contentP m' f i = contentP m f i)
  (hs:∀ p n g,pgA m p n = some g → seeE m' g (ent m' p n) = seeE m g (ent m p n)):Vis m m':=by
 refine ⟨sk,hf.len,hf.size,hf.lenb,fun p n => ?_,hc⟩
 have hp:pgA m' p n = pgA m p n:=by unfold pgA; rw [sk.ar]
 cases hg:pgA m p n with
 | none=>rw [seeN_none hg,seeN_none (hp.trans hg)]
 | some g=>rw [seeN_some hg,seeN_some (hp.trans hg)]; exact hs p n g hg
theorem clean_frE {x:Fr} (h:frameE x = 0):frameE { x with d:=false } = 0:=by
 rw [frameE_iff] at h ⊢
 exact ⟨h.1,fun h0=>⟨(h.2.1 h0).1,rfl,(h.2.1 h0).2.2.1,(h.2.1 h0).2.2.2⟩,h.2.2⟩
theorem push_get {d:Dsk} {x:Int × Page} {b:Int} (h0:0 ≤ b) (hq:∀ q ∈ d.queue,q.1 ≠ b ∧ 0 ≤ q.1):(pushW d x).blocks.getD b.toNat zPg = d.blocks.getD b.toNat zPg:=by
 unfold pushW
 cases hd:d.queue with
 | nil=>rfl
 | cons q r=>
  simp only
  split
  ·have:=hq q (by rw [hd]; exact List.mem_cons_self)
   rw [List.getD_eq_getElem?_getD,List.getElem?_set_ne (by omega),List.getD_eq_getElem?_getD]
  ·rfl
theorem push_mem {d:Dsk} {x q:Int × Page} (h:q ∈ (pushW d x).queue):q ∈ d.queue ∨ q = x:=by
 unfold pushW at h
 cases hd:d.queue with
 | nil=>rw [hd] at h; simp at h; exact .inr h
 | cons a r=>
  rw [hd] at h
  simp only at h
  split at h
  ·rcases List.mem_append.1 h with h | h
   ·exact .inl (List.mem_cons_of_mem _ h)
   ·exact .inr (List.mem_singleton.1 h)
  ·rcases List.mem_append.1 h with h | h
   ·exact .inl h
   ·exact .inr (List.mem_singleton.1 h)
def cleanM (m:Ma) (f:Nat):Ma:=
 let x:=frN m f
 setFr { m with st:=blockS m.st x.f x.i,dk:=pushW m.dk (blockN m.st x.f x.i,x.p) } f { x with d:=false }
structure Cleaned (m m' : Ma) (f:Nat):Prop where
 rt:Rt m'
 co:Co m'
 vis:Vis m m'
 sl:m'.sl = m.sl
 sw:m'.sw = m.sw
 ca:m'.ca = m.ca
 sp:m'.sp = m.sp
 fs:m'.m = (setFr m f { frN m f with d:=false }).m
theorem cleanM_ok {m:Ma} {f:Nat} (h:Rt m) (hc:Co m) (hf:f < m.m.fs.length) (h0:0 ≤ (frN m f).f) (hb:blockE m.st (frN m f).f (frN m f).i = 0):Cleaned m (cleanM m f) f:=by
 obtain ⟨hin,hB⟩:=blocked hb
 obtain ⟨c,hcm,hck⟩:=h.fc f hf h0
 have hcf:=h.ca.fr c hcm
 rw [hck,Int.toNat_natCast] at hcf
 have hwo:wrong_or m.dk (blockN m.st (frN m f).f (frN m f).i) = 0:=wrong_or_ok.2 ⟨h.pt.dk,hB.b0,by rw [h.pt.dkl]; exact hB.bc⟩
 have hlt:blockN m.st (frN m f).f (frN m f).i < m.dk.blocks.length:=by rw [h.pt.dkl]; exact hB.bc
 have hfr:∀ g,frN (cleanM m f) g = if g = f then { frN m f with d:=false } else frN m g:=fun g=>frN_set (m:={ m with st:=blockS m.st (frN m f).f (frN m f).i,dk:=pushW m.dk (blockN m.st (frN m f).f (frN m f).i,(frN m f).p) }) (x:={ frN m f with d:=false }) hf g
 have hfp:∀ g,(frN (cleanM m f) g).p = (frN m g).p ∧ (frN (cleanM m f) g).f = (frN m g).f ∧ (frN (cleanM m f) g).i = (frN m g).i ∧ (frN (cleanM m f) g).r = (frN m g).r:=by
  intro g
  rw [hfr]
  by_cases e:g = f
  ·rw [if_pos e,e]; exact ⟨rfl,rfl,rfl,rfl⟩
  ·rw [if_neg e]; exact ⟨rfl,rfl,rfl,rfl⟩
 have hlen:(cleanM m f).m.fs.length = m.m.fs.length:=List.length_set
 have hfiles:Files m.st (cleanM m f).st:=⟨hB.len,hB.size,hB.lenb⟩
 have hent:∀ p n,ent (cleanM m f) p n = ent m p n:=fun _ _=>rfl
 have hdk:∀ g j,inF m.st g j → ¬ (g = (frN m f).f ∧ j = (frN m f).i) → diskP (cleanM m f) g j = diskP m g j:=by
  intro g j hgj hne
  have hbk:blockAt (cleanM m f).st g j = blockAt m.st g j:=hB.other g j hgj.2.1 hne
  unfold diskP
  rw [hbk,hB.size g |> (fun e=>show (fileAt (cleanM m f).st g).n = (fileAt m.st g).n from e)]
  by_cases hb0:0 ≤ blockAt m.st g j
  ·rw [if_pos hb0,if_pos hb0]
   congr 1
   show readP (pushW m.dk _) _ = _
   rw [push_read h.pt.dk hB.b0 hlt,if_neg]
   rintro ⟨_,e⟩
   simp only at e
   rcases hB.was with ⟨hw,_⟩ | ⟨_,hn,_⟩
   ·exact hne (block_uniq h.pt.st hgj hin (by omega) (by omega))
   ·exact hn (by rw [e]; exact block_mem hgj)
  ·rw [if_neg hb0,if_neg hb0]
 have hown:diskP (cleanM m f) (frN m f).f (frN m f).i = (frN m f).p:=by
  have hbk:blockAt (cleanM m f).st (frN m f).f (frN m f).i = blockN m.st (frN m f).f (frN m f).i:=hB.at_
  have ht:=hc.tail c hcm
  rw [hck,Int.toNat_natCast,← hcf.2.1,← hcf.2.2] at ht
  unfold diskP
  rw [hbk,if_pos hB.b0,show (fileAt (cleanM m f).st (frN m f).f).n = (fileAt m.st (frN m f).f).n from hB.size _]
  show cutPage (readP (pushW m.dk _) _) _ = _
  rw [push_read h.pt.dk hB.b0 hlt,if_pos ⟨hwo,rfl⟩]
  exact ht
 have hcon:∀ g j,inF m.st g j → contentP (cleanM m f) g j = contentP m g j:=by
  intro g j hgj
  have hl:lookC (cleanM m f) g j = lookC m g j:=rfl
  rw [content_eq,content_eq,hl]
  rcases look_cases m g j with ⟨d,hd,hdm,_⟩ | ⟨hd,hno⟩
  ·rw [hd]; exact (hfp d.k.toNat).1
  ·rw [hd]
   exact hdk g j hgj fun e=>hno c hcm ⟨by rw [e.1]; exact hcf.2.1.symm,by rw [e.2]; exact hcf.2.2.symm⟩
 have hpt:Pt (cleanM m f):=by
  have hd:wrongD (pushW m.dk (blockN m.st (frN m f).f (frN m f).i,(frN m f).p)) = 0:=push_wrong h.pt.dk hB.b0 hlt
  exact { fr:=set_ok h.pt.fr (clean_frE (h.pt.frE hf)),sl:=h.pt.sl,sw:=h.pt.sw,dk:=hd,st:=hB.right,swl:=h.pt.swl,dkl:=by show ((pushW m.dk _).blocks.length:Int) = _; rw [push_len,h.pt.dkl]; exact hB.count.symm,spl:=h.pt.spl,ar:=h.pt.ar,tb:=h.pt.tb }
 have hcaok:CaOk (cleanM m f):=⟨fun d hd=>(h.ca.file d hd).same hB.len hB.lenb,fun d hd=>by rw [hlen]; exact h.ca.lt d hd,fun d hd=>by
   have:=hfp d.k.toNat
   rw [this.2.1,this.2.2.1,this.2.2.2]; exact h.ca.fr d hd,h.ca.srt⟩
 refine ⟨⟨hpt,⟨fun b hb0 hbl => ?_,fun q hq => ?_⟩,h.live,hcaok,fun p n hk => ?_,fun i hi => ?_,fun i hi hi0 => ?_,h.cs⟩,⟨fun d hd => ?_,fun d hd hdd => ?_,fun i hi hid => ?_⟩,?_,rfl,rfl,rfl,rfl,rfl⟩
 ·have hbl' : b < m.dk.blocks.length:=by
   have:((cleanM m f).dk.blocks.length) = m.dk.blocks.length:=push_len _ _
   omega
  by_cases hu:b ∈ blks m.st
  ·exact .inl ((hB.used b hb0).2 (.inr hu))
  ·by_cases e:b = blockN m.st (frN m f).f (frN m f).i
   ·exact .inl ((hB.used b hb0).2 (.inl e))
   ·refine .inr ?_
    show (pushW m.dk _).blocks.getD b.toNat zPg = zPg
    rw [push_get hb0 (fun q hq=>⟨fun e=>hu (by rw [← e]; exact h.trim.2 q hq),((wrongD_iff _).1 h.pt.dk).2.2 q hq |>.1⟩)]
    exact (h.trim.1 b hb0 hbl').resolve_left hu
 ·rcases push_mem hq with hq | rfl
  ·exact (hB.used _ (((wrongD_iff _).1 h.pt.dk).2.2 q hq).1).2 (.inr (h.trim.2 q hq))
  ·exact (hB.used _ hB.b0).2 (.inl rfl)
 ·obtain ⟨g,hg,hfit⟩:=h.en p n hk
  refine ⟨g,hg,hfit.sw,fun hk1=>by rw [hlen]; exact hfit.lt hk1,fun hk1 => ?_⟩
  have h1:=hfit.fr hk1
  have h2:=hfp (ent m p n).n.toNat
  unfold FitF at h1 ⊢
  rw [hent,h2.2.1,h2.2.2.1,h2.2.2.2]
  exact h1
 ·rw [(hfp i).2.2.2]; exact h.cf i (by rw [← hlen]; exact hi)
 ·rw [(hfp i).2.1] at hi0; exact h.fc i (by rw [← hlen]; exact hi) hi0
 ·rw [(hfp d.k.toNat).1,show (fileAt (cleanM m f).st d.f).n = (fileAt m.st d.f).n from hB.size _]; exact hc.tail d hd
 ·by_cases e:d.k.toNat = f
  ·have hdc:d = c:=h.ca.uniq hd hcm (by have:=h.ca.lt d hd; omega)
   subst hdc
   rw [(hfp d.k.toNat).1,e]
   rw [← hcf.2.1,← hcf.2.2]
   exact hown.symm
  ·rw [hfr,if_neg e] at hdd
   rw [(hfp d.k.toNat).1,hc.clean d hd hdd]
   refine (hdk d.f d.i (h.ca.file d hd) fun e2=>e ?_).symm
   have hdc:d = c:=srt_eq h.ca.srt hd hcm (by rw [e2.1]; exact hcf.2.1) (by rw [e2.2]; exact hcf.2.2)
   rw [hdc,hck]; exact Int.toNat_natCast f
 ·rw [(hfp i).2.1]
  rw [hfr] at hid
  by_cases e:i = f
  ·rw [e]; exact h0
  ·rw [if_neg e] at hid; exact hc.anon i (by rw [← hlen]; exact hi) hid
 ·refine vis_of h.pt (Skel.of rfl) hfiles hcon fun p n g hg => ?_
  rw [hent]
  exact see_same h.pt.st (h.pt.pg hg).1 hfiles hcon (fun _=>⟨(hfp _).1,(hfp _).2.1⟩) (fun _=>⟨rfl,rfl⟩)
theorem zTb_get (n:Int):getT zTb n = zEn:=by
 by_cases h:0 ≤ n ∧ n < 64
 ·obtain ⟨q,r,hq,hr,rfl,_,_⟩:=split64 h
  exact getT_none hq hr (by simp [zTb])
 ·exact getT_out (by omega)
theorem frN_of {m m' : Ma} (h:m'.m = m.m) (g:Nat):frN m' g = frN m g:=by unfold frN; rw [h]
theorem ent_in {m:Ma} {p:Nat} {n:Int} (h:(ent m p n).k ≠ 0):p < m.sp.length ∧ 0 ≤ n ∧ n < 64:=by
 refine ⟨?_,?_⟩
 ·rcases Nat.lt_or_ge p m.sp.length with hp | hp
  ·exact hp
  ·refine absurd ?_ h
   unfold ent
   rw [spN_out hp,show zSp.tb = zTb from rfl,zTb_get]; rfl
 ·by_cases hn:n < 0 ∨ 64 ≤ n
  ·exact absurd (by rw [ent_out p hn]; rfl) h
  ·omega
structure Evicted (m m' : Ma) (f:Nat):Prop where
 rt:Rt m'
 co:Co m'
 vis:Vis m m'
 len:m'.m.fs.length = m.m.fs.length
 hand:m'.m.hand = m.m.hand
 free:frN m' f = frZ
 oth:∀ g,g ≠ f → frN m' g = frN m g
 sll:m'.sl.length = m.sl.length
 ents:∀ p n,¬ ((ent m p n).k = 1 ∧ (ent m p n).n = f) → ent m' p n = ent m p n
 cas:∀ c,c ∈ m'.ca ↔ c ∈ m.ca ∧ c.k ≠ f
 std:(m'.st = m.st ∧ m'.dk = m.dk) ∨ (0 ≤ (frN m f).f ∧ (frN m f).d = true ∧ blockE m.st (frN m f).f (frN m f).i = 0 ∧ m'.st = (cleanM m f).st ∧ m'.dk = (cleanM m f).dk)
def dirtyPg (m:Ma) (f i:Int) (P:Page):Prop:=∃ c ∈ m.ca,c.f = f ∧ c.i = i ∧ (frN m c.k.toNat).d = true ∧ (frN m c.k.toNat).p = P
structure Sub (m m' : Ma):Prop where
 st:m'.st = m.st
 dk:m'.dk = m.dk
 di:∀ f i P,dirtyPg m' f i P → dirtyPg m f i P
structure PInv (P:Ma → Prop):Prop where
 cl:∀ m f,Rt m → Co m → P m → f < m.m.fs.length → 0 ≤ (frN m f).f → (frN m f).d = true → blockE m.st (frN m f).f (frN m f).i = 0 → P (cleanM m f)
 sub:∀ m m',Rt m → Co m → P m → Rt m' → Co m' → Sub m m' → P m'
def Inv (m m' : Ma):Prop:=∀ P,PInv P → P m → P m'
theorem Inv.refl (m:Ma):Inv m m:=fun _ _ h=>h
theorem Inv.trans {a b c:Ma} (h:Inv a b) (k:Inv b c):Inv a c:=fun P hp ha=>k P hp (h P hp ha)
theorem Sub.inv {m m' : Ma} (h:Sub m m') (h1:Rt m) (h2:Co m) (h3:Rt m') (h4:Co m'):Inv m m':=fun P hp hm=>hp.sub m m' h1 h2 hm h3 h4 h
theorem Sub.of {m m' : Ma} (st:m'.st = m.st) (dk:m'.dk = m.dk) (hc:∀ c ∈ m'.ca,(frN m' c.k.toNat).d = true → c ∈ m.ca ∧ (frN m' c.k.toNat).d = (frN m c.k.toNat).d ∧ (frN m' c.k.toNat).p = (frN m c.k.toNat).p):Sub m m':=
 ⟨st,dk,fun f i P ⟨c,a1,a2,a3,a4,a5⟩=>have ⟨b1,b2,b3⟩:=hc c a1 a4; ⟨c,b1,a2,a3,by rw [← b2]; exact a4,by rw [← b3]; exact a5⟩⟩
theorem Evicted.inv {m m' : Ma} {f:Nat} (h:Rt m) (hc:Co m) (hf:f < m.m.fs.length) (E:Evicted m m' f):Inv m m':=by
 have hck:∀ c ∈ m'.ca,c ∈ m.ca ∧ c.k.toNat ≠ f:=fun c hcm=>by
  have h1:=(E.cas c).1 hcm
  have h2:=h.ca.lt c h1.1
  exact ⟨h1.1,fun e=>h1.2 (by omega)⟩
 rcases E.std with ⟨h1,h2⟩ | ⟨h0,hd,hb,h1,h2⟩
 ·refine Sub.inv (.of h1 h2 fun c hcm _ => ?_) h hc E.rt E.co
  rw [E.oth _ (hck c hcm).2]
  exact ⟨(hck c hcm).1,rfl,rfl⟩
 ·have hC:=cleanM_ok h hc hf h0 hb
  refine Inv.trans (fun P hp hm=>hp.cl m f h hc hm hf h0 hd hb) (Sub.inv (.of h1 h2 fun c hcm _ => ?_) hC.rt hC.co E.rt E.co)
  have h3:frN (cleanM m f) c.k.toNat = frN m c.k.toNat:=by
   rw [frN_of hC.fs,frN_set hf,if_neg (hck c hcm).2]
  rw [E.oth _ (hck c hcm).2,h3]
  exact ⟨(hck c hcm).1,rfl,rfl⟩
theorem idx_nat {α:Type} {q:α → Bool} {l:List α} (h:0 ≤ idx q l):∃ k:Nat,idx q l = k ∧ ∃ hk:k < l.length,q l[k] = true:=by
 unfold idx at h ⊢
 cases hf:l.findIdx? q with
 | none=>rw [hf] at h; simp at h
 | some k=>
  obtain ⟨hk,hq,_⟩:=List.findIdx?_eq_some_iff_getElem.1 hf
  exact ⟨k,rfl,hk,hq⟩
def LikeF (x y:Fr):Prop:=y.p = x.p ∧ y.r = x.r ∧ y.d = x.d ∧ y.f = x.f ∧ y.i = x.i
theorem LikeF.refl (x:Fr):LikeF x x:=⟨rfl,rfl,rfl,rfl,rfl⟩
theorem LikeF.trans {x y z:Fr} (h:LikeF x y) (k:LikeF y z):LikeF x z:=⟨k.1.trans h.1,k.2.1.trans h.2.1,k.2.2.1.trans h.2.2.1,k.2.2.2.1.trans h.2.2.2.1,k.2.2.2.2.trans h.2.2.2.2⟩
structure Freed (m m' : Ma) (o:Option Nat):Prop where
 rt:Rt m'
 co:Co m'
 vis:Vis m m'
 len:m'.m.fs.length = m.m.fs.length
 sll:m'.sl.length = m.sl.length
 fr:∀ g,o ≠ some g → LikeF (frN m g) (frN m' g)
 free:∀ f,o = some f → f < m.m.fs.length ∧ frN m' f = frZ ∧ (frN m f).r ≠ 0
 ents:∀ p n,((ent m p n).k = 1 → o ≠ some (ent m p n).n.toNat) → ent m' p n = ent m p n
 cas:∀ c,c ∈ m'.ca ↔ c ∈ m.ca ∧ o ≠ some c.k.toNat
 inv:Inv m m'
theorem Freed.refl {m:Ma} (h:Rt m) (hc:Co m):Freed m m none:=⟨h,hc,.refl m,rfl,rfl,fun _ _ => .refl _,(fun _ e=>by cases e),fun _ _ _=>rfl,fun c=>⟨fun h=>⟨h,by simp⟩,fun h=>h.1⟩,.refl m⟩
theorem cut_cut (p:Page) (n:Int):cutPage (cutPage p n) n = cutPage p n:=by
 apply Vector.ext
 intro i hi
 simp only [cutPage,Vector.getElem_ofFn]
 split <;> rfl
theorem cut_zero (n:Int):cutPage zPg n = zPg:=by
 apply Vector.ext
 intro i hi
 simp only [cutPage,Vector.getElem_ofFn]
 have hz:zPg[i] = 0:=by
  match i,hi with
  | 0,_=>rfl
  | 1,_=>rfl
  | 2,_=>rfl
  | 3,_=>rfl
  | 4,_=>rfl
  | 5,_=>rfl
  | 6,_=>rfl
  | 7,_=>rfl
  | n + 8,h=>omega
 split <;> rw [hz]
theorem disk_tail (m:Ma) (f i:Int):cutPage (diskP m f i) ((fileAt m.st f).n - i * 8) = diskP m f i:=by
 unfold diskP
 split
 ·exact cut_cut _ _
 ·exact cut_zero _
theorem insert_srt {f i k:Int}:∀ {l:List Cc},l.Pairwise ltC → (∀ c ∈ l,¬ (c.f = f ∧ c.i = i)) → (l.insertIdx (atC l f i) ⟨f,i,k⟩).Pairwise ltC
 | [],_,_=>by simp [atC]
 | c :: l,hs,hno=>by
  obtain ⟨h1,h2⟩:=List.pairwise_cons.1 hs
  have hnc:=hno c List.mem_cons_self
  by_cases hg:geC f i c = true
  ·have:atC (c :: l) f i = 0:=by unfold atC; rw [List.findIdx?_cons,if_pos hg]; rfl
   rw [this,List.insertIdx_zero]
   have hlt:ltC ⟨f,i,k⟩ c:=by
    have:=geC_iff.1 hg
    unfold ltC
    simp only
    omega
   refine List.pairwise_cons.2 ⟨fun d hd => ?_,hs⟩
   rcases List.mem_cons.1 hd with rfl | hd
   ·exact hlt
   ·have:=h1 d hd
    unfold ltC at this hlt ⊢
    omega
  ·have:atC (c :: l) f i = atC l f i + 1:=by
    unfold atC
    rw [List.findIdx?_cons,if_neg hg]
    cases l.findIdx? (geC f i) <;> rfl
   rw [this,List.insertIdx_succ_cons]
   refine List.pairwise_cons.2 ⟨fun d hd => ?_,insert_srt h2 fun d hd=>hno d (List.mem_cons_of_mem _ hd)⟩
   rcases (List.mem_insertIdx (at_le l f i)).1 hd with rfl | hd
   ·have:¬ (f < c.f ∨ c.f = f ∧ i ≤ c.i):=fun h=>hg (geC_iff.2 h)
    unfold ltC
    simp only
    omega
   ·exact h1 d hd
theorem countP_insert {α:Type} (q:α → Bool) (x:α):∀ (l:List α) (j:Nat),j ≤ l.length → (l.insertIdx j x).countP q = l.countP q + b2n (q x)
 | l,0,_=>by rw [List.insertIdx_zero,List.countP_cons]; rfl
 | [],j + 1,h=>by simp at h
 | a :: l,j + 1,h=>by
  rw [List.insertIdx_succ_cons,List.countP_cons,List.countP_cons,countP_insert q x l j (by simpa using h)]
  omega
theorem firstE_zero:∀ {l:List Int},firstE l = 0 ↔ ∀ x ∈ l,x = 0
 | []=>by simp [firstE]
 | x :: l=>by
  unfold firstE
  by_cases hx:x = 0
  ·rw [if_pos hx,firstE_zero]
   constructor
   ·intro h y hy
    rcases List.mem_cons.1 hy with e | hy
    ·rw [e,hx]
    ·exact h y hy
   ·exact fun h y hy=>h y (List.mem_cons_of_mem _ hy)
  ·rw [if_neg hx]
   exact ⟨fun h=>absurd h hx,fun h=>absurd (h x List.mem_cons_self) hx⟩
theorem ite_ne {p:Prop} [Decidable p] {a b:Int} (ha:a ≠ 0):(if p then a else b) = 0 ↔ ¬ p ∧ b = 0:=by
 by_cases h:p
 ·rw [if_pos h]; exact ⟨fun h'=>absurd h' ha,fun h'=>absurd h h'.1⟩
 ·rw [if_neg h]; exact ⟨fun h'=>⟨h,h'⟩,fun h'=>h'.2⟩
theorem ite_self {a b:Int}:(if a ≠ 0 then a else b) = 0 ↔ a = 0 ∧ b = 0:=by
 by_cases h:a = 0
 ·rw [if_neg (fun h'=>h' h)]; exact ⟨fun h'=>⟨h,h'⟩,fun h'=>h'.2⟩
 ·rw [if_pos h]; exact ⟨fun h'=>absurd h' h,fun h'=>absurd h'.1 h⟩
theorem spaceE_zero {s:Sp}:spaceE s = 0 ↔ (wrongA s.ar).1 = 0 ∧ wrongT s.tb = 0 ∧ (s.lv = false → s.ar = [] ∧ ∀ n,(getT s.tb n).k = 0):=by
 unfold spaceE
 rw [ite_self,ite_self,ite_ne (by decide)]
 refine and_congr_right fun _=>and_congr_right fun _ => ?_
 constructor
 ·rintro ⟨h,_⟩ hl
  have h1:s.ar.length + (pagesL s.tb).length = 0:=by
   rcases Nat.eq_zero_or_pos (s.ar.length + (pagesL s.tb).length) with h0 | h0
   ·exact h0
   ·exact absurd ⟨hl,h0⟩ h
  refine ⟨List.eq_nil_of_length_eq_zero (by omega),fun n => ?_⟩
  by_cases hn:0 ≤ n ∧ n < 64
  ·have h2:pagesL s.tb = []:=List.eq_nil_of_length_eq_zero (by omega)
   by_cases hk:(getT s.tb n).k = 0
   ·exact hk
   ·have:=mem_pages.2 ⟨hn,hk⟩
    rw [h2] at this; cases this
  ·rw [getT_out (by omega)]; rfl
 ·refine fun h=>⟨?_,rfl⟩
  rintro ⟨hl,h0⟩
  obtain ⟨h1,h2⟩:=h hl
  have h3:pagesL s.tb = []:=by
   rw [List.eq_nil_iff_forall_not_mem]
   intro n hn
   exact (mem_pages.1 hn).2 (h2 n)
  rw [h1,h3] at h0
  exact absurd h0 (by simp)
theorem trimB_iff {m:Ma}:trimB m = true ↔ (∀ b:Int,0 ≤ b → b < m.dk.blocks.length → b ∈ blks m.st ∨ m.dk.blocks.getD b.toNat zPg = zPg) ∧ ∀ q ∈ m.dk.queue,q.1 ∈ blks m.st:=by
 unfold trimB
 rw [Bool.and_eq_true,List.all_eq_true,List.all_eq_true]
 refine and_congr ⟨fun h b h0 hb => ?_,fun h b hb => ?_⟩ ⟨fun h q hq=>by simpa using h q hq,fun h q hq=>by simpa using h q hq⟩
 ·have:=h b.toNat (List.mem_range.2 (by omega))
  rw [Int.toNat_of_nonneg h0] at this
  simpa using this
 ·have:=h (b:Int) (by omega) (by have:=List.mem_range.1 hb; omega)
  simpa using this
theorem partsE_zero {m:Ma}:partsE m = 0 ↔ Pt m ∧ trimB m = true ∧ ∀ s ∈ m.sp,s.lv = false → s.ar = [] ∧ ∀ n,(getT s.tb n).k = 0:=by
 unfold partsE
 rw [ite_self,ite_self,ite_self,ite_self,ite_self,ite_ne (by decide),ite_ne (by decide),firstE_zero]
 constructor
 ·rintro ⟨h1,h2,h3,h4,h5,h6,h7,h8⟩
  have h9:∀ s ∈ m.sp,_:=fun s hs=>spaceE_zero.1 (h8 _ (List.mem_map_of_mem hs))
  refine ⟨⟨h1,h2,h3,h4,h5,?_,?_,by omega,fun s hs=>(h9 s hs).1,fun s hs=>(h9 s hs).2.1⟩,?_,fun s hs=>(h9 s hs).2.2⟩
  ·exact Classical.byContradiction fun h=>h6 (.inl h)
  ·exact Classical.byContradiction fun h=>h6 (.inr (.inl h))
  ·cases h:trimB m with
   | true=>rfl
   | false=>exact absurd (.inr (.inr h)) h6
 ·rintro ⟨h,ht,hl⟩
  refine ⟨h.fr,h.sl,h.sw,h.dk,h.st,?_,by have:=h.spl; omega,?_⟩
  ·rintro (h1 | h1 | h1)
   ·exact h1 h.swl
   ·exact h1 h.dkl
   ·rw [ht] at h1; cases h1
  ·intro x hx
   obtain ⟨s,hs,rfl⟩:=List.mem_map.1 hx
   exact spaceE_zero.2 ⟨h.ar s hs,h.tb s hs,hl s hs⟩
theorem cacheE_zero {m:Ma} {p:Option Cc} {c:Cc}:cacheE m p c = 0 ↔ (inF m.st c.f c.i ∧ 0 ≤ c.k ∧ c.k < m.m.fs.length) ∧ (1 ≤ (frN m c.k.toNat).r ∧ (frN m c.k.toNat).f = c.f ∧ (frN m c.k.toNat).i = c.i) ∧ ∀ q,p = some q → ltC q c:=by
 have hfr:frAt m c.k = frN m c.k.toNat:=rfl
 unfold cacheE
 rw [ite_ne (by decide),ite_ne (by decide),hfr]
 refine and_congr ⟨fun h=>⟨⟨by omega,by omega⟩,by omega⟩,fun h=>by obtain ⟨⟨_,_⟩,_⟩:=h; omega⟩ (and_congr ⟨fun h=>by omega,fun h=>by omega⟩ ?_)
 cases p with
 | none=>simp
 | some q=>
  simp only [Option.some.injEq,forall_eq']
  rw [ite_ne (by decide)]
  unfold ltC
  omega
theorem pair_of_next {l:List Cc} (h:∀ k (hk:k + 1 < l.length),ltC (l[k]'(by omega)) l[k + 1]):l.Pairwise ltC:=by
 induction l with
 | nil=>exact List.Pairwise.nil
 | cons a l ih=>
  have ih:=ih fun k hk=>h (k + 1) (by simpa using hk)
  refine List.pairwise_cons.2 ⟨?_,ih⟩
  cases l with
  | nil=>simp
  | cons b l=>
   have h0:ltC a b:=h 0 (by simp)
   intro c hc
   rcases List.mem_cons.1 hc with e | hc
   ·rw [e]; exact h0
   ·have h1:=(List.pairwise_cons.1 ih).1 c hc
    unfold ltC at *; omega
theorem cachedE_zero {m:Ma}:cachedE m = 0 ↔ CaOk m:=by
 unfold cachedE
 rw [firstE_zero]
 constructor
 ·intro h
  have h1:∀ k (hk:k < m.ca.length),cacheE m (prevC m.ca k) m.ca[k] = 0:=fun k hk=>by
   have:=h _ (List.mem_map_of_mem (List.mem_range.2 hk))
   rw [List.getD_eq_getElem?_getD,List.getElem?_eq_getElem hk] at this
   exact this
  have h2:∀ c ∈ m.ca,(inF m.st c.f c.i ∧ 0 ≤ c.k ∧ c.k < m.m.fs.length) ∧ (1 ≤ (frN m c.k.toNat).r ∧ (frN m c.k.toNat).f = c.f ∧ (frN m c.k.toNat).i = c.i):=fun c hc=>by
   obtain ⟨k,hk,rfl⟩:=List.mem_iff_getElem.1 hc
   have:=cacheE_zero.1 (h1 k hk)
   exact ⟨this.1,this.2.1⟩
  refine ⟨fun c hc=>(h2 c hc).1.1,fun c hc=>(h2 c hc).1.2,fun c hc=>(h2 c hc).2,pair_of_next fun k hk => ?_⟩
  refine (cacheE_zero.1 (h1 (k + 1) hk)).2.2 _ ?_
  unfold prevC
  rw [if_neg (by omega),Nat.add_sub_cancel,List.getElem?_eq_getElem]
 ·intro h x hx
  obtain ⟨k,hk,rfl⟩:=List.mem_map.1 hx
  have hk:=List.mem_range.1 hk
  rw [List.getD_eq_getElem?_getD,List.getElem?_eq_getElem hk,Option.getD_some]
  have hm:m.ca[k] ∈ m.ca:=List.getElem_mem hk
  refine cacheE_zero.2 ⟨⟨h.file _ hm,h.lt _ hm⟩,h.fr _ hm,fun q hq => ?_⟩
  unfold prevC at hq
  split at hq
  ·cases hq
  ·rw [List.getElem?_eq_getElem (by omega)] at hq
   rw [← Option.some.inj hq]
   exact List.pairwise_iff_getElem.1 h.srt _ _ (by omega) hk (by omega)
theorem entry_zero {m:Ma} (hp:Pt m) {p:Nat} {n:Int} (hk:(ent m p n).k ≠ 0):entryE m (spN m p) n = 0 ↔ ∃ g,pgA m p n = some g ∧ FitE m g (ent m p n):=by
 have hE:=(entE_iff _).1 (ent_ok hp p n)
 unfold entryE
 rw [ite_ne (by decide)]
 have hon:=find_on (spN m p).ar n
 constructor
 ·rintro ⟨h1,h2⟩
  obtain ⟨h3,h4⟩:=find_pg (l:=(spN m p).ar) (n:=n) (by omega)
  refine ⟨_,h3,?_⟩
  generalize (spN m p).ar.getD (findA (spN m p).ar n).toNat zAr = a at *
  have he:getT (spN m p).tb n = ent m p n:=rfl
  rw [he] at h2
  generalize ent m p n = e at *
  simp only at h2
  by_cases h5:e.k = 2
  ·rw [if_pos h5,ite_ne (by decide)] at h2
   refine ⟨fun _=>⟨by omega,?_⟩,fun h=>by omega,fun h=>by omega⟩
   show a.sh = false
   cases hs:a.sh with
   | false=>rfl
   | true=>exact absurd (.inr hs) h2.1
  ·rw [if_neg h5,ite_ne (by decide),ite_ne (by decide),ite_ne (by decide)] at h2
   have hfr:frAt m e.n = frN m e.n.toNat:=rfl
   rw [hfr] at h2
   obtain ⟨h6,h7,h8,_⟩:=h2
   refine ⟨fun h=>absurd h h5,fun _=>by omega,fun _ => ?_⟩
   show FitF (frN m e.n.toNat) (pgOf a n) e.w
   generalize frN m e.n.toNat = f at *
   have hof:0 ≤ f.f → (0 ≤ a.fi ∧ f.f = a.fi ∧ f.i = a.ba + n - a.fr):=fun h0=>by
    refine Classical.byContradiction fun hn=>h7 (.inl ⟨h0,?_⟩)
    rw [Bool.eq_false_iff]
    simp only [ne_eq,Bool.and_eq_true,decide_eq_true_eq]
    exact fun h=>hn ⟨h.1.1,h.1.2,h.2⟩
   refine ⟨fun h0 => ?_,fun hs => ?_,fun hw => ?_,fun hw h0 => ?_,fun hw h0 => ?_⟩
   ·obtain ⟨k1,k2,k3⟩:=hof h0
    refine ⟨k2,?_⟩
    unfold pgOf
    simp only
    rw [if_pos k1]; exact k3
   ·refine Classical.byContradiction fun hn=>h7 (.inr (.inl ⟨hs,?_⟩))
    rw [Bool.eq_false_iff]
    simp only [ne_eq,Bool.and_eq_true,decide_eq_true_eq]
    exact fun h=>by omega
   ·show a.wr = true
    cases hs:a.wr with
    | true=>rfl
    | false=>exact absurd (.inr (.inr (.inr ⟨hw,hs⟩))) h7
   ·show a.sh = true
    cases hs:a.sh with
    | true=>rfl
    | false=>
     refine absurd (.inr (.inr (.inl ⟨hs,?_,hw⟩))) h7
     have:=hof h0
     simp only [Bool.and_eq_true,decide_eq_true_eq]
     exact ⟨⟨this.1,this.2.1⟩,this.2.2⟩
   ·exact Classical.byContradiction fun hn=>h8 ⟨h0,hw,by omega⟩
 ·rintro ⟨g,hg,hf⟩
  have hne:onA (spN m p).ar n ≠ none:=by
   have:pgA m p n = onA (spN m p).ar n:=rfl
   rw [← this,hg]; exact fun h=>by cases h
  have h1:=hon.2 hne
  refine ⟨by omega,?_⟩
  obtain ⟨h3,h4⟩:=find_pg (l:=(spN m p).ar) (n:=n) h1
  have hg' : g = pgOf ((spN m p).ar.getD (findA (spN m p).ar n).toNat zAr) n:=by
   have:pgA m p n = onA (spN m p).ar n:=rfl
   rw [this,h3] at hg
   exact (Option.some.inj hg).symm
  subst hg'
  generalize (spN m p).ar.getD (findA (spN m p).ar n).toNat zAr = a at *
  have he:getT (spN m p).tb n = ent m p n:=rfl
  rw [he]
  generalize ent m p n = e at *
  simp only
  by_cases h5:e.k = 2
  ·obtain ⟨k1,k2⟩:=hf.sw h5
   have k2:a.sh = false:=k2
   rw [if_pos h5,ite_ne (by decide)]
   refine ⟨?_,rfl⟩
   rintro (h | h)
   ·omega
   ·rw [k2] at h; cases h
  ·have h1:e.k = 1:=by omega
   have k1:=hf.lt h1
   obtain ⟨f1,f2,f3,f4,f5⟩:=hf.fr h1
   have hfr:frAt m e.n = frN m e.n.toNat:=rfl
   rw [if_neg h5,ite_ne (by decide),ite_ne (by decide),ite_ne (by decide),hfr]
   generalize frN m e.n.toNat = f at *
   have f2:a.sh = true → 0 ≤ f.f:=f2
   have f3:e.w = true → a.wr = true:=f3
   have f4:e.w = true → 0 ≤ f.f → a.sh = true:=f4
   have hof:0 ≤ f.f → (decide (0 ≤ a.fi) && decide (f.f = a.fi) && decide (f.i = a.ba + n - a.fr)) = true:=fun h0=>by
    obtain ⟨k2,k3⟩:=f1 h0
    have k2:f.f = a.fi:=k2
    unfold pgOf at k3
    simp only at k3
    rw [if_pos (by omega)] at k3
    simp only [Bool.and_eq_true,decide_eq_true_eq]
    exact ⟨⟨by omega,k2⟩,k3⟩
   have hof' : (decide (0 ≤ a.fi) && decide (f.f = a.fi) && decide (f.i = a.ba + n - a.fr)) = true → 0 ≤ f.f:=fun h=>by
    simp only [Bool.and_eq_true,decide_eq_true_eq] at h
    omega
   generalize (decide (0 ≤ a.fi) && decide (f.f = a.fi) && decide (f.i = a.ba + n - a.fr)) = of at *
   refine ⟨by omega,?_,?_,rfl⟩
   ·rintro (⟨k2,k3⟩ | ⟨k2,k3⟩ | ⟨k2,k3,k4⟩ | ⟨k2,k3⟩)
    ·rw [hof k2] at k3; cases k3
    ·rw [hof (f2 k2)] at k3; cases k3
    ·rw [f4 k4 (hof' k3)] at k2; cases k2
    ·rw [f3 k2] at k3; cases k3
   ·rintro ⟨k2,k3,k4⟩
    have:=f5 k3 k2
    omega
theorem entries_zero {m:Ma} (hp:Pt m):entriesE m = 0 ↔ ∀ p n,(ent m p n).k ≠ 0 → ∃ g,pgA m p n = some g ∧ FitE m g (ent m p n):=by
 unfold entriesE
 rw [firstE_zero]
 constructor
 ·intro h p n hk
  have hp' : p < m.sp.length:=Classical.byContradiction fun hn=>hk (by unfold ent; rw [spN_out (by omega)]; have:getT zSp.tb n = zEn:=zTb_get n; rw [this]; rfl)
  have hn:0 ≤ n ∧ n < 64:=Classical.byContradiction fun hn=>hk (by rw [ent_out p (by omega)]; rfl)
  refine (entry_zero hp hk).1 (h _ (List.mem_flatMap.2 ⟨spN m p,spN_mem hp',List.mem_map_of_mem (mem_pages.2 ⟨hn,hk⟩)⟩))
 ·intro h x hx
  obtain ⟨s,hs,hx⟩:=List.mem_flatMap.1 hx
  obtain ⟨n,hn,rfl⟩:=List.mem_map.1 hx
  obtain ⟨p,hp',rfl⟩:=mem_spN hs
  have hk:=(mem_pages.1 hn).2
  exact (entry_zero hp hk).2 (h p n hk)
theorem cnt_pres (t:Tb) (i:Int):cnt (presT t (pagesL t)) i = (flatL t).countP (isE 1 i):=by
 rw [← find_len (show (1:Int) ≠ 0 by decide)]
 unfold cnt presT findL otherF
 rw [List.countP_map,List.countP_filter,← List.countP_eq_length_filter]
 congr 1
 funext n
 simp only [Function.comp_apply,Bool.not_or]
 rw [Bool.eq_iff_iff]
 simp only [Bool.and_eq_true,Bool.not_eq_true',decide_eq_false_iff_not,Classical.not_not,decide_eq_true_eq]
 exact and_comm
theorem cnt_swap {t:Tb} (h:wrongT t = 0) (i:Int):cnt (swapT t (pagesL t)) i = (flatL t).countP (isE 2 i):=by
 rw [← find_len (show (2:Int) ≠ 0 by decide)]
 unfold cnt swapT findL otherF
 rw [List.countP_map,List.countP_filter,← List.countP_eq_length_filter]
 refine List.countP_congr fun n hn => ?_
 have hE:=(entE_iff _).1 (getT_ent h n)
 have hk:=(mem_pages.1 hn).2
 simp only [Function.comp_apply,Bool.not_or,Bool.and_eq_true,Bool.not_eq_true',decide_eq_false_iff_not,Classical.not_not,decide_eq_true_eq]
 constructor
 ·rintro ⟨h1,h2⟩; exact ⟨by omega,h1⟩
 ·rintro ⟨h1,h2⟩; exact ⟨h2,by omega⟩
theorem cnt_app (l r:List Int) (i:Int):cnt (l ++ r) i = cnt l i + cnt r i:=by unfold cnt; rw [List.countP_append]
theorem cnt_flat {α:Type} (g:α → List Int) (i:Int):∀ l:List α,cnt (l.flatMap g) i = (l.map fun s=>cnt (g s) i).sum
 | []=>rfl
 | a :: l=>by rw [List.flatMap_cons,cnt_app,cnt_flat g i l,List.map_cons,List.sum_cons]
theorem cnt_held (m:Ma) (i:Int):cnt (heldL m) i = caN m i + holdN m 1 i:=by
 unfold heldL
 rw [cnt_app,cnt_flat]
 congr 1
 ·unfold cnt caN
  rw [List.countP_map]; rfl
 ·unfold holdN
  congr 1
  exact List.map_congr_left fun s _=>cnt_pres s.tb i
theorem cnt_swapL {m:Ma} (hp:Pt m) (i:Int):cnt (swapL m) i = holdN m 2 i:=by
 unfold swapL holdN
 rw [cnt_flat]
 congr 1
 exact List.map_congr_left fun s hs=>cnt_swap (hp.tb s hs) i
theorem countB_iff {m:Ma} (hp:Pt m):countB m = true ↔ (∀ i:Nat,i < m.m.fs.length → (frN m i).r = caN m i + holdN m 1 i) ∧ (∀ i:Nat,i < m.m.fs.length → 0 ≤ (frN m i).f → ∃ c ∈ m.ca,c.k = i) ∧ ∀ s:Nat,s < m.sl.length → slN m s = holdN m 2 s:=by
 unfold countB
 rw [Bool.and_eq_true,List.all_eq_true,decide_eq_true_eq]
 constructor
 ·rintro ⟨h1,h2⟩
  have h1:∀ i:Nat,i < m.m.fs.length → _:=fun i hi=>h1 i (List.mem_range.2 hi)
  simp only [Bool.and_eq_true,decide_eq_true_eq,Bool.or_eq_true,List.any_eq_true,cnt_held,frAt_nat] at h1
  refine ⟨fun i hi=>by rw [(h1 i hi).1]; omega,fun i hi h0 => ?_,fun s hs => ?_⟩
  ·rcases (h1 i hi).2 with h | ⟨c,hc,hk⟩
   ·have h:(frN m i).f < 0:=of_decide_eq_true h
    omega
   ·exact ⟨c,hc,hk⟩
  ·have:slN m s = (cntL m.sl.length (swapL m)).getD s 0:=by rw [← h2]; rfl
   rw [this]
   unfold cntL
   rw [List.getD_eq_getElem?_getD,List.getElem?_map,List.getElem?_range hs]
   show ((cnt (swapL m) s:Nat):Int) = _
   rw [cnt_swapL hp]
 ·rintro ⟨h1,h2,h3⟩
  refine ⟨fun i hi => ?_,?_⟩
  ·have hi:=List.mem_range.1 hi
   simp only [Bool.and_eq_true,decide_eq_true_eq,Bool.or_eq_true,List.any_eq_true,cnt_held,frAt_nat]
   refine ⟨by rw [h1 i hi]; omega,?_⟩
   by_cases h0:0 ≤ (frN m i).f
   ·obtain ⟨c,hc,hk⟩:=h2 i hi h0
    exact .inr ⟨c,hc,hk⟩
   ·exact .inl (decide_eq_true (show (frN m i).f < 0 by omega))
  ·apply List.ext_getElem
   ·unfold cntL; simp
   ·intro s k1 k2
    have:=h3 s k1
    have e2:(cntL m.sl.length (swapL m))[s]'k2 = ((cnt (swapL m) (s:Int):Nat):Int):=by simp [cntL]
    rw [e2,cnt_swapL hp,← this]
    unfold slN
    rw [List.getD_eq_getElem?_getD,List.getElem?_eq_getElem k1]; rfl
theorem rt_iff {m:Ma}:wrongMa m = 0 ↔ Rt m:=by
 unfold wrongMa
 rw [ite_self,ite_self,ite_self,partsE_zero,cachedE_zero]
 constructor
 ·rintro ⟨⟨hp,ht,hl⟩,hc,he,hb⟩
  have hb:countB m = true:=by
   cases h:countB m with
   | true=>rfl
   | false=>rw [h] at hb; exact absurd hb (by decide)
  obtain ⟨b1,b2,b3⟩:=(countB_iff hp).1 hb
  refine ⟨hp,trimB_iff.1 ht,fun p hp' => ?_,hc,(entries_zero hp).1 he,b1,b2,b3⟩
  rcases Nat.lt_or_ge p m.sp.length with h | h
  ·exact hl _ (spN_mem h) hp'
  ·rw [spN_out h]
   refine ⟨rfl,fun n => ?_⟩
   unfold ent
   rw [spN_out h]
   have:getT zSp.tb n = zEn:=zTb_get n
   rw [this]; rfl
 ·intro h
  refine ⟨⟨h.pt,trimB_iff.2 h.trim,fun s hs hlv => ?_⟩,h.ca,(entries_zero h.pt).2 h.en,?_⟩
  ·obtain ⟨p,hp,rfl⟩:=mem_spN hs
   exact h.live p hlv
  ·rw [if_pos ((countB_iff h.pt).2 ⟨h.cf,h.fc,h.cs⟩)]
def setE' (m:Ma) (p:Nat) (n:Int) (x:En):Ma:=setTb m p (setT (spN m p).tb n x)
theorem isE_none {kd i:Int} {e:En} (h:e.k = 0) (hk:kd ≠ 0):b2n (isE kd i e) = 0:=by
 unfold b2n isE
 rw [if_neg]
 simp only [Bool.and_eq_true,decide_eq_true_eq]
 intro h'; omega
theorem isE_is {kd i:Int} {e:En}:b2n (isE kd i e) = if e.k = kd ∧ e.n = i then 1 else 0:=by
 unfold b2n isE
 by_cases h:e.k = kd ∧ e.n = i
 ·rw [if_pos h,if_pos (by simp [h.1,h.2])]
 ·rw [if_neg h,if_neg]
  simp only [Bool.and_eq_true,decide_eq_true_eq]
  exact h
theorem held_of {m:Ma} (h:Rt m) {q:Nat} {j:Int} {f:Nat} (hk:(ent m q j).k = 1) (he:(ent m q j).n.toNat = f):0 < holdN m 1 f ∧ f < m.m.fs.length:=by
 have h3:=ent_in (m:=m) (p:=q) (n:=j) (by rw [hk]; decide)
 have h5:=(entE_iff _).1 (ent_ok h.pt q j)
 have h4:=(hold_pos (m:=m) (kd:=1) (i:=f) (by decide)).2 ⟨q,j,h3.1,h3.2,hk,by omega⟩
 obtain ⟨g,_,hg⟩:=h.en q j (by rw [hk]; decide)
 have:=hg.lt hk
 exact ⟨h4,by omega⟩
theorem more_frame {m:Ma} (h:Rt m) (hc:Co m) {p:Nat} {n:Int} {f:Nat} {X:Fr} {x:En} {g:Pg} (hp:p < m.sp.length) (hn:0 ≤ n ∧ n < 64) (h0:(ent m p n).k = 0) (hf:f < m.m.fs.length)
  (hxk:x.k = 1) (hxn:x.n = f) (hX:frameE X = 0) (hr:X.r = (frN m f).r + 1)
  (hold:(frN m f).r ≠ 0 → X.f = (frN m f).f ∧ X.i = (frN m f).i ∧ X.p = (frN m f).p ∧ X.d = (frN m f).d)
  (hnew:(frN m f).r = 0 → X.f < 0 ∧ X.d = false)
  (hw:X.f < 0 → ∀ q j,(ent m q j).k = 1 → (ent m q j).n.toNat = f → (ent m q j).w = false)
  (hg:pgA m p n = some g) (hfit:FitF X g x.w):Rt (setE' (setFr m f X) p n x) ∧ Co (setE' (setFr m f X) p n x):=by
 have hpt1:Pt (setFr m f X):=h.pt.setFr hX
 have hxE:entE x = 0:=(entE_iff x).2 (.inr (.inl ⟨hxk,by have:=((wrongM_iff _).1 h.pt.fr).1; omega⟩))
 obtain ⟨hs0,_,hpt⟩:=enter_ok (k:=⟨setFr m f X,0⟩) (p:=p) (n:=n) (x:=x) hpt1 hn hxE
 have hp1:p < (setFr m f X).sp.length:=hp
 have hent:∀ q j,ent (setE' (setFr m f X) p n x) q j = if q = p ∧ j = n then x else ent m q j:=fun q j=>ent_set hp1 hs0 q j
 have hfr:∀ y,frN (setE' (setFr m f X) p n x) y = if y = f then X else frN m y:=fun y=>frN_set hf y
 have hlen:(setE' (setFr m f X) p n x).m.fs.length = m.m.fs.length:=setFr_len
 have hcnt:∀ kd i,kd ≠ 0 → holdN (setE' (setFr m f X) p n x) kd i = holdN m kd i + b2n (isE kd i x):=fun kd i hk=>by
  have h1:=hold_set hp1 hs0 kd i
  have h2:b2n (isE kd i (ent (setFr m f X) p n)) = 0:=isE_none (e:=ent (setFr m f X) p n) h0 hk
  have h3:holdN (setFr m f X) kd i = holdN m kd i:=rfl
  unfold setE'
  omega
 have hsk0:Skel m (setFr m f X):=Skel.of rfl
 have hsk:Skel m (setE' (setFr m f X) p n x):=hsk0.trans (Skel.setTb (m:=setFr m f X) (p:=p) (t:=setT (spN (setFr m f X) p).tb n x))
 have hca:CaOk (setE' (setFr m f X) p n x):=by
  refine ⟨h.ca.file,fun c hcm => ?_,fun c hcm => ?_,h.ca.srt⟩
  ·rw [hlen]; exact h.ca.lt c hcm
  ·have h1:=h.ca.fr c hcm
   rw [hfr]
   by_cases e:c.k.toNat = f
   ·rw [if_pos e]
    rw [e] at h1
    obtain ⟨k1,k2,_⟩:=hold (by omega)
    exact ⟨by omega,by omega,by omega⟩
   ·rw [if_neg e]; exact h1
 refine ⟨⟨hpt,h.trim,fun q hq => ?_,hca,fun q j hk => ?_,fun i hi => ?_,fun i hi hi0 => ?_,fun s hs => ?_⟩,⟨fun c hcm => ?_,fun c hcm hd => ?_,fun i hi hd => ?_⟩⟩
 ·rw [hsk.lv] at hq
  obtain ⟨a1,a2⟩:=h.live q hq
  refine ⟨by rw [hsk.ar]; exact a1,fun j => ?_⟩
  rw [hent,if_neg]
  ·exact a2 j
  ·rintro ⟨rfl,rfl⟩
   have:pgA m q j = onA (spN m q).ar j:=rfl
   rw [this,a1] at hg
   cases hg
 ·have hpg:pgA (setE' (setFr m f X) p n x) q j = pgA m q j:=by unfold pgA; rw [hsk.ar]
  rw [hpg]
  rw [hent] at hk ⊢
  by_cases e:q = p ∧ j = n
  ·rw [if_pos e] at hk ⊢
   rw [e.1,e.2]
   refine ⟨g,hg,fun hk2=>by omega,fun _=>by rw [hlen]; omega,fun _ => ?_⟩
   rw [hfr,if_pos (by omega)]
   exact hfit
  ·rw [if_neg e] at hk ⊢
   obtain ⟨y,hy,hyf⟩:=h.en q j hk
   refine ⟨y,hy,hyf.sw,by rw [hlen]; exact hyf.lt,fun hk1 => ?_⟩
   rw [hfr]
   by_cases e2:(ent m q j).n.toNat = f
   ·rw [if_pos e2]
    have h1:=hyf.fr hk1
    rw [e2] at h1
    have h2:=held_of h hk1 e2
    have h3:=h.cf f hf
    obtain ⟨k1,k2,_,_⟩:=hold (by omega)
    obtain ⟨f1,f2,f3,f4,f5⟩:=h1
    refine ⟨by rw [k1,k2]; exact f1,by rw [k1]; exact f2,f3,by rw [k1]; exact f4,fun hw1 hx0 => ?_⟩
    rw [hw hx0 q j hk1 e2] at hw1; cases hw1
   ·rw [if_neg e2]; exact hyf.fr hk1
 ·have a1:caN (setE' (setFr m f X) p n x) i = caN m i:=rfl
  rw [hfr,a1,hcnt 1 i (by decide),isE_is]
  have h3:=h.cf i (by rw [← hlen]; exact hi)
  by_cases e:i = f
  ·subst e
   rw [if_pos rfl,if_pos ⟨hxk,hxn⟩,hr]; omega
  ·rw [if_neg e,if_neg (fun h'=>e (by omega))]; omega
 ·rw [hfr] at hi0
  by_cases e:i = f
  ·subst e
   rw [if_pos rfl] at hi0
   by_cases hr0:(frN m i).r = 0
   ·have:=(hnew hr0).1; omega
   ·obtain ⟨k1,_⟩:=hold hr0
    exact h.fc i hf (by omega)
  ·rw [if_neg e] at hi0
   exact h.fc i (by rw [← hlen]; exact hi) hi0
 ·rw [hcnt 2 s (by decide),isE_is,if_neg (fun h'=>by omega)]
  exact h.cs s hs
 ·have h1:=h.ca.fr c hcm
  rw [hfr]
  by_cases e:c.k.toNat = f
  ·rw [if_pos e]
   rw [e] at h1
   obtain ⟨_,_,k3,_⟩:=hold (by omega)
   rw [k3,← e]; exact hc.tail c hcm
  ·rw [if_neg e]; exact hc.tail c hcm
 ·have h1:=h.ca.fr c hcm
  rw [hfr] at hd ⊢
  by_cases e:c.k.toNat = f
  ·rw [if_pos e] at hd ⊢
   rw [e] at h1
   obtain ⟨_,_,k3,k4⟩:=hold (by omega)
   rw [k3,← e]
   exact hc.clean c hcm (by rw [e,← k4]; exact hd)
  ·rw [if_neg e] at hd ⊢; exact hc.clean c hcm hd
 ·rw [hfr] at hd ⊢
  by_cases e:i = f
  ·subst e
   rw [if_pos rfl] at hd ⊢
   by_cases hr0:(frN m i).r = 0
   ·rw [(hnew hr0).2] at hd; cases hd
   ·obtain ⟨k1,_,_,k4⟩:=hold hr0
    rw [k1]; exact hc.anon i hf (by rw [← k4]; exact hd)
  ·rw [if_neg e] at hd ⊢; exact hc.anon i (by rw [← hlen]; exact hi) hd
theorem more_slot {m:Ma} (h:Rt m) (hc:Co m) {p:Nat} {n:Int} {s:Nat} {d:Dsk} {x:En} {g:Pg} (hp:p < m.sp.length) (hn:0 ≤ n ∧ n < 64) (h0:(ent m p n).k = 0) (hs:s < m.sl.length)
  (hxk:x.k = 2) (hxn:x.n = s) (hxw:x.w = false) (h1k:slN m s + 1 ≤ 1000) (hd:wrongD d = 0) (hdl:d.blocks.length = m.sw.blocks.length) (hg:pgA m p n = some g) (hsh:g.sh = false) :
  Rt (setE' { setSl m s (slN m s + 1) with sw:=d } p n x) ∧ Co (setE' { setSl m s (slN m s + 1) with sw:=d } p n x):=by
 have hb:=h.pt.slB s
 have hpt0:Pt (setSl m s (slN m s + 1)):=h.pt.setSl (by omega) h1k
 have hpt1:Pt { setSl m s (slN m s + 1) with sw:=d }:={ hpt0 with sw:=hd,swl:=by show d.blocks.length = _; rw [hdl]; exact hpt0.swl }
 have hxE:entE x = 0:=(entE_iff x).2 (.inr (.inr ⟨hxk,by have:=wrongS_len h.pt.sl; omega,by have:=wrongS_len h.pt.sl; omega,hxw⟩))
 obtain ⟨hs0,_,hpt⟩:=enter_ok (k:=⟨{ setSl m s (slN m s + 1) with sw:=d },0⟩) (p:=p) (n:=n) (x:=x) hpt1 hn hxE
 have hp1:p < ({ setSl m s (slN m s + 1) with sw:=d }:Ma).sp.length:=hp
 generalize hm1:({ setSl m s (slN m s + 1) with sw:=d }:Ma) = m1 at *
 have hsp:m1.sp = m.sp:=by rw [← hm1]; rfl
 have hm:m1.m = m.m:=by rw [← hm1]; rfl
 have hcaE:m1.ca = m.ca:=by rw [← hm1]; rfl
 have hstE:m1.st = m.st:=by rw [← hm1]; rfl
 have hdkE:m1.dk = m.dk:=by rw [← hm1]; rfl
 have hslE:m1.sl = m.sl.set s (slN m s + 1):=by rw [← hm1]; rfl
 have hent1:∀ q j,ent m1 q j = ent m q j:=fun q j=>by unfold ent spN; rw [hsp]
 have hent:∀ q j,ent (setE' m1 p n x) q j = if q = p ∧ j = n then x else ent m q j:=fun q j=>by rw [← hent1]; exact ent_set hp1 hs0 q j
 have hfr:∀ y,frN (setE' m1 p n x) y = frN m y:=fun y=>by unfold frN setE' setTb; simp only; rw [hm]
 have hlen:(setE' m1 p n x).m.fs.length = m.m.fs.length:=by unfold setE' setTb; simp only; rw [hm]
 have hcnt:∀ kd i,kd ≠ 0 → holdN (setE' m1 p n x) kd i = holdN m kd i + b2n (isE kd i x):=fun kd i hk=>by
  have h1:=hold_set hp1 hs0 kd i
  have h2:b2n (isE kd i (ent m1 p n)) = 0:=isE_none (by rw [hent1]; exact h0) hk
  have h3:holdN m1 kd i = holdN m kd i:=by unfold holdN; rw [hsp]
  unfold setE'
  omega
 have hsk:Skel m (setE' m1 p n x):=(Skel.of hsp).trans Skel.setTb
 have hcaS:(setE' m1 p n x).ca = m.ca:=hcaE
 have hstS:(setE' m1 p n x).st = m.st:=hstE
 have hdkS:(setE' m1 p n x).dk = m.dk:=hdkE
 have hdisk:∀ a b,diskP (setE' m1 p n x) a b = diskP m a b:=fun a b=>by unfold diskP; rw [hstS,hdkS]
 refine ⟨⟨hpt,by rw [hdkS,hstS]; exact h.trim,fun q hq => ?_,⟨by rw [hcaS,hstS]; exact h.ca.file,by rw [hcaS,hlen]; exact h.ca.lt,fun c hcm=>by rw [hfr]; exact h.ca.fr c (by rw [← hcaS]; exact hcm),by rw [hcaS]; exact h.ca.srt⟩,fun q j hk => ?_,fun i hi => ?_,fun i hi hi0 => ?_,fun i hi => ?_⟩,⟨fun c hcm => ?_,fun c hcm hd => ?_,fun i hi hd => ?_⟩⟩
 ·rw [hsk.lv] at hq
  obtain ⟨a1,a2⟩:=h.live q hq
  refine ⟨by rw [hsk.ar]; exact a1,fun j => ?_⟩
  rw [hent,if_neg]
  ·exact a2 j
  ·rintro ⟨rfl,rfl⟩
   have:pgA m q j = onA (spN m q).ar j:=rfl
   rw [this,a1] at hg
   cases hg
 ·have hpg:pgA (setE' m1 p n x) q j = pgA m q j:=by unfold pgA; rw [hsk.ar]
  have hsll:(setE' m1 p n x).sl.length = m.sl.length:=by show m1.sl.length = _; rw [hslE,List.length_set]
  rw [hpg]
  rw [hent] at hk ⊢
  by_cases e:q = p ∧ j = n
  ·rw [if_pos e] at hk ⊢
   rw [e.1,e.2]
   exact ⟨g,hg,fun _=>⟨by rw [hsll]; omega,hsh⟩,fun hk1=>by omega,fun hk1=>by omega⟩
  ·rw [if_neg e] at hk ⊢
   obtain ⟨y,hy,hyf⟩:=h.en q j hk
   exact ⟨y,hy,by rw [hsll]; exact hyf.sw,by rw [hlen]; exact hyf.lt,fun hk1=>by rw [hfr]; exact hyf.fr hk1⟩
 ·have a1:caN (setE' m1 p n x) i = caN m i:=by unfold caN; rw [hcaS]
  rw [hfr,a1,hcnt 1 i (by decide),isE_is,if_neg (fun h'=>by omega)]
  exact h.cf i (by rw [← hlen]; exact hi)
 ·rw [hcaS]
  rw [hfr] at hi0
  exact h.fc i (by rw [← hlen]; exact hi) hi0
 ·have hi' : i < m.sl.length:=by
   have:(setE' m1 p n x).sl = m1.sl:=rfl
   rw [this,hslE,List.length_set] at hi; exact hi
  have hsl:slN (setE' m1 p n x) i = if i = s then slN m s + 1 else slN m i:=by
   have h1:=slN_set (x:=slN m s + 1) hs i
   have h2:slN (setE' m1 p n x) i = slN (setSl m s (slN m s + 1)) i:=by unfold slN; show m1.sl.getD i 0 = _; rw [hslE]; rfl
   rw [h2,h1]
  rw [hsl,hcnt 2 i (by decide),isE_is]
  have h3:=h.cs i hi'
  by_cases e:i = s
  ·subst e
   rw [if_pos rfl,if_pos ⟨hxk,hxn⟩]; omega
  ·rw [if_neg e,if_neg (fun h'=>e (by omega))]; omega
 ·rw [hfr,hstS]; rw [hcaS] at hcm; exact hc.tail c hcm
 ·rw [hcaS] at hcm; rw [hfr] at hd ⊢; rw [hdisk]; exact hc.clean c hcm hd
 ·rw [hfr] at hd ⊢; exact hc.anon i (by rw [← hlen]; exact hi) hd
theorem less_write {m:Ma} (h:Rt m) (hc:Co m) {p:Nat} {n:Int} (hk:(ent m p n).k = 1):Rt (setE' m p n ⟨1,(ent m p n).n,false⟩) ∧ Co (setE' m p n ⟨1,(ent m p n).n,false⟩):=by
 have hin:=ent_in (m:=m) (p:=p) (n:=n) (by rw [hk]; decide)
 have hE:=(entE_iff _).1 (ent_ok h.pt p n)
 have hxE:entE ⟨1,(ent m p n).n,false⟩ = 0:=(entE_iff _).2 (.inr (.inl ⟨rfl,by show 0 ≤ (ent m p n).n; omega,by show (ent m p n).n < 40; omega⟩))
 generalize hx:(⟨1,(ent m p n).n,false⟩:En) = x at *
 have hxk:x.k = 1:=by rw [← hx]
 have hxn:x.n = (ent m p n).n:=by rw [← hx]
 have hxw:x.w = false:=by rw [← hx]
 obtain ⟨hs0,_,hpt⟩:=enter_ok (k:=⟨m,0⟩) (p:=p) (n:=n) (x:=x) h.pt hin.2 hxE
 have hent:∀ q j,ent (setE' m p n x) q j = if q = p ∧ j = n then x else ent m q j:=fun q j=>ent_set hin.1 hs0 q j
 have hcnt:∀ kd i,holdN (setE' m p n x) kd i = holdN m kd i:=fun kd i=>by
  have h1:=hold_set hin.1 hs0 kd i
  have h2:b2n (isE kd i (ent m p n)) = b2n (isE kd i x):=by rw [isE_is,isE_is,hxk,hxn,hk]
  unfold setE'
  omega
 have hsk:Skel m (setE' m p n x):=Skel.setTb
 refine ⟨⟨hpt,h.trim,fun q hq => ?_,⟨h.ca.file,h.ca.lt,h.ca.fr,h.ca.srt⟩,fun q j hk' => ?_,fun i hi=>by rw [hcnt]; exact h.cf i hi,h.fc,fun s hs=>by rw [hcnt]; exact h.cs s hs⟩,⟨hc.tail,hc.clean,hc.anon⟩⟩
 ·rw [hsk.lv] at hq
  obtain ⟨a1,a2⟩:=h.live q hq
  refine ⟨by rw [hsk.ar]; exact a1,fun j => ?_⟩
  rw [hent,if_neg]
  ·exact a2 j
  ·rintro ⟨rfl,rfl⟩
   have:=a2 j; omega
 ·have hpg:pgA (setE' m p n x) q j = pgA m q j:=by unfold pgA; rw [hsk.ar]
  rw [hpg]
  rw [hent] at hk' ⊢
  by_cases e:q = p ∧ j = n
  ·rw [if_pos e] at hk' ⊢
   rw [e.1,e.2]
   obtain ⟨y,hy,hyf⟩:=h.en p n (by rw [hk]; decide)
   have h1:=hyf.lt hk
   obtain ⟨f1,f2,f3,f4,f5⟩:=hyf.fr hk
   refine ⟨y,hy,fun hk2=>by omega,fun _=>by rw [hxn]; exact h1,fun _ => ?_⟩
   rw [hxn,hxw]
   exact ⟨f1,f2,fun h=>(by cases h),fun h=>(by cases h),fun h=>(by cases h)⟩
  ·rw [if_neg e] at hk' ⊢
   obtain ⟨y,hy,hyf⟩:=h.en q j hk'
   exact ⟨y,hy,hyf.sw,hyf.lt,hyf.fr⟩
theorem more_space {m:Ma} (h:Rt m) (hc:Co m) {s:Sp} (hl:m.sp.length < 4) (hv:s.lv = true) (ha:(wrongA s.ar).1 = 0) (ht:s.tb = zTb):Rt { m with sp:=m.sp ++ [s] } ∧ Co { m with sp:=m.sp ++ [s] }:=by
 have hspN:∀ q,spN { m with sp:=m.sp ++ [s] } q = if q = m.sp.length then s else spN m q:=fun q=>by
  unfold spN
  show (m.sp ++ [s]).getD q zSp = _
  rw [List.getD_eq_getElem?_getD,List.getElem?_append]
  by_cases e:q < m.sp.length
  ·rw [if_pos e,if_neg (by omega),List.getD_eq_getElem?_getD]
  ·rw [if_neg e]
   by_cases e2:q = m.sp.length
   ·rw [if_pos e2,e2,Nat.sub_self]; rfl
   ·rw [if_neg e2,List.getD_eq_getElem?_getD,List.getElem?_eq_none (by simp; omega),List.getElem?_eq_none (by omega)]
 have hent:∀ q j,ent { m with sp:=m.sp ++ [s] } q j = ent m q j:=fun q j=>by
  unfold ent
  rw [hspN]
  by_cases e:q = m.sp.length
  ·rw [if_pos e,spN_out (by omega),ht]; rfl
  ·rw [if_neg e]
 have hcnt:∀ kd i,kd ≠ 0 → holdN { m with sp:=m.sp ++ [s] } kd i = holdN m kd i:=fun kd i hk=>by
  unfold holdN
  show ((m.sp ++ [s]).map _).sum = _
  rw [List.map_append,List.sum_append]
  have:([s].map fun s=>(flatL s.tb).countP (isE kd i)).sum = 0:=by
   rw [List.map_singleton,List.sum_singleton,ht,List.countP_eq_zero]
   intro e he
   unfold flatL at he
   obtain ⟨j,_,rfl⟩:=List.mem_map.1 he
   rw [zTb_get]
   unfold isE
   simp only [Bool.and_eq_true,decide_eq_true_eq]
   rintro ⟨h1,_⟩
   exact hk h1.symm
  omega
 refine ⟨⟨{ h.pt with spl:=by simp; omega,ar:=fun y hy => ?_,tb:=fun y hy => ?_ },h.trim,fun q hq => ?_,⟨h.ca.file,h.ca.lt,h.ca.fr,h.ca.srt⟩,fun q j hk => ?_,fun i hi=>by rw [hcnt 1 i (by decide)]; exact h.cf i hi,h.fc,fun i hi=>by rw [hcnt 2 i (by decide)]; exact h.cs i hi⟩,⟨hc.tail,hc.clean,hc.anon⟩⟩
 ·rcases List.mem_append.1 hy with hy | hy
  ·exact h.pt.ar y hy
  ·rw [List.mem_singleton.1 hy]; exact ha
 ·rcases List.mem_append.1 hy with hy | hy
  ·exact h.pt.tb y hy
  ·rw [List.mem_singleton.1 hy,ht]; decide
 ·rw [hspN] at hq ⊢
  by_cases e:q = m.sp.length
  ·rw [if_pos e,hv] at hq; cases hq
  ·rw [if_neg e] at hq ⊢
   refine ⟨(h.live q hq).1,fun j=>by rw [hent]; exact (h.live q hq).2 j⟩
 ·rw [hent] at hk ⊢
  obtain ⟨y,hy,hyf⟩:=h.en q j hk
  have hq:=ent_in hk
  refine ⟨y,?_,hyf.sw,hyf.lt,hyf.fr⟩
  unfold pgA at hy ⊢
  rw [hspN,if_neg (by omega)]
  exact hy
def lstT (T:List (List En)) (p:Nat):List En:=T.getD p []
def entT (T:List (List En)) (p n:Nat):En:=(lstT T p).getD n zEn
def fullM (m:Ma) (T:List (List En)):Ma:={ m with sp:=(List.range m.sp.length).map fun p => { spN m p with tb:=tabOf (lstT T p) } }
structure OkT (m:Ma) (T:List (List En)):Prop where
 len:T.length = m.sp.length
 ln:∀ t ∈ T,t.length = 64
 en:∀ t ∈ T,∀ x ∈ t,entE x = 0
theorem fullM_len {m:Ma} {T:List (List En)}:(fullM m T).sp.length = m.sp.length:=by unfold fullM; simp
theorem fullM_sp {m:Ma} {T:List (List En)} {p:Nat} (hp:p < m.sp.length):spN (fullM m T) p = { spN m p with tb:=tabOf (lstT T p) }:=by
 have:spN (fullM m T) p = ((List.range m.sp.length).map fun p=>({ spN m p with tb:=tabOf (lstT T p) }:Sp)).getD p zSp:=rfl
 rw [this,List.getD_eq_getElem?_getD,List.getElem?_map,List.getElem?_range hp]
 rfl
theorem OkT.mem {m:Ma} {T:List (List En)} (h:OkT m T) {p:Nat} (hp:p < m.sp.length):lstT T p ∈ T:=by
 unfold lstT
 rw [List.getD_eq_getElem?_getD,List.getElem?_eq_getElem (by rw [h.len]; exact hp)]
 exact List.getElem_mem _
theorem OkT.l64 {m:Ma} {T:List (List En)} (h:OkT m T) {p:Nat} (hp:p < m.sp.length):(lstT T p).length = 64:=h.ln _ (h.mem hp)
theorem OkT.right {m:Ma} {T:List (List En)} (h:OkT m T) {p:Nat} (hp:p < m.sp.length):wrongT (tabOf (lstT T p)) = 0:=tabOf_right (h.en _ (h.mem hp)) (h.l64 hp)
theorem fullM_ent {m:Ma} {T:List (List En)} (h:OkT m T) {p n:Nat} (hp:p < m.sp.length) (hn:n < 64):ent (fullM m T) p n = entT T p n:=by
 unfold ent entT
 rw [fullM_sp hp]
 show getT (tabOf (lstT T p)) n = _
 rw [getT_tabOf (h.en _ (h.mem hp)) (h.l64 hp) hn,List.getD_eq_getElem?_getD,List.getElem?_eq_getElem (by rw [h.l64 hp]; exact hn)]
 rfl
theorem entT_E {m:Ma} {T:List (List En)} (h:OkT m T) {p n:Nat} (hp:p < m.sp.length) (hn:n < 64):entE (entT T p n) = 0:=by
 unfold entT
 rw [List.getD_eq_getElem?_getD,List.getElem?_eq_getElem (by rw [h.l64 hp]; exact hn)]
 exact h.en _ (h.mem hp) _ (List.getElem_mem _)
def setL (T:List (List En)) (p n:Nat) (x:En):List (List En):=T.set p ((lstT T p).set n x)
theorem lstT_set {T:List (List En)} {p:Nat} (hp:p < T.length) {n:Nat} {x:En} (q:Nat):lstT (setL T p n x) q = if q = p then (lstT T p).set n x else lstT T q:=by
 unfold lstT setL
 rw [List.getD_eq_getElem?_getD,List.getElem?_set]
 by_cases e:q = p
 ·subst e; rw [if_pos rfl,if_pos hp,if_pos rfl]; rfl
 ·rw [if_neg (fun h=>e h.symm),if_neg e,List.getD_eq_getElem?_getD]
theorem OkT.set {m:Ma} {T:List (List En)} (h:OkT m T) {p n:Nat} {x:En} (hp:p < m.sp.length) (hx:entE x = 0):OkT m (setL T p n x):=by
 refine ⟨by unfold setL; rw [List.length_set]; exact h.len,fun t ht => ?_,fun t ht y hy => ?_⟩
 ·rcases List.mem_or_eq_of_mem_set ht with ht | rfl
  ·exact h.ln t ht
  ·rw [List.length_set]; exact h.l64 hp
 ·rcases List.mem_or_eq_of_mem_set ht with ht | rfl
  ·exact h.en t ht y hy
  ·rcases List.mem_or_eq_of_mem_set hy with hy | rfl
   ·exact h.en _ (h.mem hp) y hy
   ·exact hx
theorem entT_set {m:Ma} {T:List (List En)} (h:OkT m T) {p n:Nat} {x:En} (hp:p < m.sp.length) (hn:n < 64) (q j:Nat):entT (setL T p n x) q j = if q = p ∧ j = n then x else entT T q j:=by
 unfold entT
 rw [lstT_set (by rw [h.len]; exact hp)]
 by_cases e:q = p
 ·subst e
  rw [if_pos rfl,List.getD_eq_getElem?_getD,List.getElem?_set]
  by_cases e2:j = n
  ·subst e2
   rw [if_pos rfl,if_pos (by rw [h.l64 hp]; exact hn),if_pos ⟨rfl,rfl⟩]; rfl
  ·rw [if_neg (fun h=>e2 h.symm),if_neg (fun h=>e2 h.2),List.getD_eq_getElem?_getD]
 ·rw [if_neg e,if_neg (fun h=>e h.1)]
theorem fullM_set {m:Ma} {T:List (List En)} (h:OkT m T) {p n:Nat} {x:En} (hp:p < m.sp.length) (hn:n < 64) (hx:entE x = 0):setE' (fullM m T) p n x = fullM m (setL T p n x):=by
 have hl:=h.l64 hp
 have hw:=h.right hp
 have hse:setE (tabOf (lstT T p)) n x = 0:=setE_ok hw ⟨by omega,by omega⟩ hx
 have ht:setT (tabOf (lstT T p)) n x = tabOf ((lstT T p).set n x):=by
  rw [← tabOf_flat (setT_right hse),flat_set hse,flat_tabOf (h.en _ (h.mem hp)) hl,Int.toNat_natCast]
 unfold setE' setTb
 rw [fullM_sp hp]
 show { fullM m T with sp:=(fullM m T).sp.set p { spN m p with tb:=setT (tabOf (lstT T p)) n x } } = fullM m (setL T p n x)
 rw [ht]
 refine congrArg (fun s=>({ m with sp:=s }:Ma)) (?_:((List.range m.sp.length).map fun p=>({ spN m p with tb:=tabOf (lstT T p) }:Sp)).set p { spN m p with tb:=tabOf ((lstT T p).set n x) } = (List.range m.sp.length).map fun q=>({ spN m q with tb:=tabOf (lstT (setL T p n x) q) }:Sp))
 apply List.ext_getElem?
 intro q
 rw [List.getElem?_set,List.getElem?_map,List.getElem?_map]
 simp only [List.length_map,List.length_range]
 by_cases e:q = p
 ·subst e
  rw [if_pos rfl,if_pos hp,List.getElem?_range hp,Option.map_some,lstT_set (by rw [h.len]; exact hp),if_pos rfl]
 ·rw [if_neg (fun h=>e h.symm)]
  by_cases hq:q < m.sp.length
  ·rw [List.getElem?_range hq,Option.map_some,Option.map_some,lstT_set (by rw [h.len]; exact hp),if_neg e]
  ·rw [List.getElem?_eq_none (by simp; omega),Option.map_none,Option.map_none]
theorem fullM_fr {m:Ma} {T:List (List En)} {f:Nat} {X:Fr}:setFr (fullM m T) f X = fullM (setFr m f X) T:=rfl
theorem OkT.fr {m:Ma} {T:List (List En)} (h:OkT m T) {f:Nat} {X:Fr}:OkT (setFr m f X) T:=⟨h.len,h.ln,h.en⟩
theorem OkT.sps {m m' : Ma} {T:List (List En)} (h:OkT m T) (e:m'.sp.length = m.sp.length):OkT m' T:=⟨by rw [e]; exact h.len,h.ln,h.en⟩
theorem fullM_pg {m:Ma} {T:List (List En)} {p:Nat} (hp:p < m.sp.length) (n:Int):pgA (fullM m T) p n = onA (spN m p).ar n:=by
 unfold pgA; rw [fullM_sp hp]
theorem fullM_more {m:Ma} {T:List (List En)} (h:OkT m T) (s:Sp):fullM { m with sp:=m.sp ++ [s] } (T ++ [List.replicate 64 zEn]) = { fullM m T with sp:=(fullM m T).sp ++ [{ s with tb:=zTb }] }:=by
 have hz:tabOf (List.replicate 64 zEn) = zTb:=by decide +kernel
 unfold fullM
 simp only [Ma.mk.injEq,true_and,List.length_append,List.length_singleton]
 rw [List.range_succ,List.map_append]
 congr 1
 ·apply List.map_congr_left
  intro p hp
  have hp':=List.mem_range.1 hp
  unfold spN lstT
  simp only [List.getD_eq_getElem?_getD]
  rw [List.getElem?_append_left hp',List.getElem?_append_left (by rw [h.len]; exact hp')]
 ·unfold spN lstT
  simp only [List.map_cons,List.map_nil,List.getD_eq_getElem?_getD]
  rw [List.getElem?_append_right (Nat.le_refl _),Nat.sub_self,← h.len,List.getElem?_append_right (Nat.le_refl _),Nat.sub_self]
  simp only [List.getElem?_cons_zero,Option.getD_some]
  rw [hz]
theorem OkT.more {m:Ma} {T:List (List En)} (h:OkT m T) (s:Sp):OkT { m with sp:=m.sp ++ [s] } (T ++ [List.replicate 64 zEn]):=by
 refine ⟨by simp [h.len],fun t ht => ?_,fun t ht x hx => ?_⟩
 ·rcases List.mem_append.1 ht with ht | ht
  ·exact h.ln t ht
  ·rw [List.mem_singleton.1 ht,List.length_replicate]
 ·rcases List.mem_append.1 ht with ht | ht
  ·exact h.en t ht x hx
  ·rw [List.mem_singleton.1 ht] at hx
   rw [(List.mem_replicate.1 hx).2]; decide
def putC (m1:Ma) (g:Nat) (X:Fr) (f i:Int):Ma:={ setFr m1 g X with ca:=m1.ca.insertIdx (atC m1.ca f i) ⟨f,i,g⟩ }
theorem putC_ok {m1:Ma} {g:Nat} {f i:Int} {X:Fr} (h:Rt m1) (hc:Co m1) (hg:g < m1.m.fs.length) (hz:(frN m1 g).r = 0) (hin:inF m1.st f i) (hno:∀ c ∈ m1.ca,¬ (c.f = f ∧ c.i = i))
  (hX:X.r = 1 ∧ X.f = f ∧ X.i = i) (ht:cutPage X.p ((fileAt m1.st f).n - i * 8) = X.p) (hd:X.d = false → X.p = diskP m1 f i) :
  Rt (putC m1 g X f i) ∧ Co (putC m1 g X f i):=by
 have hlim:=inF_lt h.pt.st hin
 have hxE:frameE X = 0:=by
  rw [frameE_iff]
  have h1:=hin.1; have h2:=hin.2
  exact ⟨⟨by omega,by omega,by omega,by omega,by omega,by omega⟩,fun e=>by omega,fun e=>by omega⟩
 have hfr:∀ x,frN (putC m1 g X f i) x = if x = g then X else frN m1 x:=fun x=>frN_set hg x
 have hfrn:∀ x,x ≠ g → frN (putC m1 g X f i) x = frN m1 x:=fun x hx=>by rw [hfr,if_neg hx]
 have hlen:(putC m1 g X f i).m.fs.length = m1.m.fs.length:=setFr_len
 have hmem:∀ c,c ∈ (putC m1 g X f i).ca ↔ c = ⟨f,i,g⟩ ∨ c ∈ m1.ca:=fun c=>List.mem_insertIdx (at_le _ _ _)
 have hkg:∀ c ∈ m1.ca,c.k.toNat ≠ g:=fun c hcm e=>by
  have:=(h.ca.fr c hcm).1
  rw [e,hz] at this
  exact absurd this (by decide)
 have hdisk:∀ f' i',diskP (putC m1 g X f i) f' i' = diskP m1 f' i':=fun _ _=>rfl
 have hholdg:holdN m1 1 g = 0 ∧ caN m1 g = 0:=by
  have:=h.cf g hg
  omega
 have hpt:Pt (putC m1 g X f i):={ fr:=set_ok h.pt.fr hxE,sl:=h.pt.sl,sw:=h.pt.sw,dk:=h.pt.dk,st:=h.pt.st,swl:=h.pt.swl,dkl:=h.pt.dkl,spl:=h.pt.spl,ar:=h.pt.ar,tb:=h.pt.tb }
 have hcaok:CaOk (putC m1 g X f i):=by
  refine ⟨fun c hcm => ?_,fun c hcm => ?_,fun c hcm => ?_,insert_srt h.ca.srt hno⟩
  ·rcases (hmem c).1 hcm with rfl | hcm
   ·exact hin
   ·exact h.ca.file c hcm
  ·rw [hlen]
   rcases (hmem c).1 hcm with rfl | hcm
   ·show 0 ≤ (g:Int) ∧ (g:Int) < _; omega
   ·exact h.ca.lt c hcm
  ·rcases (hmem c).1 hcm with rfl | hcm
   ·rw [hfr,if_pos (Int.toNat_natCast g)]
    exact ⟨by omega,hX.2.1,hX.2.2⟩
   ·rw [hfrn _ (hkg c hcm)]; exact h.ca.fr c hcm
 have hent:∀ p n,ent (putC m1 g X f i) p n = ent m1 p n:=fun _ _=>rfl
 have hentg:∀ p n,(ent m1 p n).k = 1 → (ent m1 p n).n.toNat ≠ g:=by
  intro p n hk e
  have h3:=ent_in (m:=m1) (p:=p) (n:=n) (by rw [hk]; decide)
  have h5:=(entE_iff _).1 (ent_ok h.pt p n)
  have h4:=(hold_pos (m:=m1) (kd:=1) (i:=g) (by decide)).2 ⟨p,n,h3.1,h3.2,hk,by omega⟩
  omega
 refine ⟨⟨hpt,h.trim,h.live,hcaok,fun p n hk => ?_,fun x hx => ?_,fun x hx h0 => ?_,h.cs⟩,⟨fun c hcm => ?_,fun c hcm hd' => ?_,fun x hx hd' => ?_⟩⟩
 ·rw [hent] at hk ⊢
  obtain ⟨y,hy,hfit⟩:=h.en p n hk
  exact ⟨y,hy,hfit.sw,by rw [hlen]; exact hfit.lt,fun hk1=>by rw [hfrn _ (hentg p n hk1)]; exact hfit.fr hk1⟩
 ·have a1:caN (putC m1 g X f i) x = caN m1 x + b2n (decide ((g:Int) = x)):=countP_insert _ _ _ _ (at_le _ _ _)
  have a2:holdN (putC m1 g X f i) 1 x = holdN m1 1 x:=rfl
  rw [hfr,a1,a2]
  by_cases e:x = g
  ·subst e
   rw [if_pos rfl,hholdg.1,hholdg.2]
   have:b2n (decide ((x:Int) = (x:Int))) = 1:=by simp [b2n]
   rw [this,hX.1]; rfl
  ·rw [if_neg e]
   have:b2n (decide ((g:Int) = (x:Int))) = 0:=by unfold b2n; rw [if_neg]; simp only [decide_eq_true_eq]; omega
   rw [this]
   exact h.cf x (by rw [← hlen]; exact hx)
 ·by_cases e:x = g
  ·exact ⟨⟨f,i,g⟩,(hmem _).2 (.inl rfl),by rw [e]⟩
  ·rw [hfrn x e] at h0
   obtain ⟨c,hcm,hck⟩:=h.fc x (by rw [← hlen]; exact hx) h0
   exact ⟨c,(hmem c).2 (.inr hcm),hck⟩
 ·rcases (hmem c).1 hcm with rfl | hcm
  ·rw [hfr,if_pos (Int.toNat_natCast g)]
   exact ht
  ·rw [hfrn _ (hkg c hcm)]; exact hc.tail c hcm
 ·rcases (hmem c).1 hcm with rfl | hcm
  ·rw [hfr,if_pos (Int.toNat_natCast g)] at hd' ⊢; rw [hdisk]; exact hd hd'
  ·rw [hfrn _ (hkg c hcm)] at hd' ⊢
   rw [hdisk]; exact hc.clean c hcm hd'
 ·by_cases e:x = g
  ·rw [hfr,if_pos e]
   have:=hin.1.1
   omega
  ·rw [hfrn x e] at hd' ⊢; exact hc.anon x (by rw [← hlen]; exact hx) hd'
theorem hand_ok {m:Ma} (h:Rt m) (hc:Co m) {x:Int} (hx:wrongM ⟨m.m.fs,x⟩ = 0):Rt { m with m:=⟨m.m.fs,x⟩ } ∧ Co { m with m:=⟨m.m.fs,x⟩ }:=
 ⟨⟨{ h.pt with fr:=hx },h.trim,h.live,⟨h.ca.file,h.ca.lt,h.ca.fr,h.ca.srt⟩,fun p n hk=>have ⟨y,hy,hf⟩:=h.en p n hk; ⟨y,hy,hf.sw,hf.lt,hf.fr⟩,h.cf,h.fc,h.cs⟩,⟨hc.tail,hc.clean,hc.anon⟩⟩
theorem sum_le {α:Type} (g:α → Nat) (c:Nat) (h:∀ x,g x ≤ c):∀ l:List α,(l.map g).sum ≤ c * l.length
 | []=>by simp
 | x :: l=>by
  have h1:=sum_le g c h l
  have h2:=h x
  rw [List.map_cons,List.sum_cons,List.length_cons,Nat.mul_succ]
  omega
theorem flatL_len (t:Tb):(flatL t).length = 64:=by unfold flatL; simp
theorem holdN_le (m:Ma) (kd i:Int):holdN m kd i ≤ 64 * m.sp.length:=sum_le _ 64 (fun s=>by rw [← flatL_len s.tb]; exact List.countP_le_length) _
theorem caN_le {m:Ma} (h:CaOk m) (i:Int):caN m i ≤ 1:=srt_count h.srt fun a ha b hb e=>h.uniq ha hb e
theorem Rt.fewR {m:Ma} (h:Rt m) {f:Nat} (hf:f < m.m.fs.length):0 ≤ (frN m f).r ∧ (frN m f).r ≤ 257:=by
 have h1:=h.cf f hf
 have h2:=holdN_le m 1 f
 have h3:=caN_le h.ca f
 have h4:=h.pt.spl
 omega
theorem Rt.fewS {m:Ma} (h:Rt m) {s:Nat} (hs:s < m.sl.length):0 ≤ slN m s ∧ slN m s ≤ 256:=by
 have h1:=h.cs s hs
 have h2:=holdN_le m 2 s
 have h4:=h.pt.spl
 omega
theorem hold_two {m:Ma} (h:Pt m) {kd i:Int} (hk:kd ≠ 0) {p q:Nat} {n j:Int} (h1:(ent m p n).k = kd ∧ (ent m p n).n = i) (h2:(ent m q j).k = kd ∧ (ent m q j).n = i) (hne:¬ (q = p ∧ j = n)):2 ≤ holdN m kd i:=by
 have e1:=ent_in (m:=m) (p:=p) (n:=n) (by omega)
 have e2:=ent_in (m:=m) (p:=q) (n:=j) (by omega)
 obtain ⟨hs0,_,_⟩:=enter_ok (k:=⟨m,0⟩) (p:=p) (n:=n) (x:=zEn) h e1.2 (by decide)
 have a1:=hold_set e1.1 hs0 kd i
 have a2:b2n (isE kd i (ent m p n)) = 1:=by rw [isE_is,if_pos h1]
 have a3:b2n (isE kd i zEn) = 0:=isE_none rfl hk
 have a4:0 < holdN (setTb m p (setT (spN m p).tb n zEn)) kd i:=by
  refine (hold_pos hk).2 ⟨q,j,by rw [setTb_len]; exact e2.1,e2.2,?_⟩
  rw [ent_set e1.1 hs0,if_neg hne]
  exact h2
 have a5:holdN ({ m:=m,e:=0 }:Kp).m kd i = holdN m kd i:=rfl
 omega
def upFr (x:Fr):Fr:={ x with r:=x.r + 1 }
theorem upFr_ok {x:Fr} (h:frameE x = 0) (hr:x.r ≠ 0) (h1:x.r < 1000):frameE (upFr x) = 0:=by
 rw [frameE_iff] at h ⊢
 obtain ⟨⟨a,b,c⟩,d,e⟩:=h
 refine ⟨⟨?_,?_,c⟩,fun h0 => ?_,e⟩
 ·show 0 ≤ x.r + 1; omega
 ·show x.r + 1 ≤ 1000; omega
 ·have:x.r + 1 = 0:=h0
  omega
theorem ent_frame {m:Ma} (h:Rt m) {p:Nat} {n:Int} (hk:(ent m p n).k = 1):∃ f:Nat,(ent m p n).n = f ∧ f < m.m.fs.length ∧ (frN m f).r ≠ 0 ∧ p < m.sp.length ∧ (0 ≤ n ∧ n < 64) ∧ ∃ g,pgA m p n = some g ∧ FitF (frN m f) g (ent m p n).w:=by
 have h1:=ent_in (m:=m) (p:=p) (n:=n) (by rw [hk]; decide)
 have h2:=(entE_iff _).1 (ent_ok h.pt p n)
 obtain ⟨g,hg,hf⟩:=h.en p n (by rw [hk]; decide)
 have h3:=hf.lt hk
 have h4:=held_of h hk rfl
 refine ⟨(ent m p n).n.toNat,by omega,h4.2,?_,h1.1,h1.2,g,hg,hf.fr hk⟩
 have:=h.cf _ h4.2
 omega
theorem share_same {m:Ma} (h:Rt m) (hc:Co m) {p q:Nat} {n:Int} {f:Nat} {g:Pg} (hk:(ent m p n).k = 1) (hn:(ent m p n).n = f) (hq:q < m.sp.length) (h0:(ent m q n).k = 0) (hg:pgA m p n = some g) (hgq:pgA m q n = some g) (hw:(ent m p n).w = true → g.sh = true)
  (hany:(frN m f).f < 0 → ∀ a j,(ent m a j).k = 1 → (ent m a j).n.toNat = f → (ent m a j).w = false) :
  Rt (setE' (setFr m f (upFr (frN m f))) q n (ent m p n)) ∧ Co (setE' (setFr m f (upFr (frN m f))) q n (ent m p n)):=by
 obtain ⟨f',e1,e2,e3,e4,e5,g',e6,e7⟩:=ent_frame h hk
 have:f' = f:=by omega
 subst this
 rw [hg] at e6
 cases e6
 have hr:=h.fewR e2
 refine more_frame (g:=g) h hc hq e5 h0 e2 hk hn (upFr_ok (h.pt.frE e2) e3 (by omega)) rfl (fun _=>⟨rfl,rfl,rfl,rfl⟩) (fun h=>absurd h e3) hany hgq ?_
 obtain ⟨f1,f2,f3,f4,f5⟩:=e7
 refine ⟨f1,f2,f3,f4,fun hw' hx => ?_⟩
 have:=f2 (hw hw')
 have hx' : (frN m f').f < 0:=hx
 omega
theorem share_less {m:Ma} (h:Rt m) (hc:Co m) {p q:Nat} {n:Int} {f:Nat} {g:Pg} (hpq:p ≠ q) (hk:(ent m p n).k = 1) (hn:(ent m p n).n = f) (hq:q < m.sp.length) (h0:(ent m q n).k = 0) (hg:pgA m p n = some g) (hgq:pgA m q n = some g) :
  Rt (setE' (setE' (setFr m f (upFr (frN m f))) p n ⟨1,f,false⟩) q n ⟨1,f,false⟩) ∧ Co (setE' (setE' (setFr m f (upFr (frN m f))) p n ⟨1,f,false⟩) q n ⟨1,f,false⟩):=by
 obtain ⟨f',e1,e2,e3,e4,e5,g',e6,e7⟩:=ent_frame h hk
 have:f' = f:=by omega
 subst this
 obtain ⟨a1,a2⟩:=less_write h hc hk
 rw [hn] at a1 a2
 obtain ⟨hs0,_,_⟩:=enter_ok (k:=⟨m,0⟩) (p:=p) (n:=n) (x:=⟨1,f',false⟩) h.pt e5 ((entE_iff _).2 (.inr (.inl ⟨rfl,by show (0:Int) ≤ f'; omega,by have:=((wrongM_iff _).1 h.pt.fr).1; show (f' : Int) < 40; omega⟩)))
 have hent:∀ a j,ent (setE' m p n ⟨1,f',false⟩) a j = if a = p ∧ j = n then ⟨1,f',false⟩ else ent m a j:=fun a j=>ent_set e4 hs0 a j
 have hp:ent (setE' m p n ⟨1,f',false⟩) p n = ⟨1,f',false⟩:=by rw [hent,if_pos ⟨rfl,rfl⟩]
 have hsk:Skel m (setE' m p n ⟨1,f',false⟩):=Skel.setTb
 have hpg:∀ a,pgA (setE' m p n ⟨1,f',false⟩) a n = pgA m a n:=fun a=>by unfold pgA; rw [hsk.ar]
 have:=share_same (p:=p) (q:=q) (n:=n) (f:=f') (g:=g) a1 a2 (by rw [hp]) (by rw [hp]) (by rw [hsk.len]; exact hq) (by rw [hent,if_neg (fun h'=>hpq h'.1.symm)]; exact h0) (by rw [hpg]; exact hg) (by rw [hpg]; exact hgq) (fun h'=>by rw [hp] at h'; cases h') (fun hx a j hk1 hk2 => ?_)
 ·rw [hp] at this
  exact this
 ·rw [hent] at hk1 hk2 ⊢
  by_cases e:a = p ∧ j = n
  ·rw [if_pos e]
  ·rw [if_neg e] at hk1 hk2 ⊢
   obtain ⟨f2,b1,b2,b3,b4,b5,g2,b6,b7⟩:=ent_frame h hk1
   have hf2:f2 = f':=by omega
   subst hf2
   have h2:=hold_two h.pt (kd:=1) (i:=f2) (by decide) ⟨hk,hn⟩ ⟨hk1,b1⟩ e
   have h3:=h.cf f2 e2
   obtain ⟨c1,c2,c3,c4,c5⟩:=b7
   cases hw:(ent m a j).w with
   | false=>rfl
   | true=>
    have:=c5 hw hx
    omega
theorem share_slot {m:Ma} (h:Rt m) (hc:Co m) {p q:Nat} {n:Int} {s:Nat} {g:Pg} (hk:(ent m p n).k = 2) (hn:(ent m p n).n = s) (hq:q < m.sp.length) (h0:(ent m q n).k = 0) (hg:pgA m p n = some g) (hgq:pgA m q n = some g) :
  Rt (setE' (setSl m s (slN m s + 1)) q n (ent m p n)) ∧ Co (setE' (setSl m s (slN m s + 1)) q n (ent m p n)):=by
 have h1:=ent_in (m:=m) (p:=p) (n:=n) (by rw [hk]; decide)
 have h2:=(entE_iff _).1 (ent_ok h.pt p n)
 obtain ⟨g',hg',hf⟩:=h.en p n (by rw [hk]; decide)
 rw [hg] at hg'
 cases hg'
 have h3:=hf.sw hk
 have hs:s < m.sl.length:=by omega
 have h4:=h.fewS hs
 exact more_slot (d:=m.sw) (g:=g) h hc hq h1.2 h0 hs hk hn ((h2.resolve_left (fun h'=>by omega)).resolve_left (fun h'=>by omega)).2.2.2 (by omega) h.pt.sw rfl hgq h3.2
structure Bd (m:Ma) (T:List (List En)):Prop where
 ok:OkT m T
 rt:Rt (fullM m T)
 co:Co (fullM m T)
theorem Bd.of {m:Ma} {T:List (List En)} (ok:OkT m T) (h:Rt (fullM m T) ∧ Co (fullM m T)):Bd m T:=⟨ok,h.1,h.2⟩
theorem Bd.few {m:Ma} {T:List (List En)} (h:Bd m T):m.m.fs.length ≤ 40 ∧ m.sl.length ≤ 60 ∧ m.sp.length ≤ 4 ∧ (m.dk.blocks.length:Int) = m.st.count ∧ wrongSt m.st = 0 ∧ wrongD m.dk = 0 ∧ wrongD m.sw = 0 ∧ m.sw.blocks.length = m.sl.length:=
 ⟨((wrongM_iff _).1 h.rt.pt.fr).1,wrongS_len h.rt.pt.sl,by have:=h.rt.pt.spl; rw [fullM_len] at this; exact this,h.rt.pt.dkl,h.rt.pt.st,h.rt.pt.dk,h.rt.pt.sw,h.rt.pt.swl⟩
theorem Bd.cachedE {m:Ma} {T:List (List En)} (h:Bd m T) {p n:Nat} (hp:p < m.sp.length) (hn:n < 64) (h0:(entT T p n).k = 0) {c:Cc} (hcm:c ∈ m.ca) {g:Pg} (hg:onA (spN m p).ar n = some g) (hf:c.f = g.fi ∧ c.i = g.pg) {w:Bool} (hw:w = true → g.sh = true ∧ g.wr = true) :
  Bd (setFr m c.k.toNat (upFr (frN m c.k.toNat))) (setL T p n ⟨1,c.k,w⟩):=by
 have hlt:=h.rt.ca.lt c hcm
 have hfr:=h.rt.ca.fr c hcm
 have hfi:=h.rt.ca.file c hcm
 have hlt' : c.k.toNat < m.m.fs.length:=by have:c.k < (fullM m T).m.fs.length:=hlt.2; have e:(fullM m T).m.fs.length = m.m.fs.length:=rfl; omega
 have hxE:entE ⟨1,c.k,w⟩ = 0:=(entE_iff _).2 (.inr (.inl ⟨rfl,hlt.1,by have:=h.few.1; have:c.k < (fullM m T).m.fs.length:=hlt.2; have e:(fullM m T).m.fs.length = m.m.fs.length:=rfl; show c.k < 40; omega⟩))
 have hfew:=h.rt.fewR hlt'
 have hfrN:frN (fullM m T) c.k.toNat = frN m c.k.toNat:=rfl
 rw [hfrN] at hfr hfew
 refine .of (h.ok.fr.set hp hxE) ?_
 rw [← fullM_set h.ok.fr hp hn hxE,← fullM_fr]
 refine more_frame (g:=g) (f:=c.k.toNat) h.rt h.co (by rw [fullM_len]; exact hp) ⟨by omega,by omega⟩ (by rw [fullM_ent h.ok hp hn]; exact h0) hlt' rfl (by show c.k = _; omega) (upFr_ok (h.rt.pt.frE hlt') (by omega) (by omega)) rfl (fun _=>⟨rfl,rfl,rfl,rfl⟩) (fun h'=>by rw [hfrN] at h'; omega) (fun hx => ?_) (by rw [fullM_pg hp]; exact hg) ?_
 ·have:(frN m c.k.toNat).f < 0:=hx
  have:=hfi.1.1
  omega
 ·have e1:(upFr (frN m c.k.toNat)).f = (frN m c.k.toNat).f:=rfl
  have e2:(upFr (frN m c.k.toNat)).i = (frN m c.k.toNat).i:=rfl
  refine ⟨fun _=>⟨by omega,by omega⟩,fun _=>by have:=hfi.1.1; omega,fun h'=>(hw h').2,fun h' _=>(hw h').1,fun h' hx => ?_⟩
  have:=hfi.1.1
  omega
theorem Bd.anonE {m:Ma} {T:List (List En)} (h:Bd m T) {p n:Nat} (hp:p < m.sp.length) (hn:n < 64) (h0:(entT T p n).k = 0) {f:Nat} (hf:f < m.m.fs.length) (hr:(frN m f).r = 0) {X:Fr} (hX:X.r = 1 ∧ X.d = false ∧ X.f = -1 ∧ X.i = 0) {g:Pg} (hg:onA (spN m p).ar n = some g) (hsh:g.sh = false) {w:Bool} (hw:w = true → g.wr = true) :
  Bd (setFr m f X) (setL T p n ⟨1,f,w⟩):=by
 have hxE:entE ⟨1,f,w⟩ = 0:=(entE_iff _).2 (.inr (.inl ⟨rfl,by show (0:Int) ≤ f; omega,by have:=h.few.1; show (f:Int) < 40; omega⟩))
 have hfrN:frN (fullM m T) f = frN m f:=rfl
 refine .of (h.ok.fr.set hp hxE) ?_
 rw [← fullM_set h.ok.fr hp hn hxE,← fullM_fr]
 have hXE:frameE X = 0:=by
  rw [frameE_iff]
  exact ⟨⟨by omega,by omega,by omega,by omega,by omega,by omega⟩,fun h'=>by omega,fun _=>hX.2.2.2⟩
 refine more_frame (g:=g) (f:=f) h.rt h.co (by rw [fullM_len]; exact hp) ⟨by omega,by omega⟩ (by rw [fullM_ent h.ok hp hn]; exact h0) hf rfl rfl hXE (by rw [hfrN]; omega) (fun h'=>by rw [hfrN] at h'; omega) (fun _=>⟨by omega,hX.2.1⟩) (fun hx a j hk1 hk2 => ?_) (by rw [fullM_pg hp]; exact hg) ?_
 ·have:=held_of h.rt hk1 hk2
  have h5:=h.rt.cf f hf
  rw [hfrN] at h5
  omega
 ·exact ⟨fun h'=>absurd h' (by omega),fun h'=>(by rw [hsh] at h'; cases h'),hw,fun _ h'=>absurd h' (by omega),fun _ _=>by omega⟩
theorem Bd.slotE {m:Ma} {T:List (List En)} (h:Bd m T) {p n:Nat} (hp:p < m.sp.length) (hn:n < 64) (h0:(entT T p n).k = 0) {s:Nat} (hs:s < m.sl.length) (hz:slN m s = 0) {P:Page} {g:Pg} (hg:onA (spN m p).ar n = some g) (hsh:g.sh = false) :
  Bd { m with sl:=m.sl.set s 1,sw:=⟨m.sw.blocks.set s P,m.sw.queue⟩ } (setL T p n ⟨2,s,false⟩):=by
 have hxE:entE ⟨2,s,false⟩ = 0:=(entE_iff _).2 (.inr (.inr ⟨rfl,by show (0:Int) ≤ s; omega,by have:=h.few.2.1; show (s:Int) < 60; omega,rfl⟩))
 have hok:OkT { m with sl:=m.sl.set s 1,sw:=⟨m.sw.blocks.set s P,m.sw.queue⟩ } T:=h.ok.sps rfl
 refine .of (hok.set hp hxE) ?_
 rw [← fullM_set hok hp hn hxE]
 have hwd:wrongD ⟨m.sw.blocks.set s P,m.sw.queue⟩ = 0:=by
  have:=(wrongD_iff _).1 h.rt.pt.sw
  rw [wrongD_iff]
  simp only [List.length_set]
  exact this
 have hsl:slN (fullM m T) s = 0:=hz
 have:=more_slot (d:=⟨m.sw.blocks.set s P,m.sw.queue⟩) (x:=⟨2,s,false⟩) (n:=(n:Int)) (g:=g) h.rt h.co (p:=p) (s:=s) (by rw [fullM_len]; exact hp) ⟨by omega,by omega⟩ (by rw [fullM_ent h.ok hp hn]; exact h0) hs rfl rfl rfl (by rw [hsl]; omega) hwd (by rw [List.length_set]; rfl) (by rw [fullM_pg hp]; exact hg) hsh
 rw [hsl] at this
 exact this
theorem Bd.cache {m:Ma} {T:List (List En)} (h:Bd m T) {f i:Int} (hin:inF m.st f i) (hno:∀ c ∈ m.ca,¬ (c.f = f ∧ c.i = i)) {g:Nat} (hg:g < m.m.fs.length) (hr:(frN m g).r = 0) {X:Fr} (hX:X.r = 1 ∧ X.f = f ∧ X.i = i) (ht:cutPage X.p ((fileAt m.st f).n - i * 8) = X.p) (hd:X.d = false → X.p = diskP m f i) :
  Bd (putC m g X f i) T:=.of (h.ok.sps rfl) (putC_ok h.rt h.co hg hr hin hno hX ht hd)
theorem Bd.more {m:Ma} {T:List (List En)} (h:Bd m T) {s:Sp} (hl:m.sp.length < 4) (hv:s.lv = true) (ha:(wrongA s.ar).1 = 0):Bd { m with sp:=m.sp ++ [s] } (T ++ [List.replicate 64 zEn]):=by
 refine .of (h.ok.more s) ?_
 rw [fullM_more h.ok]
 exact more_space h.rt h.co (s:={ s with tb:=zTb }) (by rw [fullM_len]; exact hl) hv ha rfl
theorem Bd.hand {m:Ma} {T:List (List En)} (h:Bd m T) {x:Int} (hx:wrongM ⟨m.m.fs,x⟩ = 0):Bd { m with m:=⟨m.m.fs,x⟩ } T:=.of (h.ok.sps rfl) (hand_ok h.rt h.co hx)
theorem Bd.share1 {m:Ma} {T:List (List En)} (h:Bd m T) (hl:m.sp.length = 2) {n:Nat} (hn:n < 64) (har:(spN m 1).ar = (spN m 0).ar) (hk:(entT T 0 n).k = 1) (h0:(entT T 1 n).k = 0) {g:Pg} (hg:onA (spN m 0).ar n = some g) {f:Nat} (hf:(entT T 0 n).n = f) {w:Bool} (hw:w = (g.sh && (entT T 0 n).w)) :
  Bd (setFr m f (upFr (frN m f))) (setL (setL T 0 n ⟨1,f,w⟩) 1 n ⟨1,f,w⟩):=by
 have e0:=fullM_ent h.ok (p:=0) (by omega) hn
 have e1:=fullM_ent h.ok (p:=1) (by omega) hn
 have hg0:pgA (fullM m T) 0 n = some g:=by rw [fullM_pg (by omega)]; exact hg
 have hg1:pgA (fullM m T) 1 n = some g:=by rw [fullM_pg (by omega),har]; exact hg
 obtain ⟨f',a1,a2,_⟩:=ent_frame h.rt (p:=0) (n:=n) (by rw [e0]; exact hk)
 have a2' : f' < m.m.fs.length:=a2
 have hff:f' = f:=by rw [e0] at a1; omega
 subst hff
 have hxE:∀ w,entE ⟨1,f',w⟩ = 0:=fun w=>(entE_iff _).2 (.inr (.inl ⟨rfl,by show (0:Int) ≤ f'; omega,by have:=h.few.1; show (f' : Int) < 40; omega⟩))
 have hok:=(h.ok.fr (f:=f') (X:=upFr (frN m f'))).set (p:=0) (n:=n) (by show 0 < m.sp.length; omega) (hxE w)
 refine .of (hok.set (by show 1 < m.sp.length; omega) (hxE w)) ?_
 have hex:(⟨1,f',(entT T 0 n).w⟩:En) = entT T 0 n:=by rw [← hf,← hk]
 rw [← fullM_set hok (by show 1 < m.sp.length; omega) hn (hxE w)]
 cases hs:g.sh with
 | false=>
  rw [hs,Bool.false_and] at hw
  subst hw
  rw [← fullM_set h.ok.fr (by show 0 < m.sp.length; omega) hn (hxE false),← fullM_fr]
  exact share_less (m:=fullM m T) (p:=0) (q:=1) (n:=n) (f:=f') (g:=g) h.rt h.co (by decide) (by rw [e0]; exact hk) (by rw [e0]; exact hf) (by rw [fullM_len]; omega) (by rw [e1]; exact h0) hg0 hg1
 | true=>
  rw [hs,Bool.true_and] at hw
  subst hw
  rw [hex]
  have hself:setL T 0 n (entT T 0 n) = T:=by
   have hl0:lstT T 0 ∈ T:=h.ok.mem (by omega)
   have h64:=h.ok.l64 (p:=0) (by omega)
   unfold setL entT
   rw [List.getD_eq_getElem?_getD,List.getElem?_eq_getElem (by omega:n < (lstT T 0).length),Option.getD_some,List.set_getElem_self]
   unfold lstT
   rw [List.getD_eq_getElem?_getD,List.getElem?_eq_getElem (by rw [h.ok.len]; omega:0 < T.length),Option.getD_some,List.set_getElem_self]
  rw [hself,← fullM_fr,← e0]
  refine share_same (m:=fullM m T) (p:=0) (q:=1) (n:=n) (f:=f') (g:=g) h.rt h.co (by rw [e0]; exact hk) (by rw [e0]; exact hf) (by rw [fullM_len]; omega) (by rw [e1]; exact h0) hg0 hg1 (fun _=>hs) (fun hx => ?_)
  obtain ⟨f2,b1,b2,b3,b4,b5,g2,b6,b7⟩:=ent_frame h.rt (p:=0) (n:=n) (by rw [e0]; exact hk)
  have:f2 = f':=by omega
  subst this
  rw [hg0] at b6
  cases b6
  have:=b7.2.1 hs
  omega
theorem Bd.share2 {m:Ma} {T:List (List En)} (h:Bd m T) (hl:m.sp.length = 2) {n:Nat} (hn:n < 64) (har:(spN m 1).ar = (spN m 0).ar) (hk:(entT T 0 n).k = 2) (h0:(entT T 1 n).k = 0) {g:Pg} (hg:onA (spN m 0).ar n = some g) {s:Nat} (hf:(entT T 0 n).n = s) :
  Bd (setSl m s (slN m s + 1)) (setL (setL T 0 n (entT T 0 n)) 1 n (entT T 0 n)):=by
 have e0:=fullM_ent h.ok (p:=0) (by omega) hn
 have e1:=fullM_ent h.ok (p:=1) (by omega) hn
 have hg0:pgA (fullM m T) 0 n = some g:=by rw [fullM_pg (by omega)]; exact hg
 have hg1:pgA (fullM m T) 1 n = some g:=by rw [fullM_pg (by omega),har]; exact hg
 have hself:setL T 0 n (entT T 0 n) = T:=by
  have hl0:lstT T 0 ∈ T:=h.ok.mem (by omega)
  have h64:=h.ok.l64 (p:=0) (by omega)
  unfold setL entT
  rw [List.getD_eq_getElem?_getD,List.getElem?_eq_getElem (by omega:n < (lstT T 0).length),Option.getD_some,List.set_getElem_self]
  unfold lstT
  rw [List.getD_eq_getElem?_getD,List.getElem?_eq_getElem (by rw [h.ok.len]; omega:0 < T.length),Option.getD_some,List.set_getElem_self]
 rw [hself]
 have hE:=entT_E h.ok (p:=0) (by omega) hn
 have hok:OkT (setSl m s (slN m s + 1)) T:=h.ok.sps rfl
 refine .of (hok.set (by show 1 < m.sp.length; omega) hE) ?_
 rw [← fullM_set hok (by show 1 < m.sp.length; omega) hn hE,← e0]
 exact share_slot (m:=fullM m T) (p:=0) (q:=1) (n:=n) (s:=s) (g:=g) h.rt h.co (by rw [e0]; exact hk) (by rw [e0]; exact hf) (by rw [fullM_len]; omega) (by rw [e1]; exact h0) hg0 hg1
theorem Bd.share0 {m:Ma} {T:List (List En)} (h:Bd m T) (hl:m.sp.length = 2) {n:Nat} (hn:n < 64) (hk:(entT T 0 n).k = 0) (h0:(entT T 1 n).k = 0):Bd m (setL (setL T 0 n (entT T 0 n)) 1 n (entT T 0 n)):=by
 have hE0:=(entE_iff _).1 (entT_E h.ok (p:=0) (by omega) hn)
 have hE1:=(entE_iff _).1 (entT_E h.ok (p:=1) (by omega) hn)
 have hz:∀ e:En,e.k = 0 → ((e.k = 0 ∧ e.n = 0 ∧ e.w = false) ∨ (e.k = 1 ∧ 0 ≤ e.n ∧ e.n < 40) ∨ (e.k = 2 ∧ 0 ≤ e.n ∧ e.n < 60 ∧ e.w = false)) → e = zEn:=by
  rintro ⟨a,b,c⟩ h1 h2
  rcases h2 with ⟨a1,a2,a3⟩ | h2 | h2
  ·simp only at a1 a2 a3; subst a1; subst a2; subst a3; rfl
  ·omega
  ·omega
 have h0':=hz _ hk hE0
 have h1':=hz _ h0 hE1
 have hself:∀ p,p < 2 → entT T p n = zEn → setL T p n zEn = T:=fun p hp he=>by
  have h64:=h.ok.l64 (p:=p) (by omega)
  have hlT:=h.ok.len
  have:(lstT T p)[n]'(by omega) = zEn:=by
   unfold entT at he
   rw [List.getD_eq_getElem?_getD,List.getElem?_eq_getElem (by omega:n < (lstT T p).length),Option.getD_some] at he
   exact he
  unfold setL
  rw [← this,List.set_getElem_self]
  unfold lstT
  rw [List.getD_eq_getElem?_getD,List.getElem?_eq_getElem (by omega:p < T.length),Option.getD_some,List.set_getElem_self]
 rw [h0',hself 0 (by omega) h0',hself 1 (by omega) h1']
 exact h
def tL (t:List En):List Value:=(List.range 64).flatMap fun i=>enL (t.getD i zEn)
theorem tL_len (t:List En):(tL t).length = 192:=by
 unfold tL
 rw [Pw.flat_len (fun i=>enL (t.getD i zEn)) 3 (fun _=>enL_len _),List.length_range]
structure MW where
 al:Option Addr
 cl:Nat
 l:List UInt8
 H:MH
 ab:Option Addr
 cb:Nat
 T:List (List En)
def mkC (S:MW):Array Value:=#[.slice S.al S.l.length S.cl,.slice S.H.af S.H.m.fs.length S.H.cf,.int .i64 S.H.m.hand,.slice S.H.asl S.H.sl.length S.H.csl,.slice S.H.wb S.H.sw.blocks.length S.H.cwb,.slice S.H.wq S.H.sw.queue.length S.H.cwq,
 .slice S.H.db S.H.dk.blocks.length S.H.cdb,.slice S.H.dq S.H.dk.queue.length S.H.cdq,.slice S.H.ai S.H.fi.length S.H.ci,.int .i64 S.H.ct,.slice S.H.ac S.H.ca.length S.H.cc,.slice S.H.ap S.H.sp.length S.H.cp,.slice S.ab S.T.length S.cb]
def klM (S:MW):List (Option Nat):=[oB S.H.af,oB S.H.asl,oB S.H.wb,oB S.H.db,oB S.H.dq,oB S.H.ai,oB S.H.ac,oB S.H.ap,oB S.ab]
def kbM (b:Nat) (S:MW) (x:Nat):Prop:=x = b ∨ some x ∈ klM S
structure MkO (w:World) (B b:Nat) (S:MW):Prop where
 blk:Blk w b (mkC S) 89
 ge:B ≤ b
 ma:MaO w B S.H
 tt:Own w B 95 192 (.slice S.ab S.T.length S.cb) S.T.length (S.T.flatMap tL)
 rd:SlR w S.al S.cl S.l.length (S.l.map byV)
 ra:∀ a,S.al = some a → S.l.map byV ≠ [] → a.block < B
 n1:∀ x,oB S.H.wb = some x → oB S.H.db ≠ some x
 n2:∀ p ∈ S.H.fi,∀ x,oB p.a = some x → oB S.H.asl ≠ some x
 n3:S.H.wq = none
structure MS (w0:World) (b:Nat) (S0:MW) (w:World) (S:MW):Prop where
 os:w.os = w0.os
 tape:w.tape = w0.tape
 output:w.output = w0.output
 size:w0.heap.size ≤ w.heap.size
 keep:∀ x,x < w0.heap.size → ¬ kbM b S0 x → w.heap[x]? = w0.heap[x]?
 sn:∀ x,kbM b S x → kbM b S0 x ∨ w0.heap.size ≤ x
theorem MS.refl (w:World) (b:Nat) (S:MW):MS w b S w S:=⟨rfl,rfl,rfl,Nat.le_refl _,fun _ _ _=>rfl,fun _ h => .inl h⟩
theorem MS.trans {w0 w1 w2:World} {b:Nat} {H0 H1 H2:MW} (h:MS w0 b H0 w1 H1) (k:MS w1 b H1 w2 H2):MS w0 b H0 w2 H2:=
 ⟨k.os.trans h.os,k.tape.trans h.tape,k.output.trans h.output,Nat.le_trans h.size k.size,fun x hx hn=>(k.keep x (Nat.lt_of_lt_of_le hx h.size) (fun hk=>(h.sn x hk).elim hn (fun hh=>absurd hx (Nat.not_lt.2 hh)))).trans (h.keep x hx hn),
  fun x hx=>(k.sn x hx).elim (h.sn x) (fun hh => .inr (Nat.le_trans h.size hh))⟩
theorem MS.below {w0 w w' : World} {b:Nat} {H0 H:MW} (h:MS w0 b H0 w H) (hb:Below w.heap.size w w'):MS w0 b H0 w' H:=
 ⟨hb.os.trans h.os,hb.tape.trans h.tape,hb.output.trans h.output,Nat.le_trans h.size hb.size,fun x hx hn=>(hb.block x (Nat.lt_of_lt_of_le hx h.size)).trans (h.keep x hx hn),h.sn⟩
theorem MS.put {w0 w w' : World} {b y:Nat} {H0 H H' : MW} (h:MS w0 b H0 w H) (hg:w.grownBy w' (some y)) (hy:kbM b H y) (hn:∀ x,kbM b H' x → kbM b H x ∨ w0.heap.size ≤ x):MS w0 b H0 w' H':=
 ⟨hg.os.trans h.os,hg.tape.trans h.tape,hg.output.trans h.output,Nat.le_trans h.size hg.size,fun x hx hnx=>(hg.block x (Nat.lt_of_lt_of_le hx h.size) (fun e=>by
  have e' : x = y:=Option.some.inj e
  rw [← e'] at hy
  exact (h.sn x hy).elim hnx (fun hh=>absurd hx (Nat.not_lt.2 hh)))).trans (h.keep x hx hnx),fun x hx=>(hn x hx).elim (h.sn x) .inr⟩
theorem MS.loc {w0 w w' : World} {b y:Nat} {H0 H:MW} (h:MS w0 b H0 w H) (hg:w.grownBy w' (some y)) (hy:w0.heap.size ≤ y):MS w0 b H0 w' H:=
 ⟨hg.os.trans h.os,hg.tape.trans h.tape,hg.output.trans h.output,Nat.le_trans h.size hg.size,fun x hx hnx=>(hg.block x (Nat.lt_of_lt_of_le hx h.size) (fun e=>by
  have e' : x = y:=Option.some.inj e
  omega)).trans (h.keep x hx hnx),h.sn⟩
theorem MS.same {w0 w:World} {b:Nat} {H0 H H' : MW} (h:MS w0 b H0 w H) (he:klM H' = klM H):MS w0 b H0 w H':=
 { h with sn:=fun x hx=>h.sn x (by unfold kbM at hx ⊢; rw [← he]; exact hx) }
theorem MkO.lt {w:World} {B b:Nat} {S:MW} (h:MkO w B b S):b < w.heap.size:=h.blk.lt
theorem MkO.bs {w:World} {B b:Nat} {S:MW} (h:MkO w B b S):B ≤ w.heap.size:=Nat.le_trans h.ge (Nat.le_of_lt h.lt)
theorem MkO.below {w w' : World} {B b:Nat} {S:MW} (h:MkO w B b S) (hb:Below w.heap.size w w'):MkO w' B b S:=⟨h.blk.ext hb,h.ge,h.ma.below hb,h.tt.below hb,h.rd.below hb,h.ra,h.n1,h.n2,h.n3⟩
theorem MkO.kb_own {w:World} {B b:Nat} {S:MW} (h:MkO w B b S) {x:Nat} (hx:kbM b S x):B ≤ x ∧ x < w.heap.size:=by
 have own:∀ {e:TypeId} {sz n c:Nat} {a:Option Addr} {xs:List Value},Own w B e sz (.slice a n c) n xs → oB a = some x → B ≤ x ∧ x < w.heap.size:=fun ho hx=>by
  obtain ⟨h1,cs,h2⟩:=own_oB ho hx
  exact ⟨h1,h2.lt⟩
 rcases hx with hx | hx
 ·rw [hx]; exact ⟨h.ge,h.lt⟩
 ·simp only [klM,List.mem_cons,List.not_mem_nil,or_false] at hx
  rcases hx with hx | hx | hx | hx | hx | hx | hx | hx | hx
  ·exact own h.ma.fr hx.symm
  ·exact own h.ma.sl hx.symm
  ·exact own h.ma.sw.b hx.symm
  ·exact own h.ma.dk.b hx.symm
  ·exact own h.ma.dk.q hx.symm
  ·exact own h.ma.st.own hx.symm
  ·exact own h.ma.ca hx.symm
  ·exact own h.ma.sp hx.symm
  ·exact own h.tt hx.symm
theorem MS.to {w0 w:World} {B B0 b:Nat} {S0 S:MW} (h:MkO w0 B b S0) (hs:MS w0 b S0 w S) (hB:B0 ≤ B):Below B0 w0 w:=
 ⟨hs.os,hs.tape,hs.output,hs.size,fun x hx=>hs.keep x (by have:=h.bs; omega) (fun hk=>by have:=(h.kb_own hk).1; omega)⟩
theorem MS.blkN {w0 w:World} {b x:Nat} {S0 S:MW} {cs:Array Value} {T:TypeId} (hs:MS w0 b S0 w S) (hk:Blk w0 x cs T) (hx:¬ kbM b S0 x):Blk w x cs T:=(hs.keep x hk.lt hx).trans hk
theorem MS.not {w0 w:World} {b x:Nat} {S0 S:MW} (hs:MS w0 b S0 w S) (hl:x < w0.heap.size) (hx:¬ kbM b S0 x):¬ kbM b S x:=fun h=>(hs.sn x h).elim hx (fun h=>by omega)
theorem MS.ownN {w0 w:World} {b B' : Nat} {S0 S:MW} {t:TypeId} {sz n:Nat} {v:Value} {xs:List Value} (hs:MS w0 b S0 w S) (ho:Own w0 B' t sz v n xs) (hx:∀ x,v.ownBlock = some x → ¬ kbM b S0 x):Own w B' t sz v n xs:=
 ⟨ho.1,ho.2.imp id fun ⟨g,off,cap,cur,hv,hB,hk,r⟩=>⟨g,off,cap,cur,hv,hB,hs.blkN hk (hx g (by rw [hv]; rfl)),r⟩⟩
theorem MkO.new {w:World} {B b:Nat} {S:MW} (h:MkO w B b S) {x:Nat} (hx:w.heap.size ≤ x):¬ kbM b S x:=fun hk=>by have:=(h.kb_own hk).2; omega
theorem MkO.loc {w w' : World} {B b:Nat} {S:MW} (h:MkO w B b S) {B1:Nat} (hb:Below B1 w w') (hB:∀ x,B1 ≤ x → x < w.heap.size → False):MkO w' B b S:=h.below (by
 refine ⟨hb.os,hb.tape,hb.output,hb.size,fun x hx=>hb.block x ?_⟩
 rcases Nat.lt_or_ge x B1 with h1 | h1
 ·exact h1
 ·exact (hB x h1 hx).elim)
theorem SlR.keep {w w' : World} {B:Nat} {a:Option Addr} {c n:Nat} {vs:List Value} (h:SlR w a c n vs) (ha:∀ x,a = some x → vs ≠ [] → x.block < B) (hB:B ≤ w.heap.size) {g:Nat} (hg:w.grownBy w' (some g)) (hgB:B ≤ g):SlR w' a c n vs:=
 ⟨h.le,h.mx,h.nl,fun i u hi=>by
  obtain ⟨b',o',e,hc⟩:=h.rd i u hi
  have hl:b' < B:=ha _ e (fun e0=>by rw [e0] at hi; cases hi)
  exact ⟨b',o',e,hg.cell hc (fun e=>by have h3:b' = g:=Option.some.inj e; omega)⟩⟩
theorem MkO.putL {w w' : World} {B b:Nat} {S:MW} (h:MkO w B b S) {a:Option Addr} {c:Nat} {l:List UInt8} (hr:SlR w a c l.length (l.map byV)) (ha:∀ x,a = some x → l.map byV ≠ [] → x.block < B) (hb:Blk w' b (putAt (mkC S) 0 [.slice a l.length c]) 89) (hg:w.grownBy w' (some b)) :
  MkO w' B b { S with al:=a,cl:=c,l:=l }:=
 ⟨hb,h.ge,h.ma.keep h.blk (by decide) hg,own_keep h.tt h.blk (by decide) hg,hr.keep ha h.bs hg h.ge,ha,h.n1,h.n2,h.n3⟩
theorem MaO.putF {w w' : World} {B:Nat} {H:MH} (h:MaO w B H) {g:Nat} {cs:Array Value} (hk:Blk w g cs 59) (hg:w.grownBy w' (some g)) {m:Mem} (ho:Own w' B 59 13 (.slice H.af m.fs.length H.cf) m.fs.length (m.fs.flatMap frL)):MaO w' B { H with m:=m }:=
 ⟨ho,own_keep h.sl hk (by decide) hg,h.sw.keep hk (by decide) (by decide) hg,h.dk.keep hk (by decide) (by decide) hg,h.st.keep hk (by decide) (by decide) hg,own_keep h.ca hk (by decide) hg,own_keep h.sp hk (by decide) hg,fun p hp=>⟨own_keep (h.ps p hp).1 hk (by decide) hg,(h.ps p hp).2.keep hk (by decide) hg⟩,h.c64⟩
theorem MkO.putF {w w' : World} {B b:Nat} {S:MW} (h:MkO w B b S) {g:Nat} {cs:Array Value} (hk:Blk w g cs 59) (hgB:B ≤ g) (hg:w.grownBy w' (some g)) {fs:List Fr} (hl:fs.length = S.H.m.fs.length) (ho:Own w' B 59 13 (.slice S.H.af fs.length S.H.cf) fs.length (fs.flatMap frL)) :
  MkO w' B b { S with H:={ S.H with m:=⟨fs,S.H.m.hand⟩ } }:=
 ⟨by
  have h1:=blk_keep h.blk hk (by decide) hg
  have e:mkC { S with H:={ S.H with m:=⟨fs,S.H.m.hand⟩ } } = mkC S:=by unfold mkC; rw [show ({ S.H with m:=⟨fs,S.H.m.hand⟩ }:MH).m.fs.length = S.H.m.fs.length from hl]
  rw [e]; exact h1,h.ge,h.ma.putF hk hg (m:=⟨fs,S.H.m.hand⟩) ho,own_keep h.tt hk (by decide) hg,h.rd.keep h.ra h.bs hg hgB,h.ra,h.n1,h.n2,h.n3⟩
theorem tL_at (t:List En) (i r:Nat) (hi:i < 64) (hr:r < 3):(tL t)[i * 3 + r]? = (enL (t.getD i zEn))[r]?:=by
 unfold tL
 rw [flat_cell (fun i=>enL (t.getD i zEn)) 3 (fun _=>enL_len _) (List.range 64) i (by rw [List.length_range]; exact hi) r hr,List.getElem_range]
theorem tL_set {t:List En} {n:Nat} {x:En} (hl:t.length = 64) (hn:n < 64) (cur:Array Value) (o:Nat) (hs:o + 192 ≤ cur.size) (hc:∀ j u,(tL t)[j]? = some u → cur[o + j]? = some u) :
  putAt cur (o + n * 3) (enL x) = putAt cur o (tL (t.set n x)):=by
 have hset:∀ i,i < 64 → (t.set n x).getD i zEn = if i = n then x else t.getD i zEn:=fun i hi=>by
  rw [List.getD_eq_getElem?_getD,List.getElem?_set]
  by_cases e:i = n
  ·subst e; rw [if_pos rfl,if_pos (by omega),if_pos rfl]; rfl
  ·rw [if_neg (fun h=>e h.symm),if_neg e,List.getD_eq_getElem?_getD]
 apply Array.ext_getElem?
 intro m
 have hl3:(enL x).length = 3:=enL_len x
 have hl192:=tL_len (t.set n x)
 by_cases h1:o ≤ m ∧ m < o + 192
 ·obtain ⟨d,rfl⟩:∃ d,m = o + d:=⟨m - o,by omega⟩
  have hd:d < 192:=by omega
  obtain ⟨i,r,hi,hr,rfl⟩:∃ i r,i < 64 ∧ r < 3 ∧ d = i * 3 + r:=⟨d / 3,d % 3,by omega,by omega,by omega⟩
  obtain ⟨u,hu⟩:∃ u,(tL (t.set n x))[i * 3 + r]? = some u:=⟨_,List.getElem?_eq_getElem (by omega)⟩
  rw [putAt_in _ _ _ _ u (by rw [hl192]; exact hs) hu]
  rw [tL_at _ i r hi hr,hset i hi] at hu
  by_cases e:i = n
  ·subst e
   rw [if_pos rfl] at hu
   rw [← Nat.add_assoc]
   exact putAt_in _ _ _ _ u (by omega) hu
  ·rw [if_neg e] at hu
   rw [putAt_out _ _ _ _ (by omega)]
   exact hc _ _ (by rw [tL_at _ i r hi hr]; exact hu)
 ·rw [putAt_out _ _ _ _ (by omega),putAt_out _ _ _ _ (by omega)]
theorem MkO.lst_len {S:MW} {p:Nat} (hp:p < S.T.length):lstT S.T p = S.T[p]:=by
 unfold lstT
 rw [List.getD_eq_getElem?_getD,List.getElem?_eq_getElem hp]; rfl
theorem MkO.ent {w:World} {B b:Nat} {S:MW} (h:MkO w B b S) {p n:Nat} (hp:p < S.T.length) (hn:n < 64) (h64:(lstT S.T p).length = 64) :
  ∃ g off cur,S.ab = some ⟨g,off,none⟩ ∧ B ≤ g ∧ Blk w g cur 95 ∧ off + p * 192 + n * 3 + 3 ≤ cur.size ∧ (∀ j u,(enL (entT S.T p n))[j]? = some u → w.cell? ⟨g,off + p * 192 + n * 3 + j,none⟩ = some u) ∧
   ∀ w' x,Blk w' g (putAt cur (off + p * 192 + n * 3) (enL x)) 95 → w.grownBy w' (some g) → MkO w' B b { S with T:=setL S.T p n x }:=by
 obtain ⟨g,off,cap,cur,hv,hB,hg,hs,hc,hw⟩:=h.tt.put tL_len (by decide) p hp
 simp only [Value.slice.injEq] at hv
 obtain ⟨hv,_,_⟩:=hv
 refine ⟨g,off,cur,hv,hB,hg,by omega,fun j u hj => ?_,fun w' x hw' hgr => ?_⟩
 ·have hj3:j < 3:=by
   rcases Nat.lt_or_ge j 3 with h | h
   ·exact h
   ·rw [List.getElem?_eq_none (by rw [enL_len]; exact h)] at hj; cases hj
  have:=hc (n * 3 + j) u (by rw [tL_at _ n j hn hj3,← MkO.lst_len hp]; exact hj)
  rw [← this]
  congr 2
  omega
 ·have hcur:∀ j u,(tL (lstT S.T p))[j]? = some u → cur[off + p * 192 + j]? = some u:=fun j u hj=>by
   rw [MkO.lst_len hp] at hj
   have:=hc j u hj
   rw [hg.cell] at this
   exact this
  rw [tL_set h64 hn cur _ (by omega) hcur] at hw'
  have ho:=hw w' _ hw'
  have hlen:({ S with T:=setL S.T p n x }:MW).T.length = S.T.length:=by show (setL S.T p n x).length = _; unfold setL; rw [List.length_set]
  refine ⟨?_,h.ge,h.ma.keep hg (by decide) hgr,?_,h.rd.keep h.ra h.bs hgr hB,h.ra,h.n1,h.n2,h.n3⟩
  ·have e:mkC { S with T:=setL S.T p n x } = mkC S:=by unfold mkC; rw [hlen]
   rw [e]
   exact blk_keep h.blk hg (by decide) hgr
  ·rw [hlen]; exact ho
theorem MkO.putS {w w' : World} {B b : Nat} {S : MW} (h : MkO w B b S) {g : Nat} {cs : Array Value} (hk : Blk w g cs 3) (hgB : B ≤ g) (hga : oB S.H.asl = some g) (hg : w.grownBy w' (some g)) {sl : List Int} (hl : sl.length = S.H.sl.length) (ho : Own w' B 3 1 (.slice S.H.asl sl.length S.H.csl) sl.length (sl.map inV)) :
    MkO w' B b { S with H := { S.H with sl := sl } } :=
  ⟨by
    have h1 := blk_keep h.blk hk (by decide) hg
    have e : mkC { S with H := { S.H with sl := sl } } = mkC S := by unfold mkC; rw [show ({ S.H with sl := sl } : MH).sl.length = S.H.sl.length from hl]
    rw [e]; exact h1, h.ge,
   ⟨own_keep h.ma.fr hk (by decide) hg, ho, h.ma.sw.keep hk (by decide) (by decide) hg, h.ma.dk.keep hk (by decide) (by decide) hg, ⟨own_keep h.ma.st.own hk (by decide) hg, fun i p hp => (h.ma.st.each i p hp).grown hg (fun g' hg' e => by
      cases e
      unfold pfV at hg'
      rw [oB_eq] at hg'
      exact h.n2 p (List.mem_of_getElem? hp) _ hg' hga), h.ma.st.apart⟩, own_keep h.ma.ca hk (by decide) hg, own_keep h.ma.sp hk (by decide) hg, fun p hp => ⟨own_keep (h.ma.ps p hp).1 hk (by decide) hg, (h.ma.ps p hp).2.keep hk (by decide) hg⟩, h.ma.c64⟩,
   own_keep h.tt hk (by decide) hg, h.rd.keep h.ra h.bs hg hgB, h.ra, h.n1, h.n2, h.n3⟩
theorem MkO.putW {w w' : World} {B b : Nat} {S : MW} (h : MkO w B b S) {g : Nat} {cs : Array Value} (hk : Blk w g cs 50) (hgB : B ≤ g) (hga : oB S.H.wb = some g) (hg : w.grownBy w' (some g)) {l : List Page} (hl : l.length = S.H.sw.blocks.length) (ho : Own w' B 50 8 (.slice S.H.wb l.length S.H.cwb) l.length (l.flatMap pgL)) :
    MkO w' B b { S with H := { S.H with sw := ⟨l, S.H.sw.queue⟩ } } :=
  ⟨by
    have h1 := blk_keep h.blk hk (by decide) hg
    have e : mkC { S with H := { S.H with sw := ⟨l, S.H.sw.queue⟩ } } = mkC S := by unfold mkC; rw [show ({ S.H with sw := ⟨l, S.H.sw.queue⟩ } : MH).sw.blocks.length = S.H.sw.blocks.length from hl]
    rw [e]; exact h1, h.ge,
   ⟨own_keep h.ma.fr hk (by decide) hg, own_keep h.ma.sl hk (by decide) hg, ⟨ho, own_keep h.ma.sw.q hk (by decide) hg⟩, ⟨h.ma.dk.b.grown hg (fun g' hg' e => by
      cases e
      rw [oB_eq] at hg'
      exact h.n1 _ hga hg'), own_keep h.ma.dk.q hk (by decide) hg⟩, h.ma.st.keep hk (by decide) (by decide) hg, own_keep h.ma.ca hk (by decide) hg, own_keep h.ma.sp hk (by decide) hg, fun p hp => ⟨own_keep (h.ma.ps p hp).1 hk (by decide) hg, (h.ma.ps p hp).2.keep hk (by decide) hg⟩, h.ma.c64⟩,
   own_keep h.tt hk (by decide) hg, h.rd.keep h.ra h.bs hg hgB, h.ra, h.n1, h.n2, h.n3⟩
theorem MkO.setC {w w' : World} {B b:Nat} {S:MW} (h:MkO w B b S) {a:Option Addr} {c:Nat} {l:List Cc} (ho:Own w B 85 3 (.slice a l.length c) l.length (l.flatMap ccL)) (hb:Blk w' b (putAt (mkC S) 10 [.slice a l.length c]) 89) (hg:w.grownBy w' (some b)) :
  MkO w' B b { S with H:={ S.H with ac:=a,cc:=c,ca:=l } }:=
 ⟨hb,h.ge,{ h.ma.keep h.blk (by decide) hg with ca:=own_keep ho h.blk (by decide) hg },own_keep h.tt h.blk (by decide) hg,h.rd.keep h.ra h.bs hg h.ge,h.ra,h.n1,h.n2,h.n3⟩
theorem MkO.setT {w w' : World} {B b:Nat} {S:MW} (h:MkO w B b S) {a:Option Addr} {c:Nat} {T:List (List En)} (ho:Own w B 95 192 (.slice a T.length c) T.length (T.flatMap tL)) (hb:Blk w' b (putAt (mkC S) 12 [.slice a T.length c]) 89) (hg:w.grownBy w' (some b)) :
  MkO w' B b { S with ab:=a,cb:=c,T:=T }:=
 ⟨hb,h.ge,h.ma.keep h.blk (by decide) hg,own_keep ho h.blk (by decide) hg,h.rd.keep h.ra h.bs hg h.ge,h.ra,h.n1,h.n2,h.n3⟩
theorem KpO.rdM {w:World} {B b:Nat} {H:MH} {e:Int} (h:KpO w B b H e):RdV w (some ⟨b,0,none⟩) [.slice H.af H.m.fs.length H.cf,.int .i64 H.m.hand]:=blk_part h.blk 0 2
theorem run_idx {P:Program} {ρ:Operand → Value} {o:Oper} {w:World} {t e:TypeId} {x y:Operand} {b off n c i sz:Nat} {k:IntKind} (ho:o.op = .indexAddr t x y) (hx:ρ x = .slice (some ⟨b,off,none⟩) n c) (hy:ρ y = .int k (i:Int)) (hi:i < n)
  (hu:P.underlying t = some (.slice e)) (hs:(P.info? e).map (·.size) = some sz):(execOp ρ o).run P w = .ok (.value (.pointer (some ⟨b,off + i * sz,none⟩))) w:=by
 obtain ⟨inf,hinf,hsz⟩:∃ inf,P.info? e = some inf ∧ inf.size = sz:=by
  cases h:P.info? e with
  | none=>rw [h] at hs; cases hs
  | some inf=>rw [h] at hs; exact ⟨inf,rfl,by simpa using hs⟩
 have hso:(Go.sizeOf e).run P w = .ok sz w:=by simp [Go.sizeOf,typeInfo,hinf,go_sem,hsz]
 simp [execOp,go_sem,ho,hx,hy,hu,hso,hi]
theorem rdv_part {w:World} {b o:Nat} {vs:List Value} (h:RdV w (some ⟨b,o,none⟩) vs) (d n:Nat):RdV w (some ⟨b,o + d,none⟩) ((vs.drop d).take n):=by
 intro i u hi
 rw [List.getElem?_take] at hi
 split at hi
 ·rw [List.getElem?_drop] at hi
  obtain ⟨b',o',e,hc⟩:=h (d + i) u hi
  cases e
  exact ⟨_,_,rfl,by rw [Nat.add_assoc]; exact hc⟩
 ·cases hi
theorem putAt_skip {cur:Array Value} {o:Nat} {v:Value} (r:List Value) (h:cur[o]? = some v):putAt cur o (v :: r) = putAt cur (o + 1) r:=by
 have:cur.setIfInBounds o v = cur:=by
  apply Array.ext_getElem?
  intro i
  rw [Array.getElem?_setIfInBounds]
  by_cases e:o = i
  ·subst e
   rw [if_pos rfl,if_pos (Array.getElem?_eq_some_iff.1 h).1,h]
  ·rw [if_neg e]
 show putAt (cur.setIfInBounds o v) (o + 1) r = _
 rw [this]
theorem own_cells {w:World} {B:Nat} {e:TypeId} {sz n off c g:Nat} {xs:List Value} {cur:Array Value} (h:Own w B e sz (.slice (some ⟨g,off,none⟩) n c) n xs) (hb:Blk w g cur e):∀ j u,xs[j]? = some u → cur[off + j]? = some u:=by
 rcases h.2 with ⟨h1,_⟩ | ⟨g',off',cap',cur',hv,_,hk,_,_,_,ht⟩
 ·cases h1
 ·cases hv
  have:cur = cur':=by
   unfold Blk at hb hk
   rw [hb] at hk
   simpa using hk
  subst this
  exact ht
theorem KpO.setT {w:World} {B b:Nat} {H:MH} {e:Int} (h:KpO w B b H e) {p:Nat} {P:PS} (hP:H.sp[p]? = some P) :
  ∃ g off cur,H.ap = some ⟨g,off,none⟩ ∧ B ≤ g ∧ Blk w g cur 65 ∧ off + p * 10 + 2 + 8 ≤ cur.size ∧ RdV w (some ⟨g,off + p * 10,none⟩) (psL P) ∧
   ∀ (w' : World) (v:Vector Value 8) (t:Tb),TbO w B (tsC v) t → TbSz t → Blk w' g (putAt cur (off + p * 10 + 2) (tsC v).toList) 65 → w.grownBy w' (some g) → KpO w' B b { H with sp:=H.sp.set p { P with ts:=v,tb:=t } } e:=by
 have hp:=(List.getElem?_eq_some_iff.1 hP).1
 have hPe:=(List.getElem?_eq_some_iff.1 hP).2
 obtain ⟨g,off,cap,cur,hv,hB,hblk,hfit,hset⟩:=own_putn psL_len (by decide) rfl h.ma.sp p hp
 simp only [Value.slice.injEq] at hv
 obtain ⟨hap,_,hcp⟩:=hv
 have hsp:=h.ma.sp
 rw [hap] at hsp
 have hcell:=own_cells hsp hblk
 have hat:∀ j u,(psL P)[j]? = some u → cur[off + p * 10 + j]? = some u:=fun j u hj=>by
  rw [Nat.add_assoc]
  exact hcell _ _ (flat_get psL 10 psL_len H.sp p hp j u (by rw [hPe]; exact hj))
 refine ⟨g,off,cur,hap,hB,hblk,by omega,fun j u hj=>⟨g,_,rfl,by rw [hblk.cell]; exact hat j u hj⟩,fun w' v t ht htz hb hg => ?_⟩
 have e1:putAt cur (off + p * 10) (psL { P with ts:=v,tb:=t }) = putAt cur (off + p * 10 + 2) (tsC v).toList:=by
  show putAt cur (off + p * 10) (.bool P.lv :: .slice P.aa P.ar.length P.ac :: (tsC v).toList) = _
  rw [putAt_skip _ (by simpa using hat 0 _ rfl),putAt_skip _ (hat 1 _ rfl)]
 rw [← e1] at hb
 have hlen:(H.sp.set p { P with ts:=v,tb:=t }).length = H.sp.length:=List.length_set
 have hbk:b ≠ g:=fun e=>by
  have h1:=h.blk
  subst e
  unfold Blk at h1 hblk
  rw [h1] at hblk
  simp only [Option.some.injEq,Obj.cells.injEq] at hblk
  exact absurd hblk.2.1 (by decide)
 refine ⟨?_,h.ge,⟨own_keep h.ma.fr hblk (by decide) hg,own_keep h.ma.sl hblk (by decide) hg,h.ma.sw.keep hblk (by decide) (by decide) hg,h.ma.dk.keep hblk (by decide) (by decide) hg,h.ma.st.keep hblk (by decide) (by decide) hg,own_keep h.ma.ca hblk (by decide) hg,?_,fun q hq => ?_,h.ma.c64⟩,fun q hq => ?_⟩
 ·have:kpC { H with sp:=H.sp.set p { P with ts:=v,tb:=t } } e = kpC H e:=by unfold kpC; simp only [hlen]
  rw [this]
  exact h.blk.grown hg (fun e=>hbk (Option.some.inj e).symm)
 ·simp only [hlen]
  exact hset w' _ hb
 ·rcases List.mem_or_eq_of_mem_set hq with hq | rfl
  ·exact ⟨own_keep (h.ma.ps q hq).1 hblk (by decide) hg,(h.ma.ps q hq).2.keep hblk (by decide) hg⟩
  ·exact ⟨own_keep (h.ma.ps P (List.mem_of_getElem? hP)).1 hblk (by decide) hg,ht.keep hblk (by decide) hg⟩
 ·rcases List.mem_or_eq_of_mem_set hq with hq | rfl
  ·exact h.tz q hq
  ·exact htz
theorem spN_H {H:MH} {p:Nat} {P:PS} (hP:H.sp[p]? = some P):spN H.ma p = P.sp:=by
 unfold spN MH.ma
 simp only
 rw [List.getD_eq_getElem?_getD,List.getElem?_map,hP]; rfl
theorem setTb_H {H:MH} {p:Nat} {P:PS} (hP:H.sp[p]? = some P) (v:Vector Value 8) (t:Tb):MH.ma { H with sp:=H.sp.set p { P with ts:=v,tb:=t } } = setTb H.ma p t:=by
 unfold setTb
 rw [spN_H hP]
 unfold MH.ma
 simp only [List.map_set]
 rfl
theorem ts_one {w:World} {v:Vector Value 8} {t:Tb} (h:TbR w (tsC v) t):∀ u ∈ (tsC v).toList,u.oneCell' = true:=by
 have:=h.one
 rw [← Array.all_toList,List.all_eq_true] at this
 exact this
def tabO (B:Nat) (t:Tb):Rel:=⟨fun v w => ∃ cs,v = .agg cs ∧ TbO w B cs t,fun _ _ _ hb ⟨cs,h1,h2⟩=>⟨cs,h1,h2.below hb⟩⟩
theorem slots_size:(Try.prog.info? 29).map (·.size) = some 1:=by kernel_rfl
theorem KpO.at {w:World} {B b:Nat} {H:MH} {e:Int} (h:KpO w B b H e) {p:Nat} {P:PS} (hP:H.sp[p]? = some P):∃ g off,H.ap = some ⟨g,off,none⟩ ∧ RdV w (some ⟨g,off + p * 10,none⟩) (psL P) ∧ RdV w (some ⟨g,off + p * 10 + 2,none⟩) (tsC P.ts).toList ∧ P.good w:=by
 have hp:=(List.getElem?_eq_some_iff.1 hP).1
 obtain ⟨g,off,P',ha,hP',hr⟩:=ps_at h.ma.rd.sp.rd p hp
 rw [hP] at hP'
 cases hP'
 exact ⟨g,off,ha,hr,rdv_part hr 2 8,h.ma.rd.ps P (List.mem_of_getElem? hP)⟩
theorem KR.trans {w0 w1 w2:World} {B b:Nat} {H0 H1:MH} {k:Kp} (h:KS w0 b H0 w1 H1) (k2:KR w1 B b H1 w2 k):KR w0 B b H0 w2 k:=by
 obtain ⟨H2,e2,h1,h2,h3⟩:=k2
 exact ⟨H2,e2,h1,h.trans h2,h3⟩
def MW.lst (S:MW) (a:Option Addr) (c:Nat) (l:List UInt8):MW:={ S with al:=a,cl:=c,l:=l }
theorem lst_two (S:MW) (a a' : Option Addr) (c c' : Nat) (l l' : List UInt8):(S.lst a c l).lst a' c' l' = S.lst a' c' l':=rfl
theorem byte_elem {w:World} {a:Option Addr} {x:UInt8} {l:List UInt8} (h:RdV w a ((x :: l).map byV)):∃ b o,a = some ⟨b,o,none⟩ ∧ w.cell? ⟨b,o,none⟩ = some (byV x) ∧ RdV w (some ⟨b,o + 1,none⟩) (l.map byV):=by
 obtain ⟨b,o,rfl,hc⟩:=h.at (by simp)
 exact ⟨b,o,rfl,hc 0 _ rfl,fun i u hi=>⟨b,o + 1,rfl,by
  have:=hc (i + 1) u (by simpa using hi)
  rw [show o + 1 + i = o + (i + 1) by omega]; exact this⟩⟩
theorem MkO.locT {w w' : World} {B b:Nat} {S:MW} (h:MkO w B b S) {g:Nat} {cs:Array Value} {T:TypeId} (hk:Blk w g cs T) (hT:T ≠ 3 ∧ T ≠ 69 ∧ T ≠ 67) (hn:¬ kbM b S g) (hgB:B ≤ g) (hg:w.grownBy w' (some g)):MkO w' B b S:=by
 have hne:∀ {a:Option Addr},oB a ∈ klM S → ∀ n c g',(Value.slice a n c).ownBlock = some g' → some g ≠ some g':=fun hm n c g' he e=>by
  cases e
  rw [oB_eq] at he
  exact hn (.inr (by rw [← he]; exact hm))
 have m:∀ {x:Option Nat} {l:List (Option Nat)},x ∈ x :: l:=List.mem_cons_self
 refine ⟨h.blk.grown hg (fun e=>hn (.inl (Option.some.inj e))),h.ge,⟨h.ma.fr.grown hg (hne (by simp [klM]) _ _),h.ma.sl.grown hg (hne (by simp [klM]) _ _),⟨h.ma.sw.b.grown hg (hne (by simp [klM]) _ _),h.ma.sw.q.grown hg (fun g' he=>by rw [h.n3] at he; cases he)⟩,⟨h.ma.dk.b.grown hg (hne (by simp [klM]) _ _),h.ma.dk.q.grown hg (hne (by simp [klM]) _ _)⟩,
  ⟨h.ma.st.own.grown hg (hne (by simp [klM]) _ _),fun i p hp=>own_keep (h.ma.st.each i p hp) hk hT.1 hg,h.ma.st.apart⟩,h.ma.ca.grown hg (hne (by simp [klM]) _ _),h.ma.sp.grown hg (hne (by simp [klM]) _ _),fun p hp=>⟨own_keep (h.ma.ps p hp).1 hk hT.2.1 hg,(h.ma.ps p hp).2.keep hk hT.2.2 hg⟩,h.ma.c64⟩,
  h.tt.grown hg (hne (by simp [klM]) _ _),h.rd.keep h.ra h.bs hg hgB,h.ra,h.n1,h.n2,h.n3⟩
def PickR (S:MW) (n:Int) (B b:Nat) (w:World) (r:Ending) (w' : World):Prop:=∃ x a c l,r = .returned (.int .i64 x) ∧ MkO w' B b (S.lst a c l) ∧ MS w b S w' (S.lst a c l) ∧ (0 ≤ x ∧ x < 256 ∧ (x < n ∨ x = 0)) ∧ (S.l = [] → x = 0 ∧ l = [])
theorem rpick_any (S:MW) (n:Int) (B b:Nat) (w:World) (h:MkO w B b S) (hn : -9223372036854775808 ≤ n ∧ n ≤ 9223372036854775807) :
  Calls Try.prog 28 #[.pointer (some ⟨b,0,none⟩),.int .i64 n] w (PickR S n B b w):=by
 obtain ⟨al,cl,l,H,ab,cb,T⟩:=S
 have hr:SlR w al cl l.length (l.map byV):=h.rd
 have hra:∀ a,al = some a → l.map byV ≠ [] → a.block < B:=h.ra
 have hc:=h.blk.cell
 unfold mkC at hc
 dsimp only at hc
 have h':=Lib.hid h
 have hra':=Lib.hid hra
 go_enter Try.func28,Try.ntmps28
 cases l with
 | nil=>
  clear h hr hra
  go_wp2
  go_ret
  exact ⟨0,al,cl,[],rfl,h'.out,MS.refl _ _ _,by omega,fun _=>⟨rfl,rfl⟩⟩
 | cons x l=>
  obtain ⟨bl,ol,rfl,hcb,hrd⟩:=byte_elem hr.rd
  have hrl:l.length + 1 ≤ cl:=by have:=hr.le; simpa using this
  have hrm:=Lib.hid hr.mx
  have hrd':=Lib.hid hrd
  have hblk:=h.blk
  clear h hr hra hrd
  unfold byV at hcb
  by_cases hn1:n < 1
  ·go_wp2
   go_ret
   exact ⟨0,_,cl,x :: l,rfl,h'.out,MS.refl _ _ _,by omega,fun e=>(by cases e)⟩
  ·have hl1:(1:Int) ≤ ((l.length + 1:Nat):Int):=by omega
   have h1:=Lib.hid x.toNat_lt
   have hx0:Hid ((0:Int) ≤ (x.toNat:Int) % n ∧ (x.toNat:Int) % n < 256 ∧ ((x.toNat:Int) % n < n ∨ (x.toNat:Int) % n = 0)):=Lib.hid (by
    have h3:=Int.emod_nonneg (x.toNat:Int) (show n ≠ 0 by omega)
    have h4:=Int.emod_lt_of_pos (x.toNat:Int) (show (0:Int) < n by omega)
    have h6:(x.toNat:Int) % n ≤ (x.toNat:Int):=by
     obtain ⟨N,rfl⟩:=Int.eq_ofNat_of_zero_le (show 0 ≤ n by omega)
     rw [← Int.natCast_emod]
     have:=Nat.mod_le x.toNat N
     omega
    have:=h1.out
    omega)
   have hxw:IntKind.i64.wrap (x.toNat:Int) = (x.toNat:Int):=IntWalk.i64_in _ (by have:=h1.out; omega)
   by_cases hcl:cl = 1
   ·subst hcl
    obtain rfl:l = []:=List.length_eq_zero_iff.1 (by omega)
    go_wp2_with (refine wpList_stv rfl _ _ _ rfl b 0 _ [.slice (some ⟨bl,ol,none⟩) 0 0] rfl rfl rfl _ _ hblk (by show 0 + 1 ≤ 13; omega) (by kernel_rfl) (fun u hu=>by cases List.mem_singleton.1 hu; rfl) ?_)
    intro w1 hb1 hg1
    clear hc hcb
    go_wp2
    go_ret
    have hs:SlR w (some ⟨bl,ol,none⟩) 0 0 (([]:List UInt8).map byV):=⟨Nat.le_refl _,Nat.zero_le _,fun e=>(by cases e),RdV.nil⟩
    exact ⟨_,some ⟨bl,ol,none⟩,0,[],rfl,h'.out.putL hs (fun a e _=>by cases e; exact hra'.out _ rfl (by simp)) hb1 hg1,(MS.refl w b _).put hg1 (.inl rfl) fun x hx => .inl hx,hx0.out,fun e=>(by cases e)⟩
   ·go_wp2_with (refine wpList_stv rfl _ _ _ rfl b 0 _ [.slice (some ⟨bl,ol + 1,none⟩) l.length (cl - 1)] rfl rfl rfl _ _ hblk (by show 0 + 1 ≤ 13; omega) (by kernel_rfl) (fun u hu=>by cases List.mem_singleton.1 hu; rfl) ?_)
    intro w1 hb1 hg1
    clear hc hcb
    go_wp2
    go_ret
    have hs:SlR w (some ⟨bl,ol + 1,none⟩) (cl - 1) l.length (l.map byV):=⟨by omega,by have:=hrm.out; omega,fun e=>(by cases e),hrd'.out⟩
    exact ⟨_,some ⟨bl,ol + 1,none⟩,cl - 1,l,rfl,h'.out.putL hs (fun a e _=>by cases e; exact hra'.out ⟨bl,ol,none⟩ rfl (by simp)) hb1 hg1,(MS.refl w b _).put hg1 (.inl rfl) fun x hx => .inl hx,hx0.out,fun e=>(by cases e)⟩
def PageR (S:MW) (B b:Nat) (w:World) (r:Ending) (w' : World):Prop:=∃ P a c l,r = .returned (.agg (pgC P)) ∧ MkO w' B b (S.lst a c l) ∧ MS w b S w' (S.lst a c l)
theorem rpage_any (S:MW) (B b:Nat) (w:World) (h:MkO w B b S) :
  Calls Try.prog 31 #[.pointer (some ⟨b,0,none⟩)] w (PageR S B b w):=by
 have hBs:=Lib.hid h.bs
 go_enter Try.func31,Try.ntmps31
 go_upto_region 3 with (fail)
 refine abs2 (fun W=>Code.wp _ _ _ _ W) fun w1 hb1 bx1 rx1 hs1 => ?_
 have h1:=h.below hb1
 have s1:=(MS.refl w b S).below hb1
 have hn0:=Lib.hid (h.new (Nat.le_refl _))
 have hn1:=Lib.hid (h.new (Nat.le_succ _))
 clear h
 go_loopw [5] (fun k wr => ∃ (q:Nat) (P:Page) (a:Option Addr) (c:Nat) (l:List UInt8),q ≤ 8 ∧ k = .int .i64 q ∧ MkO wr B b (S.lst a c l) ∧ MS w b S wr (S.lst a c l) ∧ Blk wr w.heap.size (pgC zPg) 50 ∧ Blk wr (w.heap.size + 1) (pgC P) 50) (fun k _=>8 - (intOf k).toNat)
 case atStart=>exact ⟨0,zPg,S.al,S.cl,S.l,Nat.zero_le _,rfl,h1,s1,bx1,rx1⟩
 case round=>
  clear h1 s1 bx1 rx1 hb1 hs1
  obtain ⟨q,P,a,c,l,hq,rfl,hm,hs,bx,rx⟩:=hrel
  have hsz:w.heap.size + 2 ≤ wr.heap.size:=rx.lt
  by_cases hq8:q < 8
  ·have hqi:(q:Int) < 8:=by omega
   go_wp2_with fail
   refine (rpick_any _ 4 B b _ hm (by omega)).mono ?_
   rintro r w2 ⟨x,a2,c2,l2,rfl,hm2,hs2,hx,_⟩
   rw [lst_two] at hm2 hs2
   have bx2:=hs2.blkN bx hn0.out
   have rx2:=hs2.blkN rx hn1.out
   have hst:=hs.trans hs2
   obtain ⟨x,rfl⟩:∃ y:UInt8,x = (y.toNat:Int):=⟨UInt8.ofNat x.toNat,by rw [UInt8.toNat_ofNat']; omega⟩
   have hx2:((x.toNat:Nat):Int) < 256:=hx.2.1
   clear hm hs bx rx hs2 hx
   go_wp2_with (refine wpList_stv rfl _ _ _ rfl (w.heap.size + 1) q _ [.int .u8 x.toNat] rfl rfl rfl _ _ rx2 (by show q + 1 ≤ 8; omega) (by kernel_rfl) (fun u hu=>by cases List.mem_singleton.1 hu; rfl) ?_)
   intro w3 rx3 hg3
   rw [putAt_one,pgC_set _ q hq8] at rx3
   have hm3:=hm2.locT rx2 (by decide) hn1.out (by have:=hBs.out; omega) hg3
   have hs3:=hst.loc hg3 (Nat.le_succ _)
   have bx3:=bx2.grown hg3 (fun e=>by have:=Option.some.inj e; omega)
   clear hm2 hst bx2 rx2 hg3
   go_wp2
   go_roundw
   case rel=>exact ⟨q + 1,_,a2,c2,l2,by omega,by go_num,hm3,hs3,bx3,rx3⟩
   case measure=>simp [intOf]; omega
  ·have hqi:¬ (q:Int) < 8:=by omega
   go_wp2_with (first | (refine wpList_ldg _ _ rfl (w.heap.size + 1) 0 rfl rfl _ rx.rd _ Try.underlying50 rfl psize ?_) | (refine wpList_stw rfl _ _ _ rfl w.heap.size (pgC P) rfl rfl _ _ bx rfl psize (pgC_one _) ?_))
   intro w3 bx3 hg3
   go_wp2
   refine bodyPost_ret (v:=.agg (pgC P)) (results_c Try.results31 _ _ w.heap.size _ _ _ rfl bx3 Try.underlying50 rfl psize) rfl ?_
   exact ⟨P,a,c,l,rfl,hm.locT bx (by decide) hn0.out (by have:=hBs.out; omega) hg3,hs.loc hg3 (Nat.le_refl _)⟩
def MW.frs (S:MW) (fs:List Fr):MW:={ S with H:={ S.H with m:=⟨fs,S.H.m.hand⟩ } }
def FrameR (S:MW) (f:Fr) (B b:Nat) (w:World) (r:Ending) (w' : World):Prop:=∃ x a c l fs,r = .returned (.int .i64 x) ∧ MkO w' B b ((S.lst a c l).frs fs) ∧ MS w b S w' ((S.lst a c l).frs fs) ∧
   ((x = -1 ∧ fs = S.H.m.fs) ∨ ∃ j:Nat,x = j ∧ j < S.H.m.fs.length ∧ (frN S.H.ma j).r = 0 ∧ fs = S.H.m.fs.set j f)
theorem rframe_any (S:MW) (f:Fr) (B b:Nat) (w:World) (h:MkO w B b S) (hz:S.H.m.fs.length ≤ 1000) :
  Calls Try.prog 108 #[.pointer (some ⟨b,0,none⟩),.agg (frC f)] w (FrameR S f B b w):=by
 go_enter Try.func108,Try.ntmps108
 go_upto_region 1 with (fail)
 refine abs1 (fun W=>Code.wp _ _ _ _ W) fun w1 hb1 bx1 hs1 => ?_
 have h1:=h.below hb1
 have s1:=(MS.refl w b S).below hb1
 have hn0:=Lib.hid (h.new (Nat.le_refl _))
 have hBs:=Lib.hid h.bs
 have hc:=h1.blk.cell
 unfold mkC at hc
 clear h hb1
 go_wp2_with fail
 refine (rpick_any _ _ B b _ h1 (by omega)).mono ?_
 rintro r w2 ⟨x,a2,c2,l2,rfl,hm2,hs2,hx,_⟩
 have bx2:=hs2.blkN bx1 hn0.out
 have hst:=s1.trans hs2
 clear h1 s1 hc hs2 bx1 hs1
 go_upto_region 4 with (fail)
 generalize hnn:S.H.m.fs.length = n at *
 go_loopw [20] (fun k wr => ∃ q:Nat,q ≤ n ∧ k = .int .i64 q ∧ wr = w2) (fun k _=>n - (intOf k).toNat)
 case atStart=>exact ⟨0,Nat.zero_le _,rfl,rfl⟩
 case round=>
  obtain ⟨q,hq,rfl,rfl⟩:=hrel
  have hc:=hm2.blk.cell
  unfold mkC at hc
  dsimp only [MW.lst] at hc
  rw [hnn] at hc
  by_cases hqn:q < n
  ·have hqi:(q:Int) < (n:Int):=by omega
   obtain ⟨X,rfl⟩:=Int.eq_ofNat_of_zero_le hx.1
   have hx1:(X:Int) < 256:=hx.2.1
   obtain ⟨j,hjn,hj⟩:∃ j:Nat,j < n ∧ ((X:Int) + (q:Int)) % (n:Int) = j:=⟨(X + q) % n,Nat.mod_lt _ (by omega),by rw [← Int.natCast_add,← Int.natCast_emod]⟩
   have hji:(j:Int) < (n:Int):=by omega
   obtain ⟨g,off,cap,cur,hv,hgB,hg,hgs,hgc,hgw⟩:=hm2.ma.fr.put frL_len (by decide) j (by show j < S.H.m.fs.length; omega)
   have haf:S.H.af = some ⟨g,off,none⟩:=(Value.slice.inj hv).1
   rw [haf] at hc
   have c8:wr.cell? ⟨g,off + j * 13 + 8,none⟩ = some (.int .i64 (S.H.m.fs[j]'(by omega)).r):=hgc 8 _ rfl
   have hfj:Hid (frN S.H.ma j = S.H.m.fs[j]'(by omega)):=Lib.hid (by
    unfold frN
    show S.H.m.fs.getD j fr0 = _
    rw [List.getD_eq_getElem?_getD,List.getElem?_eq_getElem (by omega)]; rfl)
   clear hv
   have hgw':=Lib.hid hgw
   have hgc':=Lib.hid hgc
   clear hgw hgc
   generalize S.H.m.fs[j]'(by omega) = Y at c8 hfj
   by_cases hr:Y.r = 0
   ·rw [hr] at c8
    have hne:g ≠ w.heap.size:=fun e=>hn0.out (.inr (by rw [← e]; simp [klM,haf,oB]; left; rfl))
    go_upto_region 8 with (fail)
    refine wp_growP 9 [_,_,_,_,_,_,.v (.int .i64 (j:Int)),_,_] (Gk rfl (Gk rfl (Gf b 1 rfl rfl (Gf b 1 rfl rfl (Gf b 1 rfl rfl (Gl hm2.blk (V:=.slice (some ⟨g,off,none⟩) n S.H.cf) (by simp [mkC,MW.lst,haf,hnn]) rfl rfl rfl rfl (all_cons ?_ (Gr (.agg #[.int .u8 f.p[0].toNat,.int .u8 f.p[1].toNat,.int .u8 f.p[2].toNat,.int .u8 f.p[3].toNat,.int .u8 f.p[4].toNat,.int .u8 f.p[5].toNat,.int .u8 f.p[6].toNat,.int .u8 f.p[7].toNat,.int .i64 f.r,.bool f.u,.bool f.d,.int .i64 f.f,.int .i64 f.i]) (fun ρ y W hb hk=>(run_load_rd rfl (kx_at rfl hk) (blk_part (bx2.ext hb) 0 13) Try.underlying59 rfl (by kernel_rfl))) rfl rfl (Gr (.pointer (some ⟨g,off + j * 13,none⟩)) (fun ρ y W hb hk=>(run_idx rfl (kx_at rfl hk) (kx_at rfl hk) hjn Try.underlying25 frame_size)) rfl rfl (all_nil)))))))))) (fun _=>rfl) rfl ?_
    ·intro ρ y W hw hn hb hd; have E8:ρ (.tmp 8) = .int .i64 (j:Int):=(hn (.tmp 8) rfl).trans (by show Value.int IntKind.i64 (((X:Int) + (q:Int)) % (n:Int)) = _; rw [hj])
     refine asked_val (.int .i64 (j:Int)) (want_free rfl) (run_move (.inl rfl) E8) rfl
    intro y W3 hbW3 _
    have hm3:=hm2.below hbW3
    have hg3:=hg.ext hbW3
    have hs3:=hst.below hbW3
    clear hm2 bx2 hst hbW3 hg hc c8
    go_wp2_with (refine wpList_stv rfl _ _ _ rfl g (off + j * 13) _ (frL f) rfl rfl rfl _ _ hg3 (by rw [frL_len]; exact hgs) (by kernel_rfl) (one_toList (frC_one f)) ?_)
    intro w4 h4 hg4
    have ho4:=hgw'.out _ f h4
    have hm4:=hm3.putF hg3 hgB hg4 (fs:=S.H.m.fs.set j f) (by simp [MW.lst]) (by simpa [MW.lst] using ho4)
    have hs4:=hs3.put hg4 (H':=(S.lst a2 c2 l2).frs (S.H.m.fs.set j f)) (.inr (by simp [klM,MW.lst,haf,oB]; left; rfl)) (fun x hx => .inl hx)
    clear hm3 hs3 hg3 hg4 h4 ho4
    go_wp2
    go_ret
    exact ⟨j,a2,c2,l2,_,rfl,hm4,hs4,.inr ⟨j,rfl,by omega,by rw [hfj.out]; exact hr,rfl⟩⟩
   ·go_wp2
    go_roundw
    case rel=>exact ⟨q + 1,by omega,by go_num,by first | rfl | trivial⟩
    case measure=>simp [intOf]; omega
  ·have hqi:¬ (q:Int) < (n:Int):=by omega
   go_wp2
   go_ret
   exact ⟨-1,a2,c2,l2,S.H.m.fs,rfl,hm2,hst,.inl ⟨rfl,rfl⟩⟩
theorem rread_any (d:Dsk) (k:Int) (ab:Option Addr) (cb:Nat) (aq:Option Addr) (cq:Nat) (w:World) (h:DRd w ab cb aq cq d) :
  Calls Try.prog 97 #[.agg #[.slice ab d.blocks.length cb,.slice aq d.queue.length cq],.int .i64 k] w fun e w'=>e = .returned (.tuple #[.agg (pgC (readP d k)),.int .i64 (wrong_or d k)]) ∧ Below w.heap.size w w':=by
 go_enter Try.func97,Try.ntmps97
 go_wp2_with fail
 refine abs2 (fun W=>Calls _ _ _ W _) fun W0 hb0 hx0 hr0 hs0 => ?_
 refine (rdwrong_any d ab cb aq cq _ (h.below hb0)).mono ?_
 rintro e w1 ⟨rfl,hb1⟩
 have hbel1:=below_next hb0 hb1
 have hx1:=hx0.ext hb1
 have hres1:=hr0.ext hb1
 have h1:=h.below hbel1
 clear hx0 hr0 hb1 hb0 hs0
 have lq:=Nat.le_trans h1.lq h1.mq
 unfold maxLen at lq
 have hc1:=hx1.cell
 by_cases hw:wrongD d = 0
 ·rw [hw]
  by_cases hk:k < 0 ∨ (d.blocks.length:Int) ≤ k
  ·have q1:wrong_or d k = 3:=by unfold wrong_or; rw [if_neg (by omega),if_pos hk]
   have q2:pgC (readP d k) = #[.int .u8 0,.int .u8 0,.int .u8 0,.int .u8 0,.int .u8 0,.int .u8 0,.int .u8 0,.int .u8 0]:=by unfold readP; rw [q1]; rfl
   rcases hk with hk | hk
   all_goals
    go_wp2_with (refine wpList_stw rfl _ (.tmp 4) (.tmp 25) rfl (w.heap.size + 1) #[.int .u8 0,.int .u8 0,.int .u8 0,.int .u8 0,.int .u8 0,.int .u8 0,.int .u8 0,.int .u8 0] rfl rfl _ _ hres1 zz_fit zz_info zz_one ?_)
    all_goals
     intro w2 hr2 hgr
     have hbel2:=hbel1.grown hgr hbel1.size (fun k hk=>by cases hk; omega)
     have hcr:=hr2.cell
     go_wp2
     simp [bodyPost,results,go_sem,Try.results97,hcr,q1,q2]
     exact hbel2
  ·obtain ⟨k,rfl⟩:=Int.eq_ofNat_of_zero_le (show 0 ≤ k by omega)
   have hkl:k < d.blocks.length:=by omega
   have k1:¬ (d.blocks.length:Int) ≤ (k:Int):=by omega
   have kz:(k:Int) < (d.blocks.length:Int):=by omega
   have q1:wrong_or d k = 0:=by unfold wrong_or; rw [if_neg (by omega),if_neg hk]
   have q2:readP d k = over k d.blocks[k] d.queue:=by unfold readP; rw [q1,if_pos rfl]; simp [hkl]
   have Q:=Lib.hid (And.intro q1 q2)
   have hgx:w.heap.size + 2 ≤ w1.heap.size:=by have:=hres1.lt; omega
   clear hk q1 q2
   have hd:decide (d.blocks.length ≤ k) = false:=by simp; omega
   obtain ⟨b,off,rfl,hc⟩:=page_at h1.rb k hkl
   have c0:=hc 0 (by decide); have c1:=hc 1 (by decide); have c2:=hc 2 (by decide); have c3:=hc 3 (by decide)
   have c4:=hc 4 (by decide); have c5:=hc 5 (by decide); have c6:=hc 6 (by decide); have c7:=hc 7 (by decide)
   simp only [pgC,List.getElem?_toArray,List.getElem?_cons_zero,List.getElem?_cons_succ,Nat.add_zero] at c0 c1 c2 c3 c4 c5 c6 c7
   clear hc
   go_upto_region 7 with (fail)
   refine abs1 (fun W=>Code.wp _ _ _ _ W) fun w2 hb2 hp2 hs2 => ?_
   have hbel2:=below_next hbel1 hb2
   have hx2:=hx1.ext hb2
   have hres2:=hres1.ext hb2
   have hp2' : Blk w2 w1.heap.size (pgC d.blocks[k]) 50:=hp2
   clear hbel1 hx1 hres1 h1 hb2 hp2 hs2 hc1 c0 c1 c2 c3 c4 c5 c6 c7
   have hc2:=hx2.cell
   go_wp2
   clear hc2 hx2
   go_loopw [34] (fun i wr => ∃ j:Nat,j ≤ d.queue.length ∧ i = .int .i64 j ∧ Below w.heap.size w wr ∧ Blk wr (w.heap.size + 1) #[.int .u8 0,.int .u8 0,.int .u8 0,.int .u8 0,.int .u8 0,.int .u8 0,.int .u8 0,.int .u8 0] 50 ∧ Blk wr w1.heap.size (pgC (over k d.blocks[k] (d.queue.take j))) 50) (fun i _=>d.queue.length - (intOf i).toNat)
   case atStart=>exact ⟨0,Nat.zero_le _,rfl,hbel2,hres2,hp2'⟩
   case round=>
    clear hbel2 hres2 hp2'
    obtain ⟨j,hj,rfl,hbel,hres,hp⟩:=hrel
    by_cases hlt:j < d.queue.length
    ·obtain ⟨b',off',rfl,hc⟩:=put_at (h.below hbel).rq j hlt
     have c0:=hc 0 (by decide); have c1:=hc 1 (by decide); have c2:=hc 2 (by decide); have c3:=hc 3 (by decide); have c4:=hc 4 (by decide)
     have c5:=hc 5 (by decide); have c6:=hc 6 (by decide); have c7:=hc 7 (by decide); have c8:=hc 8 (by decide)
     simp only [puC,List.getElem?_toArray,List.getElem?_cons_zero,List.getElem?_cons_succ,Nat.add_zero] at c0 c1 c2 c3 c4 c5 c6 c7 c8
     clear hc
     have hot:=Lib.hid (over_take (k:Int) d.blocks[k] d.queue j hlt)
     by_cases he:d.queue[j].1 = (k:Int)
     ·have hot' : Hid (over (k:Int) d.blocks[k] (d.queue.take (j + 1)) = d.queue[j].2):=by have:=hot.out; rw [if_pos he] at this; exact this
      rw [he] at c0
      clear hot he
      have hpa:=hp.alloc (.cells #[.int .i64 k,.int .u8 d.queue[j].2[0].toNat,.int .u8 d.queue[j].2[1].toNat,.int .u8 d.queue[j].2[2].toNat,.int .u8 d.queue[j].2[3].toNat,.int .u8 d.queue[j].2[4].toNat,.int .u8 d.queue[j].2[5].toNat,.int .u8 d.queue[j].2[6].toNat,.int .u8 d.queue[j].2[7].toNat] 93)
      go_wp2_with (refine wpList_stw rfl _ (.tmp 7) (.tmp 43) rfl w1.heap.size (pgC d.queue[j].2) rfl rfl _ _ hpa (pg_fit2 _ _) (pg_info _) (pgC_one _) ?_)
      intro w4 hp4 hgr
      have hbel4:=(hbel.alloc hbel.size _).grown hgr (le_alloc' hbel.size _) (fun k hk=>by cases hk; omega)
      have hres4:=(hres.alloc _).grown hgr (fun he=>by have:=Option.some.inj he; omega)
      clear hpa hp hbel hres hgr c0 c1 c2 c3 c4 c5 c6 c7 c8
      go_wp2
      go_roundw
      case rel=>exact ⟨j + 1,by omega,by go_num,hbel4,hres4,by rw [hot'.out]; exact hp4⟩
      case measure=>simp [intOf]; omega
     ·have hot' : Hid (over (k:Int) d.blocks[k] (d.queue.take (j + 1)) = over (k:Int) d.blocks[k] (d.queue.take j)):=by have:=hot.out; rw [if_neg he] at this; exact this
      have hne:(d.queue[j].1 == (k:Int)) = false:=by simpa using he
      clear hot he
      go_wp2
      go_roundw
      case rel=>exact ⟨j + 1,by omega,by go_num,hbel.alloc hbel.size _,hres.alloc _,by rw [hot'.out]; exact hp.alloc _⟩
      case measure=>simp [intOf]; omega
    ·rw [List.take_of_length_le (show d.queue.length ≤ j by omega)] at hp
     have hq2:=Q.out.2
     rw [← hq2] at hp
     have hcp:=hp.cell
     rw [pgC_lit] at hcp
     clear hq2
     go_wp2_with (refine wpList_stw rfl _ (.tmp 4) (.tmp 45) rfl (w.heap.size + 1) (pgC (readP d k)) rfl rfl _ _ hres (pg_fit _) (pg_info _) (pgC_one _) ?_)
     intro w4 hr4 hgr
     have hbel4:=hbel.grown hgr hbel.size (fun k hk=>by cases hk; omega)
     have hcr:=hr4.cell
     obtain ⟨e0,e1,e2,e3,e4,e5,e6,e7⟩:=pgC_all (readP d k)
     clear hcp
     go_wp2
     simp [bodyPost,results,go_sem,Try.results97,hcr,e0,e1,e2,e3,e4,e5,e6,e7,Q.out.1]
     exact ⟨rfl,hbel4⟩
 ·have q1:wrong_or d k = wrongD d:=by unfold wrong_or; rw [if_pos hw]
  have q2:pgC (readP d k) = #[.int .u8 0,.int .u8 0,.int .u8 0,.int .u8 0,.int .u8 0,.int .u8 0,.int .u8 0,.int .u8 0]:=by unfold readP; rw [q1,if_neg hw]; rfl
  have hw' : (wrongD d != 0) = true:=by simpa using hw
  go_wp2_with (refine wpList_stw rfl _ (.tmp 4) (.tmp 14) rfl (w.heap.size + 1) #[.int .u8 0,.int .u8 0,.int .u8 0,.int .u8 0,.int .u8 0,.int .u8 0,.int .u8 0,.int .u8 0] rfl rfl _ _ hres1 zz_fit zz_info zz_one ?_)
  intro w2 hr2 hgr
  have hbel2:=hbel1.grown hgr hbel1.size (fun k hk=>by cases hk; omega)
  have hcr:=hr2.cell
  go_wp2
  simp [bodyPost,results,go_sem,Try.results97,hcr,q1,q2]
  exact hbel2
theorem put_size' : (Try.prog.info? 93).map (·.size) = some 9:=by kernel_rfl
def outF (f:Int → Bool) (q:Int × Page):Bool:=!(f q.1)
theorem trim1m_any (q:Int × Page) (g gm n:Nat) (f:Int → Bool) (w:World) (hg:Blk w g #[.map (some gm)] 178) (hM:MapO w gm n f) (hq : -9223372036854775808 ≤ q.1 ∧ q.1 ≤ 9223372036854775807) :
  Calls Try.prog 113 #[.agg (puC q),.pointer (some ⟨g,0,none⟩)] w fun r w'=>r = .returned (.bool (outF f q)) ∧ Below w.heap.size w w':=by
 go_enter Try.func113,Try.ntmps113
 go_upto_region 1 with (fail)
 refine abs1 (fun W=>Code.wp _ _ _ _ W) fun W0 hb0 hx0 hs0 => ?_
 clear hs0
 have hgx:=(hg.ext hb0).cell 0
 have hcx:=hx0.cell
 have hlk:=(hM.below hb0).look q.1 hq
 have q0:(puC q)[0]? = some (.int .i64 q.1):=rfl
 go_wp2
 go_ret
 exact ⟨rfl,hb0⟩
theorem put_elem {w:World} {a:Option Addr} {l:List (Int × Page)} (h:RdV w a (l.flatMap puL)) (k:Nat) (hk:k < l.length):∃ b off,a = some ⟨b,off,none⟩ ∧ RdV w (some ⟨b,off + k * 9,none⟩) (puL l[k]):=elemR puL_len (by decide) h k hk
theorem idxout_any (l:List (Int × Page)) (a:Option Addr) (c:Nat) (w:World) (hrd:RdV w a (l.flatMap puL)) (hl:l.length ≤ 9223372036854775807) (g gm n:Nat) (f:Int → Bool) (hg:Blk w g #[.map (some gm)] 178) (hM:MapO w gm n f) (hq:∀ q ∈ l,-9223372036854775808 ≤ q.1 ∧ q.1 ≤ 9223372036854775807) :
  Calls Try.prog 123 #[.slice a l.length c,.func (.func 113) #[] #[.pointer (some ⟨g,0,none⟩)]] w fun e w'=>e = .returned (.int .i64 (idx (outF f) l)) ∧ Below w.heap.size w w':=by
 go_enter Try.func123,Try.ntmps123
 go_wp2
 go_loopw [8] (fun i wr => ∃ k:Nat,k ≤ l.length ∧ i = .int .i64 k ∧ Below w.heap.size w wr ∧ ∀ i (h:i < l.length),i < k → (outF f) l[i] = false) (fun i _=>l.length - (intOf i).toNat)
 case atStart=>exact ⟨0,Nat.zero_le _,rfl,Below.refl _ _,fun i _ h=>absurd h (Nat.not_lt_zero _)⟩
 case round=>
  obtain ⟨k,hk,rfl,hbr,hp0⟩:=hrel
  have hp:=Lib.hid hp0
  clear hp0
  by_cases hlt:k < l.length
  ·obtain ⟨b,off,rfl,hel⟩:=put_elem (hrd.below hbr) k hlt
   go_wp2_with (refine wpList_ldg _ _ rfl b (off + k * 9) rfl rfl _ hel _ Try.underlying93 rfl put_size' ?_)
   refine (trim1m_any l[k] g gm n f _ (hg.ext hbr) (hM.below hbr) (hq _ (List.getElem_mem hlt))).mono ?_
   rintro e w2 ⟨rfl,hb2⟩
   have hbel2:=below_next hbr hb2
   clear hb2
   cases hpk:(outF f) l[k]
   ·have hpk':=Lib.hid hpk
    clear hpk
    go_wp2
    go_roundw
    case rel=>exact ⟨k + 1,by omega,by go_num,hbel2,upto' hp.out hlt hpk'.out⟩
    case measure=>simp [intOf]; omega
   ·have hfin:=Lib.hid (idx_at (outF f) l k hlt hp.out hpk)
    clear hpk
    go_wp2
    go_ret
    exact ⟨ret_int hfin.out.symm,hbel2⟩
  ·have hfin:=Lib.hid (idx_none (outF f) l fun i h=>hp.out i h (by omega))
   go_wp2
   go_ret
   exact ⟨ret_int hfin.out.symm,hbr⟩
theorem conout_any (l:List (Int × Page)) (a:Option Addr) (c:Nat) (w:World) (hrd:RdV w a (l.flatMap puL)) (hl:l.length ≤ 9223372036854775807) (g gm n:Nat) (f:Int → Bool) (hg:Blk w g #[.map (some gm)] 178) (hM:MapO w gm n f) (hq:∀ q ∈ l,-9223372036854775808 ≤ q.1 ∧ q.1 ≤ 9223372036854775807) :
  Calls Try.prog 112 #[.slice a l.length c,.func (.func 113) #[] #[.pointer (some ⟨g,0,none⟩)]] w fun e w'=>e = .returned (.bool (l.any (outF f))) ∧ Below w.heap.size w w':=by
 go_enter Try.func112,Try.ntmps112
 go_wp2_with fail
 refine (idxout_any l a c _ hrd hl g gm n f hg hM hq).mono ?_
 rintro e w2 ⟨rfl,hb2⟩
 go_wp2
 go_ret
 exact ⟨ret_bool (idx_any _ _),hb2⟩
theorem trim_bad {m:Ma} {k:Nat} (hk:k < m.dk.blocks.length) (h:(decide ((k:Int) ∈ blks m.st) || decide (m.dk.blocks.getD k zPg = zPg)) = false):trimB m = false:=by
 unfold trimB
 rw [Bool.and_eq_false_iff]
 refine .inl (List.all_eq_false.2 ⟨k,List.mem_range.2 hk,?_⟩)
 rw [h]; decide
theorem trim_end {m:Ma} (h:∀ j:Nat,j < m.dk.blocks.length → (decide ((j:Int) ∈ blks m.st) || decide (m.dk.blocks.getD j zPg = zPg)) = true):trimB m = !(m.dk.queue.any (outF (memF (blks m.st)))):=by
 unfold trimB
 rw [List.all_eq_true.2 (fun j hj=>h j (List.mem_range.1 hj)),Bool.true_and,List.any_eq_not_all_not,Bool.not_not]
 congr 1
 funext q
 simp [outF,memF]
theorem trimmed_any (H:MH) (b:Nat) (w:World) (hb:Blk w b (mhC H) 40) (h:MaR w H) (h0:wrongSt (stOf H.fi H.ct) = 0) (hd:wrongD H.dk = 0) :
  Calls Try.prog 81 #[.pointer (some ⟨b,0,none⟩)] w fun r w'=>r = .returned (.bool (trimB H.ma)) ∧ Below w.heap.size w w':=by
 have hmm:=@run_makeMap Try.prog
 have hf5:H.fi.length ≤ 5:=by simpa [stOf] using (wrongSt_few h0).1
 have hfl:Hid (∀ p ∈ H.fi,p.l.length ≤ 12 ∧ ∀ x ∈ p.l,-1 ≤ x ∧ x < 80):=Lib.hid (fun p hp=>by
  obtain ⟨h1,h2,h3,h4⟩:=wrongSt_file h0 p.fi (List.mem_map.2 ⟨p,hp,rfl⟩)
  have h5:=countS_le (n:=p.fi.n) h2
  have h6:=(wrongSt_few h0).2.2
  refine ⟨by have h7:(p.l.length:Int) = countS p.fi.n:=h3; omega,fun x hx=>⟨(h4 x hx).1,by have:=(h4 x hx).2; omega⟩⟩)
 obtain ⟨hd80,hq400⟩:=wrongD_le hd
 have hqb:Hid (∀ q ∈ H.dk.queue,-9223372036854775808 ≤ q.1 ∧ q.1 ≤ 9223372036854775807):=Lib.hid (fun q hq=>by
  obtain ⟨i,hi,rfl⟩:=List.mem_iff_getElem.1 hq
  have:=wrongD_in hd i hi
  omega)
 have H0:=Lib.hid h0
 have HD:=Lib.hid hd
 clear h0 hd
 have hbk:=Lib.hid (blks_of H.fi H.ct)
 go_enter Try.func81,Try.ntmps81
 go_upto_region 2 with (fail)
 refine abs1 (fun W=>Code.wp _ _ _ _ W) fun w2 hb2 hx2 hs2 => ?_
 have hbel2:Below w.heap.size w w2:=below_next ((Below.refl _ _).alloc (Nat.le_refl _) _) hb2
 have hM2:MapO w2 w.heap.size 0 (memF (((H.fi.take 0).map PF.fi).flatMap Fi.b)):=(MapO.made w).below hb2
 have hx2' : Blk w2 (w.heap.size + 1) #[.map (some w.heap.size)] 178:=by
  have e:(w.alloc (Obj.map #[] 0)).heap.size = w.heap.size + 1:=Array.size_push _
  rw [e] at hx2; exact hx2
 obtain ⟨gm,hGM⟩:∃ g,g = w.heap.size:=⟨_,rfl⟩
 have hge:Hid (w.heap.size ≤ gm):=Lib.hid (by omega)
 rw [← hGM] at hM2 hx2' ⊢
 rw [← hGM] at hge
 have hgs:w.heap.size ≤ gm:=by omega
 clear hb2 hx2 hs2 hmm hGM hge
 have hbk2:=hb.ext hbel2
 have hcb:=hbk2.cell
 unfold mhC at hcb
 have H5:(H.fi.length:Int) ≤ 5:=by omega
 go_upto_region 3 with (fail)
 clear hcb hbk2
 go_loopw [17] (fun i wr => ∃ (q n:Nat),q ≤ H.fi.length ∧ i = .int .i64 q ∧ n ≤ 12 * q ∧ Below w.heap.size w wr ∧ Blk wr (gm + 1) #[.map (some gm)] 178 ∧ MapO wr gm n (memF (((H.fi.take q).map PF.fi).flatMap Fi.b))) (fun i _=>H.fi.length - (intOf i).toNat)
 case atStart=>exact ⟨0,0,Nat.zero_le _,rfl,Nat.le_refl _,hbel2,hx2',hM2⟩
 case round=>
  clear hbel2 hx2' hM2
  obtain ⟨q,n,hq,rfl,hn,hbr,hx,hM⟩:=hrel
  by_cases hlt:q < H.fi.length
  ·obtain ⟨bf,of,hai,hrd⟩:=elemR pfL_len (by decide) (h.below hbr).st.rd q hlt
   obtain ⟨p,hp⟩:∃ p,H.fi[q]? = some p:=⟨_,List.getElem?_eq_getElem hlt⟩
   rw [show H.fi[q] = p from (List.getElem?_eq_some_iff.1 hp).2] at hrd
   have hgood:=(h.below hbr).st.good p (List.mem_of_getElem? hp)
   obtain ⟨hp12,hpx⟩:=hfl.out p (List.mem_of_getElem? hp)
   have htk:=Lib.hid (take_at hp)
   have hqi:(q:Int) < (H.fi.length:Int):=by omega
   generalize hseen:((H.fi.take q).map PF.fi).flatMap Fi.b = seen at hM
   have hseen':=Lib.hid hseen
   have hpx':=Lib.hid hpx
   clear hseen hp hpx
   rw [hai]
   go_wp2_with (first | (refine wpList_ldg _ _ rfl bf (of + q * 2) rfl rfl _ hrd _ Try.underlying71 rfl file_size ?_) | (refine wpList_stn rfl _ _ _ rfl (pfC p) rfl rfl rfl file_size (pfC_one p) ?_))
   intro w3 hb3 fx3
   have hb13:=below_next hbr hb3
   have hx3:=hx.ext hb3
   have hM3:=hM.below hb3
   have hg3:=hgood.below hb3
   have hwr:=Lib.hid hbr.size
   have hxl:=Lib.hid hx.lt
   clear hbr hx hM hb3 hrd hgood
   have hcf:=fx3.cell
   unfold pfC at hcf
   have hM0:MapO w3 gm n (memF (seen ++ p.l.take 0)):=by simpa using hM3
   have hle:=hg3.le
   have hmx:=hg3.mx
   have hrp:=hg3.rd
   unfold maxLen at hmx
   clear hM3 hg3
   go_upto_region 6 with (fail)
   clear hcf fx3
   go_loopw [24] (fun i wr => ∃ (j m:Nat),j ≤ p.l.length ∧ i = .int .i64 j ∧ m ≤ n + j ∧ Below w.heap.size w wr ∧ Blk wr (gm + 1) #[.map (some gm)] 178 ∧ MapO wr gm m (memF (seen ++ p.l.take j)) ∧ RdV wr p.a (p.l.map inV)) (fun i _=>p.l.length - (intOf i).toNat)
   case atStart=>exact ⟨0,n,Nat.zero_le _,rfl,Nat.le_refl _,hb13,hx3,hM0,hrp⟩
   case round=>
    clear hb13 hx3 hM0 hrp
    obtain ⟨j,m,hj,rfl,hm,hbr,hx,hM,hrp⟩:=hrel
    by_cases hjl:j < p.l.length
    ·obtain ⟨x,hX⟩:∃ x,p.l[j]? = some x:=⟨p.l[j],List.getElem?_eq_getElem hjl⟩
     obtain ⟨b2,off2,hpa,hc⟩:=elem_at hrp j hjl
     rw [show p.l[j] = x from (List.getElem?_eq_some_iff.1 hX).2] at hc
     have htk2:=Lib.hid (take_at hX)
     have hxb:=hpx'.out x (List.mem_of_getElem? hX)
     have hrp':=Lib.hid hrp
     have hpa':=Lib.hid hpa
     have hjl' : (j:Int) < (p.l.length:Int):=by omega
     have hcx:=hx.cell
     rw [hpa]
     clear hX hrp hpa
     generalize hs2:seen ++ p.l.take j = seen2 at hM
     have hs2' : Hid (seen ++ p.l.take (j + 1) = seen2 ++ [x]):=Lib.hid (by rw [htk2.out,← List.append_assoc,hs2])
     clear hs2
     go_wp2_with (refine wpList_mark hM (by omega) rfl _ _ _ rfl rfl x rfl rfl (by omega) ?_)
     intro w6 hM6 hgr6
     rw [memF_put,← hs2'.out] at hM6
     have hb6:=hbr.grown hgr6 hbr.size (fun k hk=>by cases hk; omega)
     have hx6:=hx.grown hgr6 (fun e=>by have:=Option.some.inj e; omega)
     have hrp6:=hM.rdv hrp'.out hgr6
     clear hbr hx hM hgr6 hcx hc hrp'
     go_wp2
     go_roundw
     case rel=>exact ⟨j + 1,m + 1,by omega,by go_num,by omega,hb6,hx6,hM6,by rw [← hpa'.out]; exact hrp6⟩
     case measure=>simp [intOf]; omega
    ·have hjl' : ¬ (j:Int) < (p.l.length:Int):=by omega
     rw [List.take_of_length_le (by omega)] at hM
     have hM' : MapO wr gm m (memF (((H.fi.take (q + 1)).map PF.fi).flatMap Fi.b)):=by
      rw [htk.out,List.map_append,List.flatMap_append,hseen'.out]
      simpa [PF.fi] using hM
     clear hM hrp
     go_wp2
     go_roundw
     case rel=>exact ⟨q + 1,m,by omega,by go_num,by omega,hbr,hx,hM'⟩
     case measure=>simp [intOf]; omega
  ·have hqi:¬ (q:Int) < (H.fi.length:Int):=by omega
   rw [List.take_of_length_le (by omega)] at hM
   have hM' : MapO wr gm n (memF (blks H.ma.st)):=hM
   clear hM
   have hbk:=hb.ext hbr
   have hcb:=hbk.cell
   unfold mhC at hcb
   go_upto_region 12 with (fail)
   clear hcb hbk
   go_loopw [38] (fun i wr => ∃ (k:Nat),k ≤ H.dk.blocks.length ∧ i = .int .i64 k ∧ Below w.heap.size w wr ∧ Blk wr (gm + 1) #[.map (some gm)] 178 ∧ MapO wr gm n (memF (blks H.ma.st)) ∧ Hid (∀ j:Nat,j < k → (decide ((j:Int) ∈ blks H.ma.st) || decide (H.dk.blocks.getD j zPg = zPg)) = true)) (fun i _=>H.dk.blocks.length - (intOf i).toNat)
   case atStart=>exact ⟨0,Nat.zero_le _,rfl,hbr,hx,hM',Lib.hid fun j hj=>absurd hj (Nat.not_lt_zero _)⟩
   case round=>
    clear hbr hx hM'
    obtain ⟨k,hk,rfl,hbr,hx,hM,hall⟩:=hrel
    by_cases hkl:k < H.dk.blocks.length
    ·obtain ⟨bd,od,hda,hrd⟩:=elemR pgL_len (by decide) (h.below hbr).dk.rb k hkl
     have hki:(k:Int) < (H.dk.blocks.length:Int):=by omega
     have hgd:Hid (H.dk.blocks.getD k zPg = H.dk.blocks[k]):=Lib.hid (by rw [List.getD_eq_getElem?_getD,List.getElem?_eq_getElem hkl]; rfl)
     generalize hP:H.dk.blocks[k] = P at hrd hgd
     clear hP
     rw [hda]
     go_wp2_with (first | (refine wpList_ldg _ _ rfl bd (od + k * 8) rfl rfl _ hrd _ Try.underlying50 rfl psize ?_) | (refine wpList_stn rfl _ _ _ rfl (pgC P) rfl rfl rfl psize (pgC_one _) ?_))
     intro w3 hb3 px3
     have hb13:=below_next hbr hb3
     have hx3:=hx.ext hb3
     have hM3:=hM.below hb3
     clear hbr hx hM hb3 hrd
     have hcx:=hx3.cell
     have hlook:=hM3.look k (by omega)
     have hcp:=px3.cell
     rw [pgC_lit] at hcp
     cases hu:memF (blks H.ma.st) (k:Int) with
     | true=>
      rw [hu] at hlook
      have hall2:Hid (∀ j:Nat,j < k + 1 → (decide ((j:Int) ∈ blks H.ma.st) || decide (H.dk.blocks.getD j zPg = zPg)) = true):=Lib.hid fun j hj=>by
       by_cases e:j = k
       ·subst e
        rw [show decide ((j:Int) ∈ blks H.ma.st) = true from hu]; rfl
       ·exact hall.out j (by omega)
      clear hu hall
      go_wp2
      go_roundw
      case rel=>exact ⟨k + 1,by omega,by go_num,hb13,hx3,hM3,hall2⟩
      case measure=>simp [intOf]; omega
     | false=>
      rw [hu] at hlook
      have hE:∀ W,(Op.equalIn 10000 50 (.agg #[.int .u8 P[0].toNat,.int .u8 P[1].toNat,.int .u8 P[2].toNat,.int .u8 P[3].toNat,.int .u8 P[4].toNat,.int .u8 P[5].toNat,.int .u8 P[6].toNat,.int .u8 P[7].toNat]) (.agg #[.int .u8 0,.int .u8 0,.int .u8 0,.int .u8 0,.int .u8 0,.int .u8 0,.int .u8 0,.int .u8 0])).run Try.prog W = .ok (P == zPg) W:=fun W=>eqP P zPg W
      by_cases hp0:P = zPg
      ·have hall2:Hid (∀ j:Nat,j < k + 1 → (decide ((j:Int) ∈ blks H.ma.st) || decide (H.dk.blocks.getD j zPg = zPg)) = true):=Lib.hid fun j hj=>by
        by_cases e:j = k
        ·subst e
         rw [hgd.out,decide_eq_true hp0,Bool.or_true]
        ·exact hall.out j (by omega)
       have hpb:(P == zPg) = true:=by rw [hp0]; exact beq_self_eq_true _
       rw [hpb] at hE
       clear hu hall hpb hp0 hgd
       go_wp2
       go_roundw
       case rel=>exact ⟨k + 1,by omega,by go_num,hb13,hx3,hM3,hall2⟩
       case measure=>simp [intOf]; omega
      ·have hpb:(P == zPg) = false:=by rw [beq_eq_false_iff_ne]; exact hp0
       have hq:Hid (trimB H.ma = false):=Lib.hid (trim_bad (k:=k) hkl (by
        show (decide ((k:Int) ∈ blks H.ma.st) || decide (H.dk.blocks.getD k zPg = zPg)) = false
        rw [hgd.out,decide_eq_false hp0,show decide ((k:Int) ∈ blks H.ma.st) = false from hu]; rfl))
       rw [hpb] at hE
       clear hu hall hpb hp0 hgd
       go_wp2
       go_ret
       rw [hq.out]
       exact ⟨rfl,hb13⟩
    ·have hki:¬ (k:Int) < (H.dk.blocks.length:Int):=by omega
     have hq:Hid (trimB H.ma = !(H.dk.queue.any (outF (memF (blks H.ma.st))))):=Lib.hid (trim_end fun j hj=>hall.out j (by have:j < H.dk.blocks.length:=hj; omega))
     have hbk:=hb.ext hbr
     have hcb:=hbk.cell
     unfold mhC at hcb
     have hd:=(h.below hbr).dk
     clear hall
     go_wp2_with fail
     refine (conout_any H.dk.queue H.dq H.cdq _ hd.rq (by omega) (gm + 1) gm n (memF (blks H.ma.st)) hx hM hqb.out).mono ?_
     rintro r w4 ⟨rfl,hb4⟩
     go_wp2
     go_ret
     rw [hq.out]
     exact ⟨rfl,below_next hbr hb4⟩
def errL (m:Ma):List Int:=[wrongM m.m,wrongS m.sl,wrongD m.sw,wrongD m.dk,wrongSt m.st]
theorem parts_err {m:Ma} {k:Nat} (hk:k < 5) (h:∀ j,j < k → (errL m).getD j 0 = 0) (hne:(errL m).getD k 0 ≠ 0):partsE m = (errL m).getD k 0:=by
 unfold partsE
 have e0:0 < k → wrongM m.m = 0:=fun h'=>h 0 h'
 have e1:1 < k → wrongS m.sl = 0:=fun h'=>h 1 h'
 have e2:2 < k → wrongD m.sw = 0:=fun h'=>h 2 h'
 have e3:3 < k → wrongD m.dk = 0:=fun h'=>h 3 h'
 match k,hk with
 | 0,_=>rw [if_pos (show wrongM m.m ≠ 0 from hne)]; rfl
 | 1,_=>rw [if_neg (by rw [e0 (by omega)]; simp),if_pos (show wrongS m.sl ≠ 0 from hne)]; rfl
 | 2,_=>rw [if_neg (by rw [e0 (by omega)]; simp),if_neg (by rw [e1 (by omega)]; simp),if_pos (show wrongD m.sw ≠ 0 from hne)]; rfl
 | 3,_=>rw [if_neg (by rw [e0 (by omega)]; simp),if_neg (by rw [e1 (by omega)]; simp),if_neg (by rw [e2 (by omega)]; simp),if_pos (show wrongD m.dk ≠ 0 from hne)]; rfl
 | 4,_=>rw [if_neg (by rw [e0 (by omega)]; simp),if_neg (by rw [e1 (by omega)]; simp),if_neg (by rw [e2 (by omega)]; simp),if_neg (by rw [e3 (by omega)]; simp),if_pos (show wrongSt m.st ≠ 0 from hne)]; rfl
 | n + 5,h'=>omega
def errR (B:Nat) (H:MH):Rel:=⟨fun v w => ∃ g,v = .slice (some ⟨g,0,none⟩) 5 5 ∧ Blk w g #[.int .i64 (wrongM H.m),.int .i64 (wrongS H.sl),.int .i64 (wrongD H.sw),.int .i64 (wrongD H.dk),.int .i64 (wrongSt (stOf H.fi H.ct))] 43,fun _ _ _ hb ⟨g,h1,h2⟩=>⟨g,h1,h2.ext hb⟩⟩
theorem parts_any (H:MH) (b:Nat) (w:World) (hbk:Blk w b (mhC H) 40) (h:MaR w H) :
  Calls Try.prog 35 #[.pointer (some ⟨b,0,none⟩)] w fun r w'=>r = .returned (.int .i64 (partsE H.ma)) ∧ Below w.heap.size w w':=by
 go_enter Try.func35,Try.ntmps35
 go_upto_region 1 with (fail)
 refine wp_growP 28 [_,_,_,_,.v (.int .i64 (wrongM H.m)),_,_,_,_,.v (.int .i64 (wrongS H.sl)),_,_,_,_,.v (.int .i64 (wrongD H.sw)),_,_,_,_,.v (.int .i64 (wrongD H.dk)),_,_,_,_,.v (.int .i64 (wrongSt (stOf H.fi H.ct))),.r 25 ((errR w.heap.size H)),.v (.int .i64 5),_] (Gk rfl (Gk rfl (Gf b 0 rfl rfl (Gr (.agg #[.slice H.af H.m.fs.length H.cf,.int .i64 H.m.hand]) (fun ρ y W hb hk=>(run_load_rd rfl (kx_at rfl hk) (blk_part (hbk.ext hb) 0 2) Try.underlying27 rfl (by kernel_rfl))) rfl rfl (all_cons ?_ (Gk rfl (Gk rfl (Gf b 2 rfl rfl (Gl hbk rfl rfl rfl rfl rfl (all_cons ?_ (Gk rfl (Gk rfl (Gf b 3 rfl rfl (Gr (.agg #[.slice H.wb H.sw.blocks.length H.cwb,.slice H.wq H.sw.queue.length H.cwq]) (fun ρ y W hb hk=>(run_load_rd rfl (kx_at rfl hk) (blk_part (hbk.ext hb) 3 2) Try.underlying33 rfl (by kernel_rfl))) rfl rfl (all_cons ?_ (Gk rfl (Gk rfl (Gf b 5 rfl rfl (Gr (.agg #[.slice H.db H.dk.blocks.length H.cdb,.slice H.dq H.dk.queue.length H.cdq]) (fun ρ y W hb hk=>(run_load_rd rfl (kx_at rfl hk) (blk_part (hbk.ext hb) 5 2) Try.underlying33 rfl (by kernel_rfl))) rfl rfl (all_cons ?_ (Gk rfl (Gk rfl (Gf b 7 rfl rfl (Gr (.agg #[.slice H.ai H.fi.length H.ci,.int .i64 H.ct]) (fun ρ y W hb hk=>(run_load_rd rfl (kx_at rfl hk) (blk_part (hbk.ext hb) 7 2) Try.underlying36 rfl (by kernel_rfl))) rfl rfl (all_cons ?_ (all_cons ?_ (all_cons ?_ (Gr (.int .i64 0) (fun ρ y W hb hk=>(run_move (.inl rfl) (kx_at rfl hk))) rfl rfl (all_nil))))))))))))))))))))))))))))) (fun _=>rfl) rfl ?_
 ·intro ρ y W hw hn hb hd; have E12:=hw 12 3 rfl; have h3:y 3 = _:=hd 3 rfl
  have EF:∀ f,ρ (.func f) = .func (.func f) #[] #[]:=fun f=>hn (.func f) trivial
  refine asked_call _ _ (want_free rfl) (run_call rfl (EF _) Try.func77 (by kernel_rfl) (by kernel_rfl) (by simp only [List.map_toArray,List.map_cons,List.map_nil,E12,h3,EF]; rfl)) ?_
  refine (mwrong_any H.m _ _ W (h.below hb).fr).mono ?_
  rintro r w1 ⟨rfl,hb1⟩
  exact ⟨_,rfl,hb1,rfl⟩
 ·intro ρ y W hw hn hb hd; have E17:=hw 17 8 rfl; have h8:y 8 = _:=hd 8 rfl
  have EF:∀ f,ρ (.func f) = .func (.func f) #[] #[]:=fun f=>hn (.func f) trivial
  refine asked_call _ _ (want_free rfl) (run_call rfl (EF _) Try.func78 (by kernel_rfl) (by kernel_rfl) (by simp only [List.map_toArray,List.map_cons,List.map_nil,E17,h8,EF]; rfl)) ?_
  refine (slwrong_any H.sl _ _ W (h.below hb).sl.rd (by have:=h.sl.le; have:=h.sl.mx; unfold maxLen at this; omega)).mono ?_
  rintro r w1 ⟨rfl,rfl⟩
  exact ⟨_,rfl,Below.refl _ _,rfl⟩
 ·intro ρ y W hw hn hb hd; have E22:=hw 22 13 rfl; have h13:y 13 = _:=hd 13 rfl
  have EF:∀ f,ρ (.func f) = .func (.func f) #[] #[]:=fun f=>hn (.func f) trivial
  refine asked_call _ _ (want_free rfl) (run_call rfl (EF _) Try.func79 (by kernel_rfl) (by kernel_rfl) (by simp only [List.map_toArray,List.map_cons,List.map_nil,E22,h13,EF]; rfl)) ?_
  refine (dwrong_any H.sw _ _ _ _ W (h.below hb).sw).mono ?_
  rintro r w1 ⟨rfl,hb1⟩
  exact ⟨_,rfl,hb1,rfl⟩
 ·intro ρ y W hw hn hb hd; have E27:=hw 27 18 rfl; have h18:y 18 = _:=hd 18 rfl
  have EF:∀ f,ρ (.func f) = .func (.func f) #[] #[]:=fun f=>hn (.func f) trivial
  refine asked_call _ _ (want_free rfl) (run_call rfl (EF _) Try.func79 (by kernel_rfl) (by kernel_rfl) (by simp only [List.map_toArray,List.map_cons,List.map_nil,E27,h18,EF]; rfl)) ?_
  refine (dwrong_any H.dk _ _ _ _ W (h.below hb).dk).mono ?_
  rintro r w1 ⟨rfl,hb1⟩
  exact ⟨_,rfl,hb1,rfl⟩
 ·intro ρ y W hw hn hb hd; have E32:=hw 32 23 rfl; have h23:y 23 = _:=hd 23 rfl
  have EF:∀ f,ρ (.func f) = .func (.func f) #[] #[]:=fun f=>hn (.func f) trivial
  refine asked_call _ _ (want_free rfl) (run_call rfl (EF _) Try.func80 (by kernel_rfl) (by kernel_rfl) (by simp only [List.map_toArray,List.map_cons,List.map_nil,E32,h23,EF]; rfl)) ?_
  refine (swrong_any H.fi H.ct _ _ W (h.below hb).st h.c64).mono ?_
  rintro r w1 ⟨rfl,hb1⟩
  exact ⟨_,rfl,hb1,rfl⟩
 ·intro ρ y W hw hn hb hd; have E13:=hw 13 4 rfl; have h4:y 4 = _:=hd 4 rfl; have E18:=hw 18 9 rfl; have h9:y 9 = _:=hd 9 rfl; have E23:=hw 23 14 rfl; have h14:y 14 = _:=hd 14 rfl; have E28:=hw 28 19 rfl
  have h19:y 19 = _:=hd 19 rfl
  have E33:=hw 33 24 rfl
  have h24:y 24 = _:=hd 24 rfl
  refine asked_new (.slice (some ⟨W.heap.size,0,none⟩) 5 5) (want_free rfl) (by simp [execOp,go_sem,E13.trans h4,E18.trans h9,E23.trans h14,E28.trans h19,E33.trans h24]) ((Below.refl _ _).alloc (Nat.le_refl _) (.cells #[.int .i64 (wrongM H.m),.int .i64 (wrongS H.sl),.int .i64 (wrongD H.sw),.int .i64 (wrongD H.dk),.int .i64 (wrongSt (stOf H.fi H.ct))] 43)) ?_
  exact ⟨_,rfl,Blk.new _ _ _⟩
 ·intro ρ y W hw hn hb hd; have E34:=hw 34 25 rfl; have h25:=hd 25 rfl
  obtain ⟨ge,hge,_⟩:=h25
  refine asked_val (.int .i64 5) (want_free rfl) (by simp [execOp,go_sem,E34,hge]) rfl
 intro y W1 hbW1 hRW1
 have hy25:((errR w.heap.size H)).r (y 25) W1:=hRW1 25 (by decide)
 clear hRW1
 obtain ⟨ge,hge,hxe⟩:=hy25
 have hbelW:Below w.heap.size w W1:=hbW1
 rw [hge]
 clear hge hbW1
 go_upto_region 2 with (fail)
 go_loopw [36] (fun i wr => ∃ (k:Nat),k ≤ 5 ∧ i = .int .i64 k ∧ Below w.heap.size w wr ∧ Blk wr ge #[.int .i64 (wrongM H.m),.int .i64 (wrongS H.sl),.int .i64 (wrongD H.sw),.int .i64 (wrongD H.dk),.int .i64 (wrongSt (stOf H.fi H.ct))] 43 ∧ Hid (∀ j,j < k → (errL H.ma).getD j 0 = 0)) (fun i _=>5 - (intOf i).toNat)
 case atStart=>exact ⟨0,Nat.zero_le _,rfl,hbelW,hxe,Lib.hid fun j hj=>absurd hj (Nat.not_lt_zero _)⟩
 case round=>
  clear hbelW hxe
  obtain ⟨k,hk,rfl,hbr,hx,hz⟩:=hrel
  by_cases hkl:k < 5
  ·have hki:(k:Int) < 5:=by omega
   have hck:wr.cell? ⟨ge,k,none⟩ = some (.int .i64 ((errL H.ma).getD k 0)):=by
    rw [hx.cell]
    match k,hkl with
    | 0,_=>rfl
    | 1,_=>rfl
    | 2,_=>rfl
    | 3,_=>rfl
    | 4,_=>rfl
    | n + 5,h'=>omega
   by_cases h0:(errL H.ma).getD k 0 = 0
   ·have hz2:Hid (∀ j,j < k + 1 → (errL H.ma).getD j 0 = 0):=Lib.hid fun j hj=>by
     by_cases e:j = k
     ·rw [e]; exact h0
     ·exact hz.out j (by omega)
    rw [h0] at hck
    clear h0 hz
    go_wp2
    go_roundw
    case rel=>exact ⟨k + 1,by omega,by go_num,hbr,hx,hz2⟩
    case measure=>simp [intOf]; omega
   ·have hq:Hid (partsE H.ma = (errL H.ma).getD k 0):=Lib.hid (parts_err hkl hz.out h0)
    generalize (errL H.ma).getD k 0 = E at *
    clear hz
    go_wp2
    go_ret
    rw [hq.out]
    exact ⟨rfl,hbr⟩
  ·have hki:¬ (k:Int) < 5:=by omega
   have hz0:=hz.out 0 (by omega)
   have hz1:=hz.out 1 (by omega)
   have hz2:=hz.out 2 (by omega)
   have hz3:=hz.out 3 (by omega)
   have hz4:=hz.out 4 (by omega)
   have e0:=Lib.hid (show wrongM H.m = 0 from hz0)
   have e1:=Lib.hid (show wrongS H.sl = 0 from hz1)
   have e2:=Lib.hid (show wrongD H.sw = 0 from hz2)
   have e3:=Lib.hid (show wrongD H.dk = 0 from hz3)
   have e4:=Lib.hid (show wrongSt (stOf H.fi H.ct) = 0 from hz4)
   clear hz0 hz1 hz2 hz3 hz4 hz hx
   have hbkr:=hbk.ext hbr
   have hr:=h.below hbr
   have hP:Hid (partsE H.ma = if H.sw.blocks.length ≠ H.sl.length ∨ (H.dk.blocks.length:Int) ≠ H.ct ∨ trimB H.ma = false then 7 else if 4 < H.sp.length then 4 else firstE (H.ma.sp.map spaceE)):=Lib.hid (by
    unfold partsE
    rw [if_neg (by rw [show wrongM H.ma.m = 0 from e0.out]; simp),if_neg (by rw [show wrongS H.ma.sl = 0 from e1.out]; simp),if_neg (by rw [show wrongD H.ma.sw = 0 from e2.out]; simp),if_neg (by rw [show wrongD H.ma.dk = 0 from e3.out]; simp),if_neg (by rw [show wrongSt H.ma.st = 0 from e4.out]; simp),spH]
    rfl)
   go_upto_region 7 with (fail)
   have hcb:=hbkr.cell
   unfold mhC at hcb
   by_cases c1:H.sw.blocks.length = H.sl.length
   ·by_cases c2:(H.dk.blocks.length:Int) = H.ct
    ·have c1i:(H.sw.blocks.length:Int) = (H.sl.length:Int):=by omega
     have hp2:Hid (partsE H.ma = if trimB H.ma = false then 7 else if 4 < H.sp.length then 4 else firstE (H.ma.sp.map spaceE)):=Lib.hid (by
      rw [hP.out]
      by_cases ct:trimB H.ma = false
      ·rw [if_pos (.inr (.inr ct)),if_pos ct]
      ·rw [if_neg (by rintro (h | h | h); exact h c1; exact h c2; exact ct h),if_neg ct])
     refine wp_growP 31 [_,_,_,_,_,_,_,_,_,_,_,_,_,_,_,_,_,_,_,_,_,_,_,_,_,_,_,_,.v (.bool (trimB H.ma)),_,.v (.bool (!trimB H.ma))] (Gk rfl (Gk rfl (Gf b 3 rfl rfl (Gf b 3 rfl rfl (Gl hbkr rfl rfl rfl rfl rfl (Gn rfl rfl rfl rfl (Gk rfl (Gk rfl (Gf b 2 rfl rfl (Gl hbkr rfl rfl rfl rfl rfl (Gn rfl rfl rfl rfl (Gb (.bool false) (by simp [go_sem,c1]) rfl rfl rfl rfl rfl (Gk rfl (Gk rfl (Gk rfl (Gf b 5 rfl rfl (Gf b 5 rfl rfl (Gl hbkr rfl rfl rfl rfl rfl (Gn rfl rfl rfl rfl (Gk rfl (Gk rfl (Gf b 7 rfl rfl (Gf b 8 rfl rfl (Gl hbkr rfl rfl rfl rfl rfl (Gb (.bool false) (by simp [go_sem,c2]) rfl rfl rfl rfl rfl (Gk rfl (Gk rfl (Gk rfl (all_cons ?_ (Gr (.bool (!trimB H.ma)) (fun ρ y W hb hk=>run_not rfl (kx_at rfl hk)) rfl rfl (Gk rfl (all_nil)))))))))))))))))))))))))))))))) (fun _=>rfl) rfl ?_
     ·intro ρ y W hw hn hb hd; have E71:=hw 71 27 rfl; have h27:y 27 = _:=hd 27 rfl
      have EF:∀ f,ρ (.func f) = .func (.func f) #[] #[]:=fun f=>hn (.func f) trivial
      refine asked_call _ _ (want_at 26 70 false false rfl rfl ((hw 70 26 rfl).trans (hd 26 rfl))) (run_call rfl (EF _) Try.func81 (by kernel_rfl) (by kernel_rfl) (by simp only [List.map_toArray,List.map_cons,List.map_nil,E71,h27,EF]; rfl)) ?_
      refine (trimmed_any H b W (hbkr.ext hb) (hr.below hb) e4.out e3.out).mono ?_
      rintro r w1 ⟨rfl,hb1⟩
      exact ⟨_,rfl,hb1,rfl⟩
     intro y W2 hbW2 _
     have hbr2:=below_next hbr hbW2
     clear hbW2
     cases ht:trimB H.ma with
     | false=>
      have hp7:Hid (partsE H.ma = 7):=Lib.hid (by rw [hp2.out,if_pos ht])
      clear c1 c2 c1i
      go_wp2
      go_ret
      rw [hp7.out]
      exact ⟨rfl,hbr2⟩
     | true=>
      have hp3:Hid (partsE H.ma = if 4 < H.sp.length then 4 else firstE (H.ma.sp.map spaceE)):=Lib.hid (by rw [hp2.out,if_neg (by rw [ht]; decide)])
      clear c1 c2 c1i hcb ht
      have hr2:=h.below hbr2
      have hcb:=(hbk.ext hbr2).cell
      unfold mhC at hcb
      clear hr hbkr hP hp2 hbr
      by_cases c4:4 < H.sp.length
      ·have hp4:Hid (partsE H.ma = 4):=Lib.hid (by rw [hp3.out,if_pos c4])
       have c4i:(4:Int) < (H.sp.length:Int):=by omega
       clear c4
       go_wp2
       go_ret
       rw [hp4.out]
       exact ⟨rfl,hbr2⟩
      ·have hp4:Hid (partsE H.ma = firstE (H.ma.sp.map spaceE)):=Lib.hid (by rw [hp3.out,if_neg c4])
       have c4i:¬ (4:Int) < (H.sp.length:Int):=by omega
       have hlen:Hid ((H.ma.sp.map spaceE).length = H.sp.length):=Lib.hid (by rw [List.length_map,spH])
       clear c4 hp3
       go_upto_region 12 with (fail)
       clear hcb hr2
       go_loopw [86] (fun i wr => ∃ (k:Nat),k ≤ H.sp.length ∧ i = .int .i64 k ∧ Below w.heap.size w wr ∧ Hid (∀ j (hj:j < (H.ma.sp.map spaceE).length),j < k → (H.ma.sp.map spaceE)[j] = 0)) (fun i _=>H.sp.length - (intOf i).toNat)
       case atStart=>exact ⟨0,Nat.zero_le _,rfl,hbr2,Lib.hid fun j _ hj=>absurd hj (Nat.not_lt_zero _)⟩
       case round=>
        clear hbr2
        obtain ⟨k,hk,rfl,hbr,hz⟩:=hrel
        by_cases hkl:k < H.sp.length
        ·obtain ⟨bs,os,P,hap,hP,hrd⟩:=ps_at (h.below hbr).sp.rd k hkl
         have hgood:=ps_good (h.below hbr) hP
         have hki:(k:Int) < (H.sp.length:Int):=by omega
         have hkm:k < (H.ma.sp.map spaceE).length:=by rw [hlen.out]; exact hkl
         have hE:Hid ((H.ma.sp.map spaceE)[k] = spaceE P.sp):=Lib.hid (by
          rw [List.getElem_map]
          congr 1
          have:H.ma.sp[k]? = some P.sp:=by show (H.sp.map PS.sp)[k]? = _; rw [List.getElem?_map,hP]; rfl
          exact (List.getElem?_eq_some_iff.1 this).2)
         have hfin:Hid (spaceE P.sp ≠ 0 → partsE H.ma = spaceE P.sp):=Lib.hid fun hne=>by
          rw [hp4.out,firstE_at k hkm hz.out (by rw [hE.out]; exact hne),hE.out]
         have hnx:Hid (spaceE P.sp = 0 → ∀ j (hj:j < (H.ma.sp.map spaceE).length),j < k + 1 → (H.ma.sp.map spaceE)[j] = 0):=Lib.hid fun h0 j hj hjk=>by
          by_cases e:j = k
          ·subst e; rw [hE.out]; exact h0
          ·exact hz.out j hj (by omega)
         have hsp:Hid (spaceE P.sp = if (wrongA P.ar).1 ≠ 0 then (wrongA P.ar).1 else if wrongT P.tb ≠ 0 then wrongT P.tb else if P.lv = false ∧ 0 < P.ar.length + (pagesL P.tb).length then 7 else 0):=Lib.hid rfl
         rw [hap]
         clear hz hP hE hkm
         have hps1:(psC P).all (·.oneCell') = true:=by
          rw [← Array.all_toList,List.all_eq_true]; exact hgood.one
         go_wp2_with (first | (refine wpList_ldg _ _ rfl bs (os + k * 10) rfl rfl _ hrd _ Try.underlying65 rfl space_size ?_) | (refine wpList_stn rfl _ _ _ rfl (psC P) rfl rfl rfl space_size hps1 ?_))
         intro w3 hb3 fx3
         have hbr3:=below_next hbr hb3
         have hg3:=hgood.below hb3
         have hgl:=fx3.lt
         generalize wr.heap.size = gs at fx3 hgl ⊢
         clear hbr hb3 hrd hgood hps1
         have hcf:=fx3.cell
         unfold psC at hcf
         have hA:=hg3.ars
         go_wp2_with fail
         refine (awrong_any P.ar P.aa P.ac _ hA.rd (by have:=hA.le; have:=hA.mx; unfold maxLen at this; omega)).mono ?_
         rintro r w3' ⟨rfl,hb3'⟩
         have fx3':=fx3.ext hb3'
         have hbr3':=below_next hbr3 hb3'
         have hg3':=hg3.below hb3'
         clear hcf fx3 hbr3 hg3 hb3' hA
         go_wp2_with (refine wpList_stn rfl _ _ _ rfl (fauC (wrongA P.ar)) rfl rfl rfl fau_size (by simp [fauC,Value.oneCell']) ?_)
         intro w4 hb4 ux
         have fx:=fx3'.ext hb4
         have hbr4:=below_next hbr3' hb4
         have hg4:=hg3'.below hb4
         clear fx3' hbr3' hg3' hb4
         have hcu:=ux.cell
         unfold fauC at hcu
         by_cases c5:(wrongA P.ar).1 = 0
         ·rw [if_neg (by rw [c5]; simp)] at hsp
          rw [c5] at hcu
          have hal:=(wrong_all c5).1
          have hpl:(pagesL P.tb).length ≤ 64:=pagesTo_le P.tb 64
          have hws:IntKind.i64.wrap ((P.ar.length:Int) + ((pagesL P.tb).length:Int)) = (P.ar.length:Int) + ((pagesL P.tb).length:Int):=IntWalk.i64_in _ (by omega)
          go_upto_region 17 with (fail)
          clear hcu ux c5
          go_wp2_with (refine wpList_ldg _ _ rfl gs 2 rfl rfl _ (blk_part fx 2 8) _ Try.underlying63 tab_agg tab_size ?_)
          refine (twrong_any P.tb (tsC P.ts) _ hg4.tb).mono ?_
          rintro r w6 ⟨rfl,hb6⟩
          replace fx:=fx.ext hb6
          replace hbr4:=below_next hbr4 hb6
          replace hg4:=hg4.below hb6
          clear hb6
          by_cases c6:wrongT P.tb = 0
          ·rw [if_neg (by rw [c6]; simp)] at hsp
           rw [c6]
           go_upto_region 20 with (fail)
           cases hlv:P.lv with
           | true=>
            have hs0:Hid (spaceE P.sp = 0):=Lib.hid (by rw [hsp.out,if_neg (by rw [hlv]; simp)])
            refine wp_growP 14 [_,_,_,_,_,_,_,_,_,_,_,_,_,.v (.bool false)] (Gf gs 0 rfl rfl (Gl fx (V:=.bool true) (by simp [psC,hlv]) rfl rfl rfl rfl (Gk rfl (Gk rfl (Gk rfl (Gk rfl (Gk rfl (Gk rfl (Gk rfl (Gk rfl (Gk rfl (Gk rfl (Gk rfl (Gk rfl (all_nil))))))))))))))) (fun _=>rfl) rfl ?_
            intro y W5 hbW5 _
            have hbr5:=below_next hbr4 hbW5
            clear hbW5
            have hall:=Lib.hid (hnx.out hs0.out)
            clear hws fx hg4
            go_wp2
            go_roundw
            case rel=>exact ⟨k + 1,by omega,by go_num,hbr5,hall⟩
            case measure=>simp [intOf]; omega
           | false=>
            refine wp_growP 14 [_,_,_,_,_,_,_,_,_,.r 9 ((ownR w6.heap.size 3 1 (pagesL P.tb).length ((pagesL P.tb).map inV))),.v (.int .i64 (pagesL P.tb).length),_,_,.v (.bool (decide (0 < (P.ar.length:Int) + ((pagesL P.tb).length:Int))))] (Gf gs 0 rfl rfl (Gl fx (V:=.bool false) (by simp [psC,hlv]) rfl rfl rfl rfl (Gk rfl (Gk rfl (Gf gs 1 rfl rfl (Gl fx rfl rfl rfl rfl rfl (Gn rfl rfl rfl rfl (Gf gs 2 rfl rfl (Gr (.agg (tsC P.ts)) (fun ρ y W hb hk=>(run_load_rd rfl (kx_at rfl hk) (blk_part (fx.ext hb) 2 8) Try.underlying63 tab_agg tab_size)) rfl rfl (all_cons ?_ (all_cons ?_ (Gb (.int .i64 ((P.ar.length:Int) + ((pagesL P.tb).length:Int))) (by simp [go_sem,hws]) rfl rfl rfl rfl rfl (Gb (.bool (decide (0 < (P.ar.length:Int) + ((pagesL P.tb).length:Int)))) (by simp [go_sem]) rfl rfl rfl rfl rfl (Gk rfl (all_nil))))))))))))))) (fun _=>rfl) rfl ?_
            ·intro ρ y W hw hn hb hd; have E112:=hw 112 8 rfl; have h8:y 8 = _:=hd 8 rfl
             have EF:∀ f,ρ (.func f) = .func (.func f) #[] #[]:=fun f=>hn (.func f) trivial
             refine asked_call _ _ (want_at 3 107 true true rfl rfl ((hw 107 3 rfl).trans (hd 3 rfl))) (run_call rfl (EF _) Try.func37 (by kernel_rfl) (by kernel_rfl) (by simp only [List.map_toArray,List.map_cons,List.map_nil,E112,h8,EF]; rfl)) ?_
             refine (tpages_any P.tb (tsC P.ts) W (hg4.below hb).tb).mono ?_
             rintro r w1 ⟨v,rfl,ho,hb1⟩
             exact ⟨_,rfl,hb1,ho.mono hb.size⟩
            ·intro ρ y W hw hn hb hd; have E113:=hw 113 9 rfl; have h9:=hd 9 rfl
             obtain ⟨a9,c9,e9,_⟩:=Own.rd h9
             refine asked_val (.int .i64 (pagesL P.tb).length) (want_at 3 107 true true rfl rfl ((hw 107 3 rfl).trans (hd 3 rfl))) (run_lenS rfl (E113.trans e9) rfl) rfl
            intro y W5 hbW5 hRW5
            have hy9:((ownR w6.heap.size 3 1 (pagesL P.tb).length ((pagesL P.tb).map inV))).r (y 9) W5:=hRW5 9 (by decide)
            clear hRW5
            have hbr5:=below_next hbr4 hbW5
            clear hbW5
            by_cases c7:0 < P.ar.length + (pagesL P.tb).length
            ·have hq:Hid (partsE H.ma = 7):=Lib.hid (by rw [hfin.out (by rw [hsp.out,if_pos ⟨hlv,c7⟩]; decide),hsp.out,if_pos ⟨hlv,c7⟩])
             have hd:decide (0 < (P.ar.length:Int) + ((pagesL P.tb).length:Int)) = true:=decide_eq_true (by omega)
             rw [hd]
             clear hws fx hg4 hd c7
             go_wp2
             go_ret
             rw [hq.out]
             exact ⟨rfl,hbr5⟩
            ·have hs0:Hid (spaceE P.sp = 0):=Lib.hid (by rw [hsp.out,if_neg (fun h'=>c7 h'.2)])
             have hall:=Lib.hid (hnx.out hs0.out)
             have hd:decide (0 < (P.ar.length:Int) + ((pagesL P.tb).length:Int)) = false:=decide_eq_false (by omega)
             rw [hd]
             clear hws fx hg4 hd c7
             go_wp2
             go_roundw
             case rel=>exact ⟨k + 1,by omega,by go_num,hbr5,hall⟩
             case measure=>simp [intOf]; omega
          ·rw [if_pos c6] at hsp
           have hq:Hid (partsE H.ma = wrongT P.tb):=Lib.hid (by rw [hfin.out (by rw [hsp.out]; exact c6),hsp.out])
           generalize wrongT P.tb = E at *
           go_wp2
           go_ret
           rw [hq.out]
           exact ⟨rfl,hbr4⟩
         ·rw [if_pos c5] at hsp
          have hq:Hid (partsE H.ma = (wrongA P.ar).1):=Lib.hid (by rw [hfin.out (by rw [hsp.out]; exact c5),hsp.out])
          generalize (wrongA P.ar).1 = E at *
          go_wp2
          go_ret
          rw [hq.out]
          exact ⟨rfl,hbr4⟩
        ·have hki:¬ (k:Int) < (H.sp.length:Int):=by omega
         have hq:Hid (partsE H.ma = 0):=Lib.hid (by rw [hp4.out,firstE_none fun i hi=>hz.out i hi (by rw [hlen.out] at hi; omega)])
         clear hz
         go_wp2
         go_ret
         rw [hq.out]
         exact ⟨rfl,hbr⟩
    ·have hp7:Hid (partsE H.ma = 7):=Lib.hid (by rw [hP.out,if_pos (.inr (.inl c2))])
     refine wp_growP 31 [_,_,_,_,_,_,_,_,_,_,_,_,_,_,_,_,_,_,_,_,_,_,_,_,_,_,_,_,_,_,.v (.bool true)] (Gk rfl (Gk rfl (Gf b 3 rfl rfl (Gf b 3 rfl rfl (Gl hbkr rfl rfl rfl rfl rfl (Gn rfl rfl rfl rfl (Gk rfl (Gk rfl (Gf b 2 rfl rfl (Gl hbkr rfl rfl rfl rfl rfl (Gn rfl rfl rfl rfl (Gb (.bool false) (by simp [go_sem,c1]) rfl rfl rfl rfl rfl (Gk rfl (Gk rfl (Gk rfl (Gf b 5 rfl rfl (Gf b 5 rfl rfl (Gl hbkr rfl rfl rfl rfl rfl (Gn rfl rfl rfl rfl (Gk rfl (Gk rfl (Gf b 7 rfl rfl (Gf b 8 rfl rfl (Gl hbkr rfl rfl rfl rfl rfl (Gb (.bool true) (by simp [go_sem,c2]) rfl rfl rfl rfl rfl (Gk rfl (Gk rfl (Gk rfl (Gk rfl (Gk rfl (Gk rfl (all_nil)))))))))))))))))))))))))))))))) (fun _=>rfl) rfl ?_
     intro y W2 hbW2 _
     have hbr2:=below_next hbr hbW2
     clear hbW2
     clear c1 c2
     go_wp2
     go_ret
     rw [hp7.out]
     exact ⟨rfl,hbr2⟩
   ·have hp7:Hid (partsE H.ma = 7):=Lib.hid (by rw [hP.out,if_pos (.inl c1)])
    have c1i:¬ ((H.sw.blocks.length:Int) = (H.sl.length:Int)):=by omega
    have c2:=c1
    refine wp_growP 31 [_,_,_,_,_,_,_,_,_,_,_,_,_,_,_,_,_,_,_,_,_,_,_,_,_,_,_,_,_,_,.v (.bool true)] (Gk rfl (Gk rfl (Gf b 3 rfl rfl (Gf b 3 rfl rfl (Gl hbkr rfl rfl rfl rfl rfl (Gn rfl rfl rfl rfl (Gk rfl (Gk rfl (Gf b 2 rfl rfl (Gl hbkr rfl rfl rfl rfl rfl (Gn rfl rfl rfl rfl (Gb (.bool true) (by simp [go_sem,c1i]) rfl rfl rfl rfl rfl (Gk rfl (Gk rfl (Gk rfl (Gk rfl (Gk rfl (Gk rfl (Gk rfl (Gk rfl (Gk rfl (Gk rfl (Gk rfl (Gk rfl (Gk rfl (Gk rfl (Gk rfl (Gk rfl (Gk rfl (Gk rfl (Gk rfl (all_nil)))))))))))))))))))))))))))))))) (fun _=>rfl) rfl ?_
    intro y W2 hbW2 _
    have hbr2:=below_next hbr hbW2
    clear hbW2
    clear c1 c1i c2
    go_wp2
    go_ret
    rw [hp7.out]
    exact ⟨rfl,hbr2⟩
theorem cacheE_3 {m:Ma} {p:Option Cc} {c:Cc} (h:c.f < 0 ∨ (m.st.fs.length:Int) ≤ c.f ∨ c.i < 0 ∨ ((fileAt m.st c.f).b.length:Int) ≤ c.i ∨ c.k < 0 ∨ (m.m.fs.length:Int) ≤ c.k):cacheE m p c = 3:=by
 unfold cacheE; rw [if_pos h]
theorem cached_any (H:MH) (b:Nat) (w:World) (hbk:Blk w b (mhC H) 40) (h:MaR w H) :
  Calls Try.prog 36 #[.pointer (some ⟨b,0,none⟩)] w fun r w'=>r = .returned (.int .i64 (cachedE H.ma)) ∧ Below w.heap.size w w':=by
 have hmm:=h.ca.le
 have hmx:=h.ca.mx
 unfold maxLen at hmx
 go_enter Try.func36,Try.ntmps36
 have hcb:=hbk.cell
 unfold mhC at hcb
 obtain ⟨L,hL⟩:∃ L,L = (List.range H.ca.length).map fun k=>cacheE H.ma (prevC H.ca k) (H.ca.getD k zCc):=⟨_,rfl⟩
 have hLl:Hid (L.length = H.ca.length):=Lib.hid (by rw [hL]; simp)
 have hLE:Hid (cachedE H.ma = firstE L):=Lib.hid (by rw [hL]; rfl)
 have hLg:Hid (∀ k (hk:k < L.length),L[k] = cacheE H.ma (prevC H.ca k) (H.ca.getD k zCc)):=Lib.hid fun k hk=>by simp [hL]
 clear hL
 go_upto_region 2 with (fail)
 clear hcb
 go_loopw [11] (fun i wr => ∃ (k:Nat),k ≤ H.ca.length ∧ i = .int .i64 k ∧ Below w.heap.size w wr ∧ Hid (∀ j (hj:j < L.length),j < k → L[j] = 0)) (fun i _=>H.ca.length - (intOf i).toNat)
 case atStart=>exact ⟨0,Nat.zero_le _,rfl,Below.refl _ _,Lib.hid fun j _ hj=>absurd hj (Nat.not_lt_zero _)⟩
 case round=>
  obtain ⟨k,hk,rfl,hbr,hz⟩:=hrel
  by_cases hkl:k < H.ca.length
  ·obtain ⟨bc,oc,hac,hrd⟩:=elemR ccL_len (by decide) (h.below hbr).ca.rd k hkl
   have hki:(k:Int) < (H.ca.length:Int):=by omega
   have hkL:k < L.length:=by rw [hLl.out]; exact hkl
   have hE:Hid (L[k] = cacheE H.ma (prevC H.ca k) H.ca[k]):=Lib.hid (by rw [hLg.out k hkL,List.getD_eq_getElem?_getD,List.getElem?_eq_getElem hkl]; rfl)
   have hfin:Hid (L[k] ≠ 0 → cachedE H.ma = L[k]):=Lib.hid fun hne=>by rw [hLE.out,firstE_at k hkL hz.out hne]
   have hnx:Hid (L[k] = 0 → ∀ j (hj:j < L.length),j < k + 1 → L[j] = 0):=Lib.hid fun h0 j hj hjk=>by
    by_cases e:j = k
    ·subst e; exact h0
    ·exact hz.out j hj (by omega)
   generalize hLk:L[k] = Lk at *
   have hpv:Hid (prevC H.ca k = if k = 0 then none else H.ca[k - 1]?):=Lib.hid rfl
   generalize hc:H.ca[k] = c at *
   rw [hac]
   clear hz hkL hLk hc
   go_wp2_with (first | (refine wpList_ldg _ _ rfl bc (oc + k * 3) rfl rfl _ hrd _ Try.underlying85 rfl cached_size ?_) | (refine wpList_stn rfl _ _ _ rfl (ccC c) rfl rfl rfl cached_size (ccC_one c) ?_))
   intro w3 hb3 cx
   have hbr3:=below_next hbr hb3
   have hbk3:=hbk.ext hbr3
   have hr3:=h.below hbr3
   generalize wr.heap.size = gc at cx ⊢
   clear hb3 hrd hbr
   go_upto_region 4 with (fail)
   obtain ⟨bf,of,F,P,hai,hFl,hcF,hcs⟩:∃ (bf of F:Nat) (P:PF),(0 ≤ c.f → c.f < H.fi.length → H.ai = some ⟨bf,of,none⟩) ∧ (0 ≤ c.f → c.f < H.fi.length → F < H.fi.length) ∧ (0 ≤ c.f → c.f < H.fi.length → c.f = (F:Int) ∧ fileAt H.ma.st c.f = P.fi) ∧ (0 ≤ c.f → c.f < H.fi.length → ∀ W,Below w3.heap.size w3 W → W.cell? ⟨bf,of + F * 2 + 1,none⟩ = some (.slice P.a P.l.length P.c)):=by
    by_cases hc0:0 ≤ c.f ∧ c.f < H.fi.length
    ·have hFl:c.f.toNat < H.fi.length:=by omega
     obtain ⟨bf,of,P,hai,hP,hcn,hcs⟩:=pf_at hr3.st.rd c.f.toNat hFl
     refine ⟨bf,of,c.f.toNat,P,fun _ _=>hai,fun _ _=>hFl,fun _ _=>⟨by omega,?_⟩,fun _ _ W hb => ?_⟩
     ·have:(H.fi.map PF.fi)[c.f.toNat]? = some P.fi:=by rw [List.getElem?_map,hP]; rfl
      have h2:=fileAt_nat (s:=H.ma.st) (F:=c.f.toNat) this
      rw [← h2]
      congr 1; omega
     ·obtain ⟨bf',of',P',hai',hP',hcn',hcs'⟩:=pf_at (hr3.below hb).st.rd c.f.toNat hFl
      rw [hP] at hP'
      cases hP'
      rw [hai] at hai'
      cases hai'
      exact hcs'
    ·exact ⟨0,0,0,⟨0,none,[],0⟩,fun h1 h2=>absurd ⟨h1,h2⟩ hc0,fun h1 h2=>absurd ⟨h1,h2⟩ hc0,fun h1 h2=>absurd ⟨h1,h2⟩ hc0,fun h1 h2=>absurd ⟨h1,h2⟩ hc0⟩
   by_cases c1:c.f < 0
   ·have hbad:Hid (c.f < 0 ∨ (H.ma.st.fs.length:Int) ≤ c.f ∨ c.i < 0 ∨ ((fileAt H.ma.st c.f).b.length:Int) ≤ c.i ∨ c.k < 0 ∨ (H.ma.m.fs.length:Int) ≤ c.k):=Lib.hid (.inl c1)
    refine wp_growP 51 [_,_,_,_,_,_,_,_,_,_,_,_,_,_,_,_,_,_,_,_,_,_,_,_,_,_,_,_,_,_,_,_,_,_,_,_,_,_,_,_,_,_,_,_,_,_,_,_,_,_,.v (.bool true)] (Gf gc 0 rfl rfl (Gl cx rfl rfl rfl rfl rfl (Gb (.bool true) (by simp [go_sem,c1]) rfl rfl rfl rfl rfl (Gk rfl (Gk rfl (Gk rfl (Gk rfl (Gk rfl (Gk rfl (Gk rfl (Gk rfl (Gk rfl (Gk rfl (Gk rfl (Gk rfl (Gk rfl (Gk rfl (Gk rfl (Gk rfl (Gk rfl (Gk rfl (Gk rfl (Gk rfl (Gk rfl (Gk rfl (Gk rfl (Gk rfl (Gk rfl (Gk rfl (Gk rfl (Gk rfl (Gk rfl (Gk rfl (Gk rfl (Gk rfl (Gk rfl (Gk rfl (Gk rfl (Gk rfl (Gk rfl (Gk rfl (Gk rfl (Gk rfl (Gk rfl (Gk rfl (Gk rfl (Gk rfl (Gk rfl (Gk rfl (Gk rfl (Gk rfl (all_nil)))))))))))))))))))))))))))))))))))))))))))))))))))) (fun _=>rfl) rfl ?_
    intro y W4 hbW4 _
    have hbr4:=below_next hbr3 hbW4
    replace cx:=cx.ext hbW4
    clear hbW4
    have hL3:Hid (Lk = 3):=Lib.hid (by rw [hE.out]; exact cacheE_3 hbad.out)
    have hq:Hid (cachedE H.ma = 3):=Lib.hid (by rw [hfin.out (by rw [hL3.out]; decide),hL3.out])
    clear hai hFl hcF hcs
    go_wp2
    go_ret
    rw [hq.out]
    exact ⟨rfl,hbr4⟩
   have hfl:Hid (H.ma.st.fs.length = H.fi.length):=Lib.hid (List.length_map _)
   by_cases c2:(H.fi.length:Int) ≤ c.f
   ·have hbad:Hid (c.f < 0 ∨ (H.ma.st.fs.length:Int) ≤ c.f ∨ c.i < 0 ∨ ((fileAt H.ma.st c.f).b.length:Int) ≤ c.i ∨ c.k < 0 ∨ (H.ma.m.fs.length:Int) ≤ c.k):=Lib.hid (.inr (.inl (by rw [hfl.out]; exact c2)))
    refine wp_growP 51 [_,_,_,_,_,_,_,_,_,_,_,_,_,_,_,_,_,_,_,_,_,_,_,_,_,_,_,_,_,_,_,_,_,_,_,_,_,_,_,_,_,_,_,_,_,_,_,_,_,_,.v (.bool true)] (Gf gc 0 rfl rfl (Gl cx rfl rfl rfl rfl rfl (Gb (.bool false) (by simp [go_sem,c1]) rfl rfl rfl rfl rfl (Gk rfl (Gf gc 0 rfl rfl (Gl cx rfl rfl rfl rfl rfl (Gk rfl (Gk rfl (Gf b 7 rfl rfl (Gf b 7 rfl rfl (Gl hbk3 rfl rfl rfl rfl rfl (Gn rfl rfl rfl rfl (Gb (.bool true) (by simp [go_sem,c2]) rfl rfl rfl rfl rfl (Gk rfl (Gk rfl (Gk rfl (Gk rfl (Gk rfl (Gk rfl (Gk rfl (Gk rfl (Gk rfl (Gk rfl (Gk rfl (Gk rfl (Gk rfl (Gk rfl (Gk rfl (Gk rfl (Gk rfl (Gk rfl (Gk rfl (Gk rfl (Gk rfl (Gk rfl (Gk rfl (Gk rfl (Gk rfl (Gk rfl (Gk rfl (Gk rfl (Gk rfl (Gk rfl (Gk rfl (Gk rfl (Gk rfl (Gk rfl (Gk rfl (Gk rfl (Gk rfl (Gk rfl (all_nil)))))))))))))))))))))))))))))))))))))))))))))))))))) (fun _=>rfl) rfl ?_
    intro y W4 hbW4 _
    have hbr4:=below_next hbr3 hbW4
    replace cx:=cx.ext hbW4
    clear hbW4
    have hL3:Hid (Lk = 3):=Lib.hid (by rw [hE.out]; exact cacheE_3 hbad.out)
    have hq:Hid (cachedE H.ma = 3):=Lib.hid (by rw [hfin.out (by rw [hL3.out]; decide),hL3.out])
    clear hai hFl hcF hcs
    go_wp2
    go_ret
    rw [hq.out]
    exact ⟨rfl,hbr4⟩
   replace hai:=hai (by omega) (by omega)
   replace hFl:=hFl (by omega) (by omega)
   obtain ⟨hcF,hfA⟩:=hcF (by omega) (by omega)
   replace hcs:=hcs (by omega) (by omega)
   have hfA':=Lib.hid hfA
   clear hfA
   by_cases c3:c.i < 0
   ·have hbad:Hid (c.f < 0 ∨ (H.ma.st.fs.length:Int) ≤ c.f ∨ c.i < 0 ∨ ((fileAt H.ma.st c.f).b.length:Int) ≤ c.i ∨ c.k < 0 ∨ (H.ma.m.fs.length:Int) ≤ c.k):=Lib.hid (.inr (.inr (.inl c3)))
    refine wp_growP 51 [_,_,_,_,_,_,_,_,_,_,_,_,_,_,_,_,_,_,_,_,_,_,_,_,_,_,_,_,_,_,_,_,_,_,_,_,_,_,_,_,_,_,_,_,_,_,_,_,_,_,.v (.bool true)] (Gf gc 0 rfl rfl (Gl cx rfl rfl rfl rfl rfl (Gb (.bool false) (by simp [go_sem,c1]) rfl rfl rfl rfl rfl (Gk rfl (Gf gc 0 rfl rfl (Gl cx rfl rfl rfl rfl rfl (Gk rfl (Gk rfl (Gf b 7 rfl rfl (Gf b 7 rfl rfl (Gl hbk3 rfl rfl rfl rfl rfl (Gn rfl rfl rfl rfl (Gb (.bool false) (by simp [go_sem,c2]) rfl rfl rfl rfl rfl (Gk rfl (Gk rfl (Gf gc 1 rfl rfl (Gl cx rfl rfl rfl rfl rfl (Gb (.bool true) (by simp [go_sem,c3]) rfl rfl rfl rfl rfl (Gk rfl (Gk rfl (Gk rfl (Gk rfl (Gk rfl (Gk rfl (Gk rfl (Gk rfl (Gk rfl (Gk rfl (Gk rfl (Gk rfl (Gk rfl (Gk rfl (Gk rfl (Gk rfl (Gk rfl (Gk rfl (Gk rfl (Gk rfl (Gk rfl (Gk rfl (Gk rfl (Gk rfl (Gk rfl (Gk rfl (Gk rfl (Gk rfl (Gk rfl (Gk rfl (Gk rfl (Gk rfl (Gk rfl (all_nil)))))))))))))))))))))))))))))))))))))))))))))))))))) (fun _=>rfl) rfl ?_
    intro y W4 hbW4 _
    have hbr4:=below_next hbr3 hbW4
    replace cx:=cx.ext hbW4
    clear hbW4
    have hL3:Hid (Lk = 3):=Lib.hid (by rw [hE.out]; exact cacheE_3 hbad.out)
    have hq:Hid (cachedE H.ma = 3):=Lib.hid (by rw [hfin.out (by rw [hL3.out]; decide),hL3.out])
    clear hai hFl hcF hcs
    go_wp2
    go_ret
    rw [hq.out]
    exact ⟨rfl,hbr4⟩
   by_cases c4:(P.l.length:Int) ≤ c.i
   ·have hbad:Hid (c.f < 0 ∨ (H.ma.st.fs.length:Int) ≤ c.f ∨ c.i < 0 ∨ ((fileAt H.ma.st c.f).b.length:Int) ≤ c.i ∨ c.k < 0 ∨ (H.ma.m.fs.length:Int) ≤ c.k):=Lib.hid (.inr (.inr (.inr (.inl (by rw [hfA'.out]; exact c4)))))
    refine wp_growP 51 [_,_,_,_,_,_,_,_,_,_,_,_,_,_,_,_,_,_,_,_,_,_,_,_,_,_,_,_,_,_,_,_,_,_,_,_,_,_,_,_,_,_,_,_,_,_,_,_,_,_,.v (.bool true)] (Gf gc 0 rfl rfl (Gl cx rfl rfl rfl rfl rfl (Gb (.bool false) (by simp [go_sem,c1]) rfl rfl rfl rfl rfl (Gk rfl (Gf gc 0 rfl rfl (Gl cx rfl rfl rfl rfl rfl (Gk rfl (Gk rfl (Gf b 7 rfl rfl (Gf b 7 rfl rfl (Gl hbk3 rfl rfl rfl rfl rfl (Gn rfl rfl rfl rfl (Gb (.bool false) (by simp [go_sem,c2]) rfl rfl rfl rfl rfl (Gk rfl (Gk rfl (Gf gc 1 rfl rfl (Gl cx rfl rfl rfl rfl rfl (Gb (.bool false) (by simp [go_sem,c3]) rfl rfl rfl rfl rfl (Gk rfl (Gk rfl (Gf gc 1 rfl rfl (Gl cx rfl rfl rfl rfl rfl (Gk rfl (Gk rfl (Gf b 7 rfl rfl (Gf b 7 rfl rfl (Gl hbk3 (V:=.slice (some ⟨bf,of,none⟩) H.fi.length H.ci) (by simp [mhC,hai]) rfl rfl rfl rfl (Gf gc 0 rfl rfl (Gl cx (V:=.int .i64 (F:Int)) (by simp [ccC,hcF]) rfl rfl rfl rfl (Gr (.pointer (some ⟨bf,of + F * 2,none⟩)) (fun ρ y W hb hk=>(run_idx rfl (kx_at rfl hk) (kx_at rfl hk) hFl Try.underlying34 file_size)) rfl rfl (Gf bf (of + F * 2 + 1) rfl rfl (Gc (.slice P.a P.l.length P.c) (fun W hb=>by simp [hcs _ hb]) rfl rfl rfl rfl (Gn rfl rfl rfl rfl (Gb (.bool true) (by simp [go_sem,c4]) rfl rfl rfl rfl rfl (Gk rfl (Gk rfl (Gk rfl (Gk rfl (Gk rfl (Gk rfl (Gk rfl (Gk rfl (Gk rfl (Gk rfl (Gk rfl (Gk rfl (Gk rfl (Gk rfl (Gk rfl (Gk rfl (Gk rfl (all_nil)))))))))))))))))))))))))))))))))))))))))))))))))))) (fun _=>rfl) rfl ?_
    intro y W4 hbW4 _
    have hbr4:=below_next hbr3 hbW4
    replace cx:=cx.ext hbW4
    clear hbW4
    have hL3:Hid (Lk = 3):=Lib.hid (by rw [hE.out]; exact cacheE_3 hbad.out)
    have hq:Hid (cachedE H.ma = 3):=Lib.hid (by rw [hfin.out (by rw [hL3.out]; decide),hL3.out])
    clear hai hFl hcF hcs
    go_wp2
    go_ret
    rw [hq.out]
    exact ⟨rfl,hbr4⟩
   by_cases c5:c.k < 0
   ·have hbad:Hid (c.f < 0 ∨ (H.ma.st.fs.length:Int) ≤ c.f ∨ c.i < 0 ∨ ((fileAt H.ma.st c.f).b.length:Int) ≤ c.i ∨ c.k < 0 ∨ (H.ma.m.fs.length:Int) ≤ c.k):=Lib.hid (.inr (.inr (.inr (.inr (.inl c5)))))
    refine wp_growP 51 [_,_,_,_,_,_,_,_,_,_,_,_,_,_,_,_,_,_,_,_,_,_,_,_,_,_,_,_,_,_,_,_,_,_,_,_,_,_,_,_,_,_,_,_,_,_,_,_,_,_,.v (.bool true)] (Gf gc 0 rfl rfl (Gl cx rfl rfl rfl rfl rfl (Gb (.bool false) (by simp [go_sem,c1]) rfl rfl rfl rfl rfl (Gk rfl (Gf gc 0 rfl rfl (Gl cx rfl rfl rfl rfl rfl (Gk rfl (Gk rfl (Gf b 7 rfl rfl (Gf b 7 rfl rfl (Gl hbk3 rfl rfl rfl rfl rfl (Gn rfl rfl rfl rfl (Gb (.bool false) (by simp [go_sem,c2]) rfl rfl rfl rfl rfl (Gk rfl (Gk rfl (Gf gc 1 rfl rfl (Gl cx rfl rfl rfl rfl rfl (Gb (.bool false) (by simp [go_sem,c3]) rfl rfl rfl rfl rfl (Gk rfl (Gk rfl (Gf gc 1 rfl rfl (Gl cx rfl rfl rfl rfl rfl (Gk rfl (Gk rfl (Gf b 7 rfl rfl (Gf b 7 rfl rfl (Gl hbk3 (V:=.slice (some ⟨bf,of,none⟩) H.fi.length H.ci) (by simp [mhC,hai]) rfl rfl rfl rfl (Gf gc 0 rfl rfl (Gl cx (V:=.int .i64 (F:Int)) (by simp [ccC,hcF]) rfl rfl rfl rfl (Gr (.pointer (some ⟨bf,of + F * 2,none⟩)) (fun ρ y W hb hk=>(run_idx rfl (kx_at rfl hk) (kx_at rfl hk) hFl Try.underlying34 file_size)) rfl rfl (Gf bf (of + F * 2 + 1) rfl rfl (Gc (.slice P.a P.l.length P.c) (fun W hb=>by simp [hcs _ hb]) rfl rfl rfl rfl (Gn rfl rfl rfl rfl (Gb (.bool false) (by simp [go_sem,c4]) rfl rfl rfl rfl rfl (Gk rfl (Gk rfl (Gf gc 2 rfl rfl (Gl cx rfl rfl rfl rfl rfl (Gb (.bool true) (by simp [go_sem,c5]) rfl rfl rfl rfl rfl (Gk rfl (Gk rfl (Gk rfl (Gk rfl (Gk rfl (Gk rfl (Gk rfl (Gk rfl (Gk rfl (Gk rfl (Gk rfl (Gk rfl (all_nil)))))))))))))))))))))))))))))))))))))))))))))))))))) (fun _=>rfl) rfl ?_
    intro y W4 hbW4 _
    have hbr4:=below_next hbr3 hbW4
    replace cx:=cx.ext hbW4
    clear hbW4
    have hL3:Hid (Lk = 3):=Lib.hid (by rw [hE.out]; exact cacheE_3 hbad.out)
    have hq:Hid (cachedE H.ma = 3):=Lib.hid (by rw [hfin.out (by rw [hL3.out]; decide),hL3.out])
    clear hai hFl hcF hcs
    go_wp2
    go_ret
    rw [hq.out]
    exact ⟨rfl,hbr4⟩
   by_cases c6:(H.m.fs.length:Int) ≤ c.k
   ·have hbad:Hid (c.f < 0 ∨ (H.ma.st.fs.length:Int) ≤ c.f ∨ c.i < 0 ∨ ((fileAt H.ma.st c.f).b.length:Int) ≤ c.i ∨ c.k < 0 ∨ (H.ma.m.fs.length:Int) ≤ c.k):=Lib.hid (.inr (.inr (.inr (.inr (.inr c6)))))
    refine wp_growP 51 [_,_,_,_,_,_,_,_,_,_,_,_,_,_,_,_,_,_,_,_,_,_,_,_,_,_,_,_,_,_,_,_,_,_,_,_,_,_,_,_,_,_,_,_,_,_,_,_,_,_,.v (.bool true)] (Gf gc 0 rfl rfl (Gl cx rfl rfl rfl rfl rfl (Gb (.bool false) (by simp [go_sem,c1]) rfl rfl rfl rfl rfl (Gk rfl (Gf gc 0 rfl rfl (Gl cx rfl rfl rfl rfl rfl (Gk rfl (Gk rfl (Gf b 7 rfl rfl (Gf b 7 rfl rfl (Gl hbk3 rfl rfl rfl rfl rfl (Gn rfl rfl rfl rfl (Gb (.bool false) (by simp [go_sem,c2]) rfl rfl rfl rfl rfl (Gk rfl (Gk rfl (Gf gc 1 rfl rfl (Gl cx rfl rfl rfl rfl rfl (Gb (.bool false) (by simp [go_sem,c3]) rfl rfl rfl rfl rfl (Gk rfl (Gk rfl (Gf gc 1 rfl rfl (Gl cx rfl rfl rfl rfl rfl (Gk rfl (Gk rfl (Gf b 7 rfl rfl (Gf b 7 rfl rfl (Gl hbk3 (V:=.slice (some ⟨bf,of,none⟩) H.fi.length H.ci) (by simp [mhC,hai]) rfl rfl rfl rfl (Gf gc 0 rfl rfl (Gl cx (V:=.int .i64 (F:Int)) (by simp [ccC,hcF]) rfl rfl rfl rfl (Gr (.pointer (some ⟨bf,of + F * 2,none⟩)) (fun ρ y W hb hk=>(run_idx rfl (kx_at rfl hk) (kx_at rfl hk) hFl Try.underlying34 file_size)) rfl rfl (Gf bf (of + F * 2 + 1) rfl rfl (Gc (.slice P.a P.l.length P.c) (fun W hb=>by simp [hcs _ hb]) rfl rfl rfl rfl (Gn rfl rfl rfl rfl (Gb (.bool false) (by simp [go_sem,c4]) rfl rfl rfl rfl rfl (Gk rfl (Gk rfl (Gf gc 2 rfl rfl (Gl cx rfl rfl rfl rfl rfl (Gb (.bool false) (by simp [go_sem,c5]) rfl rfl rfl rfl rfl (Gk rfl (Gk rfl (Gf gc 2 rfl rfl (Gl cx rfl rfl rfl rfl rfl (Gk rfl (Gk rfl (Gf b 0 rfl rfl (Gf b 0 rfl rfl (Gl hbk3 rfl rfl rfl rfl rfl (Gn rfl rfl rfl rfl (Gb (.bool true) (by simp [go_sem,c6]) rfl rfl rfl rfl rfl (Gk rfl (all_nil)))))))))))))))))))))))))))))))))))))))))))))))))))) (fun _=>rfl) rfl ?_
    intro y W4 hbW4 _
    have hbr4:=below_next hbr3 hbW4
    replace cx:=cx.ext hbW4
    clear hbW4
    have hL3:Hid (Lk = 3):=Lib.hid (by rw [hE.out]; exact cacheE_3 hbad.out)
    have hq:Hid (cachedE H.ma = 3):=Lib.hid (by rw [hfin.out (by rw [hL3.out]; decide),hL3.out])
    clear hai hFl hcF hcs
    go_wp2
    go_ret
    rw [hq.out]
    exact ⟨rfl,hbr4⟩
   refine wp_growP 51 [_,_,_,_,_,_,_,_,_,_,_,_,_,_,_,_,_,_,_,_,_,_,_,_,_,_,_,_,_,_,_,_,_,_,_,_,_,_,_,_,_,_,_,_,_,_,_,_,_,_,.v (.bool false)] (Gf gc 0 rfl rfl (Gl cx rfl rfl rfl rfl rfl (Gb (.bool false) (by simp [go_sem,c1]) rfl rfl rfl rfl rfl (Gk rfl (Gf gc 0 rfl rfl (Gl cx rfl rfl rfl rfl rfl (Gk rfl (Gk rfl (Gf b 7 rfl rfl (Gf b 7 rfl rfl (Gl hbk3 rfl rfl rfl rfl rfl (Gn rfl rfl rfl rfl (Gb (.bool false) (by simp [go_sem,c2]) rfl rfl rfl rfl rfl (Gk rfl (Gk rfl (Gf gc 1 rfl rfl (Gl cx rfl rfl rfl rfl rfl (Gb (.bool false) (by simp [go_sem,c3]) rfl rfl rfl rfl rfl (Gk rfl (Gk rfl (Gf gc 1 rfl rfl (Gl cx rfl rfl rfl rfl rfl (Gk rfl (Gk rfl (Gf b 7 rfl rfl (Gf b 7 rfl rfl (Gl hbk3 (V:=.slice (some ⟨bf,of,none⟩) H.fi.length H.ci) (by simp [mhC,hai]) rfl rfl rfl rfl (Gf gc 0 rfl rfl (Gl cx (V:=.int .i64 (F:Int)) (by simp [ccC,hcF]) rfl rfl rfl rfl (Gr (.pointer (some ⟨bf,of + F * 2,none⟩)) (fun ρ y W hb hk=>(run_idx rfl (kx_at rfl hk) (kx_at rfl hk) hFl Try.underlying34 file_size)) rfl rfl (Gf bf (of + F * 2 + 1) rfl rfl (Gc (.slice P.a P.l.length P.c) (fun W hb=>by simp [hcs _ hb]) rfl rfl rfl rfl (Gn rfl rfl rfl rfl (Gb (.bool false) (by simp [go_sem,c4]) rfl rfl rfl rfl rfl (Gk rfl (Gk rfl (Gf gc 2 rfl rfl (Gl cx rfl rfl rfl rfl rfl (Gb (.bool false) (by simp [go_sem,c5]) rfl rfl rfl rfl rfl (Gk rfl (Gk rfl (Gf gc 2 rfl rfl (Gl cx rfl rfl rfl rfl rfl (Gk rfl (Gk rfl (Gf b 0 rfl rfl (Gf b 0 rfl rfl (Gl hbk3 rfl rfl rfl rfl rfl (Gn rfl rfl rfl rfl (Gb (.bool false) (by simp [go_sem,c6]) rfl rfl rfl rfl rfl (Gk rfl (all_nil)))))))))))))))))))))))))))))))))))))))))))))))))))) (fun _=>rfl) rfl ?_
   intro y W4 hbW4 _
   have hbr4:=below_next hbr3 hbW4
   replace cx:=cx.ext hbW4
   clear hbW4
   obtain ⟨K,hcK⟩:∃ K:Nat,c.k = K:=⟨c.k.toNat,by omega⟩
   have hKl:K < H.m.fs.length:=by omega
   have hbk4:=hbk.ext hbr4
   have hr4:=h.below hbr4
   obtain ⟨bg,og,haf,hfrd⟩:=elemR frL_len (by decide) hr4.fr.rd K hKl
   have hE7:Hid (Lk = if (frN H.ma K).r < 1 ∨ (frN H.ma K).f ≠ c.f ∨ (frN H.ma K).i ≠ c.i then 7 else match prevC H.ca k with
    | none=>0
    | some q=>if c.f < q.f ∨ q.f = c.f ∧ c.i ≤ q.i then 2 else 0):=Lib.hid (by
    rw [hE.out]
    unfold cacheE
    rw [if_neg (by rw [hfl.out,hfA'.out]; show ¬ (c.f < 0 ∨ (H.fi.length:Int) ≤ c.f ∨ c.i < 0 ∨ (P.l.length:Int) ≤ c.i ∨ c.k < 0 ∨ (H.m.fs.length:Int) ≤ c.k); omega),hcK]
    rfl)
   have hxf:H.m.fs[K] = frN H.ma K:=by
    have:=frN_at (m:=H.ma) (f:=K) hKl
    have h2:H.m.fs[K]? = some (frN H.ma K):=this
    rw [List.getElem?_eq_getElem hKl] at h2
    exact Option.some.inj h2
   rw [hxf] at hfrd
   generalize frN H.ma K = x at *
   clear hxf hai hFl hcs hfA' hfl hbk3 hr3 c2 c3 c4 c5 c6 c1 hE hcF
   go_upto_region 6 with (fail)
   refine wp_growP 10 [_,_,_,_,_,_,_,_,_,.r 9 ((allocR W4.heap.size 59 13))] (Gk rfl (Gk rfl (Gf b 0 rfl rfl (Gf b 0 rfl rfl (Gl hbk4 (V:=.slice (some ⟨bg,og,none⟩) H.m.fs.length H.cf) (by simp [mhC,haf]) rfl rfl rfl rfl (Gf gc 2 rfl rfl (Gl cx (V:=.int .i64 (K:Int)) (by simp [ccC,hcK]) rfl rfl rfl rfl (Gr (.pointer (some ⟨bg,og + K * 13,none⟩)) (fun ρ y W hb hk=>(run_idx rfl (kx_at rfl hk) (kx_at rfl hk) hKl Try.underlying25 frame_size)) rfl rfl (Gr (.agg (frC x)) (fun ρ y W hb hk=>(run_load_rd rfl (kx_at rfl hk) (hfrd.below hb) Try.underlying59 rfl frame_size)) rfl rfl (all_cons ?_ (all_nil))))))))))) (fun _=>rfl) rfl ?_
   ·intro ρ y W hw hn hb hd
    refine asked_new (.pointer (some ⟨W.heap.size,0,none⟩)) (want_free rfl) (by simp [execOp,go_sem]) ((Below.refl _ _).alloc (Nat.le_refl _) (.cells #[.int .u8 0,.int .u8 0,.int .u8 0,.int .u8 0,.int .u8 0,.int .u8 0,.int .u8 0,.int .u8 0,.int .i64 0,.bool false,.bool false,.int .i64 0,.int .i64 0] 59)) ?_
    exact ⟨_,_,rfl,hb.size,Blk.new _ _ _,rfl⟩
   intro y W5 hbW5 hRW5
   have hy9:((allocR W4.heap.size 59 13)).r (y 9) W5:=hRW5 9 (by decide)
   clear hRW5
   obtain ⟨gx,curx,hgx,hgxs,hbx,hszx⟩:=hy9
   rw [hgx]
   go_wp2_with (refine wpList_st rfl _ _ _ rfl gx 0 (frC x) rfl rfl _ _ hbx (by rw [hszx]; exact Nat.le_refl _) frame_size (frC_one x) ?_)
   intro w6 hb6 hg6
   rw [putAt_whole _ _ (by rw [hszx]; rfl)] at hb6
   have hbel6:Below W4.heap.size W4 w6:=hbW5.grown hg6 hbW5.size (fun k hk=>by cases hk; exact hgxs)
   have hbr6:=below_next hbr4 hbel6
   have cx6:=cx.ext hbel6
   have hbk6:=hbk.ext hbr6
   clear hbx hbW5 hg6 cx hbk4 hr4 hfrd hbel6 hgx
   have hcx:=hb6.cell
   unfold frC at hcx
   have hcc:=cx6.cell
   unfold ccC at hcc
   by_cases d1:x.r < 1
   ·have hL7:Hid (Lk = 7):=Lib.hid (by rw [hE7.out,if_pos (.inl d1)])
    have hq:Hid (cachedE H.ma = 7):=Lib.hid (by rw [hfin.out (by rw [hL7.out]; decide),hL7.out])
    clear hbk6
    go_wp2
    go_ret
    rw [hq.out]
    exact ⟨rfl,hbr6⟩
   by_cases d2:x.f = c.f
   rotate_left
   ·have hL7:Hid (Lk = 7):=Lib.hid (by rw [hE7.out,if_pos (.inr (.inl d2))])
    have hq:Hid (cachedE H.ma = 7):=Lib.hid (by rw [hfin.out (by rw [hL7.out]; decide),hL7.out])
    clear hbk6
    go_wp2
    go_ret
    rw [hq.out]
    exact ⟨rfl,hbr6⟩
   by_cases d3:x.i = c.i
   rotate_left
   ·have hL7:Hid (Lk = 7):=Lib.hid (by rw [hE7.out,if_pos (.inr (.inr d3))])
    have hq:Hid (cachedE H.ma = 7):=Lib.hid (by rw [hfin.out (by rw [hL7.out]; decide),hL7.out])
    clear hbk6
    go_wp2
    go_ret
    rw [hq.out]
    exact ⟨rfl,hbr6⟩
   rw [if_neg (by rintro (h | h | h); exact d1 h; exact h d2; exact h d3)] at hE7
   go_upto_region 9 with (fail)
   clear hcx hcc hb6 d1 d2 d3
   obtain ⟨k1,q,hk1,hk1l,hq0,hq1,hkq⟩:∃ (k1:Nat) (q:Cc),(0 < k → IntKind.i64.wrap ((k:Int) - 1) = (k1:Int)) ∧ (0 < k → k1 < H.ca.length) ∧ (0 < k → ∀ W,Below w6.heap.size w6 W → W.cell? ⟨bc,oc + k1 * 3,none⟩ = some (.int .i64 q.f)) ∧ (0 < k → ∀ W,Below w6.heap.size w6 W → W.cell? ⟨bc,oc + k1 * 3 + 1,none⟩ = some (.int .i64 q.i)) ∧ (0 < k → prevC H.ca k = some q):=by
    by_cases h0:0 < k
    ·have hkl1:k - 1 < H.ca.length:=by omega
     have hcell:∀ W,Below w6.heap.size w6 W → W.cell? ⟨bc,oc + (k - 1) * 3,none⟩ = some (.int .i64 H.ca[k - 1].f) ∧ W.cell? ⟨bc,oc + (k - 1) * 3 + 1,none⟩ = some (.int .i64 H.ca[k - 1].i):=fun W hb=>by
      obtain ⟨bc',oc',c',hac',hc',e1,e2,_⟩:=cc_at (h.below (below_next hbr6 hb)).ca.rd (k - 1) hkl1
      rw [List.getElem?_eq_getElem hkl1] at hc'
      cases hc'
      rw [hac] at hac'
      cases hac'
      exact ⟨e1,e2⟩
     refine ⟨k - 1,H.ca[k - 1],fun _ => ?_,fun _=>hkl1,fun _ W hb=>(hcell W hb).1,fun _ W hb=>(hcell W hb).2,fun _ => ?_⟩
     ·rw [show (k:Int) - 1 = ((k - 1:Nat):Int) by omega]
      exact IntWalk.i64_in _ (by omega)
     ·rw [hpv.out,if_neg (by omega),List.getElem?_eq_getElem hkl1]
    ·exact ⟨0,zCc,fun h'=>absurd h' h0,fun h'=>absurd h' h0,fun h'=>absurd h' h0,fun h'=>absurd h' h0,fun h'=>absurd h' h0⟩
   by_cases e1:k = 0
   ·have e1i:¬ (0:Int) < (k:Int):=by omega
    have hL0:Hid (Lk = 0):=Lib.hid (by rw [hE7.out,hpv.out,if_pos e1])
    refine wp_growP 44 [_,_,_,_,_,_,_,_,_,_,_,_,_,_,_,_,_,_,_,_,_,_,_,_,_,_,_,_,_,_,_,_,_,_,_,_,_,_,_,_,_,_,_,.v (.bool false)] (Gk rfl (Gb (.bool false) (by simp [go_sem,e1]) rfl rfl rfl rfl rfl (Gk rfl (Gk rfl (Gk rfl (Gk rfl (Gk rfl (Gk rfl (Gk rfl (Gk rfl (Gk rfl (Gk rfl (Gk rfl (Gk rfl (Gk rfl (Gk rfl (Gk rfl (Gk rfl (Gk rfl (Gk rfl (Gk rfl (Gk rfl (Gk rfl (Gk rfl (Gk rfl (Gk rfl (Gk rfl (Gk rfl (Gk rfl (Gk rfl (Gk rfl (Gk rfl (Gk rfl (Gk rfl (Gk rfl (Gk rfl (Gk rfl (Gk rfl (Gk rfl (Gk rfl (Gk rfl (Gk rfl (Gk rfl (Gk rfl (all_nil))))))))))))))))))))))))))))))))))))))))))))) (fun _=>rfl) rfl ?_
    intro y W7 hbW7 _
    have hbr7:=below_next hbr6 hbW7
    clear hbW7
    have hall:=Lib.hid (hnx.out hL0.out)
    clear hq0 hq1 hk1 hk1l cx6 hbk6
    go_wp2
    go_roundw
    case rel=>exact ⟨k + 1,by omega,by go_num,hbr7,hall⟩
    case measure=>simp [intOf]; omega
   have e1i:0 < k:=by omega
   replace hk1:=hk1 (by omega)
   replace hk1l:=hk1l (by omega)
   replace hq0:=hq0 (by omega)
   replace hq1:=hq1 (by omega)
   have hpq:=Lib.hid (hkq (by omega))
   clear hkq
   by_cases e2:c.f < q.f
   ·have hbad:Hid (c.f < q.f ∨ q.f = c.f ∧ c.i ≤ q.i):=Lib.hid (.inl e2)
    refine wp_growP 44 [_,_,_,_,_,_,_,_,_,_,_,_,_,_,_,_,_,_,_,_,_,_,_,_,_,_,_,_,_,_,_,_,_,_,_,_,_,_,_,_,_,_,_,.v (.bool true)] (Gk rfl (Gb (.bool true) (by simp [go_sem,e1i]) rfl rfl rfl rfl rfl (Gk rfl (Gk rfl (Gk rfl (Gf b 9 rfl rfl (Gl hbk6 (V:=.slice (some ⟨bc,oc,none⟩) H.ca.length H.cc) (by simp [mhC,hac]) rfl rfl rfl rfl (Gk rfl (Gb (.int .i64 (k1:Int)) (by simp [go_sem,hk1]) rfl rfl rfl rfl rfl (Gr (.pointer (some ⟨bc,oc + k1 * 3,none⟩)) (fun ρ y W hb hk=>(run_idx rfl (kx_at rfl hk) (kx_at rfl hk) hk1l Try.underlying37 cached_size)) rfl rfl (Gf bc (oc + k1 * 3) rfl rfl (Gc (.int .i64 q.f) (fun W hb=>by simp [hq0 _ hb]) rfl rfl rfl rfl (Gf gc 0 rfl rfl (Gl cx6 rfl rfl rfl rfl rfl (Gb (.bool true) (by simp [go_sem,e2]) rfl rfl rfl rfl rfl (Gk rfl (Gk rfl (Gk rfl (Gk rfl (Gk rfl (Gk rfl (Gk rfl (Gk rfl (Gk rfl (Gk rfl (Gk rfl (Gk rfl (Gk rfl (Gk rfl (Gk rfl (Gk rfl (Gk rfl (Gk rfl (Gk rfl (Gk rfl (Gk rfl (Gk rfl (Gk rfl (Gk rfl (Gk rfl (Gk rfl (Gk rfl (Gk rfl (Gk rfl (all_nil))))))))))))))))))))))))))))))))))))))))))))) (fun _=>rfl) rfl ?_
    intro y W7 hbW7 _
    have hbr7:=below_next hbr6 hbW7
    clear hbW7
    have hL2:Hid (Lk = 2):=Lib.hid (by rw [hE7.out,hpq.out]; simp only; rw [if_pos hbad.out])
    have hq:Hid (cachedE H.ma = 2):=Lib.hid (by rw [hfin.out (by rw [hL2.out]; decide),hL2.out])
    clear hq0 hq1 hk1 hk1l cx6 hbk6
    go_wp2
    go_ret
    rw [hq.out]
    exact ⟨rfl,hbr7⟩
   by_cases e3:q.f = c.f
   ·by_cases e4:c.i ≤ q.i
    ·have hbad:Hid (c.f < q.f ∨ q.f = c.f ∧ c.i ≤ q.i):=Lib.hid (.inr ⟨e3,e4⟩)
     refine wp_growP 44 [_,_,_,_,_,_,_,_,_,_,_,_,_,_,_,_,_,_,_,_,_,_,_,_,_,_,_,_,_,_,_,_,_,_,_,_,_,_,_,_,_,_,_,.v (.bool true)] (Gk rfl (Gb (.bool true) (by simp [go_sem,e1i]) rfl rfl rfl rfl rfl (Gk rfl (Gk rfl (Gk rfl (Gf b 9 rfl rfl (Gl hbk6 (V:=.slice (some ⟨bc,oc,none⟩) H.ca.length H.cc) (by simp [mhC,hac]) rfl rfl rfl rfl (Gk rfl (Gb (.int .i64 (k1:Int)) (by simp [go_sem,hk1]) rfl rfl rfl rfl rfl (Gr (.pointer (some ⟨bc,oc + k1 * 3,none⟩)) (fun ρ y W hb hk=>(run_idx rfl (kx_at rfl hk) (kx_at rfl hk) hk1l Try.underlying37 cached_size)) rfl rfl (Gf bc (oc + k1 * 3) rfl rfl (Gc (.int .i64 q.f) (fun W hb=>by simp [hq0 _ hb]) rfl rfl rfl rfl (Gf gc 0 rfl rfl (Gl cx6 rfl rfl rfl rfl rfl (Gb (.bool false) (by simp [go_sem,e2]) rfl rfl rfl rfl rfl (Gk rfl (Gk rfl (Gk rfl (Gf b 9 rfl rfl (Gl hbk6 (V:=.slice (some ⟨bc,oc,none⟩) H.ca.length H.cc) (by simp [mhC,hac]) rfl rfl rfl rfl (Gk rfl (Gb (.int .i64 (k1:Int)) (by simp [go_sem,hk1]) rfl rfl rfl rfl rfl (Gr (.pointer (some ⟨bc,oc + k1 * 3,none⟩)) (fun ρ y W hb hk=>(run_idx rfl (kx_at rfl hk) (kx_at rfl hk) hk1l Try.underlying37 cached_size)) rfl rfl (Gf bc (oc + k1 * 3) rfl rfl (Gc (.int .i64 q.f) (fun W hb=>by simp [hq0 _ hb]) rfl rfl rfl rfl (Gf gc 0 rfl rfl (Gl cx6 rfl rfl rfl rfl rfl (Gb (.bool true) (by simp [go_sem,e3]) rfl rfl rfl rfl rfl (Gk rfl (Gk rfl (Gk rfl (Gf b 9 rfl rfl (Gl hbk6 (V:=.slice (some ⟨bc,oc,none⟩) H.ca.length H.cc) (by simp [mhC,hac]) rfl rfl rfl rfl (Gk rfl (Gb (.int .i64 (k1:Int)) (by simp [go_sem,hk1]) rfl rfl rfl rfl rfl (Gr (.pointer (some ⟨bc,oc + k1 * 3,none⟩)) (fun ρ y W hb hk=>(run_idx rfl (kx_at rfl hk) (kx_at rfl hk) hk1l Try.underlying37 cached_size)) rfl rfl (Gf bc (oc + k1 * 3 + 1) rfl rfl (Gc (.int .i64 q.i) (fun W hb=>by simp [hq1 _ hb]) rfl rfl rfl rfl (Gf gc 1 rfl rfl (Gl cx6 rfl rfl rfl rfl rfl (Gb (.bool true) (by simp [go_sem,e4]) rfl rfl rfl rfl rfl (Gk rfl (Gk rfl (Gk rfl (all_nil))))))))))))))))))))))))))))))))))))))))))))) (fun _=>rfl) rfl ?_
     intro y W7 hbW7 _
     have hbr7:=below_next hbr6 hbW7
     clear hbW7
     have hL2:Hid (Lk = 2):=Lib.hid (by rw [hE7.out,hpq.out]; simp only; rw [if_pos hbad.out])
     have hq:Hid (cachedE H.ma = 2):=Lib.hid (by rw [hfin.out (by rw [hL2.out]; decide),hL2.out])
     clear hq0 hq1 hk1 hk1l cx6 hbk6
     go_wp2
     go_ret
     rw [hq.out]
     exact ⟨rfl,hbr7⟩
    ·have hL0:Hid (Lk = 0):=Lib.hid (by rw [hE7.out,hpq.out]; simp only; rw [if_neg (by omega)])
     refine wp_growP 44 [_,_,_,_,_,_,_,_,_,_,_,_,_,_,_,_,_,_,_,_,_,_,_,_,_,_,_,_,_,_,_,_,_,_,_,_,_,_,_,_,_,_,_,.v (.bool false)] (Gk rfl (Gb (.bool true) (by simp [go_sem,e1i]) rfl rfl rfl rfl rfl (Gk rfl (Gk rfl (Gk rfl (Gf b 9 rfl rfl (Gl hbk6 (V:=.slice (some ⟨bc,oc,none⟩) H.ca.length H.cc) (by simp [mhC,hac]) rfl rfl rfl rfl (Gk rfl (Gb (.int .i64 (k1:Int)) (by simp [go_sem,hk1]) rfl rfl rfl rfl rfl (Gr (.pointer (some ⟨bc,oc + k1 * 3,none⟩)) (fun ρ y W hb hk=>(run_idx rfl (kx_at rfl hk) (kx_at rfl hk) hk1l Try.underlying37 cached_size)) rfl rfl (Gf bc (oc + k1 * 3) rfl rfl (Gc (.int .i64 q.f) (fun W hb=>by simp [hq0 _ hb]) rfl rfl rfl rfl (Gf gc 0 rfl rfl (Gl cx6 rfl rfl rfl rfl rfl (Gb (.bool false) (by simp [go_sem,e2]) rfl rfl rfl rfl rfl (Gk rfl (Gk rfl (Gk rfl (Gf b 9 rfl rfl (Gl hbk6 (V:=.slice (some ⟨bc,oc,none⟩) H.ca.length H.cc) (by simp [mhC,hac]) rfl rfl rfl rfl (Gk rfl (Gb (.int .i64 (k1:Int)) (by simp [go_sem,hk1]) rfl rfl rfl rfl rfl (Gr (.pointer (some ⟨bc,oc + k1 * 3,none⟩)) (fun ρ y W hb hk=>(run_idx rfl (kx_at rfl hk) (kx_at rfl hk) hk1l Try.underlying37 cached_size)) rfl rfl (Gf bc (oc + k1 * 3) rfl rfl (Gc (.int .i64 q.f) (fun W hb=>by simp [hq0 _ hb]) rfl rfl rfl rfl (Gf gc 0 rfl rfl (Gl cx6 rfl rfl rfl rfl rfl (Gb (.bool true) (by simp [go_sem,e3]) rfl rfl rfl rfl rfl (Gk rfl (Gk rfl (Gk rfl (Gf b 9 rfl rfl (Gl hbk6 (V:=.slice (some ⟨bc,oc,none⟩) H.ca.length H.cc) (by simp [mhC,hac]) rfl rfl rfl rfl (Gk rfl (Gb (.int .i64 (k1:Int)) (by simp [go_sem,hk1]) rfl rfl rfl rfl rfl (Gr (.pointer (some ⟨bc,oc + k1 * 3,none⟩)) (fun ρ y W hb hk=>(run_idx rfl (kx_at rfl hk) (kx_at rfl hk) hk1l Try.underlying37 cached_size)) rfl rfl (Gf bc (oc + k1 * 3 + 1) rfl rfl (Gc (.int .i64 q.i) (fun W hb=>by simp [hq1 _ hb]) rfl rfl rfl rfl (Gf gc 1 rfl rfl (Gl cx6 rfl rfl rfl rfl rfl (Gb (.bool false) (by simp [go_sem,e4]) rfl rfl rfl rfl rfl (Gk rfl (Gk rfl (Gk rfl (all_nil))))))))))))))))))))))))))))))))))))))))))))) (fun _=>rfl) rfl ?_
     intro y W7 hbW7 _
     have hbr7:=below_next hbr6 hbW7
     clear hbW7
     have hall:=Lib.hid (hnx.out hL0.out)
     clear hq0 hq1 hk1 hk1l cx6 hbk6
     go_wp2
     go_roundw
     case rel=>exact ⟨k + 1,by omega,by go_num,hbr7,hall⟩
     case measure=>simp [intOf]; omega
   ·have hL0:Hid (Lk = 0):=Lib.hid (by rw [hE7.out,hpq.out]; simp only; rw [if_neg (by omega)])
    refine wp_growP 44 [_,_,_,_,_,_,_,_,_,_,_,_,_,_,_,_,_,_,_,_,_,_,_,_,_,_,_,_,_,_,_,_,_,_,_,_,_,_,_,_,_,_,_,.v (.bool false)] (Gk rfl (Gb (.bool true) (by simp [go_sem,e1i]) rfl rfl rfl rfl rfl (Gk rfl (Gk rfl (Gk rfl (Gf b 9 rfl rfl (Gl hbk6 (V:=.slice (some ⟨bc,oc,none⟩) H.ca.length H.cc) (by simp [mhC,hac]) rfl rfl rfl rfl (Gk rfl (Gb (.int .i64 (k1:Int)) (by simp [go_sem,hk1]) rfl rfl rfl rfl rfl (Gr (.pointer (some ⟨bc,oc + k1 * 3,none⟩)) (fun ρ y W hb hk=>(run_idx rfl (kx_at rfl hk) (kx_at rfl hk) hk1l Try.underlying37 cached_size)) rfl rfl (Gf bc (oc + k1 * 3) rfl rfl (Gc (.int .i64 q.f) (fun W hb=>by simp [hq0 _ hb]) rfl rfl rfl rfl (Gf gc 0 rfl rfl (Gl cx6 rfl rfl rfl rfl rfl (Gb (.bool false) (by simp [go_sem,e2]) rfl rfl rfl rfl rfl (Gk rfl (Gk rfl (Gk rfl (Gf b 9 rfl rfl (Gl hbk6 (V:=.slice (some ⟨bc,oc,none⟩) H.ca.length H.cc) (by simp [mhC,hac]) rfl rfl rfl rfl (Gk rfl (Gb (.int .i64 (k1:Int)) (by simp [go_sem,hk1]) rfl rfl rfl rfl rfl (Gr (.pointer (some ⟨bc,oc + k1 * 3,none⟩)) (fun ρ y W hb hk=>(run_idx rfl (kx_at rfl hk) (kx_at rfl hk) hk1l Try.underlying37 cached_size)) rfl rfl (Gf bc (oc + k1 * 3) rfl rfl (Gc (.int .i64 q.f) (fun W hb=>by simp [hq0 _ hb]) rfl rfl rfl rfl (Gf gc 0 rfl rfl (Gl cx6 rfl rfl rfl rfl rfl (Gb (.bool false) (by simp [go_sem,e3]) rfl rfl rfl rfl rfl (Gk rfl (Gk rfl (Gk rfl (Gk rfl (Gk rfl (Gk rfl (Gk rfl (Gk rfl (Gk rfl (Gk rfl (Gk rfl (Gk rfl (Gk rfl (Gk rfl (Gk rfl (Gk rfl (all_nil))))))))))))))))))))))))))))))))))))))))))))) (fun _=>rfl) rfl ?_
    intro y W7 hbW7 _
    have hbr7:=below_next hbr6 hbW7
    clear hbW7
    have hall:=Lib.hid (hnx.out hL0.out)
    clear hq0 hq1 hk1 hk1l cx6 hbk6
    go_wp2
    go_roundw
    case rel=>exact ⟨k + 1,by omega,by go_num,hbr7,hall⟩
    case measure=>simp [intOf]; omega
  ·have hki:¬ (k:Int) < (H.ca.length:Int):=by omega
   have hq:Hid (cachedE H.ma = 0):=Lib.hid (by rw [hLE.out,firstE_none fun i hi=>hz.out i hi (by rw [hLl.out] at hi; omega)])
   clear hz
   go_wp2
   go_ret
   rw [hq.out]
   exact ⟨rfl,hbr⟩
theorem entryE_no {m:Ma} {s:Sp} {n:Int} (h:findA s.ar n < 0):entryE m s n = 5:=by unfold entryE; exact if_pos h
theorem mentry_any (H:MH) (P:PS) (n:Int) (b bs os:Nat) (w:World) (hbk:Blk w b (mhC H) 40) (h:MaR w H) (hrd:RdV w (some ⟨bs,os,none⟩) (psL P)) (hg:P.good w) (har:(wrongA P.ar).1 = 0) (htb:wrongT P.tb = 0) (hn:0 ≤ n ∧ n < 64) :
  Calls Try.prog 38 #[.pointer (some ⟨b,0,none⟩),.pointer (some ⟨bs,os,none⟩),.int .i64 n] w fun r w'=>r = .returned (.int .i64 (entryE H.ma P.sp n)) ∧ Below w.heap.size w w':=by
 have hs1:∀ W,Below w.heap.size w W → W.cell? ⟨bs,os + 1,none⟩ = some (.slice P.aa P.ar.length P.ac):=fun W hb=>by
  obtain ⟨b',o',e,hc⟩:=(hrd.below hb) 1 _ rfl
  cases e
  exact hc
 go_enter Try.func38,Try.ntmps38
 have hc1:=hs1 w (Below.refl _ _)
 have hA:=hg.ars
 go_wp2_with fail
 refine (afind_any P.ar n P.aa P.ac _ hA.rd (by have:=hA.le; have:=hA.mx; unfold maxLen at this; omega)).mono ?_
 rintro r w1 ⟨rfl,hb1⟩
 have hbk1:=hbk.ext hb1
 have h1:=h.below hb1
 have hg1:=hg.below hb1
 have hrd1:=hrd.below hb1
 clear hc1 hA
 by_cases hf:findA P.ar n < 0
 ·have hq:Hid (entryE H.ma P.sp n = 5):=Lib.hid (entryE_no hf)
  clear hbk1
  go_wp2
  go_ret
  rw [hq.out]
  exact ⟨rfl,hb1⟩
 have hE:Hid (entryE H.ma P.sp n = (let a:=P.ar.getD (findA P.ar n).toNat zAr
  let e:=getT P.tb n
  if e.k = 2 then (if (H.sl.length:Int) ≤ e.n ∨ a.sh = true then 7 else 0)
  else if (H.m.fs.length:Int) ≤ e.n then 3 else
  let f:=frAt H.ma e.n
  let of:=decide (0 ≤ a.fi) && decide (f.f = a.fi) && decide (f.i = a.ba + n - a.fr)
  if 0 ≤ f.f ∧ of = false ∨ a.sh = true ∧ of = false ∨ a.sh = false ∧ of = true ∧ e.w = true ∨ e.w = true ∧ a.wr = false then 7
  else if f.f < 0 ∧ e.w = true ∧ 1 < f.r then 7 else 0)):=Lib.hid (by unfold entryE; exact if_neg hf)
 obtain ⟨k,hk,hkl,_⟩:=idx_nat (q:=inA n) (l:=P.ar) (by show 0 ≤ findA P.ar n; omega)
 have hk' : findA P.ar n = k:=hk
 rw [hk',Int.toNat_natCast,List.getD_eq_getElem?_getD,List.getElem?_eq_getElem hkl] at hE
 simp only [Option.getD_some] at hE
 have hkn:¬ (k:Int) < 0:=by omega
 rw [hk']
 obtain ⟨ba,oa,haa,hard⟩:=elemR arL_len (by decide) hg1.ars.rd k hkl
 have haE:=(wrong_all har).2 _ (List.getElem_mem hkl)
 have hafew:=(areaE_few haE).1
 have hent:=(entE_iff _).1 (getT_ent htb n)
 generalize P.ar[k] = a at *
 generalize hge:getT P.tb n = e at *
 have hge':=Lib.hid hge
 clear hk hk' hf haE hge
 go_upto_region 4 with (fail)
 refine wp_growY 15 [ofR 0 (isV (.pointer (some ⟨bs,os,none⟩))),ofR 1 (isV (.pointer (some ⟨bs,os,none⟩))),ofR 2 (isV (.pointer (some ⟨bs,os + 1,none⟩))),ofR 3 (isV (.slice (some ⟨ba,oa,none⟩) P.ar.length P.ac)),ofR 4 (isV (.int .i64 (k:Int))),ofR 5 (isV (.pointer (some ⟨ba,oa + k * 7,none⟩))),ofR 6 (isV (.pointer (some ⟨bs,os,none⟩))),ofR 7 (isV (.pointer (some ⟨bs,os,none⟩))),ofR 8 (isV (.pointer (some ⟨bs,os + 2,none⟩))),ofR 9 (isV (.agg (tsC P.ts))),ofR 10 (isV (.int .i64 n)),ofR 11 (isV (.agg (enC e))),ofR 12 ((allocR w1.heap.size 67 3)),ofR 13 (isV (.pointer (some ⟨ba,oa + k * 7,none⟩))),(boxY 12 w1.heap.size 67 (isV (.agg (enC e))))] (fun W=>Below w1.heap.size w1 W) (fun _ _ h h2=>below_next h2 h) (Below.refl _ _) (by kernel_rfl) _ rfl (by kernel_rfl) (by kernel_rfl) (by decide) (by kernel_rfl) _ rfl (by kernel_rfl) (all_cons ?_ (all_cons ?_ (all_cons ?_ (all_cons ?_ (all_cons ?_ (all_cons ?_ (all_cons ?_ (all_cons ?_ (all_cons ?_ (all_cons ?_ (all_cons ?_ (all_cons ?_ (all_cons ?_ (all_cons ?_ (all_cons ?_ (all_nil)))))))))))))))) ?_
 ·intro ρ y W hw hn hb hd
  refine askY (fun _ _ h h2=>below_next h2 h) hb (isV (.pointer (some ⟨bs,os,none⟩))) (fun _ _ h=>h) ?_
  have E1:ρ (.tmp 1) = .pointer (some ⟨bs,os,none⟩):=(hn (.tmp 1) rfl).trans rfl
  refine asked_val (.pointer (some ⟨bs,os,none⟩)) (want_free rfl) (run_move (.inl rfl) E1) rfl
 ·intro ρ y W hw hn hb hd
  refine askY (fun _ _ h h2=>below_next h2 h) hb (isV (.pointer (some ⟨bs,os,none⟩))) (fun _ _ h=>h) ?_
  have E21:=hw 21 0 rfl
  have h0:y 0 = .pointer (some ⟨bs,os,none⟩):=hd 0 rfl
  refine asked_val (.pointer (some ⟨bs,os,none⟩)) (want_free rfl) (by simp [execOp,go_sem,stripO,E21,h0]) rfl
 ·intro ρ y W hw hn hb hd
  refine askY (fun _ _ h h2=>below_next h2 h) hb (isV (.pointer (some ⟨bs,os + 1,none⟩))) (fun _ _ h=>h) ?_
  have E22:=hw 22 1 rfl
  have h1:y 1 = .pointer (some ⟨bs,os,none⟩):=hd 1 rfl
  refine asked_val (.pointer (some ⟨bs,os + 1,none⟩)) (want_free rfl) (by simp [execOp,go_sem,stripO,E22,h1]) rfl
 ·intro ρ y W hw hn hb hd
  refine askY (fun _ _ h h2=>below_next h2 h) hb (isV (.slice (some ⟨ba,oa,none⟩) P.ar.length P.ac)) (fun _ _ h=>h) ?_
  have E23:=hw 23 2 rfl
  have h2:y 2 = .pointer (some ⟨bs,os + 1,none⟩):=hd 2 rfl
  refine asked_val (.slice (some ⟨ba,oa,none⟩) P.ar.length P.ac) (want_free rfl) (by simp [execOp,go_sem,stripO,E23,h2,hs1 _ (below_next hb1 hb),haa]) rfl
 ·intro ρ y W hw hn hb hd
  refine askY (fun _ _ h h2=>below_next h2 h) hb (isV (.int .i64 (k:Int))) (fun _ _ h=>h) ?_
  have E7:ρ (.tmp 7) = .int .i64 (k:Int):=(hn (.tmp 7) rfl).trans rfl
  refine asked_val (.int .i64 (k:Int)) (want_free rfl) (run_move (.inl rfl) E7) rfl
 ·intro ρ y W hw hn hb hd
  refine askY (fun _ _ h h2=>below_next h2 h) hb (isV (.pointer (some ⟨ba,oa + k * 7,none⟩))) (fun _ _ h=>h) ?_
  have E24:=hw 24 3 rfl
  have h3:y 3 = .slice (some ⟨ba,oa,none⟩) P.ar.length P.ac:=hd 3 rfl
  have E25:=hw 25 4 rfl
  have h4:y 4 = .int .i64 (k:Int):=hd 4 rfl
  refine asked_val (.pointer (some ⟨ba,oa + k * 7,none⟩)) (want_free rfl) (run_idx rfl (E24.trans h3) (E25.trans h4) hkl Try.underlying60 area_size) rfl
 ·intro ρ y W hw hn hb hd
  refine askY (fun _ _ h h2=>below_next h2 h) hb (isV (.pointer (some ⟨bs,os,none⟩))) (fun _ _ h=>h) ?_
  have E1:ρ (.tmp 1) = .pointer (some ⟨bs,os,none⟩):=(hn (.tmp 1) rfl).trans rfl
  refine asked_val (.pointer (some ⟨bs,os,none⟩)) (want_free rfl) (run_move (.inl rfl) E1) rfl
 ·intro ρ y W hw hn hb hd
  refine askY (fun _ _ h h2=>below_next h2 h) hb (isV (.pointer (some ⟨bs,os,none⟩))) (fun _ _ h=>h) ?_
  have E27:=hw 27 6 rfl
  have h6:y 6 = .pointer (some ⟨bs,os,none⟩):=hd 6 rfl
  refine asked_val (.pointer (some ⟨bs,os,none⟩)) (want_free rfl) (by simp [execOp,go_sem,stripO,E27,h6]) rfl
 ·intro ρ y W hw hn hb hd
  refine askY (fun _ _ h h2=>below_next h2 h) hb (isV (.pointer (some ⟨bs,os + 2,none⟩))) (fun _ _ h=>h) ?_
  have E28:=hw 28 7 rfl
  have h7:y 7 = .pointer (some ⟨bs,os,none⟩):=hd 7 rfl
  refine asked_val (.pointer (some ⟨bs,os + 2,none⟩)) (want_free rfl) (by simp [execOp,go_sem,stripO,E28,h7]) rfl
 ·intro ρ y W hw hn hb hd
  refine askY (fun _ _ h h2=>below_next h2 h) hb (isV (.agg (tsC P.ts))) (fun _ _ h=>h) ?_
  have E29:=hw 29 8 rfl
  have h8:y 8 = .pointer (some ⟨bs,os + 2,none⟩):=hd 8 rfl
  refine asked_val (.agg (tsC P.ts)) (want_free rfl) (run_load_rd rfl (E29.trans h8) (rdv_part (hrd1.below hb) 2 8) Try.underlying63 tab_agg tab_size) rfl
 ·intro ρ y W hw hn hb hd
  refine askY (fun _ _ h h2=>below_next h2 h) hb (isV (.int .i64 n)) (fun _ _ h=>h) ?_
  have E2:ρ (.tmp 2) = .int .i64 n:=(hn (.tmp 2) rfl).trans rfl
  refine asked_val (.int .i64 n) (want_free rfl) (run_move (.inl rfl) E2) rfl
 ·intro ρ y W hw hn hb hd
  refine askY (fun _ _ h h2=>below_next h2 h) hb (isV (.agg (enC e))) (fun _ _ h=>h) ?_
  have E30:=hw 30 9 rfl
  have h9:y 9 = .agg (tsC P.ts):=hd 9 rfl
  have E31:=hw 31 10 rfl
  have h10:y 10 = .int .i64 n:=hd 10 rfl
  have EF:∀ f,ρ (.func f) = .func (.func f) #[] #[]:=fun f=>hn (.func f) trivial
  refine asked_call _ _ (want_free rfl) (run_call rfl (EF _) Try.func39 (by kernel_rfl) (by kernel_rfl) (by simp only [List.map_toArray,List.map_cons,List.map_nil,E30,h9,E31,h10,EF]; rfl)) ?_
  refine (tget_any P.tb (tsC P.ts) n W (hg1.below hb).tb).mono ?_
  rintro r w2 ⟨rfl,hb2⟩
  rw [hge'.out]
  exact ⟨_,rfl,hb2,rfl⟩
 ·intro ρ y W hw hn hb hd
  refine askY (fun _ _ h h2=>below_next h2 h) hb ((allocR w1.heap.size 67 3)) (fun _ _ h=>h) ?_
  refine asked_new (.pointer (some ⟨W.heap.size,0,none⟩)) (want_free rfl) (by simp [execOp,go_sem,stripO]) ((Below.refl _ _).alloc (Nat.le_refl _) (.cells #[.int .i64 0,.int .i64 0,.bool false] 67)) ?_
  exact ⟨_,_,rfl,hb.size,Blk.new _ _ _,rfl⟩
 ·intro ρ y W hw hn hb hd
  refine askY (fun _ _ h h2=>below_next h2 h) hb (isV (.pointer (some ⟨ba,oa + k * 7,none⟩))) (fun _ _ h=>h) ?_
  have E26:=hw 26 5 rfl
  have h5:y 5 = .pointer (some ⟨ba,oa + k * 7,none⟩):=hd 5 rfl
  refine asked_val (.pointer (some ⟨ba,oa + k * 7,none⟩)) (want_free rfl) (run_move (.inr rfl) (E26.trans h5)) rfl
 ·intro ρ y W hw hn hb hd
  have E9:=hw 9 12 rfl
  have h12:=hd 12 rfl
  have E32:=hw 32 11 rfl
  have h11:y 11 = .agg (enC e):=hd 11 rfl
  obtain ⟨g3,cur3,e9,hg9,hb9,hs9⟩:=h12
  refine askY_store (want_free rfl) _ _ _ rfl g3 0 (.agg (enC e)) (enC e).toList (E9.trans e9) (E32.trans h11) rfl cur3 _ hb9 (by rw [hs9]; exact Nat.le_refl _) entry_size (one_toList (by simp [enC,Value.oneCell'])) ?_
  intro w1 hw1 hgr
  rw [putAt_whole cur3 _ (by rw [hs9]; rfl)] at hw1
  refine ⟨hb.grown hgr hb.size (fun k hk=>by cases hk; exact hg9),⟨g3,_,e9,hg9,hw1,rfl⟩,?_⟩
  intro k hk hne
  match k,hk,hne with
  | 0,_,_=>exact fun h=>h
  | 1,_,_=>exact fun h=>h
  | 2,_,_=>exact fun h=>h
  | 3,_,_=>exact fun h=>h
  | 4,_,_=>exact fun h=>h
  | 5,_,_=>exact fun h=>h
  | 6,_,_=>exact fun h=>h
  | 7,_,_=>exact fun h=>h
  | 8,_,_=>exact fun h=>h
  | 9,_,_=>exact fun h=>h
  | 10,_,_=>exact fun h=>h
  | 11,_,_=>exact fun h=>h
  | 12,_,_=>exact fun q=>allocR_keep q hw1 (fun _=>rfl) ⟨_,hb9⟩ hgr
  | 13,_,_=>exact fun h=>h
  | 14,_,h=>exact absurd rfl h
  | n + 15,h,_=>exact absurd h (by omega)
 intro y w4 hbw4 hRw4
 replace hbw4:Below w1.heap.size w1 w4:=hbw4
 have hy0:y 0 = .pointer (some ⟨bs,os,none⟩):=hRw4 0 (by decide)
 have hy1:y 1 = .pointer (some ⟨bs,os,none⟩):=hRw4 1 (by decide)
 have hy2:y 2 = .pointer (some ⟨bs,os + 1,none⟩):=hRw4 2 (by decide)
 have hy3:y 3 = .slice (some ⟨ba,oa,none⟩) P.ar.length P.ac:=hRw4 3 (by decide)
 have hy4:y 4 = .int .i64 (k:Int):=hRw4 4 (by decide)
 have hy5:y 5 = .pointer (some ⟨ba,oa + k * 7,none⟩):=hRw4 5 (by decide)
 have hy6:y 6 = .pointer (some ⟨bs,os,none⟩):=hRw4 6 (by decide)
 have hy7:y 7 = .pointer (some ⟨bs,os,none⟩):=hRw4 7 (by decide)
 have hy8:y 8 = .pointer (some ⟨bs,os + 2,none⟩):=hRw4 8 (by decide)
 have hy9:y 9 = .agg (tsC P.ts):=hRw4 9 (by decide)
 have hy10:y 10 = .int .i64 n:=hRw4 10 (by decide)
 have hy11:y 11 = .agg (enC e):=hRw4 11 (by decide)
 have hy13:y 13 = .pointer (some ⟨ba,oa + k * 7,none⟩):=hRw4 13 (by decide)
 have hy12:((allocR w1.heap.size 67 3)).r (y 12) w4:=hRw4 12 (by decide)
 have hy14:=hRw4 14 (by decide)
 clear hRw4
 simp only [lay,strip,stripO,List.map_cons,List.map_nil,Nat.reduceAdd,Nat.reduceLT,decide_true,decide_false,if_true,Bool.false_eq_true,if_false,List.setIfInBounds_toArray,List.set_cons_zero,List.set_cons_succ,List.drop_succ_cons,List.drop_zero,List.drop_nil,hy0,hy1,hy2,hy3,hy4,hy5,hy6,hy7,hy8,hy9,hy10,hy11,hy13]
 clear hy0 hy1 hy2 hy3 hy4 hy5 hy6 hy7 hy8 hy9 hy10 hy11 hy13
 obtain ⟨ge,cce,hgee,hges,hb4,hcce⟩:=hy14
 have hcce' : cce = enC e:=by simpa [isV] using hcce
 subst hcce'
 rw [hgee]
 have hbel4:=hbw4
 have hbr4:=below_next hb1 hbel4
 have ex:=hb4
 have hbk4:=hbk.ext hbr4
 have h4:=h.below hbr4
 have hard4:=hard.below hbel4
 clear hbw4 hbel4 hgee hb4 hard hrd1 hbk1 h1 hb1 hs1 hg1 hy12
 have hAc:∀ j u,(arL a)[j]? = some u → ∀ W,Below w4.heap.size w4 W → W.cell? ⟨ba,oa + k * 7 + j,none⟩ = some u:=fun j u hj W hb=>by
  obtain ⟨b',o',e',hc⟩:=(hard4.below hb) j u hj
  cases e'
  exact hc
 have hA3:=hAc 3 _ rfl
 have hA4:=hAc 4 _ rfl
 have hA5:=hAc 5 _ rfl
 have hA6:=hAc 6 _ rfl
 have hA0:∀ W,Below w4.heap.size w4 W → W.cell? ⟨ba,oa + k * 7,none⟩ = some (.int .i64 a.fr):=hAc 0 _ rfl
 have hce:=ex.cell
 unfold enC at hce
 clear hAc hard4
 by_cases hk2:e.k = 2
 ·rw [if_pos hk2] at hE
  rw [hk2] at hce
  go_upto_region 6 with (fail)
  clear hce hk2
  by_cases c1:(H.sl.length:Int) ≤ e.n
  ·have hq:Hid (entryE H.ma P.sp n = 7):=Lib.hid (by rw [hE.out,if_pos (.inl c1)])
   refine wp_growP 14 [_,_,_,_,_,_,_,_,_,_,_,_,_,.v (.bool true)] (Gf ge 1 rfl rfl (Gl ex rfl rfl rfl rfl rfl (Gk rfl (Gk rfl (Gf b 2 rfl rfl (Gl hbk4 rfl rfl rfl rfl rfl (Gn rfl rfl rfl rfl (Gb (.bool true) (by simp [go_sem,c1]) rfl rfl rfl rfl rfl (Gk rfl (Gk rfl (Gk rfl (Gk rfl (Gk rfl (Gk rfl (all_nil))))))))))))))) (fun _=>rfl) rfl ?_
   intro y W5 hbW5 _
   have hbr5:=below_next hbr4 hbW5
   clear hbW5
   go_wp2
   go_ret
   rw [hq.out]
   exact ⟨rfl,hbr5⟩
  ·cases c2:a.sh with
   | true=>
    have hq:Hid (entryE H.ma P.sp n = 7):=Lib.hid (by rw [hE.out,if_pos (.inr c2)])
    refine wp_growP 14 [_,_,_,_,_,_,_,_,_,_,_,_,_,.v (.bool true)] (Gf ge 1 rfl rfl (Gl ex rfl rfl rfl rfl rfl (Gk rfl (Gk rfl (Gf b 2 rfl rfl (Gl hbk4 rfl rfl rfl rfl rfl (Gn rfl rfl rfl rfl (Gb (.bool false) (by simp [go_sem,c1]) rfl rfl rfl rfl rfl (Gk rfl (Gk rfl (Gk rfl (Gf ba (oa + k * 7 + 4) rfl rfl (Gc (.bool true) (fun W hb=>by simp [hA4 _ hb,c2]) rfl rfl rfl rfl (Gk rfl (all_nil))))))))))))))) (fun _=>rfl) rfl ?_
    intro y W5 hbW5 _
    have hbr5:=below_next hbr4 hbW5
    clear hbW5
    go_wp2
    go_ret
    rw [hq.out]
    exact ⟨rfl,hbr5⟩
   | false=>
    have hq:Hid (entryE H.ma P.sp n = 0):=Lib.hid (by rw [hE.out,if_neg (by rw [c2]; simp; omega)])
    refine wp_growP 14 [_,_,_,_,_,_,_,_,_,_,_,_,_,.v (.bool false)] (Gf ge 1 rfl rfl (Gl ex rfl rfl rfl rfl rfl (Gk rfl (Gk rfl (Gf b 2 rfl rfl (Gl hbk4 rfl rfl rfl rfl rfl (Gn rfl rfl rfl rfl (Gb (.bool false) (by simp [go_sem,c1]) rfl rfl rfl rfl rfl (Gk rfl (Gk rfl (Gk rfl (Gf ba (oa + k * 7 + 4) rfl rfl (Gc (.bool false) (fun W hb=>by simp [hA4 _ hb,c2]) rfl rfl rfl rfl (Gk rfl (all_nil))))))))))))))) (fun _=>rfl) rfl ?_
    intro y W5 hbW5 _
    have hbr5:=below_next hbr4 hbW5
    clear hbW5
    go_wp2
    go_ret
    rw [hq.out]
    exact ⟨rfl,hbr5⟩
 rw [if_neg hk2] at hE
 obtain ⟨K,hK⟩:∃ K:Nat,e.n = K:=⟨e.n.toNat,by omega⟩
 rw [hK] at hE
 go_upto_region 9 with (fail)
 clear hce
 by_cases c3:(H.m.fs.length:Int) ≤ (K:Int)
 ·have hq:Hid (entryE H.ma P.sp n = 3):=Lib.hid (by rw [hE.out,if_pos c3])
  have c3e:(H.m.fs.length:Int) ≤ e.n:=by omega
  refine wp_growP 9 [_,_,_,_,_,_,_,_,_] (Gf ge 1 rfl rfl (Gl ex rfl rfl rfl rfl rfl (Gk rfl (Gk rfl (Gf b 0 rfl rfl (Gf b 0 rfl rfl (Gl hbk4 rfl rfl rfl rfl rfl (Gn rfl rfl rfl rfl (Gb (.bool true) (by simp [go_sem,c3e]) rfl rfl rfl rfl rfl (all_nil)))))))))) (fun _=>rfl) rfl ?_
  intro y W5 hbW5 _
  have hbr5:=below_next hbr4 hbW5
  clear hbW5 hA0 hA3 hA4 hA5 hA6 c3 c3e
  go_wp2
  go_ret
  rw [hq.out]
  exact ⟨rfl,hbr5⟩
 rw [if_neg c3] at hE
 have c3e:¬ (H.m.fs.length:Int) ≤ e.n:=by omega
 refine wp_growP 9 [_,_,_,_,_,_,_,_,_] (Gf ge 1 rfl rfl (Gl ex rfl rfl rfl rfl rfl (Gk rfl (Gk rfl (Gf b 0 rfl rfl (Gf b 0 rfl rfl (Gl hbk4 rfl rfl rfl rfl rfl (Gn rfl rfl rfl rfl (Gb (.bool false) (by simp [go_sem,c3e]) rfl rfl rfl rfl rfl (all_nil)))))))))) (fun _=>rfl) rfl ?_
 intro y W5 hbW5 _
 have hbr5:=below_next hbr4 hbW5
 have hKl:K < H.m.fs.length:=by omega
 replace ex:=ex.ext hbW5
 have hbk5:=hbk.ext hbr5
 have h5:=h.below hbr5
 have sh:∀ {u:Value} {z:Addr},(∀ W,Below w4.heap.size w4 W → W.cell? z = some u) → ∀ W,Below W5.heap.size W5 W → W.cell? z = some u:=fun hh W hb=>hh W (below_next hbW5 hb)
 replace hA0:=sh hA0
 replace hA3:=sh hA3
 replace hA4:=sh hA4
 replace hA5:=sh hA5
 replace hA6:=sh hA6
 obtain ⟨bg,og,haf,hfrd⟩:=elemR frL_len (by decide) h5.fr.rd K hKl
 have hxf:H.m.fs[K] = frN H.ma K:=by
  have:=frN_at (m:=H.ma) (f:=K) hKl
  have h2:H.m.fs[K]? = some (frN H.ma K):=this
  rw [List.getElem?_eq_getElem hKl] at h2
  exact Option.some.inj h2
 rw [hxf] at hfrd
 have hE2:Hid (entryE H.ma P.sp n = (let of:=decide (0 ≤ a.fi) && decide ((frN H.ma K).f = a.fi) && decide ((frN H.ma K).i = a.ba + n - a.fr)
  if 0 ≤ (frN H.ma K).f ∧ of = false ∨ a.sh = true ∧ of = false ∨ a.sh = false ∧ of = true ∧ e.w = true ∨ e.w = true ∧ a.wr = false then 7
  else if (frN H.ma K).f < 0 ∧ e.w = true ∧ 1 < (frN H.ma K).r then 7 else 0)):=Lib.hid (by rw [hE.out]; rfl)
 generalize frN H.ma K = x at *
 clear hE hxf hbW5 hbk4 h4 hbr4 c3 sh
 go_upto_region 11 with (fail)
 refine wp_growP 9 [_,_,_,_,_,_,_,_,.v (.pointer (some ⟨bg,og + K * 13,none⟩))] (Gk rfl (Gk rfl (Gf b 0 rfl rfl (Gf b 0 rfl rfl (Gl hbk5 (V:=.slice (some ⟨bg,og,none⟩) H.m.fs.length H.cf) (by simp [mhC,haf]) rfl rfl rfl rfl (Gf ge 1 rfl rfl (Gl ex (V:=.int .i64 (K:Int)) (by simp [enC,hK]) rfl rfl rfl rfl (Gr (.pointer (some ⟨bg,og + K * 13,none⟩)) (fun ρ y W hb hk=>(run_idx rfl (kx_at rfl hk) (kx_at rfl hk) hKl Try.underlying25 frame_size)) rfl rfl (Gk rfl (all_nil)))))))))) (fun _=>rfl) rfl ?_
 intro y W7 hbW7 _
 have hbr7:=below_next hbr5 hbW7
 have ex7:=ex.ext hbW7
 have hbk7:=hbk.ext hbr7
 have sh:∀ {u:Value} {z:Addr},(∀ W,Below W5.heap.size W5 W → W.cell? z = some u) → ∀ W,Below W7.heap.size W7 W → W.cell? z = some u:=fun hh W hb=>hh W (below_next hbW7 hb)
 replace hA0:=sh hA0
 replace hA3:=sh hA3
 replace hA4:=sh hA4
 replace hA5:=sh hA5
 replace hA6:=sh hA6
 have hfrd7:=hfrd.below hbW7
 clear ex hbk5 hbW7 sh hfrd hbr5 h5
 have hw1:IntKind.i64.wrap (a.ba + n) = a.ba + n:=IntWalk.i64_in _ (by obtain ⟨⟨z1,z2⟩,⟨z3,z4⟩,z5,z6⟩:=hafew; omega)
 have hw2:IntKind.i64.wrap (a.ba + n - a.fr) = a.ba + n - a.fr:=IntWalk.i64_in _ (by obtain ⟨⟨z1,z2⟩,⟨z3,z4⟩,z5,z6⟩:=hafew; omega)
 go_upto_region 12 with (fail)
 refine wp_growP 12 [_,_,_,_,_,_,_,_,_,_,_,.v (.int .i64 (a.ba + n - a.fr))] (Gk rfl (Gk rfl (Gf ba (oa + k * 7 + 6) rfl rfl (Gc (.int .i64 a.ba) (fun W hb=>by simp [hA6 _ hb]) rfl rfl rfl rfl (Gk rfl (Gb (.int .i64 (a.ba + n)) (by simp [go_sem,hw1]) rfl rfl rfl rfl rfl (Gk rfl (Gk rfl (Gf ba (oa + k * 7) rfl rfl (Gc (.int .i64 a.fr) (fun W hb=>by simp [hA0 _ hb]) rfl rfl rfl rfl (Gb (.int .i64 (a.ba + n - a.fr)) (by simp [go_sem,hw2]) rfl rfl rfl rfl rfl (Gk rfl (all_nil))))))))))))) (fun _=>rfl) rfl ?_
 intro y W5 hbW5 _
 have hbr5:=below_next hbr7 hbW5
 have ex:=ex7.ext hbW5
 have hbk5:=hbk.ext hbr5
 have sh:∀ {u:Value} {z:Addr},(∀ W,Below W7.heap.size W7 W → W.cell? z = some u) → ∀ W,Below W5.heap.size W5 W → W.cell? z = some u:=fun hh W hb=>hh W (below_next hbW5 hb)
 replace hA3:=sh hA3
 replace hA4:=sh hA4
 replace hA5:=sh hA5
 have hfrd:=hfrd7.below hbW5
 clear ex7 hbk7 hbW5 sh hfrd7 hbr7 hw1 hw2 hA0 hA6
 have hXc:∀ j u,(frL x)[j]? = some u → ∀ W,Below W5.heap.size W5 W → W.cell? ⟨bg,og + K * 13 + j,none⟩ = some u:=fun j u hj W hb=>by
  obtain ⟨b',o',e',hc⟩:=(hfrd.below hb) j u hj
  cases e'
  exact hc
 have hX8:=hXc 8 _ rfl
 have hX11:=hXc 11 _ rfl
 have hX12:=hXc 12 _ rfl
 clear hXc hfrd
 go_upto_region 13 with (fail)
 by_cases g1:0 ≤ a.fi
 ·by_cases g2:x.f = a.fi
  ·by_cases g3:x.i = a.ba + n - a.fr
   ·skip
    refine wp_growP 25 [_,_,_,_,_,_,_,_,_,_,_,_,_,_,_,_,_,_,_,_,_,_,_,_,.v (.bool true)] (Gk rfl (Gk rfl (Gf ba (oa + k * 7 + 5) rfl rfl (Gc (.int .i64 a.fi) (fun W hb=>by simp [hA5 _ hb]) rfl rfl rfl rfl (Gb (.bool true) (by simp [go_sem,g1]) rfl rfl rfl rfl rfl (Gk rfl (Gk rfl (Gk rfl (Gf bg (og + K * 13 + 11) rfl rfl (Gc (.int .i64 x.f) (fun W hb=>by simp [hX11 _ hb]) rfl rfl rfl rfl (Gk rfl (Gk rfl (Gf ba (oa + k * 7 + 5) rfl rfl (Gc (.int .i64 a.fi) (fun W hb=>by simp [hA5 _ hb]) rfl rfl rfl rfl (Gb (.bool true) (by simp [go_sem,g2]) rfl rfl rfl rfl rfl (Gk rfl (Gk rfl (Gk rfl (Gk rfl (Gf bg (og + K * 13 + 12) rfl rfl (Gc (.int .i64 x.i) (fun W hb=>by simp [hX12 _ hb]) rfl rfl rfl rfl (Gk rfl (Gb (.bool true) (by simp [go_sem,g3]) rfl rfl rfl rfl rfl (Gk rfl (Gk rfl (all_nil)))))))))))))))))))))))))) (fun _=>rfl) rfl ?_
    intro y W6 hbW6 _
    have hbr6:=below_next hbr5 hbW6
    have x8:=hX8 _ hbW6
    have x11:=hX11 _ hbW6
    have a3:=hA3 _ hbW6
    have a4:=hA4 _ hbW6
    have hce:=(ex.ext hbW6).cell
    unfold enC at hce
    clear hbW6 hA3 hA4 hA5 hX8 hX11 hX12 ex hbk5
    have f1:0 ≤ x.f:=by omega
    have f1n:¬ x.f < 0:=by omega
    replace hE2:Hid (entryE H.ma P.sp n = if a.sh = false ∧ e.w = true ∨ e.w = true ∧ a.wr = false then 7 else 0):=Lib.hid (by
     rw [hE2.out,decide_eq_true g1,decide_eq_true g2,decide_eq_true g3]
     simp [f1n])
    clear g2 g3
    cases f2:a.sh with
    | true=>
     rw [f2] at a4
     cases f3:e.w with
     | false=>
      rw [f3] at hce
      have hq:Hid (entryE H.ma P.sp n = 0):=Lib.hid (by rw [hE2.out]; simp [*]; try omega)
      clear hE2
      go_wp2
      go_ret
      rw [hq.out]
      exact ⟨rfl,hbr6⟩
     | true=>
      rw [f3] at hce
      cases f4:a.wr with
      | false=>
       rw [f4] at a3
       have hq:Hid (entryE H.ma P.sp n = 7):=Lib.hid (by rw [hE2.out]; simp [*]; try omega)
       clear hE2
       go_wp2
       go_ret
       rw [hq.out]
       exact ⟨rfl,hbr6⟩
      | true=>
       rw [f4] at a3
       have hq:Hid (entryE H.ma P.sp n = 0):=Lib.hid (by rw [hE2.out]; simp [*]; try omega)
       clear hE2
       go_wp2
       go_ret
       rw [hq.out]
       exact ⟨rfl,hbr6⟩
    | false=>
     rw [f2] at a4
     cases f3:e.w with
     | true=>
      rw [f3] at hce
      have hq:Hid (entryE H.ma P.sp n = 7):=Lib.hid (by rw [hE2.out]; simp [*]; try omega)
      clear hE2
      go_wp2
      go_ret
      rw [hq.out]
      exact ⟨rfl,hbr6⟩
     | false=>
      rw [f3] at hce
      have hq:Hid (entryE H.ma P.sp n = 0):=Lib.hid (by rw [hE2.out]; simp [*]; try omega)
      clear hE2
      go_wp2
      go_ret
      rw [hq.out]
      exact ⟨rfl,hbr6⟩
   ·skip
    refine wp_growP 25 [_,_,_,_,_,_,_,_,_,_,_,_,_,_,_,_,_,_,_,_,_,_,_,_,.v (.bool false)] (Gk rfl (Gk rfl (Gf ba (oa + k * 7 + 5) rfl rfl (Gc (.int .i64 a.fi) (fun W hb=>by simp [hA5 _ hb]) rfl rfl rfl rfl (Gb (.bool true) (by simp [go_sem,g1]) rfl rfl rfl rfl rfl (Gk rfl (Gk rfl (Gk rfl (Gf bg (og + K * 13 + 11) rfl rfl (Gc (.int .i64 x.f) (fun W hb=>by simp [hX11 _ hb]) rfl rfl rfl rfl (Gk rfl (Gk rfl (Gf ba (oa + k * 7 + 5) rfl rfl (Gc (.int .i64 a.fi) (fun W hb=>by simp [hA5 _ hb]) rfl rfl rfl rfl (Gb (.bool true) (by simp [go_sem,g2]) rfl rfl rfl rfl rfl (Gk rfl (Gk rfl (Gk rfl (Gk rfl (Gf bg (og + K * 13 + 12) rfl rfl (Gc (.int .i64 x.i) (fun W hb=>by simp [hX12 _ hb]) rfl rfl rfl rfl (Gk rfl (Gb (.bool false) (by simp [go_sem,g3]) rfl rfl rfl rfl rfl (Gk rfl (Gk rfl (all_nil)))))))))))))))))))))))))) (fun _=>rfl) rfl ?_
    intro y W6 hbW6 _
    have hbr6:=below_next hbr5 hbW6
    have x8:=hX8 _ hbW6
    have x11:=hX11 _ hbW6
    have a3:=hA3 _ hbW6
    have a4:=hA4 _ hbW6
    have hce:=(ex.ext hbW6).cell
    unfold enC at hce
    clear hbW6 hA3 hA4 hA5 hX8 hX11 hX12 ex hbk5
    have hof:(decide (0 ≤ a.fi) && decide (x.f = a.fi) && decide (x.i = a.ba + n - a.fr)) = false:=by simp [*]
    replace hE2:Hid (entryE H.ma P.sp n = if 0 ≤ x.f ∨ a.sh = true ∨ e.w = true ∧ a.wr = false then 7 else if x.f < 0 ∧ e.w = true ∧ 1 < x.r then 7 else 0):=Lib.hid (by
     rw [hE2.out,hof]
     simp)
    clear hof g2 g3
    by_cases f1:0 ≤ x.f
    ·skip
     have hq:Hid (entryE H.ma P.sp n = 7):=Lib.hid (by rw [hE2.out]; simp [*]; try omega)
     clear hE2
     go_wp2
     go_ret
     rw [hq.out]
     exact ⟨rfl,hbr6⟩
    have f1n:x.f < 0:=by omega
    cases f2:a.sh with
    | true=>
     rw [f2] at a4
     have hq:Hid (entryE H.ma P.sp n = 7):=Lib.hid (by rw [hE2.out]; simp [*]; try omega)
     clear hE2
     go_wp2
     go_ret
     rw [hq.out]
     exact ⟨rfl,hbr6⟩
    | false=>
     rw [f2] at a4
     cases f3:e.w with
     | false=>
      rw [f3] at hce
      have hq:Hid (entryE H.ma P.sp n = 0):=Lib.hid (by rw [hE2.out]; simp [*]; try omega)
      clear hE2
      go_wp2
      go_ret
      rw [hq.out]
      exact ⟨rfl,hbr6⟩
     | true=>
      rw [f3] at hce
      cases f4:a.wr with
      | false=>
       rw [f4] at a3
       have hq:Hid (entryE H.ma P.sp n = 7):=Lib.hid (by rw [hE2.out]; simp [*]; try omega)
       clear hE2
       go_wp2
       go_ret
       rw [hq.out]
       exact ⟨rfl,hbr6⟩
      | true=>
       rw [f4] at a3
       by_cases f5:1 < x.r
       ·skip
        have hq:Hid (entryE H.ma P.sp n = 7):=Lib.hid (by rw [hE2.out]; simp [*]; try omega)
        clear hE2
        go_wp2
        go_ret
        rw [hq.out]
        exact ⟨rfl,hbr6⟩
       ·skip
        have hq:Hid (entryE H.ma P.sp n = 0):=Lib.hid (by rw [hE2.out]; simp [*]; try omega)
        clear hE2
        go_wp2
        go_ret
        rw [hq.out]
        exact ⟨rfl,hbr6⟩
  ·skip
   refine wp_growP 25 [_,_,_,_,_,_,_,_,_,_,_,_,_,_,_,_,_,_,_,_,_,_,_,_,.v (.bool false)] (Gk rfl (Gk rfl (Gf ba (oa + k * 7 + 5) rfl rfl (Gc (.int .i64 a.fi) (fun W hb=>by simp [hA5 _ hb]) rfl rfl rfl rfl (Gb (.bool true) (by simp [go_sem,g1]) rfl rfl rfl rfl rfl (Gk rfl (Gk rfl (Gk rfl (Gf bg (og + K * 13 + 11) rfl rfl (Gc (.int .i64 x.f) (fun W hb=>by simp [hX11 _ hb]) rfl rfl rfl rfl (Gk rfl (Gk rfl (Gf ba (oa + k * 7 + 5) rfl rfl (Gc (.int .i64 a.fi) (fun W hb=>by simp [hA5 _ hb]) rfl rfl rfl rfl (Gb (.bool false) (by simp [go_sem,g2]) rfl rfl rfl rfl rfl (Gk rfl (Gk rfl (Gk rfl (Gk rfl (Gk rfl (Gk rfl (Gk rfl (Gk rfl (Gk rfl (Gk rfl (all_nil)))))))))))))))))))))))))) (fun _=>rfl) rfl ?_
   intro y W6 hbW6 _
   have hbr6:=below_next hbr5 hbW6
   have x8:=hX8 _ hbW6
   have x11:=hX11 _ hbW6
   have a3:=hA3 _ hbW6
   have a4:=hA4 _ hbW6
   have hce:=(ex.ext hbW6).cell
   unfold enC at hce
   clear hbW6 hA3 hA4 hA5 hX8 hX11 hX12 ex hbk5
   have hof:(decide (0 ≤ a.fi) && decide (x.f = a.fi) && decide (x.i = a.ba + n - a.fr)) = false:=by simp [*]
   replace hE2:Hid (entryE H.ma P.sp n = if 0 ≤ x.f ∨ a.sh = true ∨ e.w = true ∧ a.wr = false then 7 else if x.f < 0 ∧ e.w = true ∧ 1 < x.r then 7 else 0):=Lib.hid (by
    rw [hE2.out,hof]
    simp)
   clear hof g2
   by_cases f1:0 ≤ x.f
   ·skip
    have hq:Hid (entryE H.ma P.sp n = 7):=Lib.hid (by rw [hE2.out]; simp [*]; try omega)
    clear hE2
    go_wp2
    go_ret
    rw [hq.out]
    exact ⟨rfl,hbr6⟩
   have f1n:x.f < 0:=by omega
   cases f2:a.sh with
   | true=>
    rw [f2] at a4
    have hq:Hid (entryE H.ma P.sp n = 7):=Lib.hid (by rw [hE2.out]; simp [*]; try omega)
    clear hE2
    go_wp2
    go_ret
    rw [hq.out]
    exact ⟨rfl,hbr6⟩
   | false=>
    rw [f2] at a4
    cases f3:e.w with
    | false=>
     rw [f3] at hce
     have hq:Hid (entryE H.ma P.sp n = 0):=Lib.hid (by rw [hE2.out]; simp [*]; try omega)
     clear hE2
     go_wp2
     go_ret
     rw [hq.out]
     exact ⟨rfl,hbr6⟩
    | true=>
     rw [f3] at hce
     cases f4:a.wr with
     | false=>
      rw [f4] at a3
      have hq:Hid (entryE H.ma P.sp n = 7):=Lib.hid (by rw [hE2.out]; simp [*]; try omega)
      clear hE2
      go_wp2
      go_ret
      rw [hq.out]
      exact ⟨rfl,hbr6⟩
     | true=>
      rw [f4] at a3
      by_cases f5:1 < x.r
      ·skip
       have hq:Hid (entryE H.ma P.sp n = 7):=Lib.hid (by rw [hE2.out]; simp [*]; try omega)
       clear hE2
       go_wp2
       go_ret
       rw [hq.out]
       exact ⟨rfl,hbr6⟩
      ·skip
       have hq:Hid (entryE H.ma P.sp n = 0):=Lib.hid (by rw [hE2.out]; simp [*]; try omega)
       clear hE2
       go_wp2
       go_ret
       rw [hq.out]
       exact ⟨rfl,hbr6⟩
 ·skip
  refine wp_growP 25 [_,_,_,_,_,_,_,_,_,_,_,_,_,_,_,_,_,_,_,_,_,_,_,_,.v (.bool false)] (Gk rfl (Gk rfl (Gf ba (oa + k * 7 + 5) rfl rfl (Gc (.int .i64 a.fi) (fun W hb=>by simp [hA5 _ hb]) rfl rfl rfl rfl (Gb (.bool false) (by simp [go_sem,g1]) rfl rfl rfl rfl rfl (Gk rfl (Gk rfl (Gk rfl (Gk rfl (Gk rfl (Gk rfl (Gk rfl (Gk rfl (Gk rfl (Gk rfl (Gk rfl (Gk rfl (Gk rfl (Gk rfl (Gk rfl (Gk rfl (Gk rfl (Gk rfl (Gk rfl (Gk rfl (all_nil)))))))))))))))))))))))))) (fun _=>rfl) rfl ?_
  intro y W6 hbW6 _
  have hbr6:=below_next hbr5 hbW6
  have x8:=hX8 _ hbW6
  have x11:=hX11 _ hbW6
  have a3:=hA3 _ hbW6
  have a4:=hA4 _ hbW6
  have hce:=(ex.ext hbW6).cell
  unfold enC at hce
  clear hbW6 hA3 hA4 hA5 hX8 hX11 hX12 ex hbk5
  have hof:(decide (0 ≤ a.fi) && decide (x.f = a.fi) && decide (x.i = a.ba + n - a.fr)) = false:=by simp [*]
  replace hE2:Hid (entryE H.ma P.sp n = if 0 ≤ x.f ∨ a.sh = true ∨ e.w = true ∧ a.wr = false then 7 else if x.f < 0 ∧ e.w = true ∧ 1 < x.r then 7 else 0):=Lib.hid (by
   rw [hE2.out,hof]
   simp)
  clear hof g1
  by_cases f1:0 ≤ x.f
  ·skip
   have hq:Hid (entryE H.ma P.sp n = 7):=Lib.hid (by rw [hE2.out]; simp [*]; try omega)
   clear hE2
   go_wp2
   go_ret
   rw [hq.out]
   exact ⟨rfl,hbr6⟩
  have f1n:x.f < 0:=by omega
  cases f2:a.sh with
  | true=>
   rw [f2] at a4
   have hq:Hid (entryE H.ma P.sp n = 7):=Lib.hid (by rw [hE2.out]; simp [*]; try omega)
   clear hE2
   go_wp2
   go_ret
   rw [hq.out]
   exact ⟨rfl,hbr6⟩
  | false=>
   rw [f2] at a4
   cases f3:e.w with
   | false=>
    rw [f3] at hce
    have hq:Hid (entryE H.ma P.sp n = 0):=Lib.hid (by rw [hE2.out]; simp [*]; try omega)
    clear hE2
    go_wp2
    go_ret
    rw [hq.out]
    exact ⟨rfl,hbr6⟩
   | true=>
    rw [f3] at hce
    cases f4:a.wr with
    | false=>
     rw [f4] at a3
     have hq:Hid (entryE H.ma P.sp n = 7):=Lib.hid (by rw [hE2.out]; simp [*]; try omega)
     clear hE2
     go_wp2
     go_ret
     rw [hq.out]
     exact ⟨rfl,hbr6⟩
    | true=>
     rw [f4] at a3
     by_cases f5:1 < x.r
     ·skip
      have hq:Hid (entryE H.ma P.sp n = 7):=Lib.hid (by rw [hE2.out]; simp [*]; try omega)
      clear hE2
      go_wp2
      go_ret
      rw [hq.out]
      exact ⟨rfl,hbr6⟩
     ·skip
      have hq:Hid (entryE H.ma P.sp n = 0):=Lib.hid (by rw [hE2.out]; simp [*]; try omega)
      clear hE2
      go_wp2
      go_ret
      rw [hq.out]
      exact ⟨rfl,hbr6⟩
def isK (i:Int) (c:Cc):Bool:=decide (c.k = i)
theorem wrong1_any (c:Cc) (i:Int) (g:Nat) (w:World) (hg:Blk w g #[.int .i64 i] 3) :
  Calls Try.prog 41 #[.agg (ccC c),.pointer (some ⟨g,0,none⟩)] w fun r w'=>r = .returned (.bool (isK i c)) ∧ Below w.heap.size w w':=by
 go_enter Try.func41,Try.ntmps41
 go_upto_region 1 with (fail)
 refine abs1 (fun W=>Code.wp _ _ _ _ W) fun W0 hb0 hx0 hs0 => ?_
 clear hs0
 have hgx:=(hg.ext hb0).cell 0
 have hcx:=hx0.cell
 have q2:(ccC c)[2]? = some (.int .i64 c.k):=rfl
 go_wp2
 go_ret
 exact ⟨ret_bool (by unfold isK; rfl),hb0⟩
theorem cc_elem {w:World} {a:Option Addr} {l:List Cc} (h:RdV w a (l.flatMap ccL)) (k:Nat) (hk:k < l.length):∃ b off,a = some ⟨b,off,none⟩ ∧ RdV w (some ⟨b,off + k * 3,none⟩) (ccL l[k]):=elemR ccL_len (by decide) h k hk
theorem idxk_any (l:List Cc) (a:Option Addr) (c:Nat) (w:World) (hrd:RdV w a (l.flatMap ccL)) (hl:l.length ≤ 9223372036854775807) (g:Nat) (kk:Int) (hg:Blk w g #[.int .i64 kk] 3) :
  Calls Try.prog 84 #[.slice a l.length c,.func (.func 41) #[] #[.pointer (some ⟨g,0,none⟩)]] w fun e w'=>e = .returned (.int .i64 (idx (isK kk) l)) ∧ Below w.heap.size w w':=by
 go_enter Try.func84,Try.ntmps84
 go_wp2
 go_loopw [8] (fun i wr => ∃ k:Nat,k ≤ l.length ∧ i = .int .i64 k ∧ Below w.heap.size w wr ∧ ∀ i (h:i < l.length),i < k → (isK kk) l[i] = false) (fun i _=>l.length - (intOf i).toNat)
 case atStart=>exact ⟨0,Nat.zero_le _,rfl,Below.refl _ _,fun i _ h=>absurd h (Nat.not_lt_zero _)⟩
 case round=>
  obtain ⟨k,hk,rfl,hbr,hp0⟩:=hrel
  have hp:=Lib.hid hp0
  clear hp0
  by_cases hlt:k < l.length
  ·obtain ⟨b,off,rfl,hel⟩:=cc_elem (hrd.below hbr) k hlt
   go_wp2_with (refine wpList_ldg _ _ rfl b (off + k * 3) rfl rfl _ hel _ Try.underlying85 rfl cached_size ?_)
   refine (wrong1_any l[k] kk g _ (hg.ext hbr)).mono ?_
   rintro e w2 ⟨rfl,hb2⟩
   have hbel2:=below_next hbr hb2
   clear hb2
   cases hpk:(isK kk) l[k]
   ·have hpk':=Lib.hid hpk
    clear hpk
    go_wp2
    go_roundw
    case rel=>exact ⟨k + 1,by omega,by go_num,hbel2,upto' hp.out hlt hpk'.out⟩
    case measure=>simp [intOf]; omega
   ·have hfin:=Lib.hid (idx_at (isK kk) l k hlt hp.out hpk)
    clear hpk
    go_wp2
    go_ret
    exact ⟨ret_int hfin.out.symm,hbel2⟩
  ·have hfin:=Lib.hid (idx_none (isK kk) l fun i h=>hp.out i h (by omega))
   go_wp2
   go_ret
   exact ⟨ret_int hfin.out.symm,hbr⟩
theorem conk_any (l:List Cc) (a:Option Addr) (c:Nat) (w:World) (hrd:RdV w a (l.flatMap ccL)) (hl:l.length ≤ 9223372036854775807) (g:Nat) (kk:Int) (hg:Blk w g #[.int .i64 kk] 3) :
  Calls Try.prog 40 #[.slice a l.length c,.func (.func 41) #[] #[.pointer (some ⟨g,0,none⟩)]] w fun e w'=>e = .returned (.bool (l.any (isK kk))) ∧ Below w.heap.size w w':=by
 go_enter Try.func40,Try.ntmps40
 go_wp2_with fail
 refine (idxk_any l a c _ hrd hl g kk hg).mono ?_
 rintro e w2 ⟨rfl,hb2⟩
 go_wp2
 go_ret
 exact ⟨ret_bool (idx_any _ _),hb2⟩
theorem eqslots_any (l m:List Int) (a a' : Option Addr) (c c' : Nat) (w:World) (hrd:RdV w a (l.map inV)) (hrd' : RdV w a' (m.map inV)) (hl:l.length ≤ 9223372036854775807) (hl' : m.length ≤ 9223372036854775807) :
  Calls Try.prog 42 #[.slice a l.length c,.slice a' m.length c'] w fun e w'=>e = .returned (.bool (l == m)) ∧ Below w.heap.size w w':=by
 go_enter Try.func42,Try.ntmps42
 by_cases hlm:l.length = m.length
 ·have hne:((l.length:Int) != (m.length:Int)) = false:=by simp [hlm]
  go_wp2
  go_loopw [13] (fun i wr => ∃ k:Nat,k ≤ l.length ∧ i = .int .i64 k ∧ Below w.heap.size w wr ∧ ∀ i (h:i < l.length),i < k → l[i] = m[i]'(by omega)) (fun i _=>l.length - (intOf i).toNat)
  case atStart=>exact ⟨0,Nat.zero_le _,rfl,Below.refl _ _,fun i _ h=>absurd h (Nat.not_lt_zero _)⟩
  case round=>
   obtain ⟨k,hk,rfl,hbel,hp⟩:=hrel
   by_cases hlt:k < l.length
   ·obtain ⟨b,off,rfl,hc⟩:=elem_at (hrd.below hbel) k hlt
    obtain ⟨b',off',rfl,hc'⟩:=elem_at (hrd'.below hbel) k (by omega)
    have k1:(k:Int) < (m.length:Int):=by omega
    go_wp2_with fail
    go_quiet (fail)
    by_cases he:l[k] = m[k]'(by omega)
    ·have hz:(l[k] != m[k]'(by omega)) = false:=by simp [he]
     go_wp2
     go_roundw
     case rel=>exact ⟨k + 1,by omega,by go_num,below_drewN hbel _,upto hp hlt he⟩
     case measure=>simp [intOf]; omega
    ·have hz:(l[k] != m[k]'(by omega)) = true:=by simp [he]
     go_wp2
     go_ret
     exact ⟨ret_bool (samei_not k hlt (by omega) he).symm,below_drewN hbel _⟩
   ·go_wp2
    all_goals
     go_ret
     exact ⟨ret_bool (samei_end hlm fun i h=>hp i h (by omega)).symm,hbel⟩
 ·have hne:((l.length:Int) != (m.length:Int)) = true:=by simp; omega
  go_wp2
  go_ret
  refine ⟨ret_bool ?_,Below.refl _ _⟩
  symm
  rw [beq_eq_false_iff_ne]
  rintro rfl
  exact hlm rfl
theorem cntL_len (n:Nat) (l:List Int):(cntL n l).length = n:=by simp [cntL]
theorem cntL_get (n:Nat) (l:List Int) (i:Nat) (hi:i < n):(cntL n l)[i]? = some (cnt l i:Int):=by simp [cntL,hi]
theorem cnt_snoc (l:List Int) (k i:Int):cnt (l ++ [k]) i = cnt l i + (if k = i then 1 else 0):=by
 rw [cnt_app]
 congr 1
 unfold cnt
 rw [List.countP_cons,List.countP_nil]
 by_cases h:k = i
 ·simp [h]
 ·simp [h]
theorem cntL_inc (n:Nat) (l:List Int) (k:Nat) (hk:k < n):(cntL n l).set k ((cnt l k:Int) + 1) = cntL n (l ++ [(k:Int)]):=by
 apply List.ext_getElem?
 intro i
 rw [List.getElem?_set,cntL_len]
 by_cases e:k = i
 ·subst e
  rw [if_pos rfl,if_pos hk,cntL_get _ _ _ hk,cnt_snoc,if_pos rfl]
  simp
 ·rw [if_neg e]
  by_cases hi:i < n
  ·rw [cntL_get _ _ _ hi,cntL_get _ _ _ hi,cnt_snoc,if_neg (by omega)]; rfl
  ·rw [List.getElem?_eq_none (by rw [cntL_len]; omega),List.getElem?_eq_none (by rw [cntL_len]; omega)]
theorem cntL_nil (n:Nat):cntL n [] = List.replicate n 0:=by
 unfold cntL cnt
 apply List.ext_getElem?
 intro i
 rw [List.getElem?_map,List.getElem?_replicate]
 by_cases hi:i < n
 ·rw [List.getElem?_range hi,if_pos hi]; rfl
 ·rw [if_neg hi,List.getElem?_eq_none (by simp; omega)]; rfl
theorem cnt_le (l:List Int) (i:Int):cnt l i ≤ l.length:=List.countP_le_length
def IB (w:World) (g:Nat) (l:List Int):Prop:=Blk w g (l.map inV).toArray 3
theorem made_ints (n:Nat):madeCells #[.int .i64 0] n = ((List.replicate n (0:Int)).map inV).toArray:=by
 apply Array.ext
 ·simp [size_madeCells]
 ·intro i h1 h2
  simp [madeCells,inV,Nat.mod_one]
theorem IB.cell {w:World} {g:Nat} {l:List Int} (h:IB w g l) {k:Nat} {v:Int} (hv:l[k]? = some v):w.cell? ⟨g,k,none⟩ = some (.int .i64 v):=by
 have:=Blk.cell h k
 rw [this]
 simp [hv,inV]
theorem IB.set {l:List Int} {k:Nat} {v:Int} (hk:k < l.length):putAt (l.map inV).toArray k [.int .i64 v] = ((l.set k v).map inV).toArray:=by
 show ((l.map inV).toArray).setIfInBounds k (.int .i64 v) = _
 rw [List.map_set]
 simp [inV]
end Go.Proofs.Ytkjobhcnlppcnaa