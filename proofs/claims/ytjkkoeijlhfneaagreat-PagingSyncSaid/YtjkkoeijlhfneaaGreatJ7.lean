import Derived.Test.YtjkkoeijlhfneaaGreatJ6
import Derived.BigRegion
set_option linter.unusedSimpArgs false
set_option linter.unusedVariables false
set_option maxHeartbeats 4000000
set_option maxRecDepth 100000
namespace Go.Proofs.YtjkkoeijlhfneaaGreat
open _root_.Go.Proofs.Tryz
open Go.RowKit Go.Maps Pw
variable {P:Program} {T T' e t:TypeId} {b f go i n off sz:Nat} {cs cs':Array Value} {m:Ma} {o:Oper} {w:World} {x:Operand} {ρ:Operand → Value}
theorem OV (H:MH) (g:Pg) (e:En) (w:World) (h:BR w H) (hR:Rt H.ma) (hf:Uw H.ma g e) (hk:e.k≠0) (he:eX e=0) :
  Calls Tryz.prog 51 #[.agg (dh H),.agg (xV (some g)),.agg (jw e)] w fun r w'=>r = .returned (.int .i64 0)∧Below w.heap.size w w':=by
 have z:=Lib.hid hR;have l:=Lib.hid hf;clear hR hf;go_enter func51,ntmps51;go_upto_region 1 with (fail);refine LD (fun W=>Code.wp _ _ _ _ W) fun w1 i bx1 ox1 ex1 v => ?_;have bx1:aB w1 w.heap.size (dh H) 41:=bx1;have ox1:aB w1 (w.heap.size+1) #[.bool true,.bool g.rd,.bool g.wr,.bool g.sh,.int .i64 g.fi,.int .i64 g.pg] 109:=ox1;have ex1:aB w1 (w.heap.size+1+1) #[.int .i64 e.k,.int .i64 e.n,.bool e.w] 89:=ex1;have h1:=h.below i;clear h v;have hc:=bx1.cell;unfold dh at hc;have ho:=ox1.cell;have hx:=ex1.cell;have c:=(dx _).1 he
 by_cases k2:e.k=2
 ·obtain⟨q1,q2⟩:=l.out.sw k2;have q1' : e.n<(H.sl.length:Int):=q1;rw[k2] at hx;rw[q2] at ho;clear q1 q2 hk c he k2;go_wp2;go_ret;exact⟨rfl,i⟩
 have k1:e.k=1:=by omega
 have q1' : e.n<(H.m.fs.length:Int):=l.out.lt k1;obtain⟨f1,f2,f3,f4,f5⟩:=l.out.fr k1;have x:0≤e.n:=by omega
 obtain⟨F,hF⟩:∃F:Nat,e.n=F:=⟨e.n.toNat,by omega⟩;have o:F<H.m.fs.length:=by omega
 obtain⟨bf,of,y,t⟩:=jX fJ (by decide) h1.fr.rd F o;have p:aN H.ma e.n.toNat=H.m.fs[F]:=by rw[hF,bR];unfold aN;show H.m.fs.getD F fr0=_;rw[aS,aH o];rfl
 have j:dR H.m.fs[F]=0:=by rw[←p,hF,bR];exact z.out.pt.frE (m:=H.ma) o
 rw[p] at f1 f2 f4 f5;have ha : -1≤(H.m.fs[F]).f:=by
  unfold dR at j;split at j
  ·exact absurd j (by decide)
  rename_i hb;unfold Dt at hb;simp at hb;omega
 generalize H.m.fs[F]=X at *
 rw[k1,hF] at hx;rw[y] at hc;have hd:(F:Int)<(H.m.fs.length:Int):=by omega
 clear c he hk k2 p q1' x
 go_wp2_with (first | (refine ax _ _ rfl bf (of+F*13) rfl rfl _ t _ underlying81 rfl frame_size ?_) | (refine aI rfl _ _ _ rfl (vW X) rfl rfl rfl frame_size (qw _) ?_))
 intro w4 d fx4;have a:=ae i d;have ho:=(ox1.ext d).cell;have hx:=(ex1.ext d).cell;rw[k1] at hx;have s:=fx4.cell;unfold vW at s;clear bx1 ox1 ex1 h1 hc i d t fx4
 by_cases c1:X.f<0
 ·have b:X.f = -1:=by omega
  have u:g.sh=false:=by
   cases hs:g.sh with
   | false=>rfl
   | true=>have:=f2 hs;omega
  rw[b] at s;rw[u] at ho;cases hw:e.w with
  | false=>
   rw[hw] at hx
   by_cases c2:0≤g.fi
   ·have c3:¬(-1:Int)=g.fi:=by omega
    clear f1 f2 f3 f4 f5 b;go_wp2
    all_goals go_ret
    all_goals exact⟨rfl,a⟩
   clear f1 f2 f3 f4 f5 b;go_wp2
   all_goals go_ret
   all_goals exact⟨rfl,a⟩
  | true=>
   rw[hw] at hx;have h3:=f3 hw;have h5:=f5 hw c1;rw[h3] at ho
   by_cases c2:0≤g.fi
   ·have c3:¬(-1:Int)=g.fi:=by omega
    clear f1 f2 f3 f4 f5 b;go_wp2
    all_goals go_ret
    all_goals exact⟨rfl,a⟩
   clear f1 f2 f3 f4 f5 b;go_wp2
   all_goals go_ret
   all_goals exact⟨rfl,a⟩
 have q:0≤X.f:=by omega
 obtain⟨p1,p2⟩:=f1 q;rw[←p1,←p2] at ho;have c2:(X.f == -1)=false:=by simp;omega
 clear p1 p2;cases hw:e.w with
 | false=>
  rw[hw] at hx;clear f1 f2 f3 f4 f5;go_wp2
  all_goals go_ret
  all_goals exact⟨rfl,a⟩
 | true=>
  rw[hw] at hx;have h3:=f3 hw;have h4:=f4 hw q;rw[h3,h4] at ho;clear f1 f2 f3 f4 f5;go_wp2
  all_goals go_ret
  all_goals exact⟨rfl,a⟩
theorem Nz {l:List En} (h:l.length=64):wB l=(tL l).toArray:=by
 unfold wB tL;congr 1;have e:l=(List.range 64).map fun i=>l.getD i zEn:=by
  apply tO
  ·simp[h]
  intro i h1 h2;simp[aS,aH h1]
 conv=>lhs;rw[e,Cr]
theorem Aa (H:MH) (kd k:Int) (w:World) (h:BR w H) (hR:Rt H.ma) :
  Calls Tryz.prog 52 #[.agg (dh H),.int .i64 kd,.int .i64 k] w fun r w'=>r = .returned (.int .i64 (dA H.ma kd k:Int))∧Below w.heap.size w w':=by
 have hj:=Lib.hid hR.pt;have hh:=Lib.hid h;have hu:H.sp.length≤4:=by have:=hR.pt.spl;rw[ER] at this;exact this
 clear hR;go_enter func52,ntmps52;go_upto_region 1 with (fail);refine gB (fun W=>Code.wp _ _ _ _ W) fun w1 hb bx1 hg => ?_;have bx1:aB w1 w.heap.size (dh H) 41:=bx1;clear h hg;have hc:=bx1.cell;unfold dh at hc;go_wp2
 go_loopw [15,7] (fun s15 s7 wr => ∃p n:Nat,p≤H.sp.length∧s15 = .int .i64 p∧s7 = .int .i64 n∧n≤64*p∧Below w.heap.size w wr∧Hid (n=((H.sp.take p).map fun s=>(dB s.tb).countP (qM kd k)).sum)) (fun s15 _ _=>H.sp.length-(intOf s15).toNat)
 case atStart=>exact⟨0,0,aV _,rfl,rfl,ay _,hb,Lib.hid (by simp)⟩
 case round=>
  clear hb bx1 hc;obtain⟨p,n,hp,rfl,rfl,hn,a,f⟩:=hrel;have hM:=hh.out.below a
  by_cases hpl:p<H.sp.length
  ·obtain⟨bd,od,P,ht,hP,v⟩:=zy hM.sp.rd p hpl;have hk:(p:Int)<(H.sp.length:Int):=by omega
   have c:=xE hM hP;have hf:P.sp∈H.ma.sp:=by show P.sp∈H.sp.map PS.sp;exact gW.2 ⟨P,bO hP,rfl⟩
   have hd:cB P.tb=0:=hj.out.tb P.sp hf;have e:Hid (((H.sp.take (p+1)).map fun s=>(dB s.tb).countP (qM kd k)).sum=n+(dB P.tb).countP (qM kd k)):=Lib.hid (by rw[mV,hP,jb,List.sum_append,←f.out];simp);rw[ht]
   go_wp2_with (first | (refine ax _ _ rfl bd (od+p*10) rfl rfl _ v _ underlying55 rfl space_size ?_) | (refine aI rfl _ _ _ rfl (vT P) rfl rfl rfl space_size (by rw[←jV,dK];exact c.one) ?_))
   intro w6 t px6;have q:=ae a t;have x:=c.below t;clear a t v hM c;have u:dP w6 (some ⟨wr.heap.size,2,none⟩) (nP P.ts).toList:=bJ px6 2 8
   go_wp2_with (refine ax _ _ rfl wr.heap.size 2 rfl rfl _ u _ underlying53 tab_agg tab_size ?_)
   refine (Gq P.tb (nP P.ts) _ x.tb hd).mono ?_;rintro r w7 ⟨rfl,ha⟩;have o:=ae q ha;clear u px6 x q ha;have hr:=AP P.tb;generalize dB P.tb=l at *
   rw[Nz hr];go_wp2
   go_loopw [22,7] (fun s22 s7 wr => ∃i m:Nat,i≤64∧s22 = .int .i64 i∧s7 = .int .i64 m∧m≤64*p+i∧Below w.heap.size w wr∧Hid (m=n+(l.take i).countP (qM kd k))) (fun s22 _ _=>64-(intOf s22).toNat)
   case atStart=>exact⟨0,n,aV _,rfl,rfl,by omega,o,Lib.hid (by simp)⟩
   case round=>
    clear o hn;obtain⟨i,m,hi,rfl,rfl,hm,a,hs⟩:=hrel
    by_cases hil:i<64
    ·have hq:(i:Int)<64:=by omega
     have j : i<l.length:=by omega
     have d:Hid ((l.take (i+1)).countP (qM kd k)=(l.take i).countP (qM kd k)+if qM kd k l[i]=true then 1 else 0):=Lib.hid (BC _ _ _ j);have hE:l.getD i zEn=l[i]:=by rw[aS,aH j];rfl
     generalize l[i]=E at *
     have hl:=Hq l i hil E hE;clear hE
     go_wp2_with (refine aI rfl _ _ _ rfl (jw E) rfl rfl rfl entry_size (by simp[jw,Value.oneCell']) ?_)
     intro w8 z ex8;have g:=ae a z;have hx:=ex8.cell;unfold jw at hx;clear hl a z ex8
     by_cases c1:E.k=kd
     ·by_cases c2:E.n=k
      ·have b : Hid (m+1=n+(l.take (i+1)).countP (qM kd k)):=Lib.hid (by rw[d.out,if_pos (by unfold qM;simp[c1,c2]),hs.out];omega);clear hs d;go_wp2;go_roundw
       case rel=>exact⟨i+1,m+1,by omega,by go_num,by go_num,by omega,g,b⟩
       case measure=>simp[intOf];omega
      have b : Hid (m=n+(l.take (i+1)).countP (qM kd k)):=Lib.hid (by rw[d.out,if_neg (by unfold qM;simp[c1,c2]),hs.out];omega);clear hs d;go_wp2;go_roundw
      case rel=>exact⟨i+1,m,by omega,by go_num,rfl,by omega,g,b⟩
      case measure=>simp[intOf];omega
     have b : Hid (m=n+(l.take (i+1)).countP (qM kd k)):=Lib.hid (by rw[d.out,if_neg (by unfold qM;simp[c1]),hs.out];omega);clear hs d;go_wp2;go_roundw
     case rel=>exact⟨i+1,m,by omega,by go_num,rfl,by omega,g,b⟩
     case measure=>simp[intOf];omega
    have hq:¬(i:Int)<64:=by omega
    have b : Hid (m=((H.sp.take (p+1)).map fun s=>(dB s.tb).countP (qM kd k)).sum):=Lib.hid (by rw[e.out,hs.out,iN (by omega)]);clear hs e;go_wp2;go_roundw
    case rel=>exact⟨p+1,m,by omega,by go_num,rfl,by omega,a,b⟩
    case measure=>simp[intOf];omega
  have hk:¬(p:Int)<(H.sp.length:Int):=by omega
  have y:Hid (n=dA H.ma kd k):=Lib.hid (by rw[f.out,iN (by omega)];unfold dA MH.ma;rw[GZ];rfl);clear f hM;go_wp2;go_ret;exact⟨by rw[←y.out];rfl,a⟩
theorem VD {t:Tb} (hn:n<64):(dB t).getD n zEn=dH t (n:Int):=by
 unfold dB;rw[aS,jO,sG hn];rfl
theorem Rh {y:Operand} {k:IntKind} (ho:o.op = .indexAddr t x y) (hx:ρ x = .pointer (some ⟨b,off,none⟩)) (hy:ρ y = .int k (i:Int)) (hi:i<n)
 (hu:P.underlying t=some (.array n e)) (hs:(P.info? e).map (·.size)=some sz):(execOp ρ o).run P w = .ok (.value (.pointer (some ⟨b,off+i*sz,none⟩))) w:=by
 obtain⟨inf,a,c⟩:∃inf,P.info? e=some inf∧inf.size=sz:=by
  cases h:P.info? e with
  | none=>rw[h] at hs;cases hs
  | some inf=>rw[h] at hs;exact⟨inf,rfl,by simpa using hs⟩
 have d:(Go.sizeOf e).run P w = .ok sz w:=by simp[Go.sizeOf,typeInfo,a,go_sem,c]
 simp[execOp,go_sem,ho,hx,hy,hu,d,hi]
theorem VQ {f:Nat→Option Pg} {o:Option Pg} (h:aB w go (fC f) T) (hi:i<64) (ho:f i=o):dP w (some ⟨go,i*6,none⟩) (xV o).toList:=by
 have h1:=bJ h (i*6) 6;have h2:=NQ f i hi;rw[ho] at h2;have e:((fC f).toList.drop (i*6)).take 6=(xV o).toList:=by rw[←h2,Array.toList_extract];simp[List.extract_eq_take_drop]
 rwa [e] at h1
theorem Ev (H:MH) (w:World) (h:BR w H) (hR:Rt H.ma) :
  Calls Tryz.prog 14 #[.agg (dh H)] w fun r w'=>r = .returned (.int .i64 0)∧Below w.heap.size w w':=by
 have hh:=Lib.hid h;have o:=Lib.hid hR;have hz:=Lib.hid (qd hR);have z1:H.ca.length≤1000:=hz.out.ca;have z2:H.m.fs.length≤1000:=hz.out.fs;have z3:H.sl.length≤1000:=hz.out.sl;have z4:H.sp.length≤4:=by have:=hR.pt.spl;rw[ER] at this;exact this
 have hZ:=Lib.hid (Bc hR.pt.st);clear hR;go_enter func14,ntmps14;go_upto_region 1 with (fail);refine gB (fun W=>Code.wp _ _ _ _ W) fun w1 km bx1 k3 => ?_;have bx1:aB w1 w.heap.size (dh H) 41:=bx1;have h1:=h.below km;clear h k3
 go_wp2_with (refine ax _ _ rfl w.heap.size 0 rfl rfl _ bx1.rd _ underlying41 rfl machine_size ?_)
 refine (OL H _ h1 o.out).mono ?_;rintro r w2 ⟨rfl,kl⟩;have bx2:=bx1.ext kl;have ka:=ae km kl;clear h1 bx1 km kl;have hc:=bx2.cell;unfold dh at hc;go_wp2
 go_loopw [29] (fun s29 wr => ∃q:Nat,q≤H.ca.length∧s29 = .int .i64 q∧Below w.heap.size w wr∧aB wr w.heap.size (dh H) 41) (fun s29 _=>H.ca.length-(intOf s29).toNat)
 case atStart=>exact⟨0,aV _,rfl,ka,bx2⟩
 case round=>
  clear ka bx2 hc;obtain⟨q,hq,rfl,b,bx⟩:=hrel;have hM:=hh.out.below b
  by_cases hql:q<H.ca.length
  ·obtain⟨bc,oc,hl,hJ⟩:=jX pE (by decide) hM.ca.rd q hql;have kv:(q:Int)<(H.ca.length:Int):=by omega
   have u:H.ca[q]∈H.ma.ca:=dN hql;obtain⟨⟨f1,f2⟩,f3,f4⟩:=o.out.ca.file _ u;obtain⟨f5,f6⟩:=o.out.ca.lt _ u;obtain⟨f7,f8,f9⟩:=o.out.ca.fr _ u;have kd:Hid (∀q1:Nat,q=q1+1→∃d:Cc,H.ca[q1]?=some d∧BZ d H.ca[q]∧0≤d.f∧d.f<1000∧0≤d.i∧d.i<12):=Lib.hid (fun q1 e=>by
    have h1:q1<H.ca.length:=by omega
    refine⟨H.ca[q1],aH h1,(zJ.1 o.out.ca.srt) q1 q h1 hql (by omega),?_⟩;obtain⟨⟨g1,g2⟩,g3,g4⟩:=o.out.ca.file _ (dN h1:H.ca[q1]∈H.ma.ca);have hm:aK H.ma.st H.ca[q1].f∈H.ma.st.fs:=by unfold aK;rw[if_pos g1,aS,aH (by omega)];exact dN _
    have:=hZ.out _ hm;have k2:=hz.out.st.1;exact⟨g1,by omega,g3,by omega⟩)
   generalize hcq:H.ca[q]=c at *
   obtain⟨F,kP⟩:∃F:Nat,c.f=F:=⟨c.f.toNat,by omega⟩;have kp:F<H.fi.length:=by have:H.ma.st.fs.length=H.fi.length:=fo _;omega
   obtain⟨bf,of,kT,kH⟩:=jX jL (by decide) hM.st.rd F kp;have kU:Hid (aK H.ma.st c.f=(H.fi[F]).fi):=Lib.hid (by rw[kP];exact oz (by show (H.fi.map PF.fi)[F]?=_;rw[jO,aH kp];rfl));have f4' : c.i<((H.fi[F]).l.length:Int):=by rw[kU.out] at f4;exact f4
   generalize H.fi[F]=P at *
   obtain⟨K,kk⟩:∃K:Nat,c.k=K:=⟨c.k.toNat,by omega⟩;have kY:K<H.m.fs.length:=Int.ofNat_lt.1 (by rw[←kk];exact f6);obtain⟨bm,om,hF,hI⟩:=jX fJ (by decide) hM.fr.rd K kY;have hO:aN H.ma c.k.toNat=H.m.fs[K]:=by rw[kk,bR];unfold aN;show H.m.fs.getD K fr0=_;rw[aS,aH kY];rfl
   rw[hO] at f7 f8 f9;generalize H.m.fs[K]=X at *
   have kB:Hid (0≤c.f∧c.f<1000∧0≤c.i∧c.i<12):=Lib.hid (by
    have hm:aK H.ma.st c.f∈H.ma.st.fs:=by unfold aK;rw[if_pos f1,aS,aH (by omega)];exact dN _
    have:=hZ.out _ hm;have k2:=hz.out.st.1;exact⟨f1,by omega,f3,by omega⟩)
   have c1:¬c.f<0:=by omega
   have c2:¬(H.fi.length:Int)≤c.f:=by omega
   have c3:¬c.i<0:=by omega
   have c4:¬(P.l.length:Int)≤c.i:=by omega
   have c5:¬c.k<0:=by omega
   have c6:¬(H.m.fs.length:Int)≤c.k:=by omega
   have kQ:=Lib.hid (And.intro f7 (And.intro f8 f9));clear f1 f2 f3 f4 f4' f5 f6 f7 f8 f9 hO kU u;rw[hl]
   go_wp2_with (first | (refine ax _ _ rfl bc (oc+q*3) rfl rfl _ hJ _ underlying106 rfl cached_size ?_) | (refine aI rfl _ _ _ rfl (Ao c) rfl rfl rfl cached_size (vL _) ?_))
   intro w3 hD cx3;have bx3:=bx.ext hD;have h8:=ae b hD;have hC:∀W,Below w3.heap.size w3 W→W.cell? ⟨bf,of+F*2+1,none⟩=some (.slice P.a P.l.length P.c):=fun W hb=>by obtain⟨b',o',e,hc⟩:=((kH.below hD).below hb) 1 _ rfl;cases e;exact hc
   have hY:=hI.below hD;have kX:=hM.below hD;clear b bx hD hJ kH hI hM;go_upto_region 7 with (fail);refine aM 45 [_,_,_,_,_,_,_,_,_,_,_,_,_,_,_,_,_,_,_,_,_,_,_,_,_,_,_,_,_,_,_,_,_,_,_,_,_,_,_,_,_,_,_,_,.v (.bool false)] (Gf wr.heap.size 0 rfl rfl (Gl cx3 rfl rfl rfl rfl rfl (Gb (.bool false) (by simp[go_sem,c1]) rfl rfl rfl rfl rfl (Gk rfl (Gf wr.heap.size 0 rfl rfl (Gl cx3 rfl rfl rfl rfl rfl (Gf w.heap.size 7 rfl rfl (Gf w.heap.size 7 rfl rfl (Gl bx3 rfl rfl rfl rfl rfl (Gn rfl rfl rfl rfl (Gb (.bool false) (by simp[go_sem,c2]) rfl rfl rfl rfl rfl (Gk rfl (Gk rfl (Gf wr.heap.size 1 rfl rfl (Gl cx3 rfl rfl rfl rfl rfl (Gb (.bool false) (by simp[go_sem,c3]) rfl rfl rfl rfl rfl (Gk rfl (Gk rfl (Gf wr.heap.size 1 rfl rfl (Gl cx3 rfl rfl rfl rfl rfl (Gf w.heap.size 7 rfl rfl (Gf w.heap.size 7 rfl rfl (Gl bx3 (V:=.slice (some ⟨bf,of,none⟩) H.fi.length H.ci) (by simp[dh,kT]) rfl rfl rfl rfl (Gf wr.heap.size 0 rfl rfl (Gl cx3 (V:=.int .i64 (F:Int)) (by simp[Ao,kP]) rfl rfl rfl rfl (Gr (.pointer (some ⟨bf,of+F*2,none⟩)) (fun ρ y W hb j=>(bF rfl (aF rfl j) (aF rfl j) kp underlying35 file_size)) rfl rfl (Gf bf (of+F*2+1) rfl rfl (Gc (.slice P.a P.l.length P.c) (fun W hb=>by simp[hC _ hb]) rfl rfl rfl rfl (Gn rfl rfl rfl rfl (Gb (.bool false) (by simp[go_sem,c4]) rfl rfl rfl rfl rfl (Gk rfl (Gk rfl (Gf wr.heap.size 2 rfl rfl (Gl cx3 rfl rfl rfl rfl rfl (Gb (.bool false) (by simp[go_sem,c5]) rfl rfl rfl rfl rfl (Gk rfl (Gk rfl (Gf wr.heap.size 2 rfl rfl (Gl cx3 rfl rfl rfl rfl rfl (Gf w.heap.size 0 rfl rfl (Gf w.heap.size 0 rfl rfl (Gl bx3 rfl rfl rfl rfl rfl (Gn rfl rfl rfl rfl (Gb (.bool false) (by simp[go_sem,c6]) rfl rfl rfl rfl rfl (Gk rfl (aC)))))))))))))))))))))))))))))))))))))))))))))) (fun _=>rfl) rfl ?_;intro y W4 ha _;have bx4:=bx3.ext ha;have cx4:=cx3.ext ha;have h7:=ae h8 ha;have hX:=hY.below ha;have kW:=kX.below ha;have hc:=bx4.cell;unfold dh at hc;rw[hF] at hc;have hu:=cx4.cell;unfold Ao at hu;rw[kk] at hu;have ge:(K:Int)<(H.m.fs.length:Int):=by omega
   clear hC h8 bx3 cx3 hY kX ha kT c1 c2 c3 c4 c5 c6
   go_wp2_with (first | (refine ax _ _ rfl bm (om+K*13) rfl rfl _ hX _ underlying81 rfl frame_size ?_) | (refine aI rfl _ _ _ rfl (vW X) rfl rfl rfl frame_size (qw _) ?_))
   intro w5 hN fx5;have bx5:=bx4.ext hN;have cx5:=cx4.ext hN;have h6:=ae h7 hN;have ko:=kW.below hN;clear h7 bx4 cx4 hX kW hN hc hu;have hS:=fx5.cell;unfold vW at hS;have hu:=cx5.cell;unfold Ao at hu;obtain⟨g7,g8,g9⟩:=kQ.out;have d1:¬X.r=0:=by omega
   rw[g8,g9] at hS;clear g7 g8 g9;go_upto_region 12 with (fail);rcases sS q with hq0|hqp
   ·subst hq0;refine aM 27 [_,_,_,_,_,_,_,_,_,_,_,_,_,_,_,_,_,_,_,_,_,_,_,_,_,_,.v (.bool false)] (Gk rfl (Gb (.bool false) (by simp[go_sem,]) rfl rfl rfl rfl rfl (Gk rfl (Gk rfl (Gk rfl (Gk rfl (Gk rfl (Gk rfl (Gk rfl (Gk rfl (Gk rfl (Gk rfl (Gk rfl (Gk rfl (Gk rfl (Gk rfl (Gk rfl (Gk rfl (Gk rfl (Gk rfl (Gk rfl (Gk rfl (Gk rfl (Gk rfl (Gk rfl (Gk rfl (Gk rfl (aC)))))))))))))))))))))))))))) (fun _=>rfl) rfl ?_;intro y W6 hs _;have bx6:=bx5.ext hs;have s:=ae h6 hs;clear ko hl hF;go_wp2;go_roundw
    case rel=>exact⟨1,by omega,by go_num,s,bx6⟩
    case measure=>simp[intOf];omega
   obtain⟨q1,kw⟩:∃q1,q=q1+1:=⟨q-1,by omega⟩;obtain⟨d,hd,kC,g1,g2,g3,g4⟩:=kd.out q1 kw;have hv:q1<H.ca.length:=by omega
   obtain⟨bc',oc',kb,hy⟩:=jX pE (by decide) ko.ca.rd q1 hv;rw[hl] at kb;cases kb;have kJ:H.ca[q1]=d:=by have:=aH hv;rw[hd] at this;exact (aJ this).symm
   rw[kJ] at hy;have kL:∀W,Below w5.heap.size w5 W→W.cell? ⟨bc,oc+q1*3,none⟩=some (.int .i64 d.f):=fun W hb=>by obtain⟨b',o',e,hc⟩:=(hy.below hb) 0 _ rfl;cases e;exact hc
   have kK:∀W,Below w5.heap.size w5 W→W.cell? ⟨bc,oc+q1*3+1,none⟩=some (.int .i64 d.i):=fun W hb=>by obtain⟨b',o',e,hc⟩:=(hy.below hb) 1 _ rfl;cases e;exact hc
   obtain⟨e1,e2,e3,e4⟩:=kB.out;have m0:IntKind.i64.wrap ((q:Int)-1)=(q1:Int):=(bM _ (by omega)).trans (by omega);have m1:IntKind.i64.wrap (100*d.f)=100*d.f:=(bM _ (by omega)).trans (by omega);have m2:IntKind.i64.wrap (100*d.f+d.i)=100*d.f+d.i:=(bM _ (by omega)).trans (by omega);have m3:IntKind.i64.wrap (100*c.f)=100*c.f:=(bM _ (by omega)).trans (by omega);have m4:IntKind.i64.wrap (100*c.f+c.i)=100*c.f+c.i:=(bM _ (by omega)).trans (by omega);have m5:¬100*c.f+c.i≤100*d.f+d.i:=by unfold BZ at kC;omega
   refine aM 27 [_,_,_,_,_,_,_,_,_,_,_,_,_,_,_,_,_,_,_,_,_,_,_,_,_,_,.v (.bool false)] (Gk rfl (Gb (.bool true) (by simp[go_sem,hqp]) rfl rfl rfl rfl rfl (Gk rfl (Gf w.heap.size 9 rfl rfl (Gl bx5 (V:=.slice (some ⟨bc,oc,none⟩) H.ca.length H.cc) (by simp[dh,hl]) rfl rfl rfl rfl (Gk rfl (Gb (.int .i64 (q1:Int)) (by simp[go_sem,m0]) rfl rfl rfl rfl rfl (Gr (.pointer (some ⟨bc,oc+q1*3,none⟩)) (fun ρ y W hb j=>(bF rfl (aF rfl j) (aF rfl j) hv underlying38 cached_size)) rfl rfl (Gf bc (oc+q1*3) rfl rfl (Gc (.int .i64 d.f) (fun W hb=>by simp[kL _ hb]) rfl rfl rfl rfl (Gb (.int .i64 (100*d.f)) (by simp[go_sem,m1]) rfl rfl rfl rfl rfl (Gf w.heap.size 9 rfl rfl (Gl bx5 (V:=.slice (some ⟨bc,oc,none⟩) H.ca.length H.cc) (by simp[dh,hl]) rfl rfl rfl rfl (Gk rfl (Gb (.int .i64 (q1:Int)) (by simp[go_sem,m0]) rfl rfl rfl rfl rfl (Gr (.pointer (some ⟨bc,oc+q1*3,none⟩)) (fun ρ y W hb j=>(bF rfl (aF rfl j) (aF rfl j) hv underlying38 cached_size)) rfl rfl (Gf bc (oc+q1*3+1) rfl rfl (Gc (.int .i64 d.i) (fun W hb=>by simp[kK _ hb]) rfl rfl rfl rfl (Gb (.int .i64 (100*d.f+d.i)) (by simp[go_sem,m2]) rfl rfl rfl rfl rfl (Gf wr.heap.size 0 rfl rfl (Gl cx5 rfl rfl rfl rfl rfl (Gb (.int .i64 (100*c.f)) (by simp[go_sem,m3]) rfl rfl rfl rfl rfl (Gf wr.heap.size 1 rfl rfl (Gl cx5 rfl rfl rfl rfl rfl (Gb (.int .i64 (100*c.f+c.i)) (by simp[go_sem,m4]) rfl rfl rfl rfl rfl (Gb (.bool false) (by simp[go_sem,m5]) rfl rfl rfl rfl rfl (Gk rfl (aC)))))))))))))))))))))))))))) (fun _=>rfl) rfl ?_;intro y W6 hs _;have bx6:=bx5.ext hs;have s:=ae h6 hs;clear ko hl hF kL kK m0 m1 m2 m3 m4 m5 hy hd kC g1 g2 g3 g4 e1 e2 e3 e4 kJ kw;go_wp2;go_roundw
   case rel=>exact⟨q+1,by omega,by go_num,s,bx6⟩
   case measure=>simp[intOf];omega
  have kv:¬(q:Int)<(H.ca.length:Int):=by omega
  have hc:=bx.cell;unfold dh at hc;clear hM;go_wp2
  go_loopw [134] (fun s134 wr => ∃p:Nat,p≤H.sp.length∧s134 = .int .i64 p∧Below w.heap.size w wr∧aB wr w.heap.size (dh H) 41) (fun s134 _=>H.sp.length-(intOf s134).toNat)
  case atStart=>exact⟨0,aV _,rfl,b,bx⟩
  case round=>
   clear b bx hc kv;obtain⟨p,hp,rfl,b,bx⟩:=hrel;have hM:=hh.out.below b
   by_cases hpl:p<H.sp.length
   ·obtain⟨bd,od,P,k6,hP,ku⟩:=zy hM.sp.rd p hpl;have kx:(p:Int)<(H.sp.length:Int):=by omega
    have ht:=xE hM hP;have ks:P.sp∈H.ma.sp:=by show P.sp∈H.sp.map PS.sp;exact gW.2 ⟨P,bO hP,rfl⟩
    have hG:(bI P.ar).1=0:=o.out.pt.ar P.sp ks;have kq:Hid (cB P.tb=0):=Lib.hid (o.out.pt.tb P.sp ks);have kc:=Lib.hid (BB hP);obtain⟨k8,kS⟩:=Bn hG;have k4:Hid (∀i:Nat,cz P.ar i=oU H.ma p i):=Lib.hid (fun i=>by rw[qZ (nM (jI.1 hG).2)];unfold oU;rw[kc.out];rfl);rw[k6]
    go_wp2_with (first | (refine ax _ _ rfl bd (od+p*10) rfl rfl _ ku _ underlying55 rfl space_size ?_) | (refine aI rfl _ _ _ rfl (vT P) rfl rfl rfl space_size (by rw[←jV,dK];exact ht.one) ?_))
    intro w6 hj px6;have s:=ae b hj;have bx6:=bx.ext hj;have kf:=ht.below hj;have kM:=px6.cell;unfold vT at kM;clear b bx hj ku hM ht hG
    go_wp2_with fail
    refine (qU P.ar P.aa P.ac _ kf.ars.rd (by omega) kS).mono ?_;rintro r w7 ⟨rfl,t⟩;have x:=ae s t;have bx7:=bx6.ext t;have px7:=px6.ext t;have kG:=kf.below t;clear s bx6 px6 kf t kM
    go_wp2_with (refine aI rfl _ _ _ rfl (fC (cz P.ar)) rfl rfl (by rw[jq];rfl) (by rw[jq];exact ones_size) (zU _) ?_)
    intro w8 z ox8;have hr:=ae x z;have bx8:=bx7.ext z;have px8:=px7.ext z;have kF:=kG.below z;clear x bx7 px7 kG z;have kt:dP w8 (some ⟨wr.heap.size,2,none⟩) (nP P.ts).toList:=bJ px8 2 8
    go_wp2_with (refine ax _ _ rfl wr.heap.size 2 rfl rfl _ kt _ underlying53 tab_agg tab_size ?_)
    refine (Gq P.tb (nP P.ts) _ kF.tb kq.out).mono ?_;rintro r w9 ⟨rfl,hV⟩;rw[Nz (AP P.tb)];have hE:Hid (∀n:Nat,n<64→(dB P.tb).getD n zEn=ent H.ma p n):=Lib.hid (fun n hn=>by rw[VD hn];unfold ent;rw[kc.out];rfl);have h5:=ae hr hV;have bx9:=bx8.ext hV;have ox9:=ox8.ext hV;generalize dB P.tb=l at *
    obtain⟨go,kD⟩:∃go,w7.heap.size=go:=⟨_,rfl⟩;rw[kD] at ox9 ⊢;clear hr bx8 px8 kF hV kt ox8 kD;go_wp2
    go_loopw [144] (fun s144 wr => ∃i:Nat,i≤64∧s144 = .int .i64 i∧Below w.heap.size w wr∧aB wr w.heap.size (dh H) 41∧aB wr go (fC (cz P.ar)) 110) (fun s144 _=>64-(intOf s144).toNat)
    case atStart=>exact⟨0,by omega,rfl,h5,bx9,ox9⟩
    case round=>
     clear h5 bx9 ox9;obtain⟨i,hi,rfl,b,bx,ox⟩:=hrel
     by_cases hil:i<64
     ·have ke:(i:Int)<64:=by omega
      have hH:=hE.out i hil;generalize heE:ent H.ma p i=E at hH;have k5:=Hq l i hil E hH;have hK:=Lib.hid heE;clear heE hH
      go_wp2_with (refine aI rfl _ _ _ rfl (jw E) rfl rfl rfl entry_size (by simp[jw,Value.oneCell']) ?_)
      intro wa hU ea;have hB:=ae b hU;have bxa:=bx.ext hU;have oxa:=ox.ext hU;clear k5 b bx ox hU;have hx:=ea.cell;unfold jw at hx
      by_cases hk0:E.k=0
      ·rw[hk0] at hx;clear hk0;go_wp2;go_roundw
       case rel=>exact⟨i+1,by omega,by go_num,hB,bxa,oxa⟩
       case measure=>simp[intOf];omega
      obtain⟨g,hg,hf⟩:=o.out.en p i (by rw[hK.out];exact hk0);rw[hK.out] at hf;have h2:eX E=0:=by rw[←hK.out];unfold ent;rw[kc.out];exact rC kq.out i
      have kz:cz P.ar i=some g:=(k4.out i).trans hg;have ky:=Lib.hid kz;have kg:=Lib.hid (And.intro hf (And.intro hk0 h2));clear hf hg h2 kz;go_upto_region 23 with (fail);refine aM 7 [_,_,_,_,_,.v (.int .i64 0),.v (.int .i64 0)] (Gr (.agg (dh H)) (fun ρ y W hb j=>(dL rfl (aF rfl j) (bxa.ext hb) underlying41 rfl machine_size)) rfl rfl (Gk rfl (Gr (.pointer (some ⟨go,0+i*6,none⟩)) (fun ρ y W hb j=>(Rh rfl (aF rfl j) (aF rfl j) hil underlying110 one_size)) rfl rfl (Gr (.agg (xV (some g))) (fun ρ y W hb j=>(bC rfl (aF rfl j) (by rw[eu];exact VQ (oxa.ext hb) hil ky.out) underlying109 rfl one_size)) rfl rfl (Gr (.agg (jw E)) (fun ρ y W hb j=>(dL rfl (aF rfl j) (ea.ext hb) underlying89 rfl entry_size)) rfl rfl (ag ?_ (Gk rfl (aC)))))))) (fun _=>rfl) rfl ?_
      ·intro ρ y W hw hn hb hd;have k1:=hw 151 0 rfl;have h0:y 0=_:=hd 0 rfl;have k0:=hw 154 3 rfl;have h3:y 3=_:=hd 3 rfl;have kZ:=hw 155 4 rfl;have h4:y 4=_:=hd 4 rfl;have EF:∀f,ρ (.func f) = .func (.func f) #[] #[]:=fun f=>hn (.func f) trivial;refine aR _ _ (ah rfl) (aU rfl (EF _) func51 (by kernel_rfl) (by kernel_rfl) (by simp only[bV,bP,bT,k1,h0,k0,h3,kZ,h4,EF];rfl)) ?_;refine (OV H g E W (hh.out.below (ae hB hb)) o.out kg.out.1 kg.out.2.1 kg.out.2.2).mono ?_;rintro r wz ⟨rfl,k7⟩;exact⟨_,rfl,k7,rfl⟩
      intro y wb hA _;have kR:=ae hB hA;have bxb:=bxa.ext hA;have oxb:=oxa.ext hA;clear hB bxa oxa ea hx hA;go_wp2;go_roundw
      case rel=>exact⟨i+1,by omega,by go_num,kR,bxb,oxb⟩
      case measure=>simp[intOf];omega
     have ke:¬(i:Int)<64:=by omega
     clear ox;go_wp2;go_roundw
     case rel=>exact⟨p+1,by omega,by go_num,b,bx⟩
     case measure=>simp[intOf];omega
   have kx:¬(p:Int)<(H.sp.length:Int):=by omega
   have hc:=bx.cell;unfold dh at hc;clear hM;go_wp2
   go_loopw [166] (fun s166 wr => ∃k:Nat,k≤H.m.fs.length∧s166 = .int .i64 k∧Below w.heap.size w wr∧aB wr w.heap.size (dh H) 41) (fun s166 _=>H.m.fs.length-(intOf s166).toNat)
   case atStart=>exact⟨0,aV _,rfl,b,bx⟩
   case round=>
    clear b bx hc kx;obtain⟨k,hk,rfl,b,bx⟩:=hrel;have hM:=hh.out.below b
    by_cases hkl:k<H.m.fs.length
    ·obtain⟨bm,om,hF,hI⟩:=jX fJ (by decide) hM.fr.rd k hkl;have hQ:(k:Int)<(H.m.fs.length:Int):=by omega
     have hO:aN H.ma k=H.m.fs[k]:=by unfold aN;show H.m.fs.getD k fr0=_;rw[aS,aH hkl];rfl
     have kj:=o.out.cf k hkl;have kh:=o.out.fc k hkl;rw[hO] at kj kh;have gd:dA H.ma 1 k≤256:=by have h9:=EB H.ma 1 k;have e9:H.ma.sp.length=H.sp.length:=ER H;omega
     have kO:vY H.ma k≤H.ca.length:=xG;generalize H.m.fs[k]=X at *
     have kI:=Lib.hid kh;have kN:=Lib.hid kj;clear hO kj kh;rw[hF]
     go_wp2_with (first | (refine ax _ _ rfl bm (om+k*13) rfl rfl _ hI _ underlying81 rfl frame_size ?_) | (refine aI rfl _ _ _ rfl (vW X) rfl rfl rfl frame_size (qw _) ?_))
     intro w6 hj fx6;have s:=ae b hj;have bx6:=bx.ext hj;have kV:=hM.below hj;clear b bx hj hI hM hF
     go_wp2_with (refine ax _ _ rfl w.heap.size 0 rfl rfl _ bx6.rd _ underlying41 rfl machine_size ?_)
     refine (Aa H 1 k _ kV o.out).mono ?_;rintro r w7 ⟨rfl,t⟩;have x:=ae s t;have bx7:=bx6.ext t;have fx7:=fx6.ext t;clear s bx6 kV fx6 t;obtain⟨gf,kE⟩:∃gf,wr.heap.size=gf:=⟨_,rfl⟩;rw[kE] at fx7 ⊢;generalize hhN:dA H.ma 1 k=N at *
     have ga:=Lib.hid hhN;clear kE hhN;have hc:=bx7.cell;unfold dh at hc;go_wp2
     go_loopw [177,16] (fun s177 s16 wr => ∃i m:Nat,i≤H.ca.length∧s177 = .int .i64 i∧s16 = .int .i64 m∧m≤i∧Below w.heap.size w wr∧aB wr w.heap.size (dh H) 41∧aB wr gf (vW X) 81∧Hid (m=(H.ca.take i).countP fun c=>decide (c.k=(k:Int)))) (fun s177 _ _=>H.ca.length-(intOf s177).toNat)
     case atStart=>exact⟨0,0,aV _,rfl,rfl,ay _,x,bx7,fx7,Lib.hid (by simp)⟩
     case round=>
      clear x bx7 fx7 hc;obtain⟨i,m,hi,rfl,rfl,hm,b,bx,fx,u⟩:=hrel;have hM:=hh.out.below b
      by_cases hil:i<H.ca.length
      ·obtain⟨bc,oc,hl,hJ⟩:=jX pE (by decide) hM.ca.rd i hil;have ke:(i:Int)<(H.ca.length:Int):=by omega
       have hT:Hid ((H.ca.take (i+1)).countP (fun c=>decide (c.k=(k:Int)))=(H.ca.take i).countP (fun c=>decide (c.k=(k:Int)))+if decide ((H.ca[i]).k=(k:Int))=true then 1 else 0):=Lib.hid (BC _ _ _ hil);generalize H.ca[i]=c at *
       rw[hl]
       go_wp2_with (first | (refine ax _ _ rfl bc (oc+i*3) rfl rfl _ hJ _ underlying106 rfl cached_size ?_) | (refine aI rfl _ _ _ rfl (Ao c) rfl rfl rfl cached_size (vL _) ?_))
       intro w8 z cx8;have hr:=ae b z;have bx8:=bx.ext z;have fx8:=fx.ext z;have hu:=cx8.cell;unfold Ao at hu;clear b bx fx z hJ hM cx8 hl
       by_cases hck:c.k=(k:Int)
       ·have hL : Hid (m+1=(H.ca.take (i+1)).countP fun c=>decide (c.k=(k:Int))):=Lib.hid (by rw[hT.out,←u.out];simp[hck]);clear u hT;go_wp2;go_roundw
        case rel=>exact⟨i+1,m+1,by omega,by go_num,by go_num,by omega,hr,bx8,fx8,hL⟩
        case measure=>simp[intOf];omega
       have hL : Hid (m=(H.ca.take (i+1)).countP fun c=>decide (c.k=(k:Int))):=Lib.hid (by rw[hT.out,←u.out];simp[hck]);clear u hT;go_wp2;go_roundw
       case rel=>exact⟨i+1,m,by omega,by go_num,rfl,by omega,hr,bx8,fx8,hL⟩
       case measure=>simp[intOf];omega
      have ke:¬(i:Int)<(H.ca.length:Int):=by omega
      have kA : m=vY H.ma k:=by rw[u.out,iN (by omega)];rfl
      have k9:X.r=(m:Int)+(N:Int):=by rw[kN.out,kA]
      have kn:0≤X.f→¬m=0:=fun h0 e=>by obtain⟨c,hc,hck⟩:=kI.out h0;have h9:0<vY H.ma k:=wU.2 ⟨c,hc,by simp[hck]⟩;omega
      have hW:(N:Int)+(m:Int)=X.r:=by omega
      have hS:=fx.cell;unfold vW at hS;have gb:IntKind.i64.wrap ((N:Int)+(m:Int))=X.r:=(bM _ (by omega)).trans hW;clear u hM kA k9 hW kO
      by_cases h0:0≤X.f
      ·have gc:¬(m:Int)=0:=by have:=kn h0;omega
       clear kn;go_wp2;go_roundw
       case rel=>exact⟨k+1,by omega,by go_num,b,bx⟩
       case measure=>simp[intOf];omega
      clear kn;go_wp2;go_roundw
      case rel=>exact⟨k+1,by omega,by go_num,b,bx⟩
      case measure=>simp[intOf];omega
    have hQ:¬(k:Int)<(H.m.fs.length:Int):=by omega
    have hc:=bx.cell;unfold dh at hc;clear hM;go_wp2
    go_loopw [207] (fun s207 wr => ∃k:Nat,k≤H.sl.length∧s207 = .int .i64 k∧Below w.heap.size w wr∧aB wr w.heap.size (dh H) 41) (fun s207 _=>H.sl.length-(intOf s207).toNat)
    case atStart=>exact⟨0,aV _,rfl,b,bx⟩
    case round=>
     clear b bx hc hQ;obtain⟨k,hk,rfl,b,bx⟩:=hrel;have hM:=hh.out.below b
     by_cases hkl:k<H.sl.length
     ·have hQ:(k:Int)<(H.sl.length:Int):=by omega
      obtain⟨bl,ol,hG,ki⟩:=hM.sl.rd k (fT H.sl[k]) (by rw[jO,aH hkl];rfl);unfold fT at ki;have hC:=o.out.cs k hkl;have kr:oZ H.ma k=H.sl[k]:=by unfold oZ;show H.sl.getD k 0=_;rw[aS,aH hkl];rfl
      rw[kr] at hC;rw[hC] at ki;rw[hG];clear hC kr
      go_wp2_with (refine ax _ _ rfl w.heap.size 0 rfl rfl _ bx.rd _ underlying41 rfl machine_size ?_)
      refine (Aa H 2 k _ hM o.out).mono ?_;rintro r w7 ⟨rfl,t⟩;have x:=ae b t;have bx7:=bx.ext t;clear b bx hM t ki hG;go_wp2;go_roundw
      case rel=>exact⟨k+1,by omega,by go_num,x,bx7⟩
      case measure=>simp[intOf];omega
     have hQ:¬(k:Int)<(H.sl.length:Int):=by omega
     clear hM;go_wp2;go_ret;exact⟨rfl,b⟩
def Oi (m:Ma) (f:Int) (j:Nat):Value:=(iB (bA m f (j / 8:Nat))).getD (j%8) (.int .u8 0)
def wF (m:Ma) (f:Int) (n:Nat):List Value:=(List.range n).map (Oi m f)
theorem KO (m:Ma) (f:Int) (n:Nat):wF m f (n+1)=wF m f n++[Oi m f n]:=by
 unfold wF;rw[xn,jb];rfl
theorem Pj (h:aB w b cs T) (hk:aB w b cs' T') (hT:T'≠T):False:=by
 unfold aB at h hk;rw[hk] at h;simp at h;exact hT h.2
theorem u8_size:(Tryz.prog.info? 5).map (·.size)=some 1:=by kernel_rfl
theorem IL (X:Page) (q:Nat) (hq:q<8) (w:World):(Instr.index 79 (.agg (iB X)) (.int .i64 q)).run Tryz.prog w = .ok (.int .u8 X[q].toNat) w:=by
 have hg:=CG X q hq;have ha:¬((q:Int)<0∨(8:Int)≤q):=by omega
 have hs:∃i,Tryz.prog.info? 5=some i∧i.size=1:=by
  have:=u8_size;cases h:Tryz.prog.info? 5 with
  | none=>rw[h] at this;simp at this
  | some i=>rw[h] at this;exact⟨i,rfl,by simpa using this⟩
 obtain⟨i,hi,hs⟩:=hs;simp[Instr.index,part,asIntOf,run_underlying underlying79,run_underlying underlying5,Go.sizeOf,typeInfo,hi,hs,ha,go_sem,hg,hq]
theorem EI (H:MH) (f:Nat) (w:World) (h:BR w H) (hR:Rt H.ma) (hz:H.ca.length≤1000∧∀f∈H.ma.st.fs,f.b.length≤1000) (hck:∀c∈H.ca,0≤c.k∧c.k<H.m.fs.length) (hf:f<H.fi.length) (hsz:0≤(aK H.ma.st f).n∧(aK H.ma.st f).n≤(aK H.ma.st f).b.length*8) :
  Calls Tryz.prog 17 #[.agg (dh H),.int .i64 f] w fun r w' => ∃(v:Value),r = .returned (.tuple #[v,.int .i64 0])∧Own w' w.heap.size 5 1 v (aK H.ma.st f).n.toNat (wF H.ma f (aK H.ma.st f).n.toNat)∧Below w.heap.size w w':=by
 have hB:=Lib.hid hR;clear hR;go_enter func17,ntmps17;go_upto_region 1 with (fail);refine gB (fun W=>Code.wp _ _ _ _ W) fun w1 ha bx1 hd => ?_;have bx1:aB w1 w.heap.size (dh H) 41:=bx1;have h1:=h.below ha;clear hd
 go_wp2_with (refine ax _ _ rfl w.heap.size 0 rfl rfl _ bx1.rd _ underlying41 rfl machine_size ?_)
 refine (Ev H _ h1 hB.out).mono ?_;rintro r w2 ⟨rfl,z⟩;have bx2:=bx1.ext z;have t:=ae ha z;have hc:=bx2.cell;unfold dh at hc;have ht:(f:Int)<(H.fi.length:Int):=by omega
 have hG:¬(f:Int)<0:=by omega
 have hF:¬(H.fi.length:Int)≤(f:Int):=by omega
 obtain⟨bf,of,hA,hi⟩:=jX jL (by decide) h.st.rd f hf;obtain⟨p,hp⟩:∃p,H.fi[f]?=some p:=⟨_,aH hf⟩;rw[show H.fi[f]=p from (cK.1 hp).2] at hi;have j:aK H.ma.st (f:Int)=p.fi:=by unfold aK;rw[if_pos (by omega)];show (H.fi.map PF.fi).getD f ⟨0,[]⟩=p.fi;rw[aS,jO,hp];rfl
 have hE:p.l.length≤1000:=hz.2 p.fi (gW.2 ⟨p,bO hp,rfl⟩);rw[j] at hsz;have hD:0≤p.n:=hsz.1;have hd:p.n≤p.l.length*8:=hsz.2;have hH:(aK H.ma.st f).n=p.n:=by rw[j];rfl
 have hx:(aK H.ma.st f).b.length=p.l.length:=by rw[j];rfl
 clear hsz j;clear h1 bx1 ha z;go_upto_region 8 with (fail);clear hc
 go_loopw [8,7] (fun i u wr => ∃k:Nat,(k:Int)≤p.n∧i = .int .i64 k∧Below w.heap.size w wr∧aB wr w.heap.size (dh H) 41∧Own wr w.heap.size 5 1 u k (wF H.ma f k)) (fun i _ _=>p.n.toNat-(intOf i).toNat)
 case atStart=>exact⟨0,by omega,rfl,t,bx2,Own.nil _ _ _ _⟩
 case round=>
  clear t bx2;obtain⟨k,hk,rfl,o,bx,s⟩:=hrel;have x:=bx.cell;unfold dh at x;rw[hA] at x;have hh:=hi.below o;have rc0:wr.cell? ⟨bf,of+f*2,none⟩=some (.int .i64 p.n):=by obtain⟨b',o',e,hy⟩:=hh 0 _ rfl;cases e;exact hy
  by_cases hkn:(k:Int)<p.n
  ·have hj:(k:Int) / 8<((aK H.ma.st (f:Int)).b.length:Int):=by rw[hx];omega
   go_wp2_with (refine ax _ _ rfl w.heap.size 0 rfl rfl _ bx.rd _ underlying41 rfl machine_size ?_)
   refine (Ae H f ((k:Int) / 8) _ (h.below o) hz hck ⟨by omega,ht⟩ ⟨by omega,hj⟩).mono ?_;rintro r w3 ⟨rfl,y⟩;have d:=ae o y;have bx3:=bx.ext y;have a:=s.below y;obtain⟨X,hX⟩:∃X,X=bA H.ma f ((k:Int) / 8):=⟨_,rfl⟩;rw[←hX];obtain⟨q,hq⟩:∃q,k%8=q:=⟨_,rfl⟩;have hn:q<8:=by omega
   have hg:=CG X q hn;have hv:Hid (Oi H.ma f k = .int .u8 X[q].toNat):=Lib.hid (by unfold Oi;rw[show ((k / 8:Nat):Int)=(k:Int) / 8 from by omega,←hX,hq];simp[bN,hg]);have e78:((k:Int)%8)=(q:Int):=by omega
   have hr:k+1≤8000:=by omega
   clear hX x rc0 hq hj
   go_wp2_with fail
   rw[e78];have hw:=IL X q hn
   go_wp2_with fail
   rw[hw]
   go_wp2_with (first | (at_builtin;refine sM rfl _ _ 24 rfl w.heap.size 5 _ 1 1 underlying24 byte_info rfl (by decide) _ k (wF H.ma f k) rfl (a.alloc _) (some ⟨w3.heap.size,0,none⟩) 1 1 [.int .u8 X[q].toNat] rfl (fun h=>(by cases h)) (ay _) rfl (dP.new _ #[.int .u8 X[q].toNat] _) (fun u hu=>by simp at hu;subst hu;rfl) (by unfold maxLen;omega) (by omega) (by have:=d.size;simp;omega) ?_))
   intro v w5 g hl hC;have hm:Below w.heap.size w w5:=(d.alloc d.size _).grown hl (cZ d.size _) (a.alloc (.cells #[.int .u8 X[q].toNat] 5)).ge;have bx5:aB w5 w.heap.size (dh H) 41:=(bx3.alloc (.cells #[.int .u8 X[q].toNat] 5)).grown hl (fun e=>by
    rcases a.2 with ⟨e1,_⟩|⟨g2,off,cap,cur,e1,_,hb,_⟩
    ·rw[e1] at e;cases e
    ·rw[e1] at e;cases e;exact Pj hb bx3 (by decide))
   rw[←hv.out,←KO] at g;go_wp2;go_roundw
   case rel=>exact⟨v,.int .i64 ((k+1:Nat):Int),_,_,_,_,_,_,_,_,_,_,_,_,_,_,_,_,_,_,_,_,_,_,⟨k+1,by omega,rfl,hm,bx5,g⟩,by
    have e1:decide (H.fi.length≤f)=false:=decide_eq_false (by omega);rw[e1,Bool.or_false];rfl⟩
   case measure=>simp[intOf];omega
  go_wp2;go_ret2;have hs:p.n.toNat=k:=by omega
  exact⟨_,rfl,by rw[hs];exact s,o⟩
def EW (x:Int) (m:Nat):Nat:=(max (min x m) 0).toNat
theorem Mr (x:Int) (m:Nat):EW x m≤m:=by unfold EW;omega
theorem Ip (x:Int) (m:Nat):((EW x m:Nat):Int)=max (min x m) 0:=by unfold EW;omega
def Vo (f s b:Int) (l:List UInt8) (w:World) (r:Ending) (w' : World):Prop:=∃H:MH,r = .returned (.agg (dh H))∧tu w' w.heap.size H∧Below w.heap.size w w'∧Rt H.ma∧Co H.ma∧(∀p∈H.sp,∀n g,onA p.ar n=some g→g.fi<H.fi.length) ∧
 H.m.fs.length=EW f 40∧H.dk.blocks.length=EW b 80∧(1≤H.sp.length∧H.sp.length≤2)∧(l=[]→H.ma=kV (EW f 40) (EW s 60) (EW b 80))
theorem De (fr sl bl:Int) (al:Option Addr) (cl:Nat) (l:List UInt8) (w:World) (hr:uk w al cl l.length (l.map yO)) :
  Calls Tryz.prog 10 #[.int .i64 fr,.int .i64 sl,.int .i64 bl,.slice al l.length cl] w (Vo fr sl bl l w):=by
 have xf:Hid (∀a,al=some a→l.map yO≠[]→a.block<w.heap.size):=Lib.hid fun a ha hl=>by obtain⟨u,hu⟩:∃u,(l.map yO)[0]?=some u:=⟨_,aH (List.length_pos_iff.2 hl)⟩;obtain⟨b',o',e,hc⟩:=hr.rd 0 u hu;rw[ha] at e;cases e;exact UD hc
 go_enter func10,ntmps10;go_upto_region 2 with (fail);refine rE (fun W=>Code.wp _ _ _ _ W) fun w1 kW bx1 mx1 gA => ?_;have qh:=hr.below kW;have mx1:aB w1 (w.heap.size+1) (iV ⟨al,cl,l,noH,none,0,[]⟩) 77:=mx1;have bx1:aB w1 w.heap.size (dh noH) 41:=bx1;clear hr;go_upto_region 3 with (fail);have e0:(if (if 40<fr then (40:Int) else fr)<0 then 0 else if 40<fr then 40 else fr)=((EW fr 40:Nat):Int):=by rw[Ip];split<;>split<;>omega
 have e1:(if (if 60<sl then (60:Int) else sl)<0 then 0 else if 60<sl then 60 else sl)=((EW sl 60:Nat):Int):=by rw[Ip];split<;>split<;>omega
 have e2:(if (if 80<bl then (80:Int) else bl)<0 then 0 else if 80<bl then 80 else bl)=((EW bl 80:Nat):Int):=by rw[Ip];split<;>split<;>omega
 rw[e0,e1,e2];clear e0 e1 e2;generalize (if 40<fr then (40:Int) else fr)=z0;generalize (if 60<sl then (60:Int) else sl)=z1;generalize (if 80<bl then (80:Int) else bl)=z2;obtain⟨f,hf⟩:∃f,EW fr 40=f:=⟨_,rfl⟩;obtain⟨s,hs⟩:∃s,EW sl 60=s:=⟨_,rfl⟩;obtain⟨ct,qm⟩:∃ct,EW bl 80=ct:=⟨_,rfl⟩;have gX:f≤40:=by rw[←hf];exact Mr _ _
 have gy:s≤60:=by rw[←hs];exact Mr _ _
 have g0:ct≤80:=by rw[←qm];exact Mr _ _
 have kk:=Lib.hid (And.intro hf (And.intro hs qm));rw[hf,hs,qm];clear hf hs qm;have el:w.heap.size+2≤w1.heap.size:=mx1.lt;have qN:∀W:World,(Instr.makeSlice 26 (.int .i64 (f:Int)) (.int .i64 (f:Int))).run Tryz.prog W = .ok (.slice (some ⟨W.heap.size,0,none⟩) f f) (W.alloc (.cells (madeCells (vW fr0) (f*13)) 81)):=
  Hg 26 81 _ 13 40 underlying26 frame_info .i64 .i64 f (by omega) (by omega)
 have qM:∀W:World,(Instr.makeSlice 30 (.int .i64 (s:Int)) (.int .i64 (s:Int))).run Tryz.prog W = .ok (.slice (some ⟨W.heap.size,0,none⟩) s s) (W.alloc (.cells (madeCells #[.int .i64 0] (s*1)) 3)):=
  Hg 30 3 _ 1 8 underlying30 int_info .i64 .i64 s (by omega) (by omega)
 have qL:∀W:World,(Instr.makeSlice 31 (.int .i64 (s:Int)) (.int .i64 (s:Int))).run Tryz.prog W = .ok (.slice (some ⟨W.heap.size,0,none⟩) s s) (W.alloc (.cells (madeCells (iB zPg) (s*8)) 79)):=
  Hg 31 79 _ 8 8 underlying31 page_info .i64 .i64 s (by omega) (by omega)
 have qO:∀W:World,(Instr.makeSlice 31 (.int .i64 (ct:Int)) (.int .i64 (ct:Int))).run Tryz.prog W = .ok (.slice (some ⟨W.heap.size,0,none⟩) ct ct) (W.alloc (.cells (madeCells (iB zPg) (ct*8)) 79)):=
  Hg 31 79 _ 8 8 underlying31 page_info .i64 .i64 ct (by omega) (by omega)
 have ek:=Lib.hid kW;clear kW;refine gN 17 [_,_,.r 2 ((bW fun _=>True)),.r 3 ((bW fun _=>True)),_,.r 5 ((bW fun _=>True)),_,.r 7 ((bW fun _=>True)),.r 8 ((bW fun _=>True)),_,.r 10 ((bW fun _=>True)),.r 11 ((bW fun _=>True)),_,.v (.agg #[.slice none 0 0,.int .i64 (ct:Int)]),.r 14 ((bW fun _=>True)),_,_] (JM w1 w1.heap.size f s ct (vW fr0) #[.int .i64 0] (iB zPg)) sJ (fun y=>WU y) (Qk sJ rfl (Qk sJ rfl (ag ?_ (ag ?_ (Qk sJ rfl (ag ?_ (Qk sJ rfl (ag ?_ (ag ?_ (Qk sJ rfl (ag ?_ (ag ?_ (Qk sJ rfl (ag ?_ (ag ?_ (Qk sJ rfl (Qf sJ (w.heap.size+1) 1 rfl rfl (aC) (fun _ _ _ _ d h=>zb (by decide) h)) (fun _ _ _ _ d h=>zb (by decide) h)))) (fun _ _ _ _ d h=>zb (by decide) h)))) (fun _ _ _ _ d h=>zb (by decide) h)))) (fun _ _ _ _ d h=>zb (by decide) h))) (fun _ _ _ _ d h=>zb (by decide) h)))) (fun _ _ _ _ d h=>zb (by decide) h)) (fun _ _ _ _ d h=>zb (by decide) h)) (fun _=>rfl) rfl ?_
 ·intro ρ y W L hw hn o d hb hd;have iZ:=hw 32 1 rfl;have h1:y 1=_:=hd 1 rfl;refine eP (.slice (some ⟨W.heap.size,0,none⟩) f f) (ah rfl) ?_ (WQ o (ay _) hb) trivial;simp[execOp,go_sem,iZ,h1,qN]
 ·intro ρ y W L hw hn o d hb hd;have eO:=hw 33 2 rfl;have h2:=hd 2 rfl;obtain⟨g,e2,_,_⟩:=hb.k2 (d 2 rfl);refine eP (.agg #[y 2,.int .i64 0]) (ah rfl) ?_ (WX o (d 2 rfl) hb) trivial;rw[e2] at eO ⊢;simp[execOp,go_sem,eO]
 ·intro ρ y W L hw hn o d hb hd;have iY:=hw 35 4 rfl;have h4:y 4=_:=hd 4 rfl;refine eP (.slice (some ⟨W.heap.size,0,none⟩) s s) (ah rfl) ?_ (WV o (ay _) hb) trivial;simp[execOp,go_sem,iY,h4,qM]
 ·intro ρ y W L hw hn o d hb hd;have iX:=hw 37 6 rfl;have h6:y 6=_:=hd 6 rfl;refine eP (.slice (some ⟨W.heap.size,0,none⟩) s s) (ah rfl) ?_ (WM o (ay _) hb) trivial;simp[execOp,go_sem,iX,h6,qL]
 ·intro ρ y W L hw hn o d hb hd;have eL:=hw 38 7 rfl;have h7:=hd 7 rfl;obtain⟨g,e2,_,_⟩:=hb.k7 (d 7 rfl);refine eP (.agg #[y 7,.slice none 0 0]) (ah rfl) ?_ (WR o (d 7 rfl) hb) trivial;rw[e2] at eL ⊢;simp[execOp,go_sem,eL]
 ·intro ρ y W L hw hn o d hb hd;have iW:=hw 40 9 rfl;have h9:y 9=_:=hd 9 rfl;refine eP (.slice (some ⟨W.heap.size,0,none⟩) ct ct) (ah rfl) ?_ (Ww o (ay _) hb) trivial;simp[execOp,go_sem,iW,h9,qO]
 ·intro ρ y W L hw hn o d hb hd;have eJ:=hw 41 10 rfl;have xF:=hd 10 rfl;obtain⟨g,e2,_,_⟩:=hb.k10 (d 10 rfl);refine eP (.agg #[y 10,.slice none 0 0]) (ah rfl) ?_ (Wh o (d 10 rfl) hb) trivial;rw[e2] at eJ ⊢;simp[execOp,go_sem,eJ]
 ·intro ρ y W L hw hn o d hb hd;refine eD sJ (fun _ _ h=>zb (by decide) h) hb ?_;have iU:=hw 43 12 rfl;have qe:y 12=_:=hd 12 rfl;refine aj (.agg #[.slice none 0 0,.int .i64 (ct:Int)]) (ah rfl) (by simp[execOp,go_sem,iU,qe]) rfl
 ·intro ρ y W L hw hn o d hb hd;have eN:=hw 34 3 rfl;have h3:=hd 3 rfl;have eM:=hw 36 5 rfl;have h5:=hd 5 rfl;have eK:=hw 39 8 rfl;have h8:=hd 8 rfl;have eI:=hw 42 11 rfl;have iK:=hd 11 rfl;have iT:=hw 44 13 rfl;have eC:y 13=_:=hd 13 rfl;obtain⟨l2,e3⟩:=hb.k3 (d 3 rfl);obtain⟨l7,e8⟩:=hb.k8 (d 8 rfl);obtain⟨l10,e11⟩:=hb.k11 (d 11 rfl);obtain⟨g2,e2,_,_⟩:=hb.k2 l2;obtain⟨g5,e5,_,_⟩:=hb.k5 (d 5 rfl);obtain⟨g7,e7,_,_⟩:=hb.k7 l7;obtain⟨g10,e10,_,_⟩:=hb.k10 l10;refine eP (.agg #[y 2,.int .i64 0,y 5,y 7,.slice none 0 0,y 10,.slice none 0 0,.slice none 0 0,.int .i64 ct,.slice none 0 0,.slice none 0 0]) (ah rfl) ?_ (Wy (d 3 rfl) (d 5 rfl) (d 8 rfl) (d 11 rfl) hb) trivial;rw[e3,e2] at eN;rw[e5] at eM;rw[e8,e7] at eK;rw[e11,e10] at eI;rw[e2,e5,e7,e10];simp[execOp,go_sem,eN,eM,eK,eI,iT,eC]
 intro y W3 hH et;clear et;obtain⟨⟨l3,l5,l8,l11⟩,e14⟩:=hH.k14 rfl;obtain⟨gf,e2,bf,kf⟩:=hH.k2 rfl;obtain⟨gs,e5,bs,ks⟩:=hH.k5 rfl;obtain⟨gw,e7,bw,kw⟩:=hH.k7 rfl;obtain⟨gd,e10,bd,kd⟩:=hH.k10 rfl;have xO:gw≠gd:=Uj kw kd (by rw[←e7,←e10];exact hH.ne rfl rfl);have mx3:=mx1.ext hH.be;have bx3:=bx1.ext hH.be;have xX:=qh.below hH.be;have qY:=Lib.hid (ae ek.out hH.be);rw[e14,e2,e5,e7,e10];clear e14 e2 e5 e7 e10 hH l3 l5 l8 l11 qN qM qL qO mx1 bx1 qh ek
 go_wp2_with (refine aA rfl _ _ _ rfl (w.heap.size+1) 1 _ [.slice (some ⟨gf,0,none⟩) f f,.int .i64 0,.slice (some ⟨gs,0,none⟩) s s,.slice (some ⟨gw,0,none⟩) s s,.slice none 0 0,.slice (some ⟨gd,0,none⟩) ct ct,.slice none 0 0,.slice none 0 0,.int .i64 ct,.slice none 0 0,.slice none 0 0] rfl rfl rfl _ _ mx3 (by show 1+11≤13;omega) (by kernel_rfl) (by simp[Value.oneCell']) ?_)
 intro w4 ei kH;have xn:aB w4 (w.heap.size+1) (iV ⟨al,cl,l,TR gf gs gw gd f s ct,none,0,[]⟩) 77:=by
  have e:iV ⟨al,cl,l,TR gf gs gw gd f s ct,none,0,[]⟩=bB (iV ⟨al,cl,l,noH,none,0,[]⟩) 1 [.slice (some ⟨gf,0,none⟩) f f,.int .i64 0,.slice (some ⟨gs,0,none⟩) s s,.slice (some ⟨gw,0,none⟩) s s,.slice none 0 0,.slice (some ⟨gd,0,none⟩) ct ct,.slice none 0 0,.slice none 0 0,.int .i64 ct,.slice none 0 0,.slice none 0 0]:=by unfold iV TR noH;dsimp only;rw[jD,jD,jD,jD];kernel_rfl
  rw[e];exact ei
 have kP:ed w4 (w.heap.size+1) (w.heap.size+1) ⟨al,cl,l,TR gf gs gw gd f s ct,none,0,[]⟩:=
  UU (xX.keep (B:=w.heap.size+1) (fun a ha hl=>Nat.lt_succ_of_lt (xf.out a ha hl)) (qz mx3.lt) kH (ay _)) (fun a ha hl=>Nat.lt_succ_of_lt (xf.out a ha hl)) (ay _) xn gX gy g0 (by omega) (by omega) (by omega) (by omega) xO (zf:=vW fr0) (zs:=#[.int .i64 0]) (zp:=iB zPg) rfl rfl rfl
   (kf.grown kH (fun e=>by have:=aJ e;omega)) (ks.grown kH (fun e=>by have:=aJ e;omega)) (kw.grown kH (fun e=>by have:=aJ e;omega)) (kd.grown kH (fun e=>by have:=aJ e;omega))
 have bx4:aB w4 w.heap.size (dh noH) 41:=bx3.grown kH (fun e=>by have:=aJ e;omega);have qX:Hid (Below w.heap.size w w4):=Lib.hid (qY.out.grown kH (bi (by omega) (qz mx3.lt)) (fun k hk=>by cases hk;omega));have kM:w.heap.size+2≤w4.heap.size:=xn.lt;clear kf ks kw kd mx3 bx3 xX qY ei kH xn bf bs bw bd xO xf el;generalize hb' : w.heap.size+1=b at kP kM ⊢;have xt:=Lib.hid hb';clear hb';obtain⟨S3,qa⟩:∃S3,S3=(⟨al,cl,l,TR gf gs gw gd f s ct,none,0,[]⟩:MW):=⟨_,rfl⟩;have g9:=Lib.hid qa;rw[←qa] at kP;have hc:=kP.blk.cell;unfold iV at hc;have ee:S3.H.m.fs.length=f:=by rw[qa];exact jD
 rw[ee] at hc;clear ee;have qP:ed w4 b b (S3.frs (Bq f 0)):=by
  have e:S3.frs (Bq f 0)=S3:=by rw[qa];rfl
  rw[e];exact kP
 have qs:MS w4 b S3 w4 (S3.frs (Bq f 0)):=(MS.refl w4 b S3).same rfl;have qK:Hid (¬mP b S3 w.heap.size):=Lib.hid (fun hk=>by have h1:=(kP.kb_own hk).1;have h2:=xt.out;omega);have xS:Hid (∀w' S',MS w4 b S3 w' S'→Below b w4 w'):=Lib.hid (fun w' S' h=>MS.to kP h (ay b));clear qa kP;have bx4':=Lib.hid bx4;clear bx4;go_upto_region 5 with (fail)
 go_loopw [55] (fun k wr => ∃q:Nat,q≤f∧k = .int .i64 q∧ed wr b b (S3.frs (Bq f q))∧MS w4 b S3 wr (S3.frs (Bq f q))) (fun k _=>f-(intOf k).toNat)
 case atStart=>exact⟨0,aV _,rfl,qP,qs⟩
 case round=>
  clear qP qs;obtain⟨q,hq,rfl,hm,hs⟩:=hrel
  by_cases hqf:q<f
  ·have gi:(q:Int)<(f:Int):=by omega
   have xl:(Bq f q).length=f:=Ji hq;have hc:=hm.blk.cell;unfold iV at hc;dsimp only[MW.frs] at hc;rw[xl] at hc;obtain⟨g,off,cap,cur,hv,kS,hg,xp,qi,gS⟩:=hm.ma.fr.put fJ (by decide) q (by show q<(Bq f q).length;omega);have xx:S3.H.af=some ⟨g,off,none⟩:=(ng hv).1;have eh:Hid (∀j u,(qf fr0)[j]?=some u→cur[off+q*13+j]?=some u):=Lib.hid fun j u hj=>by have e:(S3.frs (Bq f q)).H.m.fs[q]'(by show q<(Bq f q).length;omega)=fr0:=UH hqf (by omega);have:=qi j u (by rw[e];exact hj);rw[hg.cell] at this;exact this
   rw[xx] at hc;have gR:=Lib.hid gS;have i4:=Lib.hid xl;have em:=Lib.hid xx;clear hv qi gS xl xx
   go_wp2_with (refine aA rfl _ _ _ rfl g (off+q*13+11) _ [.int .i64 (-1)] rfl rfl rfl _ _ hg (by show off+q*13+11+1≤cur.size;omega) (by kernel_rfl) (fun u hu=>by cases bv.1 hu;rfl) ?_)
   intro w5 xw xq;rw[Um xp eh.out] at xw;have ho:=gR.out _ _ xw;have hX:(S3.frs (Bq f q)).H.m.fs.set q frZ=Bq f (q+1):=Ue hqf;have hD:(Bq f (q+1)).length=(Bq f q).length:=by rw[Ji (by omega),Ji hq]
   rw[hX] at ho;have ku:ed w5 b b (S3.frs (Bq f (q+1))):=hm.putF hg kS xq (fs:=Bq f (q+1)) hD (by rw[hD];exact ho);have kN:MS w4 b S3 w5 (S3.frs (Bq f (q+1))):=hs.put xq (.inr (by show some g∈gZ S3;unfold gZ;rw[em.out];exact gV)) (fun x hx => .inl hx);clear hm hs hg xp xw xq hc ho hX hD;go_wp2;go_roundw
   case rel=>exact⟨q+1,by omega,by go_num,ku,kN⟩
   case measure=>simp[intOf];omega
  have gi:¬(q:Int)<(f:Int):=by omega
  have ij:f=q:=by omega
  subst ij;rw[TJ] at hm hs
  go_wp2_with fail
  refine (fB _ 3 b b _ hm (by omega)).mono ?_;rintro r w5 ⟨N,a5,c5,l5,rfl,ku,kN,hN,xB⟩;have kN:=hs.trans kN;have x5:Hid (l=[]→N=0∧l5=[]):=Lib.hid fun e=>xB (by show S3.l=[];rw[g9.out];exact e);have xD:Iw f s ct S3.H.asl ((S3.frs (List.replicate f frZ)).lst a5 c5 l5).H.fi (List.replicate ct zPg) [] ((S3.frs (List.replicate f frZ)).lst a5 c5 l5):=by rw[g9.out];exact⟨rfl,rfl,rfl,rfl,rfl,rfl,rfl,rfl,rfl,rfl⟩
  have gc:((S3.frs (List.replicate f frZ)).lst a5 c5 l5).H.fi=[]:=by rw[g9.out];rfl
  have gK:Hid (l=[]→((S3.frs (List.replicate f frZ)).lst a5 c5 l5).l=[]):=Lib.hid fun e=>(x5.out e).2;obtain⟨N,rfl⟩:=fE hN.1;have jg:N≤2:=by omega
  clear hm hs hN xB hqf gi hq;generalize (S3.frs (List.replicate f frZ)).lst a5 c5 l5=S5 at ku kN xD gc gK;go_upto_region 10 with (fail)
  go_loopw [70] (fun k wr => ∃(q:Nat) (S:MW) (bk:List Page) (qu:List (Int × Page)),q≤N∧k = .int .i64 q∧ed wr b b S∧MS w4 b S3 wr S∧Hid (Iw f s ct S3.H.asl S.H.fi bk qu S∧Fb ct bk qu (S.H.fi.map PF.fi) []∧S.H.fi.length=q∧(q=0→bk=List.replicate ct zPg∧qu=[]∧(l=[]→S.l=[])))) (fun k _=>N-(intOf k).toNat)
  case atStart=>exact⟨0,S5,_,_,aV _,rfl,ku,kN,Lib.hid ⟨xD,by rw[gc];exact Fb.start g0,by rw[gc];rfl,fun _=>⟨rfl,rfl,gK.out⟩⟩⟩
  case round=>
   clear ku kN xD gc gK;obtain⟨q,S,bk,qu,hq,rfl,hm,hs,hI⟩:=hrel;obtain⟨fi0,qU⟩:∃fi0,S.H.fi=fi0:=⟨_,rfl⟩;rw[qU] at hI;clear qU;have x6:Hid (fi0.length=q):=Lib.hid hI.out.2.2.1;have xm:Hid (fi0.length≤2):=Lib.hid (by have:=hI.out.2.2.1;omega)
   by_cases hqN:q<N
   ·have gi:(q:Int)<(N:Int):=by omega
    go_wp2_with fail
    refine (fB _ 40 b b _ hm (by omega)).mono ?_;rintro r w6 ⟨x,a6,c6,l6,rfl,kt,kg,hx,_⟩;have kg:=hs.trans kg;have xC:Hid (Iw f s ct S3.H.asl fi0 bk qu (S.lst a6 c6 l6)):=Lib.hid (hI.out.1.lst _ _ _);have gg:0≤x∧x<40:=by omega
    obtain⟨C,hC⟩:∃C:Nat,dW x=C:=⟨(dW x).toNat,by unfold dW;split<;>omega⟩;have jk:C≤5:=by unfold dW at hC;split at hC<;>omega
    have eA:=Lib.hid hC;clear hm hs hx hC;generalize S.lst a6 c6 l6=S6 at kt kg xC
    go_wp2_with (refine aI rfl _ _ _ rfl (pK ⟨x,none,[],0⟩) rfl rfl rfl file_size (qE _) ?_)
    intro w7 xv fx7;have kO:=kt.below xv;have qr:=(MS.refl w6 b S6).below xv;have xj:Hid (¬mP b S6 w6.heap.size):=Lib.hid (kt.new (ay _));have kS:b≤w6.heap.size:=kt.bs;have i6:=Lib.hid kS;clear kt xv;generalize hg60:w6.heap.size=gf0 at xj kS fx7 ⊢;have ix:Hid (w6.heap.size≤gf0):=Lib.hid (Cq hg60);clear hg60;have kI:=fx7.cell;unfold pK at kI
    go_wp2_with fail
    refine (yF x _ (by omega)).mono ?_;rintro r w8 ⟨rfl,rfl⟩;rw[eA.out];clear kI;have x1:∀p∈fi0,True:=fun _ _=>trivial;clear x1;go_upto_region 13 with (fail)
    go_loopw [78] (fun k wr => ∃(i:Nat) (S:MW) (bk:List Page) (qu:List (Int × Page)) (xs:List Int) (xa:Option Addr) (xc:Nat),i≤C∧k = .int .i64 i∧ed wr b b S∧MS w6 b S6 wr S∧Hid (¬mP b S gf0)∧Hid (Iw f s ct S3.H.asl fi0 bk qu S∧Fb ct bk qu (fi0.map PF.fi) xs∧xs.length=i)∧aB wr gf0 (pK ⟨x,xa,xs,xc⟩) 67 ∧
     Hid (Own wr b 3 1 (mW ⟨x,xa,xs,xc⟩) xs.length (xs.map fT)∧∀g,oB xa=some g→w6.heap.size≤g∧oB S3.H.asl≠some g∧∀p∈fi0,oB p.a≠some g)) (fun k _=>C-(intOf k).toNat)
    case atStart=>exact⟨0,S6,bk,qu,[],none,0,aV _,rfl,kO,qr,xj,Lib.hid ⟨xC.out,hI.out.2.1,rfl⟩,fx7,Lib.hid ⟨Own.nil _ _ _ _,fun g hg=>(by cases hg)⟩⟩
    case round=>
     clear kO fx7 hI xC qr xj;obtain⟨i,S,bk,qu,xs,xa,xc,hi,rfl,hm,hs,ga,hI,fx,ho⟩:=hrel
     by_cases hiC:i<C
     ·have iw:(i:Int)<(C:Int):=by omega
      go_upto_region 16 with (fail);have x7:∀g,(mW ⟨x,xa,xs,xc⟩).ownBlock=some g→¬mP b S g:=fun g hg=>by obtain⟨cs,hk⟩:=kQ ho.out.1 g hg;refine hm.kb_int hk ?_;rw[hI.out.1.asl];exact (ho.out.2 g (by unfold mW at hg;rw[lK] at hg;exact hg)).2.1
      have gP:=Lib.hid x7;clear x7
      go_cut [14] (fun s14 wx => ∃(n:Nat) (a:Option Addr) (c:Nat) (l:List UInt8),s14 = .int .i64 n∧n<256∧ed wx b b (S.lst a c l)∧MS wr b S wx (S.lst a c l)∧aB wx gf0 (pK ⟨x,xa,xs,xc⟩) 67∧Hid (Own wx b 3 1 (mW ⟨x,xa,xs,xc⟩) xs.length (xs.map fT)))
      case first=>
       go_wp2_with fail
       all_goals
        refine (fB S _ b b _ hm (by omega)).mono ?_;rintro r w8 ⟨n,a8,c8,l8,rfl,hG,hA,hn,_⟩;obtain⟨n,rfl⟩:=fE hn.1;have xk:(n:Int)<256:=hn.2.1;have fx8:=hA.blkN fx ga.out;have ki:Hid (Own w8 b 3 1 (mW ⟨x,xa,xs,xc⟩) xs.length (xs.map fT)):=Lib.hid (hA.ownN ho.out.1 gP.out);clear hm fx hn;go_wp2;go_meet
        case rel=>exact⟨n,a8,c8,l8,rfl,by omega,hG,hA,fx8,ki⟩
      case rest=>
      obtain⟨n,a8,c8,l8,rfl,xk,hG,hA,fx8,qy⟩:=hcut;have ki:Hid (Own wc b 3 1 (mW ⟨x,xa,xs,xc⟩) xs.length (xs.map fT)∧∀g,oB xa=some g→w6.heap.size≤g∧oB S3.H.asl≠some g∧∀p∈fi0,oB p.a≠some g):=Lib.hid ⟨qy.out,ho.out.2⟩;clear qy;have gm:Hid (Iw f s ct S3.H.asl fi0 bk qu (S.lst a8 c8 l8)∧Fb ct bk qu (fi0.map PF.fi) xs∧xs.length=i):=Lib.hid ⟨hI.out.1.lst _ _ _,hI.out.2⟩;have hA:=hs.trans hA;have k9:Hid (¬mP b (S.lst a8 c8 l8) gf0):=ga;have k6:Hid (∀g,(mW ⟨x,xa,xs,xc⟩).ownBlock=some g→¬mP b (S.lst a8 c8 l8) g):=gP;clear hm hs hI fx ho ga gP;generalize S.lst a8 c8 l8=S8 at hG hA gm k9 k6;go_upto_region 17 with (fail)
      go_cut [109] (fun s109 wx => ∃(β:Bool) (a:Option Addr) (c:Nat) (l:List UInt8),s109 = .bool β∧ed wx b b (S8.lst a c l)∧MS wc b S8 wx (S8.lst a c l)∧aB wx gf0 (pK ⟨x,xa,xs,xc⟩) 67∧Hid (Own wx b 3 1 (mW ⟨x,xa,xs,xc⟩) xs.length (xs.map fT))∧Hid (β=true→n<ct∧¬(n:Int)∈(fi0.map PF.fi).flatMap Fi.b++xs))
      case first=>
       have eb:gf0<wc.heap.size:=fx8.lt;have jf:S8.H.fi.length≤5:=by have e1:=gm.out.1.fi;have e2:=xm.out;rw[e1];omega
       by_cases hnc:n<ct
       ·have qk:(n:Int)<(ct:Int):=by omega
        cases hu:gL (bY (S8.H.fi++[(⟨x,xa,xs,xc⟩:PF)]) 0) (n:Int)
        case' true=>
         refine gN 25 [_,_,_,_,.r 4 ((bW fun _=>True)),_,_,_,_,_,.v (.slice S8.H.ai S8.H.fi.length S8.H.ci),.r 11 ((bW fun _=>True)),.v (.agg (pK ⟨x,xa,xs,xc⟩)),.r 13 ((bW fun _=>True)),.r 14 ((bW fun _=>True)),.r 15 ((bW fun _=>True)),_,.v (.bool true),_,_,_,_,_,_,.v (.bool false)] (Fg S8 b b wc gf0 ⟨x,xa,xs,xc⟩) dO (fun y=>UW hG fx8 ki.out.1 y) (Qk dO rfl (Qk dO rfl (Qb dO (.bool true) (by simp[go_sem,qk]) rfl rfl rfl rfl rfl (Qk dO rfl (ag ?u1_1 (Qk dO rfl (Qk dO rfl (Qf dO b 1 rfl rfl (Qf dO b 8 rfl rfl (Qf dO b 8 rfl rfl (ag ?u1_2 (ag ?u1_3 (ag ?u1_4 (ag ?u1_5 (ag ?u1_6 (ag ?u1_7 (Qk dO rfl (ag ?u1_8 (Qk dO rfl (Qk dO rfl (Qk dO rfl (Qk dO rfl (Qk dO rfl (Qk dO rfl (Qk dO rfl (aC) (fun _ _ _ _ d h=>eG (by decide) h)) (fun _ _ _ _ d h=>eG (by decide) h)) (fun _ _ _ _ d h=>eG (by decide) h)) (fun _ _ _ _ d h=>eG (by decide) h)) (fun _ _ _ _ d h=>eG (by decide) h)) (fun _ _ _ _ d h=>eG (by decide) h)) (fun _ _ _ _ d h=>eG (by decide) h))) (fun _ _ _ _ d h=>eG (by decide) h)))))))) (fun _ _ _ _ d h=>eG (by decide) h)) (fun _ _ _ _ d h=>eG (by decide) h)) (fun _ _ _ _ d h=>eG (by decide) h)) (fun _ _ _ _ d h=>eG (by decide) h)) (fun _ _ _ _ d h=>eG (by decide) h))) (fun _ _ _ _ d h=>eG (by decide) h)) (fun _ _ _ _ d h=>eG (by decide) h)) (fun _ _ _ _ d h=>eG (by decide) h)) (fun _ _ _ _ d h=>eG (by decide) h)) (fun _=>rfl) rfl ?u1_9
        case' false=>
         refine gN 25 [_,_,_,_,.r 4 ((bW fun _=>True)),_,_,_,_,_,.v (.slice S8.H.ai S8.H.fi.length S8.H.ci),.r 11 ((bW fun _=>True)),.v (.agg (pK ⟨x,xa,xs,xc⟩)),.r 13 ((bW fun _=>True)),.r 14 ((bW fun _=>True)),.r 15 ((bW fun _=>True)),_,.v (.bool false),_,_,_,_,.r 22 ((bW fun v => ∃x:Int,v = .int .i64 x)),.r 23 ((bW fun v => ∃u,v = .bool u)),.r 24 ((bW fun v => ∃u,v = .bool u))] (Fg S8 b b wc gf0 ⟨x,xa,xs,xc⟩) dO (fun y=>UW hG fx8 ki.out.1 y) (Qk dO rfl (Qk dO rfl (Qb dO (.bool true) (by simp[go_sem,qk]) rfl rfl rfl rfl rfl (Qk dO rfl (ag ?v1_1 (Qk dO rfl (Qk dO rfl (Qf dO b 1 rfl rfl (Qf dO b 8 rfl rfl (Qf dO b 8 rfl rfl (ag ?v1_2 (ag ?v1_3 (ag ?v1_4 (ag ?v1_5 (ag ?v1_6 (ag ?v1_7 (Qk dO rfl (ag ?v1_8 (Qk dO rfl (Qk dO rfl (Qk dO rfl (Qk dO rfl (ag ?v1_9 (ag ?v1_10 (ag ?v1_11 (aC)))) (fun _ _ _ _ d h=>eG (by decide) h)) (fun _ _ _ _ d h=>eG (by decide) h)) (fun _ _ _ _ d h=>eG (by decide) h)) (fun _ _ _ _ d h=>eG (by decide) h))) (fun _ _ _ _ d h=>eG (by decide) h)))))))) (fun _ _ _ _ d h=>eG (by decide) h)) (fun _ _ _ _ d h=>eG (by decide) h)) (fun _ _ _ _ d h=>eG (by decide) h)) (fun _ _ _ _ d h=>eG (by decide) h)) (fun _ _ _ _ d h=>eG (by decide) h))) (fun _ _ _ _ d h=>eG (by decide) h)) (fun _ _ _ _ d h=>eG (by decide) h)) (fun _ _ _ _ d h=>eG (by decide) h)) (fun _ _ _ _ d h=>eG (by decide) h)) (fun _=>rfl) rfl ?v1_12
        case u1_1|v1_1=>
         intro ρ y W L hw hn o d hb hd;refine eP (.slice (some ⟨W.heap.size,0,none⟩) 0 0) (bu 3 88 true true rfl rfl ((hw 88 3 rfl).trans (hd 3 rfl))) ?_ (Wz hb) trivial;simp[execOp,go_sem]
        case u1_2|v1_2=>
         intro ρ y W L hw hn o d hb hd;refine eD dO (fun _ _ h=>eG (by decide) h) hb ?_;have iP:=hw 94 9 rfl;have h9:y 9=_:=hd 9 rfl;obtain⟨⟨a0,c0,l0,m1,m2⟩,m3⟩:=hb;refine aj (.slice S8.H.ai S8.H.fi.length S8.H.ci) (bu 3 88 true true rfl rfl ((hw 88 3 rfl).trans (hd 3 rfl))) (by simp[execOp,go_sem,iP,h9,m1.blk.cell,iV,MW.lst]) rfl
        case u1_3|v1_3=>
         intro ρ y W L hw hn o d hb hd;have iS:=hw 89 4 rfl;have h4:=hd 4 rfl;have iO:=hw 95 10 rfl;have xF:y 10=_:=hd 10 rfl;obtain⟨g,iy,gl⟩:=hb.2.2.2.1 (d 4 rfl) o;have gu:=hb.2.2.2.2.2.2.2.1;obtain⟨a0,c0,l0,m1,m2⟩:=hb.1;have m3:Mw W S8.H.ai S8.H.ci S8.H.fi:=m1.ma.rd.st;refine kU (bu 3 88 true true rfl rfl ((hw 88 3 rfl).trans (hd 3 rfl))) (KH _ _ _ rfl wc.heap.size 67 _ 2 32 underlying35 file_info rfl (by decide) g (iS.trans iy) gl S8.H.ai S8.H.fi.length S8.H.ci (S8.H.fi.flatMap qg) (iO.trans xF) m3.nl m3.le (by rw[Pw.flat_len qg 2 jL]) m3.rd (by unfold maxLen;omega) (by omega) gu) (fun v W1 h=>VF hb h.1 h.2) (fun _ _ _=>trivial)
        case u1_4|v1_4=>
         intro ρ y W L hw hn o d hb hd;refine eD dO (fun _ _ h=>eG (by decide) h) hb ?_;have xG:ρ (.tmp 11) = .pointer (some ⟨gf0,0,none⟩):=(hn (.tmp 11) rfl).trans rfl;have m3:=hb.2.1;refine aj (.agg (pK ⟨x,xa,xs,xc⟩)) (bu 3 88 true true rfl rfl ((hw 88 3 rfl).trans (hd 3 rfl))) (dL rfl xG m3 underlying67 rfl file_size) rfl
        case u1_5|v1_5=>
         intro ρ y W L hw hn o d hb hd;have iM:=hw 97 12 rfl;have qe:y 12=_:=hd 12 rfl;have gu:=hb.2.2.2.2.2.2.2.1;refine eP (.slice (some ⟨W.heap.size,0,none⟩) 1 1) (bu 3 88 true true rfl rfl ((hw 88 3 rfl).trans (hd 3 rfl))) ?_ (VE (W':=W.alloc (.cells (pK ⟨x,xa,xs,xc⟩) 67)) hb ((Below.refl _ _).alloc (ay _) _) (Ux gu _)) trivial;simp[execOp,go_sem,iM.trans qe,pK]
        case u1_6|v1_6=>
         intro ρ y W L hw hn o d hb hd;have iN:=hw 96 11 rfl;have iK:=hd 11 rfl;have iL:=hw 98 13 rfl;have eC:=hd 13 rfl;have gu:=hb.2.2.2.2.2.2.2.1;have hv:=hb.2.2.2.2.1 (d 11 rfl) o;obtain⟨a,e,gg,k1,k2,k3,k4⟩:=(hb.2.2.2.2.2.1 (d 13 rfl) o).rd;refine kU (bu 3 88 true true rfl rfl ((hw 88 3 rfl).trans (hd 3 rfl))) (pG _ _ _ rfl wc.heap.size 67 _ 2 32 underlying35 file_info rfl (by decide) (y 11) S8.H.fi.length _ iN hv a 1 e (qg ⟨x,xa,xs,xc⟩) (iL.trans gg) k3 k1 rfl k4 (bS (qE _)) (by unfold maxLen;omega) (by omega) gu) (fun v W1 h=>VB hG eb hb (d 11 rfl) o h.2.1 h.1) (fun _ _ _=>trivial)
        case u1_7|v1_7=>
         intro ρ y W L hw hn o d hb hd;have eE:=hw 99 14 rfl;have jm:=hd 14 rfl;obtain⟨a,c,e14,_⟩:=Nt hb (d 14 rfl);refine eP (.agg #[y 14,.int .i64 0]) (bu 3 88 true true rfl rfl ((hw 88 3 rfl).trans (hd 3 rfl))) ?_ (Vx (d 14 rfl) hb) trivial;rw[e14] at eE ⊢;simp[execOp,go_sem,eE]
        case u1_8|v1_8=>
         intro ρ y W L hw hn o d hb hd;have q9:=hw 100 15 rfl;have jl:=hd 15 rfl;have ig:=hw 101 16 rfl;have iJ:y 16=_:=hd 16 rfl;have EF:∀f,ρ (.func f) = .func (.func f) #[] #[]:=fun f=>hn (.func f) trivial;obtain⟨l14,e15⟩:=hb.2.2.2.2.2.2.2.2 (d 15 rfl);obtain⟨a,c,e14,iC⟩:=Nt hb l14;rw[e15,e14] at q9;refine gU _ _ (bu 3 88 true true rfl rfl ((hw 88 3 rfl).trans (hd 3 rfl))) (aU rfl (EF _) func32 (by kernel_rfl) (by kernel_rfl) (by simp only[bV,bP,bT,q9,ig,iJ,EF];rfl)) ?_;have xd:=Aq (S8.H.fi++[⟨x,xa,xs,xc⟩]) 0 n a c W iC;unfold PE at xd;rw[hu] at xd;refine xd.mono ?_;rintro r w1 ⟨qh,kW⟩;exact⟨_,qh,eG (by decide) (dO _ _ _ _ kW hb),rfl⟩
        case u1_9=>
         intro y W9 hy hW;clear hW;have xu:=hy.1;obtain⟨a9,c9,l9,hR,hJ⟩:=xu;have fx9:=hy.2.1;have kh:=Lib.hid hy.2.2.1;clear hy hG hA fx8 ki;go_wp2;go_meet
         case rel=>exact⟨false,a9,c9,l9,rfl,hR,hJ,fx9,kh,Lib.hid fun e=>(by cases e)⟩
        case v1_9=>
         intro ρ y W L hw hn o d hb hd;have id:=hw 106 21 rfl;have iG:y 21=_:=hd 21 rfl;have EC:∀v,ρ (.const v)=v:=fun v=>hn (.const v) trivial;have EF:∀f,ρ (.func f) = .func (.func f) #[] #[]:=fun f=>hn (.func f) trivial;refine gU _ _ (bu 20 105 true true rfl rfl ((hw 105 20 rfl).trans (hd 20 rfl))) (aU rfl (EF _) func30 (by kernel_rfl) (by kernel_rfl) (by simp only[bV,bP,bT,id,iG,EC,EF];rfl)) ?_;exact Rn (by decide) hG k9.out k6.out 3 (by omega) hb fun x _ _ _=>⟨x,rfl⟩
        case v1_10=>
         intro ρ y W L hw hn o d hb hd;refine eD dO (fun _ _ h=>eG (by decide) h) hb ?_;have ic:=hw 107 22 rfl;have iF:=hd 22 rfl;obtain⟨x,hx⟩:=iF;refine aj _ (bu 20 105 true true rfl rfl ((hw 105 20 rfl).trans (hd 20 rfl))) (pF rfl (ic.trans hx) (hn (.const _) trivial) (by simp[go_sem];rfl)) ⟨_,rfl⟩
        case v1_11=>
         intro ρ y W L hw hn o d hb hd;refine eD dO (fun _ _ h=>eG (by decide) h) hb ?_;have ie:=hw 105 20 rfl;have iH:y 20=_:=hd 20 rfl;have ib:=hw 108 23 rfl;have iE:=hd 23 rfl;obtain⟨u,ih⟩:=iE;refine aj (.bool u) (ah rfl) (pI rfl (ie.trans iH) (by simpa using ib.trans ih)) ⟨_,rfl⟩
        case v1_12=>
         intro y W9 hy hW;have i2:((bW fun v => ∃x:Int,v = .int .i64 x)).r (y 22) W9:=hW 22 (by decide);have i1:((bW fun v => ∃u,v = .bool u)).r (y 23) W9:=hW 23 (by decide);have xI:((bW fun v => ∃u,v = .bool u)).r (y 24) W9:=hW 24 (by decide);clear hW;have xu:=hy.1;obtain⟨a9,c9,l9,hR,hJ⟩:=xu;have fx9:=hy.2.1;have kh:=Lib.hid hy.2.2.1;obtain⟨β,hβ⟩:=xI;rw[hβ];clear hy hG hA fx8 ki hβ;have is:Hid (n<ct∧¬(n:Int)∈(fi0.map PF.fi).flatMap Fi.b++xs):=Lib.hid ⟨hnc,fun x2=>by
          have e1:=gm.out.1.fi;unfold gL at hu;rw[zD,e1] at hu;have h2:¬(n:Int)∈vQ (fi0++[(⟨x,xa,xs,xc⟩:PF)]):=of_decide_eq_false hu;refine h2 ?_;unfold vQ;rw[eY];rcases fO.1 x2 with h3|h3
          ·rw[Cr] at h3;exact oG _ h3
          ·exact tC _ (by simpa using h3)⟩
         go_wp2;go_meet
         case rel=>exact⟨β,a9,c9,l9,rfl,hR,hJ,fx9,kh,Lib.hid fun _=>is.out⟩
       have qk:¬(n:Int)<(ct:Int):=by omega
       refine aM 25 [_,_,_,_,_,_,_,_,_,_,_,_,_,_,_,_,_,_,_,_,_,_,_,_,.v (.bool false)] (Gk rfl (Gk rfl (Gb (.bool false) (by simp[go_sem,qk]) rfl rfl rfl rfl rfl (Gk rfl (Gk rfl (Gk rfl (Gk rfl (Gk rfl (Gk rfl (Gk rfl (Gk rfl (Gk rfl (Gk rfl (Gk rfl (Gk rfl (Gk rfl (Gk rfl (Gk rfl (Gk rfl (Gk rfl (Gk rfl (Gk rfl (Gk rfl (Gk rfl (Gk rfl (aC)))))))))))))))))))))))))) (fun _=>rfl) rfl ?_;intro y W9 hy _;have hR:=hG.below hy;have hJ:=(MS.refl wc b S8).below hy;have fx9:=fx8.ext hy;have kh:=Lib.hid (ki.out.1.below hy);clear hy hG fx8 ki;go_wp2;go_meet
       case rel=>exact⟨false,S8.al,S8.cl,S8.l,rfl,hR,hJ,fx9,kh,Lib.hid fun e=>(by cases e)⟩
      case rest=>
      obtain⟨β,a9,c9,l9,rfl,hR,hJ,fx9,kh,hβ⟩:=hcut;have kX:=Lib.hid ki.out.2;have hJ:=hA.trans hJ;have kB:Hid (Iw f s ct S3.H.asl fi0 bk qu (S8.lst a9 c9 l9)∧Fb ct bk qu (fi0.map PF.fi) xs∧xs.length=i):=Lib.hid ⟨gm.out.1.lst _ _ _,gm.out.2⟩;have ko:Hid (¬mP b (S8.lst a9 c9 l9) gf0):=k9;have kF:Hid (∀g,(mW ⟨x,xa,xs,xc⟩).ownBlock=some g→¬mP b (S8.lst a9 c9 l9) g):=k6;clear hG hA gm fx8 ki k9 k6;generalize S8.lst a9 c9 l9=S9 at hR hJ kB ko kF;go_upto_if 109 with (fail);have ez:Hid (xs.length=i):=Lib.hid kB.out.2.2;have xE:Hid (xs.length≤C):=Lib.hid (by have:=kB.out.2.2;omega)
      go_cut [13] (fun s13 wx => ∃(v:Int) (S:MW) (bk:List Page) (qu:List (Int × Page)),s13 = .int .i64 v∧ed wx b b S∧MS w6 b S6 wx S∧Hid (¬mP b S gf0)∧Hid (Iw f s ct S3.H.asl fi0 bk qu S∧Fb ct bk qu (fi0.map PF.fi) (xs++[v]))∧aB wx gf0 (pK ⟨x,xa,xs,xc⟩) 67∧Hid (Own wx b 3 1 (mW ⟨x,xa,xs,xc⟩) xs.length (xs.map fT)))
      case first=>
       cases β with
       | false=>
        go_wp2;go_meet
        case rel=>exact⟨-1,S9,bk,qu,rfl,hR,hJ,ko,Lib.hid ⟨kB.out.1,kB.out.2.1.none⟩,fx9,kh⟩
       | true=>
        have gF:=Lib.hid (hβ.out rfl);clear hβ
        go_wp2_with fail
        refine (xP S9 b b _ hR).mono ?_;rintro r w10 ⟨P,a10,c10,l10,rfl,ke,hK⟩;have fx10:=hK.blkN fx9 ko.out;have qF:Hid (Own w10 b 3 1 (mW ⟨x,xa,xs,xc⟩) xs.length (xs.map fT)):=Lib.hid (hK.ownN kh.out kF.out);have hK:=hJ.trans hK;have hY:Hid (Iw f s ct S3.H.asl fi0 bk qu (S9.lst a10 c10 l10)∧Fb ct bk qu (fi0.map PF.fi) xs∧xs.length=i):=Lib.hid ⟨kB.out.1.lst _ _ _,kB.out.2⟩;have kR:Hid (¬mP b (S9.lst a10 c10 l10) gf0):=ko;have gO:Hid (∀g,(mW ⟨x,xa,xs,xc⟩).ownBlock=some g→¬mP b (S9.lst a10 c10 l10) g):=kF;clear hR hJ kB fx9 kh ko kF;generalize S9.lst a10 c10 l10=S10 at ke hK hY kR gO
        go_wp2_with (refine aI rfl _ _ _ rfl (iB P) rfl rfl rfl psize (jy P) ?_)
        intro w11 kK px11;have kn:=ke.below kK;have kb:=hK.below kK;have fx11:=fx10.ext kK;have qD:Hid (Own w11 b 3 1 (mW ⟨x,xa,xs,xc⟩) xs.length (xs.map fT)):=Lib.hid (qF.out.below kK);have xi:=Lib.hid (ke.new (ay _));have gj:=Lib.hid hK.size;have iq:b≤w10.heap.size:=ke.bs;have io:Hid (w10.heap.size≠gf0):=Lib.hid (fun e=>by have:=fx10.lt;omega);clear ke hK fx10 qF kK;generalize w10.heap.size=gp at *
        go_upto_region 21 with (fail)
        go_loopw [113] (fun j wr => ∃k:Nat,k≤8∧j = .int .i64 k∧ed wr b b S10∧MS w6 b S6 wr S10∧aB wr gp (iB (iR P (x-(i:Int)*8) k)) 79∧aB wr gf0 (pK ⟨x,xa,xs,xc⟩) 67∧Hid (Own wr b 3 1 (mW ⟨x,xa,xs,xc⟩) xs.length (xs.map fT))) (fun j _=>8-(intOf j).toNat)
        case atStart=>exact⟨0,by omega,rfl,kn,kb,by rw[show iR P (x-(i:Int)*8) 0=P from by ext j hj;simp[iR]];exact px11,fx11,qD⟩
        case round=>
         clear kn kb px11 fx11 qD;obtain⟨k,hk,rfl,hm,hs,px,fx,ho⟩:=hrel
         by_cases hk8:k<8
         ·have iu:(k:Int)<8:=by omega
          have kI:=fx.cell;unfold pK at kI;have jc:IntKind.i64.wrap (8*(i:Int))=8*(i:Int):=bM _ (by omega);have ja:IntKind.i64.wrap (8*(i:Int)+(k:Int))=8*(i:Int)+(k:Int):=bM _ (by omega)
          by_cases hge:x≤8*(i:Int)+k
          ·have hX:Hid ((iB (iR P (x-(i:Int)*8) k)).setIfInBounds k (.int .u8 0)=iB (iR P (x-(i:Int)*8) (k+1))):=Lib.hid (by rw[←AR P _ k hk8 (by omega)];exact Cx _ k hk8 0);generalize hT:iR P (x-(i:Int)*8) k=T at px hX;clear hT
           go_wp2_with (refine aA rfl _ _ _ rfl gp k _ [.int .u8 0] rfl rfl rfl _ _ px (by show k+1≤8;omega) (by kernel_rfl) (fun u hu=>by cases bv.1 hu;rfl) ?_)
           intro w12 px12 hU;rw[Pw.putAt_one,hX.out] at px12;have x4:=hm.locT px (by decide) xi.out iq hU;have xW:=hs.loc hU gj.out;have fx12:=fx.grown hU (fun e=>io.out (by have:=aJ e;omega));have x0:Hid (Own w12 b 3 1 (mW ⟨x,xa,xs,xc⟩) xs.length (xs.map fT)):=Lib.hid (ak ho.out px (by decide) hU);clear hm hs px hU kI fx ho;go_wp2;go_roundw
           case rel=>exact⟨k+1,by omega,by go_num,x4,xW,px12,fx12,x0⟩
           case measure=>simp[intOf];omega
          have hX:iR P (x-(i:Int)*8) k=iR P (x-(i:Int)*8) (k+1):=by
           ext j hj
           simp only[iR,rR]
           by_cases e:x-(i:Int)*8≤(j:Int)
           ·rw[if_neg (by omega),if_neg (by omega)]
           ·rw[if_neg (by omega),if_neg (by omega)]
          rw[hX] at px;clear hX;go_wp2;go_roundw
          case rel=>exact⟨k+1,by omega,by go_num,hm,hs,px,fx,ho⟩
          case measure=>simp[intOf];omega
         have iu:¬(k:Int)<8:=by omega
         rw[Ba _ _ k (by omega)] at px;generalize fu P (x-(i:Int)*8)=PC at px;have qJ:n<ct:=gF.out.1;have xr:S10.H.dk.blocks.length=ct:=by rw[hY.out.1.dk];exact hY.out.2.1.cl.1
         obtain⟨g,off,cap,cur,hv,kS,hg,xp,qi,gS⟩:=hm.ma.dk.b.put kD (by decide) n (by rw[xr];exact qJ);have gY:S10.H.db=some ⟨g,off,none⟩:=(ng hv).1;have gR:=Lib.hid gS;have eg:=Lib.hid xr;have qV:=Lib.hid gY;have im:Hid (gp≠g):=Lib.hid (fun e=>xi.out (by rw[e];exact .inr (by simp only[gZ,gY];simp[oB,Value.ownBlock])));have iA:Hid (gf0≠g):=Lib.hid (fun e=>kR.out (by rw[e];exact .inr (by simp only[gZ,gY];simp[oB,Value.ownBlock])));have iv:Hid (mP b S10 g):=Lib.hid (.inr (by simp only[gZ,gY];simp[oB,Value.ownBlock]));clear hv qi gS xr gY;go_upto_region 26 with (fail);refine aM 9 [_,_,_,_,_,_,_,_,_] (Gk rfl (Gk rfl (Gf b 1 rfl rfl (Gf b 6 rfl rfl (Gf b 6 rfl rfl (Gl hm.blk (V:=.slice (some ⟨g,off,none⟩) ct S10.H.cdb) (by simp[iV,qV.out,eg.out]) rfl rfl rfl rfl (Gk rfl (Gr (.agg #[.int .u8 PC[0].toNat,.int .u8 PC[1].toNat,.int .u8 PC[2].toNat,.int .u8 PC[3].toNat,.int .u8 PC[4].toNat,.int .u8 PC[5].toNat,.int .u8 PC[6].toNat,.int .u8 PC[7].toNat]) (fun ρ y W hb hZ=>(bC rfl (aF rfl hZ) (bJ (px.ext hb) 0 8) underlying79 rfl (by kernel_rfl))) rfl rfl (Gr (.pointer (some ⟨g,off+n*8,none⟩)) (fun ρ y W hb hZ=>(bF rfl (aF rfl hZ) (aF rfl hZ) qJ underlying31 psize)) rfl rfl (aC)))))))))) (fun _=>rfl) rfl ?_;intro y W13 hL _;have qQ:=hm.below hL;have qv:=hs.below hL;have px13:=px.ext hL;have fx13:=fx.ext hL;have qC:=Lib.hid (ho.out.below hL);have gb:=hg.ext hL;clear hm hs px fx ho hg hL
         go_wp2_with (refine aA rfl _ _ _ rfl g (off+n*8) _ (Br PC) rfl rfl rfl _ _ gb (by show off+n*8+8≤cur.size;omega) (by kernel_rfl) (bS (jy PC)) ?_)
         intro w14 qZ kp;have xY:=gR.out _ PC qZ;have gJ:ed w14 b b { S10 with H:={ S10.H with dk:=⟨S10.H.dk.blocks.set n PC,S10.H.dk.queue⟩ } }:=qQ.putD gb kS (by rw[qV.out];rfl) kp (l:=S10.H.dk.blocks.set n PC) (by simp) (by simpa using xY);have gz:MS w6 b S6 w14 { S10 with H:={ S10.H with dk:=⟨S10.H.dk.blocks.set n PC,S10.H.dk.queue⟩ } }:=qv.put kp iv.out (fun x hx => .inl hx);have px14:=px13.grown kp (fun e=>im.out (aJ e).symm);have fx14:=fx13.grown kp (fun e=>iA.out (aJ e).symm);have qB:Hid (Own w14 b 3 1 (mW ⟨x,xa,xs,xc⟩) xs.length (xs.map fT)):=Lib.hid (ak qC.out gb (by decide) kp);have qc:Hid (Iw f s ct S3.H.asl fi0 (bk.set n PC) qu { S10 with H:={ S10.H with dk:=⟨S10.H.dk.blocks.set n PC,S10.H.dk.queue⟩ } }):=Lib.hid (by have h9:=hY.out.1;exact⟨h9.m,h9.asl,h9.sl,h9.sw,by show (⟨S10.H.dk.blocks.set n PC,S10.H.dk.queue⟩:pR)=_;rw[h9.dk],h9.fi,h9.ct,h9.ca,h9.sp,h9.T⟩);have ky:Hid (¬mP b { S10 with H:={ S10.H with dk:=⟨S10.H.dk.blocks.set n PC,S10.H.dk.queue⟩ } } gf0):=kR;have kr:Hid (¬mP b { S10 with H:={ S10.H with dk:=⟨S10.H.dk.blocks.set n PC,S10.H.dk.queue⟩ } } gp):=xi;have kv:Hid (∀g,(mW ⟨x,xa,xs,xc⟩).ownBlock=some g→¬mP b { S10 with H:={ S10.H with dk:=⟨S10.H.dk.blocks.set n PC,S10.H.dk.queue⟩ } } g):=gO;clear qQ qv px13 fx13 qC gb xY qZ kp;generalize { S10 with H:={ S10.H with dk:=⟨S10.H.dk.blocks.set n PC,S10.H.dk.queue⟩ } }=S14 at gJ gz qc ky kr kv
         go_wp2_with fail
         refine (fB S14 2 b b _ gJ (by omega)).mono ?_;rintro r w15 ⟨z,a15,c15,l15,rfl,km,hQ,hz,_⟩;have fx15:=hQ.blkN fx14 ky.out;have px15:=hQ.blkN px14 kr.out;have gC:Hid (Own w15 b 3 1 (mW ⟨x,xa,xs,xc⟩) xs.length (xs.map fT)):=Lib.hid (hQ.ownN qB.out kv.out);have hQ:=gz.trans hQ;have ge:Hid (Iw f s ct S3.H.asl fi0 (bk.set n PC) qu (S14.lst a15 c15 l15)):=Lib.hid (qc.out.lst _ _ _);have kx:Hid (¬mP b (S14.lst a15 c15 l15) gf0):=ky;have xh:Hid (¬mP b (S14.lst a15 c15 l15) gp):=kr;have gM:Hid (∀g,(mW ⟨x,xa,xs,xc⟩).ownBlock=some g→¬mP b (S14.lst a15 c15 l15) g):=kv;clear gJ gz fx14 px14 qB qc ky kr kv;generalize S14.lst a15 c15 l15=S15 at km hQ ge kx xh gM
         by_cases hz1:z=1
         ·subst hz1;have jd:S15.H.dk.queue.length≤100:=by have h1:=hY.out.2.1.ql;have h2:=hY.out.2.2;have h3:=xm.out;rw[ge.out.dk];rw[fo] at h1;show qu.length≤100;omega
          have gG:Hid (∀g,(Value.slice S15.H.dq S15.H.dk.queue.length S15.H.cdq).ownBlock=some g→g≠b∧∀t∈[(gp,iB PC,79),(gf0,pK ⟨x,xa,xs,xc⟩,67)],t.1≠g):=Lib.hid (fun g hg=>by
           obtain⟨cs,hk⟩:=kQ km.ma.dk.q g hg;refine⟨fun e=>lQ hk km.blk (by decide) e,fun t ht => ?_⟩;simp only[bZ,fP,or_false] at ht;rcases ht with rfl|rfl
           ·exact lQ px15 hk (by decide)
           ·exact lQ fx15 hk (by decide))
          have gQ:Hid (∀t∈[(gp,iB PC,79),(gf0,pK ⟨x,xa,xs,xc⟩,67)],aB w15 t.1 t.2.1 t.2.2):=Lib.hid (fun t ht=>by
           simp only[bZ,fP,or_false] at ht;rcases ht with rfl|rfl
           ·exact px15
           ·exact fx15)
          go_upto_region 28 with (fail);refine gN 16 [_,_,_,_,_,_,.v (.slice S15.H.dq S15.H.dk.queue.length S15.H.cdq),_,.v (.agg (iB PC)),.v (.agg (ES ((n:Int),PC))),.r 10 ((bW fun _=>True)),.r 11 ((bW fun _=>True)),_,_,_,_] (Dy S15 b b w15 [(gp,iB PC,79),(gf0,pK ⟨x,xa,xs,xc⟩,67)] 11 10 86 9 S15.H.dk.queue.length (.slice S15.H.dq S15.H.dk.queue.length S15.H.cdq) (S15.H.dk.queue.flatMap yP) (yP ((n:Int),PC))) eQ (fun y=>SY km gQ.out y) (Qk eQ rfl (Qk eQ rfl (Qk eQ rfl (Qf eQ b 1 rfl rfl (Qf eQ b 6 rfl rfl (Qf eQ b 7 rfl rfl (ag ?_ (Qk eQ rfl (ag ?_ (ag ?_ (ag ?_ (ag ?_ (Qk eQ rfl (Qf eQ b 1 rfl rfl (Qf eQ b 6 rfl rfl (Qf eQ b 7 rfl rfl (aC) (fun _ _ _ _ d h=>fK (by decide) h)) (fun _ _ _ _ d h=>fK (by decide) h)) (fun _ _ _ _ d h=>fK (by decide) h)) (fun _ _ _ _ d h=>fK (by decide) h)))))) (fun _ _ _ _ d h=>fK (by decide) h))) (fun _ _ _ _ d h=>fK (by decide) h)) (fun _ _ _ _ d h=>fK (by decide) h)) (fun _ _ _ _ d h=>fK (by decide) h)) (fun _ _ _ _ d h=>fK (by decide) h)) (fun _ _ _ _ d h=>fK (by decide) h)) (fun _ _ _ _ d h=>fK (by decide) h)) (fun _=>rfl) rfl ?_
          ·intro ρ y W L hw hn o d hb hd;refine eD eQ (fun _ _ h=>fK (by decide) h) hb ?_;have ia:=hw 143 5 rfl;have h5:y 5=_:=hd 5 rfl;have m1:=hb.1.1;refine aj (.slice S15.H.dq S15.H.dk.queue.length S15.H.cdq) (ah rfl) (by simp[execOp,go_sem,ia,h5,m1.cell,iV]) rfl
          ·intro ρ y W L hw hn o d hb hd;refine eD eQ (fun _ _ h=>fK (by decide) h) hb ?_;have i0:ρ (.tmp 15) = .pointer (some ⟨gp,0,none⟩):=(hn (.tmp 15) rfl).trans rfl;have m3:=hb.1.2 _ gV;refine aj (.agg (iB PC)) (ah rfl) (dL rfl i0 m3 underlying79 rfl psize) rfl
          ·intro ρ y W L hw hn o d hb hd;refine eD eQ (fun _ _ h=>fK (by decide) h) hb ?_;have e6:=hw 145 7 rfl;have h7:y 7=_:=hd 7 rfl;have e4:=hw 146 8 rfl;have h8:y 8=_:=hd 8 rfl;refine aj (.agg (ES ((n:Int),PC))) (ah rfl) (by simp[execOp,go_sem,e6,h7,e4,h8,iB,ES]) rfl
          ·intro ρ y W L hw hn o d hb hd;have eZ:=hw 147 9 rfl;have h9:y 9=_:=hd 9 rfl;refine eP (.slice (some ⟨W.heap.size,0,none⟩) 1 1) (ah rfl) ?_ (Rp (W':=W.alloc (.cells (ES ((n:Int),PC)) 86)) (by decide) ((Below.refl _ _).alloc (ay _) _) hb ⟨ay _,by unfold maxLen;omega,fun e=>(by cases e),dP.new _ _ _⟩) trivial;simp[execOp,go_sem,eZ.trans h9,ES]
          ·intro ρ y W L hw hn o d hb hd;have e9:=hw 144 6 rfl;have h6:y 6=_:=hd 6 rfl;have eX:=hw 148 10 rfl;have xF:=hd 10 rfl;have hm:=(hb.2.1 o).1;obtain⟨a,e,gg,kL⟩:=hb.2.2.1 (d 10 rfl) o;have xg:Own W b 86 9 (.slice S15.H.dq S15.H.dk.queue.length S15.H.cdq) S15.H.dk.queue.length (S15.H.dk.queue.flatMap yP):=hm.ma.dk.q;refine kU (ah rfl) (pG _ _ _ rfl b 86 _ 9 16 underlying32 put_info rfl (by decide) (.slice S15.H.dq S15.H.dk.queue.length S15.H.cdq) S15.H.dk.queue.length _ (e9.trans h6) xg a 1 e (yP ((n:Int),PC)) (eX.trans gg) kL.nl kL.le rfl kL.rd (bS (NL _)) (by unfold maxLen;omega) (by omega) hm.bs) (fun v W1 h=>QR o hb h.2.1 gG.out h.1 h.2.2) (fun _ _ _=>trivial)
          intro y W16 kA xz;clear xz;obtain⟨wq,kj,kC,kG,kq,ka⟩:=kA.2.2.2 rfl;have kT:=kA.1.1;have fx16:aB W16 gf0 (pK ⟨x,xa,xs,xc⟩) 67:=kA.1.2 _ (ji _ gV);have qA:Hid (Own W16 b 3 1 (mW ⟨x,xa,xs,xc⟩) xs.length (xs.map fT)):=Lib.hid (by
           have h1:=kC.ownN gC.out gM.out;rcases ru kj.ma.dk.q kG with hb0|⟨g,cs,hk,_,hg'⟩
           ·exact h1.below hb0
           ·exact ak h1 hk (by decide) hg')
          have i3:=Lib.hid kC;have qt:=hQ.trans kC;obtain⟨aq,cq,gn,_⟩:=kq.rd;rw[gn] at kq ka ⊢;clear gn kA km hQ px15 fx15 gC kC gQ gG
          go_wp2_with (refine aA rfl _ _ _ rfl b 7 _ [.slice aq (S15.H.dk.queue.length+1) cq] rfl rfl rfl _ _ kT (by show 7+1≤13;omega) (by kernel_rfl) (fun u hu=>by cases bv.1 hu;rfl) ?_)
          intro w17 kJ hS;have hD:(S15.H.dk.queue++[((n:Int),PC)]).length=S15.H.dk.queue.length+1:=by simp
          have gB : Own W16 b 86 9 (.slice aq (S15.H.dk.queue++[((n:Int),PC)]).length cq) (S15.H.dk.queue++[((n:Int),PC)]).length ((S15.H.dk.queue++[((n:Int),PC)]).flatMap yP):=by rw[hD,eY];simpa using kq
          have gI:=kj.appQ kG gB (by rw[hD];exact kJ) hS;have gH:∀x,mP b { S15 with H:={ S15.H with dq:=aq,cdq:=cq,dk:=⟨S15.H.dk.blocks,S15.H.dk.queue++[((n:Int),PC)]⟩ } } x→mP b S15 x∨oB aq=some x:=fun x hx=>by
           rcases hx with hx|hx
           ·exact .inl (.inl hx)
           simp only[gZ,bZ,fP,or_false] at hx;rcases hx with hx|hx|hx|hx|hx|hx|hx|hx|hx<;>first|exact .inr hx.symm|exact .inl (.inr (by simp[gZ,hx]))
          have kE:=qt.app kj kj.ma.dk.q (by simp[gZ]) kG hS ka gH;have hqN:Hid (¬mP b { S15 with H:={ S15.H with dq:=aq,cdq:=cq,dk:=⟨S15.H.dk.blocks,S15.H.dk.queue++[((n:Int),PC)]⟩ } } gf0):=Lib.hid (fun hk=>(gH gf0 hk).elim kx.out fun e=>lQ (iQ gB e).2.choose_spec fx16 (by decide) rfl);have fx17:=fx16.grown hS (fun e=>kx.out (.inl (aJ e).symm));have xZ:Hid (Own w17 b 3 1 (mW ⟨x,xa,xs,xc⟩) xs.length (xs.map fT)):=Lib.hid (ak qA.out kT (by decide) hS);have qb:Hid (Iw f s ct S3.H.asl fi0 (bk.set n PC) (qu++[((n:Int),PC)]) { S15 with H:={ S15.H with dq:=aq,cdq:=cq,dk:=⟨S15.H.dk.blocks,S15.H.dk.queue++[((n:Int),PC)]⟩ } }∧Fb ct (bk.set n PC) (qu++[((n:Int),PC)]) (fi0.map PF.fi) (xs++[(n:Int)])):=Lib.hid (by have h9:=ge.out;exact⟨⟨h9.m,h9.asl,h9.sl,h9.sw,by show (⟨S15.H.dk.blocks,S15.H.dk.queue++[((n:Int),PC)]⟩:pR)=_;rw[h9.dk],h9.fi,h9.ct,h9.ca,h9.sp,h9.T⟩,hY.out.2.1.wait gF.out.1 gF.out.2 PC⟩);clear kj kG kq ka kT fx16 qA qt kJ hD gB hS gH;go_wp2;go_meet
          case rel=>exact⟨(n:Int),_,_,_,rfl,gI,kE,hqN,qb,fx17,xZ⟩
         have qb:Hid (Iw f s ct S3.H.asl fi0 (bk.set n PC) qu S15∧Fb ct (bk.set n PC) qu (fi0.map PF.fi) (xs++[(n:Int)])):=Lib.hid ⟨ge.out,hY.out.2.1.some gF.out.1 gF.out.2 PC⟩;go_wp2;go_meet
         case rel=>exact⟨(n:Int),S15,_,_,rfl,km,hQ,kx,qb,fx15,gC⟩
      case rest=>
      obtain⟨v,S,bk,qu,rfl,hm,hs,x8,hF,fx,ho⟩:=hcut;clear hR hJ kB fx9 kh ko kF;have kI:=fx.cell;unfold pK at kI;have jj:=Lib.hid hF.out.2;have xK:xs.length≤100:=by have h1:=xE.out;omega
      have je:=Lib.hid xK
      go_wp2_with (at_builtin;go_must (refine sM rfl _ _ 29 rfl b 3 (.int .i64 0) 1 8 underlying29 int_info rfl (by decide) (mW ⟨x,xa,xs,xc⟩) xs.length (xs.map fT) rfl (ho.out.alloc _) (some ⟨wc.heap.size,0,none⟩) 1 1 [fT v] rfl (fun h=>(by cases h)) (ay _) rfl (dP.new _ #[fT v] _) (by simp[fT,Value.oneCell']) (by unfold maxLen;omega) (by omega) (cZ hm.bs _) ?_))
      intro v2 w2 own2 gl gv;have g8:=(Below.refl wc.heap.size wc).alloc (ay _) (.cells #[fT v] 3);have gk:=hm.below g8;have gA:=hs.below g8;have fx1:=fx.ext g8;have gD:Own (wc.alloc (.cells #[fT v] 3)) b 3 1 (.slice xa xs.length xc) xs.length (xs.map fT):=ho.out.below g8;obtain⟨a2,c2,xR,_⟩:=own2.rd;rw[xR] at own2 gv ⊢;have ec:Hid (∀g,oB a2=some g→w6.heap.size≤g∧oB S3.H.asl≠some g∧∀p∈fi0,oB p.a≠some g):=Lib.hid (fun g hg=>by
       rcases gv with e1|e1
       ·unfold mW at e1;rw[lK,lK] at e1;exact kX.out g (by rw[←e1];exact hg)
       have h1:=e1 g (by rw[lK];exact hg);refine⟨bi gA.size h1,fun e => ?_,fun p hp e => ?_⟩
       ·exact absurd h1 (Nat.not_le.2 (iQ gk.ma.sl (by rw[hF.out.1.asl];exact e)).2.choose_spec.lt)
       rw[←hF.out.1.fi] at hp;obtain⟨k,hk,rfl⟩:=jC.1 hp;exact absurd h1 (Nat.not_le.2 (iQ (gk.ma.st.each k _ (aH hk)) e).2.choose_spec.lt))
      have x3:ed w2 b b S:=by
       rcases ru gD gl with hb0|⟨g,cs,hk,hga,hg'⟩
       ·exact gk.below hb0
       ·exact gk.locI hk (gk.kb_int hk (by rw[hF.out.1.asl];exact (kX.out g hga).2.1)) (by rw[hF.out.1.fi];exact (kX.out g hga).2.2) (iQ gD hga).1 hg'
      have xV:MS w6 b S6 w2 S:=by
       rcases ru gD gl with hb0|⟨g,cs,hk,hga,hg'⟩
       ·exact gA.below hb0
       ·exact gA.loc hg' (kX.out g hga).1
      have fx2:aB w2 gf0 (pK ⟨x,xa,xs,xc⟩) 67:=by
       rcases ru gD gl with hb0|⟨g,cs,hk,hga,hg'⟩
       ·exact fx1.ext hb0
       ·exact bq fx1 hk (by decide) hg'
      clear kI hm hs fx gk gA fx1 gD gl gv g8 ho xR
      go_wp2_with (refine aA rfl _ _ _ rfl gf0 1 _ [.slice a2 (xs.length+1) c2] rfl rfl rfl _ _ fx2 (by show 1+1≤2;omega) (by kernel_rfl) (fun u hu=>by cases bv.1 hu;rfl) ?_)
      intro w3 ej qj;have kZ:(xs++[v]).length=xs.length+1:=by simp
      have fx3:aB w3 gf0 (pK ⟨x,a2,xs++[v],c2⟩) 67:=by
       have e:pK ⟨x,a2,xs++[v],c2⟩=bB (pK ⟨x,xa,xs,xc⟩) 1 [.slice a2 (xs.length+1) c2]:=by unfold pK;dsimp only;rw[kZ];kernel_rfl
       rw[e];exact ej
      have it:=x3.locT fx2 (by decide) x8.out kS qj;have ii:=xV.loc qj ix.out;have ir:Hid (Own w3 b 3 1 (mW ⟨x,a2,xs++[v],c2⟩) (xs++[v]).length ((xs++[v]).map fT)∧∀g,oB a2=some g→w6.heap.size≤g∧oB S3.H.asl≠some g∧∀p∈fi0,oB p.a≠some g):=Lib.hid ⟨by
       have h1:=ak own2 fx2 (by decide) qj;unfold mW;dsimp only;rw[kZ,jb];exact h1,ec.out⟩
      have iD:Hid (Iw f s ct S3.H.asl fi0 bk qu S∧Fb ct bk qu (fi0.map PF.fi) (xs++[v])∧(xs++[v]).length=i+1):=Lib.hid ⟨hF.out.1,hF.out.2,by rw[kZ,ez.out]⟩;clear x3 xV fx2 own2 ej qj kZ xK;go_wp2;go_roundw
      case rel=>exact⟨i+1,S,bk,qu,xs++[v],a2,c2,by omega,by go_num,it,ii,x8,iD,fx3,ir⟩
      case measure=>simp[intOf];omega
     have iw:¬(i:Int)<(C:Int):=by omega
     have x9 : i=C:=by omega
     subst x9;have i7:S.H.fi.length≤5:=by rw[hI.out.1.fi];have:=xm.out;omega
     have qS:∀g,(Value.slice S.H.ai S.H.fi.length S.H.ci).ownBlock=some g→mP b S g:=fun g hg => .inr (by rw[lK] at hg;simp[gZ,hg]);have gG:Hid (∀g,(Value.slice S.H.ai S.H.fi.length S.H.ci).ownBlock=some g→g≠b∧∀t∈[(gf0,pK ⟨x,xa,xs,xc⟩,67)],t.1≠g):=Lib.hid (fun g hg=>by obtain⟨cs,hk⟩:=kQ hm.ma.st.own g hg;refine⟨fun e=>lQ hk hm.blk (by decide) e,fun t ht => ?_⟩;rw[bv.1 ht];intro e;exact ga.out (by rw[show gf0=g from e];exact qS g hg));have gQ:Hid (∀t∈[(gf0,pK ⟨x,xa,xs,xc⟩,67)],aB wr t.1 t.2.1 t.2.2):=Lib.hid (fun t ht=>by rw[bv.1 ht];exact fx);go_upto_region 31 with (fail);refine gN 14 [_,_,_,_,_,_,.v (.slice S.H.ai S.H.fi.length S.H.ci),.v (.agg (pK ⟨x,xa,xs,xc⟩)),.r 8 ((bW fun _=>True)),.r 9 ((bW fun _=>True)),_,_,_,_] (Dy S b b wr [(gf0,pK ⟨x,xa,xs,xc⟩,67)] 9 8 67 2 S.H.fi.length (.slice S.H.ai S.H.fi.length S.H.ci) (S.H.fi.flatMap qg) (qg ⟨x,xa,xs,xc⟩)) eQ (fun y=>SY hm gQ.out y) (Qk eQ rfl (Qk eQ rfl (Qk eQ rfl (Qf eQ b 1 rfl rfl (Qf eQ b 8 rfl rfl (Qf eQ b 8 rfl rfl (ag ?_ (ag ?_ (ag ?_ (ag ?_ (Qk eQ rfl (Qf eQ b 1 rfl rfl (Qf eQ b 8 rfl rfl (Qf eQ b 8 rfl rfl (aC) (fun _ _ _ _ d h=>fK (by decide) h)) (fun _ _ _ _ d h=>fK (by decide) h)) (fun _ _ _ _ d h=>fK (by decide) h)) (fun _ _ _ _ d h=>fK (by decide) h)))))) (fun _ _ _ _ d h=>fK (by decide) h)) (fun _ _ _ _ d h=>fK (by decide) h)) (fun _ _ _ _ d h=>fK (by decide) h)) (fun _ _ _ _ d h=>fK (by decide) h)) (fun _ _ _ _ d h=>fK (by decide) h)) (fun _ _ _ _ d h=>fK (by decide) h)) (fun _=>rfl) rfl ?_
     ·intro ρ y W L hw hn o d hb hd;refine eD eQ (fun _ _ h=>fK (by decide) h) hb ?_;have eW:=hw 166 5 rfl;have h5:y 5=_:=hd 5 rfl;have m1:=hb.1.1;refine aj (.slice S.H.ai S.H.fi.length S.H.ci) (ah rfl) (by simp[execOp,go_sem,eW,h5,m1.cell,iV]) rfl
     ·intro ρ y W L hw hn o d hb hd;refine eD eQ (fun _ _ h=>fK (by decide) h) hb ?_;have xG:ρ (.tmp 11) = .pointer (some ⟨gf0,0,none⟩):=(hn (.tmp 11) rfl).trans rfl;have m3:=hb.1.2 _ gV;refine aj (.agg (pK ⟨x,xa,xs,xc⟩)) (ah rfl) (dL rfl xG m3 underlying67 rfl file_size) rfl
     ·intro ρ y W L hw hn o d hb hd;have eT:=hw 168 7 rfl;have h7:y 7=_:=hd 7 rfl;refine eP (.slice (some ⟨W.heap.size,0,none⟩) 1 1) (ah rfl) ?_ (Rp (W':=W.alloc (.cells (pK ⟨x,xa,xs,xc⟩) 67)) (by decide) ((Below.refl _ _).alloc (ay _) _) hb ⟨ay _,by unfold maxLen;omega,fun e=>(by cases e),dP.new _ _ _⟩) trivial;simp[execOp,go_sem,eT.trans h7,pK]
     ·intro ρ y W L hw hn o d hb hd;have eV:=hw 167 6 rfl;have h6:y 6=_:=hd 6 rfl;have eS:=hw 169 8 rfl;have h8:=hd 8 rfl;have hm:=(hb.2.1 o).1;obtain⟨a,e,gg,kL⟩:=hb.2.2.1 (d 8 rfl) o;have xg:Own W b 67 2 (.slice S.H.ai S.H.fi.length S.H.ci) S.H.fi.length (S.H.fi.flatMap qg):=hm.ma.st.own;refine kU (ah rfl) (pG _ _ _ rfl b 67 _ 2 32 underlying35 file_info rfl (by decide) (.slice S.H.ai S.H.fi.length S.H.ci) S.H.fi.length _ (eV.trans h6) xg a 1 e (qg ⟨x,xa,xs,xc⟩) (eS.trans gg) kL.nl kL.le rfl kL.rd (bS (qE _)) (by unfold maxLen;omega) (by omega) hm.bs) (fun v W1 h=>QR o hb h.2.1 gG.out h.1 h.2.2) (fun _ _ _=>trivial)
     intro y W8 g3 es;clear es;obtain⟨wq,kj,kC,kG,kq,ka⟩:=g3.2.2.2 rfl;have qW:=g3.1.1;have qx:=kC.ownN ho.out.1 (fun g hg=>by obtain⟨cs,hk⟩:=kQ ho.out.1 g hg;refine hm.kb_int hk ?_;rw[hI.out.1.asl];exact (ho.out.2 g (by unfold mW at hg;rw[lK] at hg;exact hg)).2.1);have hA:=hs.trans kC;obtain⟨aq,cq,gn,_⟩:=kq.rd;rw[gn] at kq ka ⊢;clear gn g3 hm hs fx kC gQ gG qS
     go_wp2_with (refine aA rfl _ _ _ rfl b 8 _ [.slice aq (S.H.fi.length+1) cq] rfl rfl rfl _ _ qW (by show 8+1≤13;omega) (by kernel_rfl) (fun u hu=>by cases bv.1 hu;rfl) ?_)
     intro w17 kJ hS;have hD:(S.H.fi++[(⟨x,xa,xs,xc⟩:PF)]).length=S.H.fi.length+1:=by simp
     have gI:ed w17 b b { S with H:={ S.H with ai:=aq,ci:=cq,fi:=S.H.fi++[(⟨x,xa,xs,xc⟩:PF)] } }:=kj.appFi (p:=⟨x,xa,xs,xc⟩) qx (fun k p hp g hg hg'=>by unfold mW at hg hg';rw[lK] at hg hg';exact (ho.out.2 g hg').2.2 p (by rw[←hI.out.1.fi];exact bO hp) hg) (fun g hg=>by rw[hI.out.1.asl];exact (ho.out.2 g hg).2.1) kG (by rw[hD];exact kq) (by rw[hD];exact kJ) hS;have kE:MS w6 b S6 w17 { S with H:={ S.H with ai:=aq,ci:=cq,fi:=S.H.fi++[(⟨x,xa,xs,xc⟩:PF)] } }:=hA.app kj kj.ma.st.own (by simp[gZ]) kG hS ka (fun x hx=>by
      rcases hx with hx|hx
      ·exact .inl (.inl hx)
      simp only[gZ,bZ,fP,or_false] at hx;rcases hx with hx|hx|hx|hx|hx|hx|hx|hx|hx<;>first|exact .inr hx.symm|exact .inl (.inr (by simp[gZ,hx])))
     have kE:=kg.trans kE;have ev:Hid (Iw f s ct S3.H.asl (S.H.fi++[(⟨x,xa,xs,xc⟩:PF)]) bk qu { S with H:={ S.H with ai:=aq,ci:=cq,fi:=S.H.fi++[(⟨x,xa,xs,xc⟩:PF)] } }∧Fb ct bk qu ((S.H.fi++[(⟨x,xa,xs,xc⟩:PF)]).map PF.fi) []∧(S.H.fi++[(⟨x,xa,xs,xc⟩:PF)]).length=q+1∧(q+1=0→bk=List.replicate ct zPg∧qu=[]∧(l=[]→S.l=[]))):=Lib.hid (by have h9:=hI.out.1;refine⟨⟨h9.m,h9.asl,h9.sl,h9.sw,h9.dk,rfl,h9.ct,h9.ca,h9.sp,h9.T⟩,?_,by rw[hD,h9.fi,x6.out],fun e=>absurd e (by omega)⟩;rw[jb,h9.fi];exact hI.out.2.1.file (s:=x) (by omega) (by omega) (by rw[hI.out.2.2,eA.out]));clear kj kG kq ka qW qx hA kJ hD hS;go_wp2;go_roundw
     case rel=>exact⟨q+1,_,bk,qu,by omega,by go_num,gI,kE,ev⟩
     case measure=>simp[intOf];omega
   have gi:¬(q:Int)<(N:Int):=by omega
   have kz:Hid (Bd S.H.ma S.T∧Oc S∧S.H.sp.length=0∧S.H.m.fs.length=f∧S.H.dk.blocks.length=ct∧(l=[]→S.l=[]∧S.H.ma=Bg f s ct (List.replicate ct zPg) [] []∧S.T=[])):=Lib.hid (by
    obtain⟨h1,h2,h3,h4⟩:=hI.out;refine⟨by rw[h1.ma,h1.T];exact h2.bd (by rw[fo];omega) gX gy,fun p hp=>(by rw[h1.sp] at hp;cases hp),by rw[h1.sp];rfl,by rw[h1.m];exact jD,by rw[h1.dk];exact h2.cl.1,fun e => ?_⟩;have xB:=(x5.out e).1;have ik:q=0:=by omega
    obtain⟨k1,k2,k3⟩:=h4 ik;refine⟨k3 e,?_,h1.T⟩;have ef:fi0=[]:=List.length_eq_zero_iff.1 (by omega);rw[h1.ma,k1,k2,ef];rfl)
   clear hI
   go_wp2_with fail
   refine (fB S 2 b b _ hm (by omega)).mono ?_;rintro r w6 ⟨z,a6,c6,l6,rfl,kt,kg,hz,xb⟩;have kg:=hs.trans kg;have xH:IntKind.i64.wrap (1+z)=1+z:=bM _ (by omega);obtain⟨M,hM⟩:∃M:Nat,1+z=(M:Int):=⟨(1+z).toNat,by omega⟩;have jh:1≤M∧M≤2:=by omega
   have hV:Hid (Bd (S.lst a6 c6 l6).H.ma (S.lst a6 c6 l6).T∧Oc (S.lst a6 c6 l6)∧(S.lst a6 c6 l6).H.sp.length=0∧(S.lst a6 c6 l6).H.m.fs.length=f∧(S.lst a6 c6 l6).H.dk.blocks.length=ct∧(l=[]→(S.lst a6 c6 l6).l=[]∧(S.lst a6 c6 l6).H.ma=Bg f s ct (List.replicate ct zPg) [] []∧(S.lst a6 c6 l6).T=[])):=Lib.hid
    ⟨kz.out.1,kz.out.2.1,kz.out.2.2.1,kz.out.2.2.2.1,kz.out.2.2.2.2.1,fun e=>⟨(xb (kz.out.2.2.2.2.2 e).1).2,(kz.out.2.2.2.2.2 e).2⟩⟩
   have eu:Hid (l=[]→M=1):=Lib.hid (fun e=>by have:=(xb (kz.out.2.2.2.2.2 e).1).1;omega);rw[hM] at xH;clear hm hs kz hz xb;generalize S.lst a6 c6 l6=S6 at kt kg hV;go_upto_region 34 with (fail);clear hM xH
   go_loopw [179] (fun k wr => ∃(p:Nat) (S:MW),p≤M∧k = .int .i64 p∧ed wr b b S∧MS w4 b S3 wr S∧Hid (Bd S.H.ma S.T∧Oc S∧S.H.sp.length=p∧S.H.m.fs.length=f∧S.H.dk.blocks.length=ct∧(l=[]→S.l=[]∧((p=0→S.H.ma=Bg f s ct (List.replicate ct zPg) [] []∧S.T=[])∧(p=1→S.H.ma = { Bg f s ct (List.replicate ct zPg) [] [] with sp:=[⟨true,[],zTb⟩] }∧S.T=[List.replicate 64 zEn]))))) (fun k _=>M-(intOf k).toNat)
   case atStart=>exact⟨0,S6,aV _,rfl,kt,kg,Lib.hid ⟨hV.out.1,hV.out.2.1,hV.out.2.2.1,hV.out.2.2.2.1,hV.out.2.2.2.2.1,fun e=>⟨(hV.out.2.2.2.2.2 e).1,fun _=>(hV.out.2.2.2.2.2 e).2,fun h=>(by cases h)⟩⟩⟩
   case round=>
    clear kt kg hV;obtain⟨p,S,hp,rfl,hm,hs,hI⟩:=hrel
    by_cases hpM:p<M
    ·have il:(p:Int)<(M:Int):=by omega
     have k0:∀(S' : MW),More S S'→(l=[]→p=0→S'.l=[]∧S'.H.ma = { S.H.ma with sp:=S.H.ma.sp++[⟨true,[],zTb⟩] }∧S'.T=S.T++[List.replicate 64 zEn])→Bd S'.H.ma S'.T∧Oc S'∧S'.H.sp.length=p+1∧S'.H.m.fs.length=f∧S'.H.dk.blocks.length=ct∧(l=[]→S'.l=[]∧((p+1=0→S'.H.ma=Bg f s ct (List.replicate ct zPg) [] []∧S'.T=[])∧(p+1=1→S'.H.ma = { Bg f s ct (List.replicate ct zPg) [] [] with sp:=[⟨true,[],zTb⟩] }∧S'.T=[List.replicate 64 zEn]))):=fun S' hB hn=>by
      obtain⟨h1,h2,h3,h4,h5,h6⟩:=hI.out;refine⟨hB.bd,hB.fm,by rw[hB.sp,h3],by rw[hB.fs,h4],by rw[hB.dk,h5],fun e => ?_⟩;have gj:p=0:=by have:=eu.out e;omega
      obtain⟨k1,k2,k3⟩:=hn e gj;obtain⟨q1,q2⟩:=(h6 e).2.1 gj;refine⟨k1,fun h=>absurd h (by omega),fun _=>⟨by rw[k2,q1];rfl,by rw[k3,q2];rfl⟩⟩
     have kc:=Lib.hid k0;clear k0
     by_cases hp1:p=1
     ·subst hp1
      go_wp2_with fail
      refine (fB S 2 b b _ hm (by omega)).mono ?_;rintro r w7 ⟨z2,a7,c7,l7,rfl,kO,gh,i9,_⟩;have gh:=hs.trans gh;clear hm hs
      by_cases hz1:z2=1
      ·subst hz1
       go_wp2_with fail
       refine (Qx (S.lst a7 c7 l7) b b _ kO hI.out.1 hI.out.2.1 hI.out.2.2.1).mono ?_;rintro r w8 ⟨S8,rfl,hG,hA,hB⟩;have hA:=gh.trans hA;have h0:=Lib.hid (kc.out S8 ⟨hB.bd,hB.fm,hB.fi,hB.ct,hB.dk,hB.sp,hB.fs⟩ (fun _ h=>absurd h (by decide)));clear kO gh hB hI;go_wp2;go_roundw
       case rel=>exact⟨2,S8,by omega,by go_num,hG,hA,h0⟩
       case measure=>simp[intOf];omega
      have i8:(z2==1)=false:=by simpa using hz1
      go_wp2_with fail
      refine (Ep (S.lst a7 c7 l7) b b _ kO hI.out.1 hI.out.2.1 (by have:=hI.out.2.2.1;show S.H.sp.length<4;omega)).mono ?_;rintro r w8 ⟨S8,rfl,hG,hA,hB,_⟩;have hA:=gh.trans hA;have h0:=Lib.hid (kc.out S8 ⟨hB.bd,hB.fm,hB.fi,hB.ct,hB.dk,hB.sp,hB.fs⟩ (fun _ h=>absurd h (by decide)));clear kO gh hB hI;go_wp2;go_roundw
      case rel=>exact⟨2,S8,by omega,by go_num,hG,hA,h0⟩
      case measure=>simp[intOf];omega
     have gj:p=0:=by omega
     subst gj
     go_wp2_with fail
     refine (Ep S b b _ hm hI.out.1 hI.out.2.1 (by have:=hI.out.2.2.1;omega)).mono ?_;rintro r w8 ⟨S8,rfl,hG,hA,hB,qH⟩;have hA:=hs.trans hA;have h0:=Lib.hid (kc.out S8 hB (fun e _=>qH (hI.out.2.2.2.2.2 e).1));clear hm hs hB hI qH;go_wp2;go_roundw
     case rel=>exact⟨0+1,S8,by omega,by go_num,hG,hA,Lib.hid ⟨h0.out.1,h0.out.2.1,h0.out.2.2.1,h0.out.2.2.2.1,h0.out.2.2.2.2.1,fun e=>⟨(h0.out.2.2.2.2.2 e).1,(h0.out.2.2.2.2.2 e).2.1,fun _=>(h0.out.2.2.2.2.2 e).2.2 (by first | trivial | rfl)⟩⟩⟩
     case measure=>simp[intOf];omega
    have il:¬(p:Int)<(M:Int):=by omega
    have ip:M=p:=by omega
    subst ip;have kY:Hid (Bd S.H.ma S.T∧S.T.length=M∧S.H.ma.sp.length=M):=Lib.hid (by have h1:=hI.out.2.2.1;have h2:S.H.ma.sp.length=S.H.sp.length:=fo _;exact⟨hI.out.1,by rw[hI.out.1.ok.len];omega,by omega⟩);have ey:Hid (S.H.ma=tabs S.H.ma S.T 0∧S.T=S.T∧S.H.sp.length=M∧Oc S∧S.H.m.fs.length=f∧S.H.dk.blocks.length=ct∧(l=[]→S.l=[])):=Lib.hid ⟨rfl,rfl,hI.out.2.2.1,hI.out.2.1,hI.out.2.2.2.1,hI.out.2.2.2.2.1,fun e=>(hI.out.2.2.2.2.2 e).1⟩;have qI:Hid (l=[]→dU S.H.ma S.T=kV f s ct):=Lib.hid (fun e=>by obtain⟨k1,k2⟩:=(hI.out.2.2.2.2.2 e).2.2 (eu.out e);rw[k1,k2];exact JY gX gy g0);obtain⟨m5,ku⟩:∃m,S.H.ma=m:=⟨_,rfl⟩;obtain⟨T5,xy⟩:∃T,S.T=T:=⟨_,rfl⟩;have ex:Hid (S.H.ma=tabs m5 T5 0∧S.T=T5∧S.H.sp.length=M∧Oc S∧S.H.m.fs.length=f∧S.H.dk.blocks.length=ct∧(l=[]→S.l=[])):=Lib.hid (by rw[←ku,←xy];exact ey.out);rw[ku,xy] at kY qI;have qq:S.H.sp.length=M:=hI.out.2.2.1;clear hI ey ku xy;have hc:=hm.blk.cell;unfold iV at hc;rw[qq] at hc;clear qq;go_upto_region 41 with (fail);clear hc
    go_loopw [200] (fun k wr => ∃(q:Nat) (S:MW),q≤M∧k = .int .i64 q∧ed wr b b S∧MS w4 b S3 wr S∧Hid (S.H.ma=tabs m5 T5 q∧S.T=T5∧S.H.sp.length=M∧Oc S∧S.H.m.fs.length=f∧S.H.dk.blocks.length=ct∧(l=[]→S.l=[]))) (fun k _=>M-(intOf k).toNat)
    case atStart=>exact⟨0,S,aV _,rfl,hm,hs,ex⟩
    case round=>
     clear hm hs ex;obtain⟨q,S,hq,rfl,hm,hs,hI⟩:=hrel
     by_cases hqM:q<M
     ·have gi:(q:Int)<(M:Int):=by omega
      obtain⟨P,hP⟩:∃P,S.H.sp[q]?=some P:=⟨_,aH (by rw[hI.out.2.2.1];exact hqM)⟩;obtain⟨g,off,cur0,kX,_,_,_,_⟩:=hm.setTb hP;have er:S.T.length=M:=by rw[hI.out.2.1];exact kY.out.2.1
      obtain⟨gt,ot,ct',curt,xQ,_,xo,ea,qT,_⟩:=hm.tt.put yo (by decide) q (by omega);have eo:S.ab=some ⟨gt,ot,none⟩:=(ng xQ).1;have qp:(eU T5 q).length=64:=kY.out.1.ok.l64 (by rw[kY.out.2.2];exact hqM);have ep:S.T[q]'(by omega)=eU T5 q:=by rw[←ed.lst_len (by omega),hI.out.2.1]
      have qw:∀W,Below wr.heap.size wr W→dP W (some ⟨gt,ot+q*192,none⟩) (wB (eU T5 q)).toList:=fun W hb j u hj=>by refine⟨gt,ot+q*192,rfl,?_⟩;have e1:=qT j u (by rw[ep,Wo qp];exact hj);rw[xo.cell] at e1;rw[(xo.ext hb).cell];exact e1
      have xU:=Lib.hid hI.out.2.2.1;have eq:=Lib.hid er;have g6:=Lib.hid kX;have en:=Lib.hid eo;have eB:=Lib.hid qp;have gr:(wB (eU T5 q)).toList.length=192:=by rw[iI,uG,qp]
      have xT:=Lib.hid gr;have xA:=Lib.hid hP;have xe:=Lib.hid qw;clear xQ qT ep er kX eo qp gr hP qw xo ea;go_upto_region 43 with (fail);refine aM 16 [_,_,_,_,_,_,_,_,_,_,_,_,_,.r 13 ((JU b (fU (eU T5 q)))),_,_] (Gk rfl (Gk rfl (Gf b 1 rfl rfl (Gf b 11 rfl rfl (Gl hm.blk (V:=.slice (some ⟨g,off,none⟩) M S.H.cp) (by simp[iV,g6.out,xU.out]) rfl rfl rfl rfl (Gk rfl (Gk rfl (Gk rfl (Gf b 12 rfl rfl (Gl hm.blk (V:=.slice (some ⟨gt,ot,none⟩) M S.cb) (by simp[iV,en.out,eq.out]) rfl rfl rfl rfl (Gk rfl (Gr (.pointer (some ⟨gt,ot+q*192,none⟩)) (fun ρ y W hb hZ=>(bF rfl (aF rfl hZ) (aF rfl hZ) hqM underlying75 arr64_size)) rfl rfl (Gr (.agg (wB (eU T5 q))) (fun ρ y W hb hZ=>(bC rfl (aF rfl hZ) (xe.out W hb) underlying90 rfl (arr64_size.trans (congrArg some xT.out.symm)))) rfl rfl (ag ?_ (Gr (.pointer (some ⟨g,off+q*10,none⟩)) (fun ρ y W hb hZ=>(bF rfl (aF rfl hZ) (aF rfl hZ) hqM underlying39 space_size)) rfl rfl (Gf g (off+q*10+2) rfl rfl (aC))))))))))))))))) (fun _=>rfl) rfl ?_
      ·intro ρ y W hw hn hb hd;have eR:=hw 215 12 rfl;have qe:y 12=_:=hd 12 rfl;have EF:∀f,ρ (.func f) = .func (.func f) #[] #[]:=fun f=>hn (.func f) trivial;refine aR _ _ (ah rfl) (aU rfl (EF _) func36 (by kernel_rfl) (by kernel_rfl) (by simp only[bV,bP,bT,eR,qe,EF];rfl)) ?_;refine (LG (eU T5 q) W eB.out).mono ?_;rintro e w1 ⟨ca,rfl,hO,kW⟩;exact⟨_,rfl,kW,⟨_,rfl,hO.mono (hm.below hb).bs⟩⟩
      intro y W9 hy hW;have xJ:=hW 13 (by decide);clear hW;obtain⟨cs,gq,qn⟩:∃cs,y 13 = .agg cs∧qG W9 b cs (fU (eU T5 q)):=xJ;obtain⟨v,rfl⟩:=QK qn.sz;rw[gq];have hR:=hm.below hy;have hJ:=hs.below hy;clear hm hs hy gq;obtain⟨g2,off2,cur,g4,i5,g1,gW,gx⟩:=hR.setTb xA.out;rw[g6.out] at g4;obtain⟨rfl,rfl⟩:g=g2∧off=off2:=by have:=aJ g4;exact⟨congrArg Addr.block this,congrArg Addr.off this⟩
      have qR:mP b S g:=.inr (by simp[gZ,g6.out,oB,Value.ownBlock]);clear g4
      go_wp2_with (refine aA rfl _ _ _ rfl g (off+q*10+2) _ (nP v).toList rfl rfl rfl _ _ g1 (by show off+q*10+2+8≤cur.size;exact gW) (by kernel_rfl) (Sm qn.rd) ?_)
      intro w10 q8 gT;have ke:=gx w10 v _ qn q8 gT;have hK:MS w4 b S3 w10 { S with H:={ S.H with sp:=S.H.sp.set q { P with ts:=v,tb:=fU (eU T5 q) } } }:=hJ.put gT qR (fun x hx => .inl hx);have ew:Hid (({ S with H:={ S.H with sp:=S.H.sp.set q { P with ts:=v,tb:=fU (eU T5 q) } } }:MW).H.ma=tabs m5 T5 (q+1)∧S.T=T5∧(S.H.sp.set q { P with ts:=v,tb:=fU (eU T5 q) }).length=M∧Oc { S with H:={ S.H with sp:=S.H.sp.set q { P with ts:=v,tb:=fU (eU T5 q) } } }∧S.H.m.fs.length=f∧S.H.dk.blocks.length=ct∧(l=[]→S.l=[])):=Lib.hid (by
       obtain⟨q1,q2,q3,q4,q5⟩:=hI.out;refine⟨?_,q2,by rw[bH];exact q3,fun p hp n x hx => ?_,q5⟩
       ·show MH.ma { S.H with sp:=S.H.sp.set q { P with ts:=v,tb:=fU (eU T5 q) } }=_;rw[NS xA.out,q1];rfl
       rcases ni hp with hp|rfl
       ·exact q4 p hp n x hx
       ·exact q4 P (bO xA.out) n x hx)
      clear hR hJ g1 gW gx q8 gT qn hI qR;go_wp2;go_roundw
      case rel=>exact⟨q+1,_,by omega,by go_num,ke,hK,ew⟩
      case measure=>simp[intOf];omega
     have gi:¬(q:Int)<(M:Int):=by omega
     have qo:Hid (S.H.ma=dU m5 T5):=Lib.hid (by
      have e:q=m5.sp.length:=by rw[kY.out.2.2];omega
      rw[hI.out.1,e];exact RS)
     have kl:Hid (Rt S.H.ma∧Co S.H.ma∧Oc S∧S.H.m.fs.length=f∧S.H.dk.blocks.length=ct∧(1≤S.H.sp.length∧S.H.sp.length≤2)∧(l=[]→S.H.ma=kV f s ct∧S.l=[])):=Lib.hid (by obtain⟨q1,q2,q3,q4,q5,q6,q7⟩:=hI.out;exact⟨by rw[qo.out];exact kY.out.1.rt,by rw[qo.out];exact kY.out.1.co,q4,q5,q6,by omega,fun e=>⟨by rw[qo.out];exact qI.out e,q7 e⟩⟩);clear hI qo
     by_cases ef:0<f
     ·have iz:(0:Int)<(f:Int):=by omega
      go_wp2_with fail
      refine (fB S (f:Int) b b _ hm (by omega)).mono ?_;rintro r w11 ⟨x,a11,c11,l11,rfl,kn,kb,hx,xM⟩;have kb:=hs.trans kb;clear hm hs
      go_wp2_with (refine aA rfl _ _ _ rfl b 2 _ [.int .i64 x] rfl rfl rfl _ _ kn.blk (by show 2+1≤13;omega) (by kernel_rfl) (fun u hu=>by cases bv.1 hu;rfl) ?_)
      intro w12 q0 hU;have hm:=kn.setH q0 hU;have hs:MS w4 b S3 w12 { (S.lst a11 c11 l11) with H:={ (S.lst a11 c11 l11).H with m:=⟨(S.lst a11 c11 l11).H.m.fs,x⟩ } }:=kb.put hU (.inl rfl) (fun x hx => .inl hx);have hI:Hid (Rt ({ (S.lst a11 c11 l11) with H:={ (S.lst a11 c11 l11).H with m:=⟨(S.lst a11 c11 l11).H.m.fs,x⟩ } }:MW).H.ma∧Co ({ (S.lst a11 c11 l11) with H:={ (S.lst a11 c11 l11).H with m:=⟨(S.lst a11 c11 l11).H.m.fs,x⟩ } }:MW).H.ma∧Oc ({ (S.lst a11 c11 l11) with H:={ (S.lst a11 c11 l11).H with m:=⟨(S.lst a11 c11 l11).H.m.fs,x⟩ } }:MW)∧({ (S.lst a11 c11 l11) with H:={ (S.lst a11 c11 l11).H with m:=⟨(S.lst a11 c11 l11).H.m.fs,x⟩ } }:MW).H.m.fs.length=f∧({ (S.lst a11 c11 l11) with H:={ (S.lst a11 c11 l11).H with m:=⟨(S.lst a11 c11 l11).H.m.fs,x⟩ } }:MW).H.dk.blocks.length=ct∧(1≤({ (S.lst a11 c11 l11) with H:={ (S.lst a11 c11 l11).H with m:=⟨(S.lst a11 c11 l11).H.m.fs,x⟩ } }:MW).H.sp.length∧({ (S.lst a11 c11 l11) with H:={ (S.lst a11 c11 l11).H with m:=⟨(S.lst a11 c11 l11).H.m.fs,x⟩ } }:MW).H.sp.length≤2)∧(l=[]→({ (S.lst a11 c11 l11) with H:={ (S.lst a11 c11 l11).H with m:=⟨(S.lst a11 c11 l11).H.m.fs,x⟩ } }:MW).H.ma=kV f s ct)):=Lib.hid (by
       obtain⟨q1,q2,q3,q4,q5,q6,q7⟩:=kl.out;have xN:=(eH _).1 q1.pt.fr;have hh:=UB q1 q2 (x:=x) ((eH _).2 ⟨xN.1,xN.2.1,hx.1,by
        rcases hx.2.2 with h|h
        ·exact .inr (by show x<(S.H.m.fs.length:Int);omega)
        ·exact .inl h⟩)
       refine⟨hh.1,hh.2,q3,q4,q5,q6,fun e => ?_⟩;obtain⟨k1,k2⟩:=q7 e;have xL:x=0:=(xM k2).1;subst xL;have k3:S.H.m.hand=0:=by
        have:=congrArg (fun m:Ma=>m.m.hand) k1;have e2:(kV f s ct).m.hand=0:=by unfold kV uh;rw[if_pos ⟨⟨by omega,by omega⟩,⟨by omega,by omega⟩,by omega,by omega⟩,if_pos (by omega)]
        exact this.trans e2
       rw[←k1];show MH.ma { S.H with m:=⟨S.H.m.fs,0⟩ }=MH.ma S.H;have e3:(⟨S.H.m.fs,0⟩:Mem)=S.H.m:=by rw[←k3]
       rw[e3])
      clear kn kb q0 hU kl hx xM;generalize { (S.lst a11 c11 l11) with H:={ (S.lst a11 c11 l11).H with m:=⟨(S.lst a11 c11 l11).H.m.fs,x⟩ } }=S13 at hm hs hI;skip;have bz:aB w12 w.heap.size (dh noH) 41:=hs.blkN bx4'.out qK.out;have qd:=Lib.hid (Cq xt.out)
      go_wp2_with (first | (refine ax _ _ rfl b 1 rfl rfl _ hm.rdM _ underlying41 rfl machine_size ?_) | (refine az rfl _ _ _ rfl w.heap.size (dh S13.H) rfl rfl _ _ bz rfl machine_size (fw _) ?_))
      intro wE bE gE;have hE:Hid (tu wE w.heap.size S13.H∧Below w.heap.size w wE):=Lib.hid ⟨(hm.ma.keep bz (by decide) gE).mono (by have:=qd.out;omega),(GJ qX.out (xS.out _ _ hs) (by have:=qd.out;omega) (ay _)).grown gE (bi (bi (by omega) kM) hs.size) (fun k hk=>by cases hk;exact ay _)⟩;clear hm hs bz;go_wp2;refine bodyPost_ret (v:=.agg (dh S13.H)) (eF results10 _ _ w.heap.size _ _ _ rfl bE underlying41 rfl machine_size) rfl ?_;obtain⟨q1,q2,q3,q4,q5,q6,q7⟩:=hI.out;exact⟨S13.H,rfl,hE.out.1,hE.out.2,q1,q2,q3,by rw[kk.out.1];exact q4,by rw[kk.out.2.2];exact q5,q6,fun e=>by rw[kk.out.1,kk.out.2.1,kk.out.2.2];exact q7 e⟩
     have iz:¬(0:Int)<(f:Int):=by omega
     have hI:Hid (Rt S.H.ma∧Co S.H.ma∧Oc S∧S.H.m.fs.length=f∧S.H.dk.blocks.length=ct∧(1≤S.H.sp.length∧S.H.sp.length≤2)∧(l=[]→S.H.ma=kV f s ct)):=Lib.hid ⟨kl.out.1,kl.out.2.1,kl.out.2.2.1,kl.out.2.2.2.1,kl.out.2.2.2.2.1,kl.out.2.2.2.2.2.1,fun e=>(kl.out.2.2.2.2.2.2 e).1⟩;clear kl;skip;have bz:aB wr w.heap.size (dh noH) 41:=hs.blkN bx4'.out qK.out;have qd:=Lib.hid (Cq xt.out)
     go_wp2_with (first | (refine ax _ _ rfl b 1 rfl rfl _ hm.rdM _ underlying41 rfl machine_size ?_) | (refine az rfl _ _ _ rfl w.heap.size (dh S.H) rfl rfl _ _ bz rfl machine_size (fw _) ?_))
     intro wE bE gE;have hE:Hid (tu wE w.heap.size S.H∧Below w.heap.size w wE):=Lib.hid ⟨(hm.ma.keep bz (by decide) gE).mono (by have:=qd.out;omega),(GJ qX.out (xS.out _ _ hs) (by have:=qd.out;omega) (ay _)).grown gE (bi (bi (by omega) kM) hs.size) (fun k hk=>by cases hk;exact ay _)⟩;clear hm hs bz;go_wp2;refine bodyPost_ret (v:=.agg (dh S.H)) (eF results10 _ _ w.heap.size _ _ _ rfl bE underlying41 rfl machine_size) rfl ?_;obtain⟨q1,q2,q3,q4,q5,q6,q7⟩:=hI.out;exact⟨S.H,rfl,hE.out.1,hE.out.2,q1,q2,q3,by rw[kk.out.1];exact q4,by rw[kk.out.2.2];exact q5,q6,fun e=>by rw[kk.out.1,kk.out.2.1,kk.out.2.2];exact q7 e⟩
theorem new2:kV (EW 2 40) (EW 2 60) (EW 2 80)=⟨uh 2,AJ 2,oI 2,oI 2,⟨[],2⟩,[],[⟨true,[],zTb⟩]⟩:=by
 have e:EW 2 40=2∧EW 2 60=2∧EW 2 80=2:=by decide
 rw[e.1,e.2.1,e.2.2];rfl
def vI (m:Ma) (f:Int) (n:Nat):List UInt8:=(List.range n).map fun j=>(bA m f (j / 8:Nat)).toList.getD (j%8) 0
theorem Us (X:Page) (q:Nat) (hq:q<8):(iB X).getD q (.int .u8 0)=yO (X.toList.getD q 0):=by
 rw[bN,CG X q hq,aS,aH (by simpa using hq)];simp[yO]
theorem KG (m:Ma) (f:Int) (n:Nat):wF m f n=(vI m f n).map yO:=by
 unfold wF vI;rw[GZ];exact uK fun j _=>Us _ _ (qx _ (by decide))
theorem Ex (m:Ma) (f:Int) (n:Nat):(vI m f n).length=n:=by unfold vI;simp
theorem GN (h:Rt m) (hf:f<m.st.fs.length):0≤(aK m.st f).n∧(aK m.st f).n≤(aK m.st f).b.length*8:=by
 have h1:=vg h.pt.st _ (bO (wm (s:=m.st) (f:=f) ⟨by omega,by omega⟩));have h2:=h1.2.2.1;unfold dW at h2;refine⟨h1.1,?_⟩;have:=h1.1;split at h2<;>omega
end Go.Proofs.YtjkkoeijlhfneaaGreat
namespace Pw
open Go Go.RowKit
end Pw
namespace Go.Proofs.YtjkkoeijlhfneaaGreat
open _root_.Go.Proofs.Tryz
open Go.RowKit Go.Maps Pw
variable {W:World} {base base' fuel:Nat} {d:pR} {file:Int} {held:Bool} {m m' m0:Ma} {spare:Nat → Bool} {v:Value}
structure Good (m0:Ma) (file:Int) (m:Ma):Prop where
 dirty:∀i P,¬zh m file i P
 files:qV m0.st m.st
 blk:∀i,vS m0.st file i→aX m.st file i=aX m0.st file i
 qu:∀i,vS m0.st file i→0≤aX m0.st file i→(∀q∈m.dk.queue,q.1≠aX m0.st file i)∧m.dk.blocks.getD (aX m0.st file i).toNat zPg=m0.dk.blocks.getD (aX m0.st file i).toNat zPg
theorem good_start (hd:∀i P,¬zh m file i P) (hq:m.dk.queue=[]):Good m file m:=
 ⟨hd,.refl _,fun _ _=>rfl,fun _ _ _=>⟨fun q h=>(by rw[hq] at h;cases h),rfl⟩⟩
theorem JR (m0:Ma) (file:Int):Wu (Good m0 file):=by
 refine⟨fun m f hR hC h hf h0 hd hb => ?_,fun m m' _ _ h _ _ hs=>⟨fun i P hd=>h.dirty i P (hs.di _ _ _ hd),by rw[hs.st];exact h.files,fun i hi=>by rw[hs.st];exact h.blk i hi,fun i hi h0=>by rw[hs.dk];exact h.qu i hi h0⟩⟩;obtain⟨s,hB⟩:=blocked hb;obtain⟨c,l,a⟩:=hR.fc f hf h0;have n:=hR.ca.fr c l;rw[a,bR] at n;have b:(aN m f).f≠file:=fun e=>h.dirty c.i (aN m f).p ⟨c,l,by rw[←n.2.1];exact e,rfl,by rw[a,bR];exact hd,by rw[a,bR]⟩;have t:∀g,aN (gM m f) g=if g=f then { aN m f with d:=false } else aN m g:=fun g=>lH (m:={ m with st:=dJ m.st (aN m f).f (aN m f).i,dk:=iC m.dk (dD m.st (aN m f).f (aN m f).i,(aN m f).p) }) (x:={ aN m f with d:=false }) hf g;refine⟨fun i P ⟨d,a1,a2,a3,a4,a5⟩ => ?_,⟨hB.len.trans h.files.len,fun g=>(hB.size g).trans (h.files.size g),fun g=>(hB.lenb g).trans (h.files.lenb g)⟩,fun i hi=>(hB.other file i hi.2.1 (fun e=>b e.1.symm)).trans (h.blk i hi),fun i hi r => ?_⟩
 ·rw[t] at a4 a5
  by_cases e:d.k.toNat=f
  ·rw[if_pos e] at a4;cases a4
  rw[if_neg e] at a4 a5;exact h.dirty i P ⟨d,a1,a2,a3,a4,a5⟩
 have j : vS m.st file i:=hi.same h.files.len h.files.lenb;have o:=h.blk i hi;obtain⟨k1,k2⟩:=h.qu i hi r;have hN:dD m.st (aN m f).f (aN m f).i≠aX m0.st file i:=fun e=>by
  rcases hB.was with ⟨hw,_⟩|⟨_,hn,_⟩
  ·exact b (Et hR.pt.st s j (by rw[hw];exact hB.b0) (by rw[hw,o];exact e)).1
  ·exact hn (by rw[e,←o];exact qH j)
 constructor
 ·intro q hq;rcases Kz (show q∈(iC m.dk (dD m.st (aN m f).f (aN m f).i,(aN m f).p)).queue from hq) with h|rfl
  ·exact k1 q h
  ·exact hN
 show (iC m.dk (dD m.st (aN m f).f (aN m f).i,(aN m f).p)).blocks.getD _ zPg=_;rw[KM r (fun q hq=>⟨k1 q hq,(((eO _).1 hR.pt.dk).2.2 q hq).1⟩)];exact k2
theorem TI (f:Nat→Bool) (hw:aY d=0) {b:Int} (h0:0≤b) (hb:b<d.blocks.length) (hq:∀q∈d.queue,q.1≠b):jc (jo f d) b=d.blocks.getD b.toNat zPg:=by
 have a:=(eO _).1 hw;unfold jc;rw[Kj _ hw,if_pos (kX.2 ⟨hw,h0,hb⟩)];unfold jo;rw[if_pos hw];show (iF f d.blocks d.queue d.queue.length).getD b.toNat zPg=_;rcases DD f d.blocks d.queue (fun x hx=>(a.2.2 x hx).1) d.queue.length b.toNat (by omega) with h|⟨x,hx,hxi,_⟩
 ·rw[aS,h,aS,aH (by omega)]
 ·exact absurd (by rw[hxi];omega) (hq x hx)
theorem Jz (hR:Rt m) {f i:Int} (hi:vS m.st f i) (h0:0≤aX m.st f i):aX m.st f i<m.dk.blocks.length:=by
 have:=block_lt hR.pt.st hi;have:=hR.pt.dkl;omega
theorem Lt (hR0:Rt m0) (hC0:Co m0) (hq0:m0.dk.queue=[]) (hd0:∀i P,¬zh m0 file i P) (hR:Rt m) (h:Good m0 file m) (bits:Int) {i:Int} (hi:vS m0.st file i) :
  bA (gF m bits) file i=bA m0 file i:=by
 have e0:bA m0 file i=fV m0 file i:=by
  rw[lw];rcases ve m0 file i with ⟨c,hc,hcm,e1,e2⟩|⟨hc,_⟩
  ·rw[hc];show (aN m0 c.k.toNat).p=_;rw[←e1,←e2];refine hC0.clean c hcm ?_;cases q:(aN m0 c.k.toNat).d with
   | false=>rfl
   | true=>exact absurd ⟨c,hcm,e1,e2,q,rfl⟩ (hd0 i _)
  ·rw[hc]
 have e1:bA (gF m bits) file i=fV (gF m bits) file i:=by rw[lw];rw[show qm (gF m bits) file i=none by unfold qm;rw[(Jn hR bits).2.1];rfl]
 rw[e0,e1];have b : vS m.st file i:=hi.same h.files.len h.files.lenb;have a:=h.blk i hi;unfold fV;show (if 0≤aX m.st file i then fu (jc (jo (ko bits) m.dk) (aX m.st file i)) ((aK m.st file).n-i*8) else zPg)=_;rw[a,h.files.size]
 by_cases h0:0≤aX m0.st file i
 ·rw[if_pos h0,if_pos h0];obtain⟨k1,k2⟩:=h.qu i hi h0;have hb:=Jz hR b (by rw[a];exact h0);rw[a] at hb;rw[TI _ hR.pt.dk h0 hb k1,k2];have e:=Jz hR0 hi h0;congr 1;unfold jc;rw[if_pos (kX.2 ⟨hR0.pt.dk,h0,e⟩),hq0];rfl
 ·rw[if_neg h0,if_neg h0]
theorem Dl {file:Int} {m:Ma} (h:Rt m) (hc:Co m) (h0:0≤file):∀(f:Nat) (m' : Ma),f≤m.m.fs.length→mG file m f=some m'→∀g,g<f→(aN m' g).f=file→(aN m' g).d=false
 | 0,m',_,e,g,hg,_=>absurd hg (dV _)
 | f+1,m',hf,e,g,hg,hgf=>by
  unfold mG at e;cases e1:mG file m f with
  | none=>rw[e1] at e;cases e
  | some m1=>
   rw[e1] at e;have e:lm file m1 f=some m':=e;have s1:=wW h hc h0 f m1 (by omega) e1;have hf1:f<m1.m.fs.length:=by rw[s1.len];omega
   by_cases q:(aN m1 f).f=file
   ·obtain⟨_,hC⟩:=(Be s1.rt s1.co h0 hf1 e).2 q;have hm:∀g,aN m' g=if g=f then { aN m1 f with d:=false } else aN m1 g:=fun g=>by have:=lH (m:=m1) (x:={ aN m1 f with d:=false }) hf1 g;unfold aN at this ⊢;rw[hC.fs];exact this
    rw[hm] at hgf ⊢
    by_cases hgq:g=f
    ·rw[if_pos hgq]
    rw[if_neg hgq] at hgf ⊢;exact Dl h hc h0 f m1 (by omega) e1 g (by omega) hgf
   unfold lm at e;rw[if_neg q] at e;have e2:=aJ e;subst e2
   by_cases hgq:g=f
   ·exact absurd (by rw[←hgq];exact hgf) q
   ·exact Dl h hc h0 f m1 (by omega) e1 g (by omega) hgf
theorem FN (h:Rt m) (hc:Co m) (h0:0≤file) (e:vO file m=some m'):Good m' file m':=by
 unfold vO at e;cases e1:mG file m m.m.fs.length with
 | none=>rw[e1] at e;cases e
 | some m1=>
  rw[e1] at e;cases aJ e;have s1:=wW h hc h0 _ m1 (ay _) e1;refine good_start (fun i P ⟨c,hcm,a1,_,a3,_⟩ => ?_) ?_
  ·have hcm:c∈m1.ca:=hcm;have a3:(aN m1 c.k.toNat).d=true:=a3;have hk:=s1.rt.ca.lt c hcm;have h1:=s1.len;have a:=(s1.rt.ca.fr c hcm).2.1;have:=Dl h hc h0 _ m1 (ay _) e1 c.k.toNat (by omega) (by rw[a];exact a1);rw[a3] at this;cases this
  unfold oM jo;rw[if_pos s1.rt.pt.dk]
theorem Mh {file:Nat} {x:Ma} (h:Rt m) (hc:Co m) (hf:file<m.st.fs.length) (e:vO file m=some m') (hx:Rt x) (hi:Inv m' x) (bits:Int) :
  vI (gF x bits) file (aK (gF x bits).st file).n.toNat=vI m file (aK m.st file).n.toNat:=by
 have S:=Dh h hc (by omega) e;have G0:=FN h hc (by omega) e;have G:=hi _ (JR m' file) G0;obtain⟨h1,h2⟩:=GN h hf;rw[show (gF x bits).st=x.st from rfl,G.files.size,S.vis.size];unfold vI;refine uK fun j hj => ?_;have c:=dE.1 hj;have b:vS m.st file ((j / 8:Nat):Int):=⟨⟨by omega,by omega⟩,by omega,by omega⟩;have a : vS m'.st file ((j / 8:Nat):Int):=b.same S.vis.files S.vis.lenb;have hq:m'.dk.queue=[]:=by
  unfold vO at e;cases e1:mG file m m.m.fs.length with
  | none=>rw[e1] at e;cases e
  | some m1=>
   rw[e1] at e;cases aJ e;have s1:=wW h hc (by omega) _ m1 (ay _) e1;unfold oM jo;rw[if_pos s1.rt.pt.dk]
 rw[Lt S.rt S.co hq G0.dirty hx G bits a,S.vis.con _ _ b]
theorem PL (hR:Rt m) (hC:Co m):Inv m (eB ⟨m,0⟩).1.m:=by
 obtain⟨_,_,hF,_⟩:=yu (k:=⟨m,0⟩) hR hC;exact hF.inv
theorem DV (H:MH) (f:Int) (w:World) (h:BR w H) (hR:Rt H.ma) (hC:Co H.ma) (hf:f<0∨(H.fi.length:Int)≤f) :
  Calls Tryz.prog 23 #[.agg (dh H),.int .i64 f] w fun r w'=>r = .returned (.tuple #[.agg (dh noH),.int .i64 5])∧Below w.heap.size w w':=by
 have j:=Lib.hid hR;have m:=Lib.hid hC;have l:=Lib.hid (qd hR);clear hR hC;go_enter func23,ntmps23;go_upto_region 1 with (fail);refine rE (fun W=>Code.wp _ _ _ _ W) fun w1 g bx1 rx1 i => ?_;have bx1:aB w1 w.heap.size (dh H) 41:=bx1;have rx1:aB w1 (w.heap.size+1) (dh noH) 41:=rx1;have h1:=h.below g;clear h
 go_wp2_with (refine ax _ _ rfl w.heap.size 0 rfl rfl _ bx1.rd _ underlying41 rfl machine_size ?_)
 refine (mE H _ h1).mono ?_;rintro r w2 ⟨rfl,c⟩;rw[Db.2 j.out];have h2:=h1.below c;have bx2:=bx1.ext c;have rx2:=rx1.ext c;have a:=ae g c;clear h1 bx1 rx1 g c i;have hc:=bx2.cell;unfold dh at hc
 by_cases h0:f<0
 ·clear hf
  go_wp2_with (refine az rfl _ _ _ rfl (w.heap.size+1) (dh noH) rfl rfl _ _ rx2 rfl mach_size (fw noH) ?_)
  intro we d e;have b:=a.grown e a.size (fun k hk=>by cases hk;omega);go_wp2;refine bodyPost_ret (v:=.tuple #[.agg (dh noH),.int .i64 5]) (eZ results23 _ _ (w.heap.size+1) _ _ _ _ rfl rfl d underlying41 rfl mach_size) rfl ?_;exact⟨rfl,b⟩
 have h1:(H.fi.length:Int)≤f:=by omega
 clear hf
 go_wp2_with (refine az rfl _ _ _ rfl (w.heap.size+1) (dh noH) rfl rfl _ _ rx2 rfl mach_size (fw noH) ?_)
 intro we d e;have b:=a.grown e a.size (fun k hk=>by cases hk;omega);go_wp2;refine bodyPost_ret (v:=.tuple #[.agg (dh noH),.int .i64 5]) (eZ results23 _ _ (w.heap.size+1) _ _ _ _ rfl rfl d underlying41 rfl mach_size) rfl ?_;exact⟨rfl,b⟩
theorem Sa (hm:m=⟨uh 2,AJ 2,oI 2,oI 2,⟨[],2⟩,[],[⟨true,[],zTb⟩]⟩) (hR:Rt m) (hC:Co m):(eB ⟨m,0⟩).2=false∧(eB ⟨m,0⟩).1.m.m.fs.length=2∧rf m=none∧(gF m 0).dk.blocks.length=2∧(gF m 0).sp.length=1:=by
 have hz:∀f,(aN m f).r=0∧(aN m f).d=false:=fun f=>by
  rw[hm]
  match f with
  | 0=>exact⟨rfl,rfl⟩
  | 1=>exact⟨rfl,rfl⟩
  | f+2=>
   have:aN (⟨uh 2,AJ 2,oI 2,oI 2,⟨[],2⟩,[],[⟨true,[],zTb⟩]⟩:Ma) (f+2)=fr0:=by unfold aN;rw[aS,dI (by show 2≤f+2;omega)];rfl
   rw[this];exact⟨rfl,rfl⟩
 obtain⟨_,o,hF,ho⟩:=yu (k:=⟨m,0⟩) hR hC;have hl:m.m.fs.length=2:=by rw[hm];rfl
 refine⟨?_,by rw[hF.len];exact hl,?_,?_,?_⟩
 ·cases e:(eB ⟨m,0⟩).2 with
  | false=>rfl
  | true=>
   exfalso;cases o with
   | none=>exact (ho.1 e) rfl
   | some f=>exact (hF.free f rfl).2.2 (hz f).1
 ·exact GD fun j _=>by unfold BV;rw[(hz j).2];rfl
 ·rw[hm];decide +kernel
 ·rw[hm];rfl
theorem TV (w:World):Calls Tryz.prog 18 #[] w fun r w'=>r = .returned (.bool true)∧Below w.heap.size w w':=by
 go_enter func18,ntmps18
 go_wp2_with fail
 refine (De 2 2 2 none 0 [] w ⟨ay _,by decide,fun _=>rfl,fun i u h=>(by simp at h)⟩).mono ?_;rintro r w1 ⟨H,rfl,ho,hr,hf,hg,_,_,_,_,n⟩;have j:H.ma=⟨uh 2,AJ 2,oI 2,oI 2,⟨[],2⟩,[],[⟨true,[],zTb⟩]⟩:=(n rfl).trans new2;obtain⟨n1,n2,n3,n4,n5⟩:=Sa j hf hg;have ht:Hid (H.ma.sl.length=2):=Lib.hid (by rw[j];rfl);have hx:Hid (H.fi.length=0):=Lib.hid (by
  have e:H.ma.st.fs.length=0:=by rw[j];rfl
  rwa [show H.ma.st.fs.length=H.fi.length from fo _] at e)
 have hn:=Lib.hid (And.intro n1 (And.intro n2 (And.intro n3 (And.intro n4 n5))));have hR:=Lib.hid hf;have hC:=Lib.hid hg;have hl:=ho.rd;clear n j hf hg ho n1 n2 n3 n4 n5
 go_wp2_with (refine aI rfl _ _ _ rfl (dh H) rfl rfl rfl machine_size (fw _) ?_)
 intro w2 hd bx2;have hb:=hl.below hd;have y:=ae hr hd;clear hl hr hd;generalize w1.heap.size=gm at bx2
 go_wp2_with (refine ax _ _ rfl gm 0 rfl rfl _ bx2.rd _ underlying41 rfl machine_size ?_)
 refine (Ew H _ hb hR.out hC.out).mono ?_;rintro r w3 ⟨l,K,rfl,hw,hq⟩;rw[hn.out.1];have hz:Hid (K.m.fs.length=2):=Lib.hid (by have:=hn.out.2.1;rw[←hq] at this;exact this);have hk:=hb.below l;have bx3:=bx2.ext l;have x:=ae y l;clear hb bx2 y l hw hq
 go_wp2_with (refine aI rfl _ _ _ rfl (dh K) rfl rfl rfl machine_size (fw _) ?_)
 intro w4 k kx4;have ha:=hk.below k;have bx4:=bx3.ext k;have v:=ae x k;clear hk bx3 x k;generalize w3.heap.size=gk at kx4
 go_wp2_with (refine ax _ _ rfl gm 0 rfl rfl _ bx4.rd _ underlying41 rfl machine_size ?_)
 refine (Lh H _ ha hR.out hC.out).mono ?_;rintro r w5 ⟨g,N,rfl,hv,hp⟩;have hy:Hid (N.sl.length=2):=Lib.hid (by
  have e:N.ma.sl.length=2:=by rw[hp];unfold Av;rw[hn.out.2.2.1];exact ht.out
  exact e)
 rw[hn.out.2.2.1];have hj:=ha.below g;have bx5:=bx4.ext g;have kx5:=kx4.ext g;have t:=ae v g;clear ha bx4 kx4 v g hv hp
 go_wp2_with (refine aI rfl _ _ _ rfl (dh N) rfl rfl rfl machine_size (fw _) ?_)
 intro w6 f nx6;have z:=hj.below f;have bx6:=bx5.ext f;have kx6:=kx5.ext f;have s:=ae t f;clear hj bx5 kx5 t f;generalize w5.heap.size=gn at nx6
 go_wp2_with (refine ax _ _ rfl gm 0 rfl rfl _ bx6.rd _ underlying41 rfl machine_size ?_)
 refine (Es H 0 _ z hR.out hC.out).mono ?_;rintro r w7 ⟨c,X,rfl,hu,hm⟩;have hs:Hid (X.dk.blocks.length=2∧X.sp.length=1):=Lib.hid (by have e1:=hn.out.2.2.2.1;have e2:=hn.out.2.2.2.2;rw[←hm] at e1 e2;exact⟨e1,by rwa [ER] at e2⟩);have hi:=z.below c;have bx7:=bx6.ext c;have kx7:=kx6.ext c;have nx7:=nx6.ext c;have q:=ae s c;clear z bx6 kx6 nx6 s c hu hm
 go_wp2_with (refine aI rfl _ _ _ rfl (dh X) rfl rfl rfl machine_size (fw _) ?_)
 intro w8 b xx8;have hh:=hi.below b;have bx8:=bx7.ext b;have kx8:=kx7.ext b;have nx8:=nx7.ext b;have p:=ae q b;clear hi bx7 kx7 nx7 q b;generalize w7.heap.size=gx at xx8
 go_wp2_with (refine ax _ _ rfl gm 0 rfl rfl _ bx8.rd _ underlying41 rfl machine_size ?_)
 refine (DV H 0 _ hh hR.out hC.out (.inr (by rw[hx.out];decide))).mono ?_;rintro r w9 ⟨rfl,d⟩;have kx9:=kx8.ext d;have nx9:=nx8.ext d;have xx9:=xx8.ext d;have o:=ae p d;clear hh bx8 kx8 nx8 xx8 p d
 go_wp2_with (refine aI rfl _ _ _ rfl (dh noH) rfl rfl rfl machine_size (fw _) ?_)
 intro w10 a zx10;have kx10:=kx9.ext a;have nx10:=nx9.ext a;have xx10:=xx9.ext a;have hc:=ae o a;clear kx9 nx9 xx9 o a zx10;have ck:=kx10.cell;have cn:=nx10.cell;have cx:=xx10.cell;unfold dh at ck cn cx;rw[hz.out] at ck;rw[hy.out] at cn;rw[hs.out.1,hs.out.2] at cx;go_wp2;go_ret;exact⟨rfl,hc⟩
theorem KA (H:MH) (f:Int) (w:World) (h:BR w H) (hR:Rt H.ma) (hf:f<0∨(H.fi.length:Int)≤f) :
  Calls Tryz.prog 17 #[.agg (dh H),.int .i64 f] w fun r w'=>r = .returned (.tuple #[.slice none 0 0,.int .i64 5])∧Below w.heap.size w w':=by
 have e:=Lib.hid hR;clear hR;go_enter func17,ntmps17;go_upto_region 1 with (fail);refine gB (fun W=>Code.wp _ _ _ _ W) fun w1 c bx1 d => ?_;have bx1:aB w1 w.heap.size (dh H) 41:=bx1;have h1:=h.below c;clear d
 go_wp2_with (refine ax _ _ rfl w.heap.size 0 rfl rfl _ bx1.rd _ underlying41 rfl machine_size ?_)
 refine (Ev H _ h1 e.out).mono ?_;rintro r w2 ⟨rfl,b⟩;have bx2:=bx1.ext b;have a:=ae c b;have hc:=bx2.cell;unfold dh at hc;clear h1 bx1 c b h
 by_cases h0:f<0
 ·clear hf;go_wp2;go_ret2;exact⟨rfl,a⟩
 have h1:(H.fi.length:Int)≤f:=by omega
 clear hf;go_wp2;go_ret2;exact⟨rfl,a⟩
theorem Kq (cf cs cb:Int) (l:List UInt8) (file ev bits:Int) (al:Option Addr) (cl:Nat) (w:World) (hr:uk w al cl l.length (l.map yO)) :
  Calls Tryz.prog 7 #[.agg #[.int .i64 cf,.int .i64 cs,.int .i64 cb],.slice al l.length cl,.int .i64 file,.int .i64 ev,.int .i64 bits] w fun r w'=>r = .returned (.bool true)∧Below w.heap.size w w':=by
 go_enter func7,ntmps7;go_upto_region 1 with (fail);refine gB (fun W=>Code.wp _ _ _ _ W) fun w1 hA cx1 h3 => ?_;have hI:=hr.below hA;clear hr
 go_wp2_with fail
 refine (TV w1).mono ?_;rintro r w2 ⟨rfl,hm⟩;have hH:=hI.below hm;have cx2:=cx1.ext hm;have hw:=ae hA hm;clear hI cx1 hA hm h3;have h6:=cx2.cell
 go_wp2_with fail
 refine (De cf cs cb al cl l w2 hH).mono ?_;rintro r w3 ⟨H,rfl,ho,hV,hW,h0,_,_,_,_,_⟩;have hu:=ae hw hV;have hn:=ho.rd;have hR:=Lib.hid hW;have hC:=Lib.hid h0;clear hH cx2 h6 hw hV ho hW h0
 go_wp2_with (refine aI rfl _ _ _ rfl (dh H) rfl rfl rfl machine_size (fw _) ?_)
 intro w4 hz bx4;have g:=hn.below hz;have u:=ae hu hz;clear hn hu hz;generalize w3.heap.size=gm at bx4
 by_cases hfo:file<0∨(H.fi.length:Int)≤file
 ·have ht:=Lib.hid hfo;clear hfo
  go_wp2_with (refine ax _ _ rfl gm 0 rfl rfl _ bx4.rd _ underlying41 rfl machine_size ?_)
  refine (KA H file _ g hR.out ht.out).mono ?_;rintro r w5 ⟨rfl,m⟩;have o:=g.below m;have bx5:=bx4.ext m;have j:=ae u m;clear g bx4 u m
  go_wp2_with (refine ax _ _ rfl gm 0 rfl rfl _ bx5.rd _ underlying41 rfl machine_size ?_)
  refine (DV H file _ o hR.out hC.out ht.out).mono ?_;rintro r w6 ⟨rfl,ha⟩;have c:=ae j ha;clear o bx5 j ha
  go_wp2_with (refine aI rfl _ _ _ rfl (dh noH) rfl rfl rfl machine_size (fw _) ?_)
  intro w7 e kx7;have b:=ae c e;clear c e kx7;go_wp2;go_ret;exact⟨rfl,b⟩
 obtain⟨f,rfl⟩:∃f:Nat,file=f:=⟨file.toNat,by omega⟩;have hT:f<H.fi.length:=by omega
 have hx:f<H.ma.st.fs.length:=by rw[show H.ma.st.fs.length=H.fi.length from fo _];exact hT
 clear hfo;have h2:=Lib.hid (GN hR.out hx);have hs:=Lib.hid hx;clear hx
 go_wp2_with (refine ax _ _ rfl gm 0 rfl rfl _ bx4.rd _ underlying41 rfl machine_size ?_)
 refine (EI H f _ g hR.out ⟨(qd hR.out).ca,(qd hR.out).st.2⟩ hR.out.ca.lt hT h2.out).mono ?_;rintro r w5 ⟨v,rfl,hv,m⟩;rw[KG] at hv;have o:=g.below m;have bx5:=bx4.ext m;have j:=ae u m;have hj:=hv.mono u.size;obtain⟨N,hN⟩:∃N:Nat,N=(aK H.ma.st f).n.toNat:=⟨_,rfl⟩;obtain⟨L,hL⟩:∃L:List UInt8,L=vI H.ma f (aK H.ma.st f).n.toNat:=⟨_,rfl⟩;rw[←hL,←hN] at hj;have hZ:Hid (L.length=N):=Lib.hid (by rw[hL,hN];exact Ex _ _ _);have h8:=Lib.hid hL;have h9:=Lib.hid hN;clear g bx4 u m hv hL hN;obtain⟨a1,c1,rfl,_⟩:=hj.rd
 go_wp2_with (refine ax _ _ rfl gm 0 rfl rfl _ bx5.rd _ underlying41 rfl machine_size ?_)
 refine (PU H f _ o hR.out hC.out (by omega) (by omega)).mono ?_;rintro r w6 ⟨ha,a⟩;have c:=ae j ha;have hF:=hj.below ha;have hP:=j.size;clear o bx5 j ha hj;cases hS:vO f H.ma with
 | none=>
  rw[hS] at a;have a:r = .returned (.tuple #[.agg (dh noH),.int .i64 10]):=a;subst a;clear hS
  go_wp2_with (refine aI rfl _ _ _ rfl (dh noH) rfl rfl rfl machine_size (fw _) ?_)
  intro w7 e kx7;have b:=ae c e;clear c e kx7;go_wp2;go_ret;exact⟨rfl,b⟩
 | some m1=>
  rw[hS] at a;obtain⟨K,rfl,y,hM⟩:=a;have S:=Dh hR.out hC.out (by omega) hS;have hK:Hid (Rt K.ma∧Co K.ma∧Inv m1 K.ma):=Lib.hid (by rw[hM];exact⟨S.rt,S.co,.refl _⟩);have hB:=Lib.hid hS;clear S hS hM
  go_wp2_with (refine aI rfl _ _ _ rfl (dh K) rfl rfl rfl machine_size (fw _) ?_)
  intro w7 e kx7;have b:=ae c e;have hD:=hF.below e;have hp:=(y.mono hP).below e;have hO:Hid (w.heap.size≤w6.heap.size):=Lib.hid c.size;clear c e hF y;generalize w6.heap.size=gk at kx7 hO
  by_cases he0:ev<0
  ·go_wp2;go_ret;exact⟨rfl,b⟩
  by_cases he1:12<ev
  ·go_wp2;go_ret;exact⟨rfl,b⟩
  obtain⟨E,rfl⟩:∃E:Nat,ev=E:=⟨ev.toNat,by omega⟩;have hE:E≤12:=by omega
  clear he0 he1;go_upto_region 9 with (fail)
  go_loopw [55] (fun i wr => ∃(q:Nat) (K:MH),q≤E∧i = .int .i64 q∧Below w.heap.size w wr∧aB wr gk (dh K) 41∧tu wr w.heap.size K∧Hid (Rt K.ma∧Co K.ma∧Inv m1 K.ma)∧Own wr w.heap.size 5 1 (.slice a1 N c1) N (L.map yO)) (fun i _=>E-(intOf i).toNat)
  case atStart=>exact⟨0,K,aV _,rfl,b,kx7,hp,hK,hD⟩
  case round=>
   clear b kx7 hp hK hD;obtain⟨q,K,hq,rfl,z,kx,y,hK,hv⟩:=hrel
   by_cases hqE:q<E
   ·have h4:(q:Int)<(E:Int):=by omega
    go_wp2_with (refine ax _ _ rfl gk 0 rfl rfl _ kx.rd _ underlying41 rfl machine_size ?_)
    refine (Ew K _ y.rd hK.out.1 hK.out.2.1).mono ?_;rintro r w8 ⟨x,X,rfl,hg,hh⟩;have hX:Hid (Rt X.ma∧Co X.ma∧Inv m1 X.ma):=Lib.hid (by obtain⟨_,k1,k2,_,_⟩:=Bv hK.out.1 hK.out.2.1;have k3:=PL hK.out.1 hK.out.2.1;rw[←hh] at k1 k2 k3;exact⟨k1,k2,hK.out.2.2.trans k3⟩);have t:=ae z x;have kx8:=kx.ext x;have hd:=hv.below x;have s:=hg.mono z.size;generalize (eB ⟨K.ma,0⟩).2=ok;clear z x kx y hK hv hg hh
    go_wp2_with (refine aI rfl _ _ _ rfl (dh X) rfl rfl rfl machine_size (fw _) ?_)
    intro w9 d xx9;have h:=ae t d;have kx9:=kx8.ext d;have hc:=hd.below d;have p:=s.below d;have h5:Hid (gk<w8.heap.size):=Lib.hid kx8.lt;clear t d kx8 hd s;generalize w8.heap.size=gx at xx9 h5
    go_wp2_with (first | (refine ax _ _ rfl gx 0 rfl rfl _ xx9.rd _ underlying41 rfl machine_size ?_) | (refine az rfl _ _ _ rfl gk (dh X) rfl rfl _ _ kx9 rfl machine_size (fw _) ?_))
    intro we h7 hl;have hU:=h.grown hl h.size (fun k hk=>by cases hk;exact hO.out);have hJ:=p.keep kx9 (by decide) hl;have h1:=ak hc kx9 (by decide) hl;clear h kx9 hc p xx9 hl;go_wp2;go_roundw
    case rel=>exact⟨q+1,X,by omega,by go_num,hU,h7,hJ,hX,h1⟩
    case measure=>simp[intOf];omega
   have h4:¬(q:Int)<(E:Int):=by omega
   clear hq hqE
   go_wp2_with (refine ax _ _ rfl gk 0 rfl rfl _ kx.rd _ underlying41 rfl machine_size ?_)
   refine (Es K bits _ y.rd hK.out.1 hK.out.2.1).mono ?_;rintro r w8 ⟨x,X,rfl,hg,hh⟩;have hX:Hid (Rt X.ma∧f<X.ma.st.fs.length∧vI X.ma f (aK X.ma.st f).n.toNat=L):=Lib.hid (by rw[hh,h8.out];refine⟨(QJ hK.out.1 bits).1,?_,Mh hR.out hC.out hs.out hB.out hK.out.1 hK.out.2.2 bits⟩;have S:=Dh hR.out hC.out (by omega) hB.out;have G:=hK.out.2.2 _ (JR m1 f) (FN hR.out hC.out (by omega) hB.out);show f<K.ma.st.fs.length;rw[G.files.len,S.vis.files];exact hs.out);have t:=ae z x;have hd:=hv.below x;have s:=hg.mono z.size;clear z x kx y hK hv hg hh
   go_wp2_with (refine aI rfl _ _ _ rfl (dh X) rfl rfl rfl machine_size (fw _) ?_)
   intro w9 d xx9;have h:=ae t d;have hc:=hd.below d;have p:=(s.below d).rd;clear t d hd s;generalize w8.heap.size=gx at xx9;have hG:=Lib.hid (GN hX.out.1 hX.out.2.1);have hQ:f<X.fi.length:=by have:=hX.out.2.1;rwa [show X.ma.st.fs.length=X.fi.length from fo _] at this
   go_wp2_with (refine ax _ _ rfl gx 0 rfl rfl _ xx9.rd _ underlying41 rfl machine_size ?_)
   refine (EI X f _ p hX.out.1 ⟨(qd hX.out.1).ca,(qd hX.out.1).st.2⟩ hX.out.1.ca.lt hQ hG.out).mono ?_;rintro r w10 ⟨v,rfl,hf,hi⟩;have hY:(aK X.ma.st f).n.toNat=N:=by rw[←hZ.out,←hX.out.2.2,Ex]
   rw[KG,hX.out.2.2,hY] at hf;have hy:=ae h hi;have hb:=hc.below hi;clear h hi hc p xx9 hY;obtain⟨a2,c2,rfl,_,_,_,k2⟩:=hf.rd;obtain⟨a1',c1',e1',_,_,_,k1⟩:=hb.rd;obtain⟨rfl,_,rfl⟩:=ng e1';have e1:=Dx underlying24 underlying5 c1 k1 9 underlying9;have e2:=Dx underlying24 underlying5 c2 k2 9 underlying9;rw[hZ.out] at e1 e2;clear k1 k2 e1' hf hb;go_wp2;go_ret;exact⟨rfl,hy⟩
open Go.ChangeShapes Go.WideShapes Go.ChangeAt
theorem opens_cfg:yH Tryz.prog 23 (fun x:Int × Int × Int=>[.int .i64 x.1,.int .i64 x.2.1,.int .i64 x.2.2]) (fun _ x=>i64 x.1∧i64 x.2.1∧i64 x.2.2):=
 (IW underlying23 (rz rfl 1 rfl (by kernel_rfl) (AZ underlying3).w (rz rfl 2 rfl (by kernel_rfl) (AZ underlying3).w (rz rfl 3 rfl (by kernel_rfl) (AZ underlying3).w (EU (by kernel_rfl)))))).of (fun x=>(x.1,x.2.1,x.2.2.1)) (fun _=>rfl) (fun _ _ h=>⟨h.1,h.2.1,h.2.2.1⟩)
theorem MP {H:Type} {en:TypeId × Value→H} {x:DataW H × List MemPlace} (hv:Value.okWide Tryz.prog W .any base 23 v) (h:DataW.trod en Tryz.prog W base' spare held fuel 23 v.cells.toList=some x) :
  ∃f s b:Int,v = .agg #[.int .i64 f,.int .i64 s,.int .i64 b]∧i64 f∧i64 s∧i64 b:=by
 obtain⟨cs,rfl,_⟩:=okWide_struct underlying23 hv;obtain⟨⟨f,s,b⟩,a,g1,g2,g3⟩:=opens_cfg _ _ _ _ _ _ _ _ _ h;refine⟨f,s,b,?_,g1,g2,g3⟩;congr 1;apply Array.ext';simpa[Value.cells] using a
end Go.Proofs.YtjkkoeijlhfneaaGreat