import Derived.Test.YthihaopabbpalaaGreatA5
import Derived.BigRegion
import Derived.ArgAppend
import Derived.Deep.DeepCutAuto
set_option linter.unusedSimpArgs false
set_option linter.unusedVariables false
set_option linter.unnecessarySimpa false
set_option maxHeartbeats 4000000
set_option maxRecDepth 100000
namespace Go.Proofs.YthihaopabbpalaaGreat
open _root_.Go.Proofs.Tryz
open Go.RowKit Pw
variable {B B' B0 O b c g i k off p q sz:Nat} {E:En} {H:MH} {L L':Nat -> Bool} {P:Program} {Q:Exit -> Act -> World -> Prop} {T e t:TypeId} {W W' W0 w w' w0 w1 w2:World} {X:Fr} {a:Option Addr} {cs cur:Array Value} {h x:Operand} {m:Ma} {o:Oper} {ops:Array Oper} {rest:List Oper} {sl:List Int} {v v':Value} {vs xs ys:List Value} {y:Nat -> Value} {ρ:Operand -> Value}
theorem GZ(d:vW)(k:Int)(ab:Option Addr)(cb:Nat)(aq:Option Addr)(cq:Nat)(w:World)(h:Rl w ab cb aq cq d) :
  Calls Tryz.prog 79 #[.agg #[.slice ab d.blocks.length cb,.slice aq d.queue.length cq],.int .i64 k] w λe w'=>e = .returned (.tuple #[.agg (dW (dD d k)),.int .i64 (aL d k)])/\Below w.heap.size w w':=by
 go_enter func79,ntmps79
 go_wp2_with fail
 refine tY (λW=>Calls _ _ _ W _) λW0 z hb hf hq => ?_;refine(xM d ab cb aq cq _ (h.below z)).mono ?_;rintro e w1 ⟨rfl,t⟩;have a:=ag z t;have v:=hb.ext t;have g:=hf.ext t;have h1:=h.below a;clear hb hf t z hq;have lq:=bi h1.lq h1.mq;unfold maxLen at lq;have hu:=v.cell
 by_cases Z:bX d=0
 ·rw[Z]
  by_cases I:k<0\/(d.blocks.length:Int)<=k
  ·have C:aL d k=3:=by unfold aL;rw[if_neg (by omega),if_pos I]
   have F:dW (dD d k)=#[.int .u8 0,.int .u8 0,.int .u8 0,.int .u8 0,.int .u8 0,.int .u8 0,.int .u8 0,.int .u8 0]:=by unfold dD;rw[C];rfl
   rcases I with I|I
   all_goals
    go_wp2_with (refine aA rfl (.tmp 4) (.tmp 25) rfl (w.heap.size+1) #[.int .u8 0,.int .u8 0,.int .u8 0,.int .u8 0,.int .u8 0,.int .u8 0,.int .u8 0,.int .u8 0] rfl rfl g zz_fit zz_info zz_one ?_)
    all_goals
     intro w2 y l;have f:=a.grown l a.size oG0;have q:=y.cell;go_wp2;simp[bodyPost,results,go_sem,results79,q,C,F];exact f
  obtain⟨k,rfl⟩:=iO (show 0<=k by omega);have hl:k<d.blocks.length:=by omega
  have k1:¬(d.blocks.length:Int)<=(k:Int):=by omega
  have kz:(k:Int)<(d.blocks.length:Int):=by omega
  have C:aL d k=0:=by unfold aL;rw[if_neg (by omega),if_neg I]
  have F:dD d k=over k d.blocks[k] d.queue:=by unfold dD;rw[C,if_pos rfl];simp[hl]
  have Q:=ae (And.intro C F);have hy:w.heap.size+2<=w1.heap.size:=by have:=g.lt;omega
  clear I C F;have hd:decide (d.blocks.length<=k)=false:=by simp;omega
  obtain⟨b,off,rfl,A⟩:=OM h1.rb k hl;have J:=A 0 (by decide);have Y:=A 1 (by decide);have V:=A 2 (by decide);have U:=A 3 (by decide);have S:=A 4 (by decide);have R:=A 5 (by decide);have N:=A 6 (by decide);have M:=A 7 (by decide);simp only[dW,yK,rz,yJ,iK]at J Y V U S R N M;clear A;go_upto_region 7 with(fail);refine iC (λW=>Code.wp _ _ _ _ W) λw2 s hi hn => ?_;have f:=ag a s;have ha:=v.ext s;have o:=g.ext s;have u : aG w2 w1.heap.size (dW d.blocks[k]) 58:=hi;clear a v g h1 s hi hn hu J Y V U S R N M;have ht:=ha.cell;go_wp2;clear ht ha
  go_loopw [34] (fun i wr => ∃j:Nat,j<=d.queue.length/\i = .int .i64 j/\Below w.heap.size w wr/\aG wr (w.heap.size+1) #[.int .u8 0,.int .u8 0,.int .u8 0,.int .u8 0,.int .u8 0,.int .u8 0,.int .u8 0,.int .u8 0] 58/\aG wr w1.heap.size (dW (over k d.blocks[k] (d.queue.take j))) 58) (fun i _=>d.queue.length-(intOf i).toNat)
  case atStart=>exact⟨0,bq _,rfl,f,o,u⟩
  case round=>
   clear f o u;obtain⟨j,hj,rfl,c,n,G⟩:=hrel
   by_cases K:j<d.queue.length
   ·obtain⟨b',off',rfl,A⟩:=JD (h.below c).rq j K;have J:=A 0 (by decide);have Y:=A 1 (by decide);have V:=A 2 (by decide);have U:=A 3 (by decide);have S:=A 4 (by decide);have R:=A 5 (by decide);have N:=A 6 (by decide);have M:=A 7 (by decide);have c8:=A 8 (by decide);simp only[Ie,yK,rz,yJ,iK]at J Y V U S R N M c8;clear A;have r:=ae (Hw (k:Int) d.blocks[k] d.queue j K)
    by_cases D:d.queue[j].1=(k:Int)
    ·have p : Hid (over (k:Int) d.blocks[k] (d.queue.take (j+1))=d.queue[j].2):=by have:=r.out;rw[if_pos D]at this;exact this
     rw[D]at J;clear r D;have hh:=G.alloc (.cells #[.int .i64 k,.int .u8 d.queue[j].2[0].toNat,.int .u8 d.queue[j].2[1].toNat,.int .u8 d.queue[j].2[2].toNat,.int .u8 d.queue[j].2[3].toNat,.int .u8 d.queue[j].2[4].toNat,.int .u8 d.queue[j].2[5].toNat,.int .u8 d.queue[j].2[6].toNat,.int .u8 d.queue[j].2[7].toNat] 105)
     go_wp2_with (refine aA rfl (.tmp 7) (.tmp 43) rfl w1.heap.size (dW d.queue[j].2) rfl rfl hh (UI _ _) (BG _) (eF _) ?_)
     intro w4 hs l;have m:=(c.alloc c.size _).grown l (dE c.size) oG0;have x:=(n.alloc _).grown l (λD=>by have:=aM D;omega);clear hh G c n l J Y V U S R N M c8;go_wp2;go_roundw
     case rel=>exact⟨j+1,by omega,by go_num,m,x,by rw[p.out];exact hs⟩
     case measure=>simp[intOf];omega
    have p : Hid (over (k:Int) d.blocks[k] (d.queue.take (j+1))=over (k:Int) d.blocks[k] (d.queue.take j)):=by have:=r.out;rw[if_neg D]at this;exact this
    have hx:(d.queue[j].1==(k:Int))=false:=by simpa using D
    clear r D;go_wp2;go_roundw
    case rel=>exact⟨j+1,by omega,by go_num,c.alloc c.size _,n.alloc _,by rw[p.out];exact G.alloc _⟩
    case measure=>simp[intOf];omega
   rw[jD (show d.queue.length<=j by omega)]at G;have hg:=Q.out.2;rw[<-hg]at G;have hm:=G.cell;rw[Ai]at hm;clear hg
   go_wp2_with (refine aA rfl (.tmp 4) (.tmp 45) rfl (w.heap.size+1) (dW (dD d k)) rfl rfl n (MN _) (BG _) (eF _) ?_)
   intro w4 hr l;have m:=c.grown l c.size oG0;have q:=hr.cell;obtain⟨e0,e1,e2,e3,e4,e5,e6,e7⟩:=yH (dD d k);clear hm;go_wp2;simp[bodyPost,results,go_sem,results79,q,e0,e1,e2,e3,e4,e5,e6,e7,Q.out.1];exact⟨rfl,m⟩
 have C:aL d k=bX d:=by unfold aL;rw[if_pos Z]
 have F:dW (dD d k)=#[.int .u8 0,.int .u8 0,.int .u8 0,.int .u8 0,.int .u8 0,.int .u8 0,.int .u8 0,.int .u8 0]:=by unfold dD;rw[C,if_neg Z];rfl
 have hv : (bX d != 0)=true:=by simpa using Z
 go_wp2_with (refine aA rfl (.tmp 4) (.tmp 14) rfl (w.heap.size+1) #[.int .u8 0,.int .u8 0,.int .u8 0,.int .u8 0,.int .u8 0,.int .u8 0,.int .u8 0,.int .u8 0] rfl rfl g zz_fit zz_info zz_one ?_)
 intro w2 y l;have f:=a.grown l a.size oG0;have q:=y.cell;go_wp2;simp[bodyPost,results,go_sem,results79,q,C,F];exact f
theorem Kw(f:Fr)(w:World):Calls Tryz.prog 143 #[.agg (tV f)] w λe w'=>e = .returned (.int .i64 (bT f))/\Below w.heap.size w w':=by
 have d:∀W,(Op.equalIn 10000 58 (.agg #[.int .u8 f.p[0].toNat,.int .u8 f.p[1].toNat,.int .u8 f.p[2].toNat,.int .u8 f.p[3].toNat,.int .u8 f.p[4].toNat,.int .u8 f.p[5].toNat,.int .u8 f.p[6].toNat,.int .u8 f.p[7].toNat]) (.agg #[.int .u8 0,.int .u8 0,.int .u8 0,.int .u8 0,.int .u8 0,.int .u8 0,.int .u8 0,.int .u8 0])).run Tryz.prog W = .ok (f.p==zPg) W:=XA f.p zPg;have b:∀W,(Op.equalIn 9999 58 (.agg #[.int .u8 f.p[0].toNat,.int .u8 f.p[1].toNat,.int .u8 f.p[2].toNat,.int .u8 f.p[3].toNat,.int .u8 f.p[4].toNat,.int .u8 f.p[5].toNat,.int .u8 f.p[6].toNat,.int .u8 f.p[7].toNat]) (.agg #[.int .u8 0,.int .u8 0,.int .u8 0,.int .u8 0,.int .u8 0,.int .u8 0,.int .u8 0,.int .u8 0])).run Tryz.prog W = .ok (f.p==zPg) W:=Yl f.p zPg;go_enter func143,ntmps143;unfold tV;cases hp:(f.p==zPg)
 all_goals rw[hp]at d b
 all_goals have a:=ae hp
 all_goals clear hp
 all_goals go_wp2
 all_goals go_ret
 all_goals refine⟨?_,(Below.refl _ _).alloc (az _) _⟩
 all_goals have hp:=a.out
 all_goals clear d b a
 all_goals go_light
 all_goals refine congrArg (λz=>Ending.returned (.int .i64 z)) ?_
 all_goals simp only[bT,Ew,Il,Cw,uP,ed,decide_eq_true_eq,ne_eq,bne_iff_ne]
 all_goals simp_all
 all_goals omega
theorem KY(m:Mem)(a:Option Addr)(c:Nat)(w:World)(h:RB w a c m) :
  Calls Tryz.prog 96 #[.agg #[.slice a m.fs.length c,.int .i64 m.hand]] w λe w'=>e = .returned (.int .i64 (bu m))/\Below w.heap.size w w':=by
 have U:=bi h.le h.mx;unfold maxLen at U;go_enter func96,ntmps96;go_upto_region 1 with(fail);refine iC (λW=>Code.wp _ _ _ _ W) λW0 r p v => ?_;clear v;have t:=p.cell
 by_cases K:40<m.fs.length
 ·have C:bu m=4:=by unfold bu;rw[if_pos K]
  have z : (40:Int)<(m.fs.length:Int):=by omega
  go_wp2;go_ret;rw[C];exact⟨rfl,r⟩
 have z : ¬(40:Int)<(m.fs.length:Int):=by omega
 go_wp2;clear t
 go_loopw [13] (fun i wr => ∃k:Nat,k<=m.fs.length/\i = .int .i64 k/\Below w.heap.size w wr/\aG wr w.heap.size #[.slice a m.fs.length c,.int .i64 m.hand] 32/\∀i (h:i<m.fs.length),i<k->bT m.fs[i]=0) (fun i _=>m.fs.length-(intOf i).toNat)
 case atStart=>exact⟨0,bq _,rfl,r,p,λi _ h=>absurd h (fA _)⟩
 case round=>
  clear p r;obtain⟨k,hk,rfl,d,G,s⟩:=hrel;have l:=ae s;clear s
  by_cases A:k<m.fs.length
  ·obtain⟨b,off,rfl,Y⟩:=GM (h.below d).rd k A;obtain⟨c0,c1,c2,c3,c4,c5,c6,c7,c8,c9,ca,cb,cc⟩:=Y;have ha:(k:Int)<(m.fs.length:Int):=by omega
   have I:=λw=>Kw m.fs[k] w;unfold tV at I
   by_cases D:bT m.fs[k]=0
   ·have x:=ae D;rw[D]at I;clear D;go_upto_region 6 with(fail);refine iC (λW=>Code.wp _ _ _ _ W) λw1 g o q => ?_;have f:=ag d g;have u:=G.ext g;clear q d G g;have y:=o.cell
    go_wp2_with fail
    refine (I _).mono ?_;rintro e w2 ⟨rfl,n⟩;go_wp2;go_roundw
    case rel=>exact⟨k+1,by omega,by go_num,ag f n,u.ext n,mJ l.out A x.out⟩
    case measure=>simp[intOf];omega
   have C:bu m=bT m.fs[k]:=by have:=firstEf_at _ k A l.out D;unfold bu;rw[if_neg K,this,if_pos D]
   have Z:(bT m.fs[k] != 0)=true:=by simpa using D
   have j:=ae C;clear C;go_upto_region 6 with(fail);refine iC (λW=>Code.wp _ _ _ _ W) λw1 g o q => ?_;have f:=ag d g;clear q d G g;have y:=o.cell
   go_wp2_with fail
   refine(I _).mono ?_;rintro e w2 ⟨rfl,n⟩;go_wp2;go_ret;rw[j.out];exact⟨rfl,ag f n⟩
  have M:firstEf m.fs=0:=firstEf_none _ (λi V=>l.out i V (by omega));have C:bu m=if m.hand<0\/(0<m.hand/\(m.fs.length:Int)<=m.hand)then 3 else 0:=by unfold bu;rw[if_neg K,M];rfl
  have j:=ae C;have t:=G.cell;clear C M
  by_cases F:m.hand=0
  ·have N:(m.hand != 0)=false:=by simp[F]
   have J:=ae F;clear F;go_wp2
   all_goals
    go_ret;rw[j.out,if_neg (by have:=J.out;omega)];exact⟨rfl,d⟩
  have N:(m.hand != 0)=true:=by simpa using F
  by_cases S:m.hand<0
  ·go_wp2
   all_goals
    go_ret;rw[j.out,if_pos (.inl S)];exact⟨rfl,d⟩
  by_cases R:(m.fs.length:Int)<=m.hand
  ·go_wp2
   all_goals
    go_ret;rw[j.out,if_pos (.inr ⟨by omega,R⟩)];exact⟨rfl,d⟩
  go_wp2
  all_goals
   go_ret;rw[j.out,if_neg (by omega)];exact⟨rfl,d⟩
theorem KN(t:Tb)(cs:Array Value)(w:World)(h:FZ w cs t):Calls Tryz.prog 101 #[.agg cs] w λr w'=>r = .returned (.int .i64 (dA t))/\Below w.heap.size w w':=by
  go_enter func101,ntmps101;go_upto_region 1 with(fail);refine iC (λW=>Code.wp _ _ _ _ W) λW0 hr hf ht => ?_;clear ht
  go_wp2_with (refine iy rfl 74 (.tmp 1) rfl w.heap.size 0 rfl cs.toList hf.rd _ underlying74 tab_agg (by rw[jk,h.sz];exact tab_size) ?_)
  clear hf
  go_loopw [9] (fun i wr => ∃k:Nat,k<=8/\i = .int .i64 k/\Below w.heap.size w wr/\∀i (K:i<8),i<k->mR t[i]=0) (fun i _=>8-(intOf i).toNat)
  case atStart=>exact⟨0,bq _,rfl,hr,λi _ h=>absurd h (fA _)⟩
  case round=>
    obtain⟨k,hk,rfl,x,hh⟩:=hrel;have J:=ae hh;clear hh hr
    by_cases C:k<8
    · obtain⟨a,c,hm,hA,hv,hx,hu⟩:=h.at' k C;have hw:=λW=>Dk C hm W;have hC:decide ((k:Int)<8)=true:=by simp;omega
      unfold maxLen at hv;clear hm
      by_cases I:t[k].length=0\/t[k].length=8
      · have F:=ae I;have hB:t[k].length<=8:=by omega
        have N:((t[k].length:Int) != 0)=true/\((t[k].length:Int) != 8)=false\/((t[k].length:Int) != 0)=false/\((t[k].length:Int) != 8)=true:=by rcases I with e|e<;>simp[e]
        clear I;rcases N with⟨N,Z⟩|⟨N,Z⟩
        all_goals
          go_wp2;clear hw
          go_loopw [22,5] (fun i s wr' => ∃j c:Nat,j<=t[k].length/\c<=j/\i = .int .i64 j/\s = .int .i64 c/\Below w.heap.size w wr'/\Hid (c=0↔zh t[k] j=false)/\∀i (K:i<t[k].length),i<j->eP t[k][i]=0) (fun i _ _=>t[k].length-(intOf i).toNat)
          case atStart=>exact⟨0,0,bq _,az _,rfl,rfl,x,ae (by simp[Py]),λi _ h=>absurd h (fA _)⟩
          case round=>
            obtain⟨j,n,hj,hy,rfl,rfl,q,v,hg⟩:=hrel;have M:=ae hg;clear hg x
            by_cases D:j<t[k].length
            · obtain⟨b,off,rfl,c0,c1,c2⟩:=Hf (hu.below q) j D;go_upto_region 10 with(fail);refine iC (λW=>Code.wp _ _ _ _ W) λW3 hn hd hs => ?_;have o:=ag q hn;have m:=hd.cell;have d:Hid (eP t[k][j]≠0->dA t=eP t[k][j]):=ae (λA=>(sG k C J.out (by rw[zZ F.out j D M.out A];exact A)).trans (zZ F.out j D M.out A));have g:Hid (eP t[k][j]=0->∀i (K:i<t[k].length),i<j+1->eP t[k][i]=0):=ae (λA=>mJ M.out D A);have l:Hid (0<=t[k][j].k->((0<t[k][j].k)->(n+1=0↔zh t[k] (j+1)=false))/\(¬0<t[k][j].k->(n=0↔zh t[k] (j+1)=false))):=ae (Tn D v.out);clear q hs c0 c1 c2 hn hd M J v;generalize t[k][j]=E at m d g l;go_wp2
              all_goals first
                | (go_ret
                   refine⟨aY ?_,o⟩;clear m g l
                   go_light
                   have A:eP E≠0->dA t=eP E:=d.out;clear d;unfold eP at A
                   simp_all<;>omega)
                | (have A:eP E=0:=by
                     clear m g l d
                     go_light
                     unfold eP
                     simp_all<;>omega
                   have S:0<=E.k:=by
                     clear m g l d A
                     go_light
                     omega
                   have z:=ae (g.out A);have u:=ae (l.out S);clear l g d A m;have U:0<E.k:=by
                     go_light
                     omega
                   have R:=ae (u.out.1 U);clear u;go_roundw
                   case rel=>exact⟨j+1,n+1,by omega,by omega,by go_num,by go_num,o,R,z.out⟩
                   case measure=>simp[intOf];omega)
                | (have A:eP E=0:=by
                     clear m g l d
                     go_light
                     unfold eP
                     simp_all<;>omega
                   have S:0<=E.k:=by
                     clear m g l d A
                     go_light
                     omega
                   have z:=ae (g.out A);have u:=ae (l.out S);clear l g d A m;have U:¬0<E.k:=by
                     go_light
                     omega
                   have R:=ae (u.out.2 U);clear u;go_roundw
                   case rel=>exact⟨j+1,n,by omega,by omega,by go_num,rfl,o,R,z.out⟩
                   case measure=>simp[intOf];omega)
            have y:=ae (za F.out λi K=>M.out i K (by omega));have p:=Lp t[k] j (by omega)
            by_cases G:t[k].length=8/\n=0
            · obtain⟨Y,V⟩:=G;have f:=ae (y.out.trans (if_pos ⟨by omega,by rw[<-p];exact v.out.1 V⟩));have d:=ae (sG k C J.out (by rw[f.out];decide));have g3:((t[k].length:Int)==8)=true:=by rw[beq_iff_eq];omega
              subst V;clear p Y;go_wp2;go_ret;exact⟨aY (d.out.trans f.out).symm,q⟩
            have f:=ae (y.out.trans (if_neg (λh=>G ⟨by have:=F.out;omega,v.out.2 (p.trans h.2)⟩)));have hl:((t[k].length:Int)==8)=false\/((t[k].length:Int)==8)=true/\((n:Int)==0)=false:=by
              by_cases hz:t[k].length=8
              · exact .inr ⟨by rw[beq_iff_eq];omega,by rw[beq_eq_false_iff_ne];omega⟩
              · exact .inl (by rw[beq_eq_false_iff_ne];omega)
            clear G p;rcases hl with Y|⟨Y,V⟩
            all_goals
              go_wp2;go_roundw
              case rel=>exact⟨k+1,by omega,by go_num,q,mJ J.out C f.out⟩
              case measure=>simp[intOf];omega
      have N:((t[k].length:Int) != 0)=true:=by rw[bne_iff_ne];omega
      have Z:((t[k].length:Int) != 8)=true:=by rw[bne_iff_ne];omega
      have f:=ae (zP (h:=t[k]) (by omega));have d:=ae (sG k C J.out (by rw[f.out];decide));go_wp2;go_ret;exact⟨aY (d.out.trans f.out).symm,x⟩
    have d:=ae (xN λi K=>J.out i K (by omega));go_wp2;go_ret;exact⟨aY d.out.symm,x⟩
theorem Xr(f g:En)(b:Bool)(h:(f==g)=b)(W:World):(Op.equalIn 10000 68 (.agg #[.int .i64 f.k,.int .i64 f.n,.bool f.w]) (.agg #[.int .i64 g.k,.int .i64 g.n,.bool g.w])).run Tryz.prog W = .ok b W:=by
 rw[<-h,Xd]
 by_cases d:(f.k==g.k)=true
 ·by_cases h2:(f.n==g.n)=true
  ·by_cases j:f.w=g.w<;>simp[go_sem,d,h2,j]
  ·simp[go_sem,d,h2]
 ·simp[go_sem,d]
theorem Pj(t u:Tb)(cs J:Array Value)(w:World)(h:FZ w cs t)(h' : FZ w J u):Calls Tryz.prog 51 #[.agg cs,.agg J] w λr w'=>r = .returned (.bool (Ib t u))/\Below w.heap.size w w':=by
 go_enter func51,ntmps51;go_upto_region 1 with(fail);refine tY (λW=>Code.wp _ _ _ _ W) λW0 S v q hg => ?_;clear hg;go_wp2
 go_loopw [7] (fun i wr => ∃k:Nat,k<=8/\i = .int .i64 k/\Below w.heap.size w wr/\aG wr w.heap.size cs 74/\aG wr (w.heap.size+1) J 74/\∀i (K:i<8),i<k->t[i]=u[i]) (fun i _=>8-(intOf i).toNat)
 case atStart=>exact⟨0,bq _,rfl,S,v,q,λi _ h=>absurd h (fA _)⟩
 case round=>
  obtain⟨k,hk,rfl,d,F,D,z⟩:=hrel;have R:=ae z;clear z S v q
  by_cases A:k<8
  ·obtain⟨a,c,o,hv,Z,ht,hh⟩:=h.at' k A;obtain⟨a',c',n,hu,ha,hm,x⟩:=h'.at' k A;have hz:decide ((k:Int)<8)=true:=by simp;omega
   have hw:(k:Int)<8:=by omega
   unfold maxLen at Z ha;have HC:=ae o;have HD:=ae n;have U:=(F.cell k).trans o;have V:=(D.cell k).trans n;clear o n
   by_cases I:t[k].length=u[k].length
   ·have g:=ae I;have hn:((t[k].length:Int) != (u[k].length:Int))=false:=by simp[I]
    clear I
    go_wp2_with fail
    go_quiet (fail);go_wp2;clear U V;generalize hW1:wr.drewN _=w1;have m:Below w.heap.size w w1:=by rw[<-hW1];exact below_drewN d _
    have s:aG w1 w.heap.size cs 74:=by rw[<-hW1];exact F.drewN _
    have p:aG w1 (w.heap.size+1) J 74:=by rw[<-hW1];exact D.drewN _
    clear hW1 d F D
    go_loopw [23] (fun i wr => ∃j:Nat,j<=t[k].length/\i = .int .i64 j/\Below w.heap.size w wr/\aG wr w.heap.size cs 74/\aG wr (w.heap.size+1) J 74/\∀i (K:i<t[k].length),i<j->t[k][i]=u[k][i]'(by have:=g.out;omega)) (λi _=>t[k].length-(intOf i).toNat)
    case atStart=>exact⟨0,bq _,rfl,m,s,p,λi _ h=>absurd h (fA _)⟩
    case round=>
     obtain⟨j,hj,rfl,d,F,D,y⟩:=hrel;have N:=ae y;clear y m s p;have U:=(F.cell k).trans HC.out;have V:=(D.cell k).trans HD.out
     by_cases C:j<t[k].length
     ·have l : j<u[k].length:=by have:=g.out;omega
      have k1:(j:Int)<(u[k].length:Int):=by omega
      obtain⟨b,off,rfl,c0,c1,c2⟩:=Hf (hh.below d) j C;obtain⟨b',M,rfl,d0,d1,d2⟩:=Hf (x.below d) j l
      by_cases G:t[k][j]=u[k][j]
      ·have hE:=Xr t[k][j] u[k][j] true (beq_iff_eq.2 G);have Y:=ae G;clear G
       go_wp2_with fail
       go_quiet (fail);go_wp2;go_roundw
       case rel=>exact⟨j+1,by omega,by go_num,below_drewN d _,F.drewN _,D.drewN _,XN g.out C N.out Y.out⟩
       case measure=>simp[intOf];omega
      have hE:=Xr t[k][j] u[k][j] false (beq_eq_false_iff_ne.2 G);have f:=ae (Ht k A (Xt j C l G));clear G
      go_wp2_with fail
      go_quiet (fail);go_wp2;go_ret;exact⟨bY f.out.symm,below_drewN d _⟩
     have hf:=ae (mJ R.out A (Wz g.out j C N.out));go_wp2;go_roundw
     case rel=>exact⟨k+1,by omega,by go_num,d,F,D,hf.out⟩
     case measure=>simp[intOf];omega
   have hn:((t[k].length:Int) != (u[k].length:Int))=true:=by rw[bne_iff_ne];omega
   have f:=ae (Ht k A (λe=>I (by rw[e])));clear I
   go_wp2_with fail
   go_quiet (fail);go_wp2;go_ret;exact⟨bY f.out.symm,below_drewN d _⟩
  have f:=ae (Ho λi K=>R.out i K (by omega));go_wp2;go_ret;exact⟨bY f.out.symm,d⟩
def xR(l:List En):Array Value:=(l.flatMap lZ).toArray
theorem vg(l:List En):(xR l).size=l.length*3:=by
 unfold xR;rw[List.size_toArray,uF]
theorem VK(l:List En)(k:Nat)(A:k<l.length)(x:En):bH (xR l) (k*3) (lZ x)=xR (l.set k x):=by
 apply mI;intro i;have z:=uF l;have c:=uF (l.set k x);rw[bI]at c
 by_cases C:i<l.length*3
 ·have f:i / 3<l.length:=by omega
  have b:i=i / 3*3+i%3:=by omega
  have h2:=ku lZ 3 gz (l.set k x) (i / 3) (by simpa using f) (i%3) (by omega);rw[<-b]at h2;have j:=ku lZ 3 gz l (i / 3) f (i%3) (by omega);rw[<-b]at j;have s:(xR (l.set k x))[i]?=((l.set k x).flatMap lZ)[i]?:=by simp[xR]
  have u:(xR l)[i]?=(l.flatMap lZ)[i]?:=by simp[xR]
  by_cases e:i / 3=k
  ·have d:i=k*3+i%3:=by omega
   have a:i%3<(lZ x).length:=by rw[gz];omega
   have n:=putAt_in (lZ x) (xR l) (k*3) (i%3) (lZ x)[i%3] (by rw[gz,vg];omega) (aI a);rw[<-d]at n;rw[n,s,h2];simp only[e,JE];exact(aI a).symm
  rw[putAt_out _ _ _ _ (by rw[gz];omega),s,h2,u,j];congr 2;rw[Dj (λh=>e h.symm)]
 ·rw[mM (by rw[size_putAt,vg];omega),mM (by rw[vg,bI];omega)]
theorem arr64_size:(Tryz.prog.info? 69).map (·.size)=some 192:=by kernel_rfl
theorem Vz(h:aG w b (bH cur 0 (lZ E)) T)(d:cur.size=3):aG w b (jm E) T:=by
 have:bH cur 0 (jm E).toList=jm E:=gK cur (jm E) (by rw[d];rfl);have h2:aG w b (bH cur 0 (jm E).toList) T:=h;rwa [this]at h2
theorem yz(t:Tb)(cs:Array Value)(w:World)(h:FZ w cs t)(h0:dA t=0):Calls Tryz.prog 22 #[.agg cs] w λr w'=>r = .returned (.agg (xR (dC t)))/\Below w.heap.size w w':=by
 have H0:=ae h0;clear h0;go_enter func22,ntmps22;go_upto_region 2 with(fail);refine Kz (λW=>Code.wp _ _ _ _ W) λW0 S hq f F hy => ?_;clear hy;replace F:aG W0 (w.heap.size+2) (xR (List.replicate 64 zEn)) 69:=F;replace f:aG W0 (w.heap.size+1) (xR (List.replicate 64 zEn)) 69:=f
 go_wp2_with (refine iy rfl 74 (.tmp 1) rfl w.heap.size 0 rfl cs.toList hq.rd _ underlying74 tab_agg (by rw[jk,h.sz];exact tab_size) ?_)
 have J:Hid (Mh t (8*0) (List.replicate 64 zEn)):=ae Mh.start;clear hq;have hh:=J;rw[Nat.mul_zero]at J
 go_loopw [9] (fun i wr => ∃(k:Nat) (l:List En),k<=8/\i = .int .i64 k/\Below w.heap.size w wr/\aG wr (w.heap.size+2) (xR l) 69/\aG wr (w.heap.size+1) (xR (List.replicate 64 zEn)) 69/\Hid (Mh t (8*k) l)) (fun i _=>8-(intOf i).toNat)
 case atStart=>exact⟨0,_,bq _,rfl,S,F,f,hh⟩
 case round=>
  obtain⟨k,l,hk,rfl,D,I,y,R⟩:=hrel;clear S F f J hh
  by_cases A:k<8
  ·obtain⟨a,c,U,hI,hB,hD,hz⟩:=h.at' k A;have hC:=λW=>Dk A U W;have hK:decide ((k:Int)<8)=true:=by simp;omega
   have M:=ae (qm (mi H0.out k A));have hJ:t[k].length<=8:=by have:=M.out;omega
   unfold maxLen at hB;clear U;go_wp2;clear hC
   go_loopw [15] (fun i wr' => ∃(j:Nat) (l' : List En),j<=t[k].length/\i = .int .i64 j/\Below w.heap.size w wr'/\aG wr' (w.heap.size+2) (xR l') 69/\aG wr' (w.heap.size+1) (xR (List.replicate 64 zEn)) 69/\Hid (Mh t (8*k+j) l')) (fun i _=>t[k].length-(intOf i).toNat)
   case atStart=>exact⟨0,l,bq _,rfl,D,I,y,R⟩
   case round=>
    obtain⟨j,l',hj,rfl,n,z,m,s⟩:=hrel;clear D I y
    by_cases N:j<t[k].length
    ·obtain⟨b,off,E,rfl,hE,c0,c1,c2⟩:=Uv (hz.below n) j N;have V:=ae (Gz A (by omega) (by have:=M.out;omega) hE);have hH:(8:Int)*(k:Int)+(j:Int)<64:=by omega
     have K:=ae (s.out.step (by omega) V.out);have hg:Hid ((8*k+j)*3+3<=(xR l').size):=ae (by rw[vg,s.out.len];omega);have hd:Hid (bH (xR l') ((8*k+j)*3) (lZ E)=xR (l'.set (8*k+j) E)):=ae (VK l' _ (by rw[s.out.len];omega) E);clear hE V s
     go_wp2_with (refine aC (x:=.tmp 7) (y:=.tmp 19) wr.heap.size 0 (lZ E) rfl rfl rfl _ _ (aG.new _ _ _) (az 3) entry_size (BQ E) ?_)
     intro G hp q;have hc:=Vz hp rfl;have hG:=z.lt;have Y:aG G (w.heap.size+2) _ _:=(z.alloc _).grown q (λe=>by have:=aM e;omega);have x:aG G (w.heap.size+1) _ _:=(m.alloc _).grown q (λe=>by have:=aM e;omega);have p:Below w.heap.size w G:=(n.alloc n.size _).grown q (dE n.size) (λk hk=>by cases hk;exact n.size);clear hp z m n q
     go_wp2_with (first | (refine iy rfl 68 (.tmp 7) rfl wr.heap.size 0 rfl (lZ E) hc.rd _ underlying68 rfl entry_size ?_) | (refine aC (x:=.tmp 25) (y:=.tmp 24) (w.heap.size+2) ((8*k+j)*3) (lZ E) rfl rfl rfl _ _ Y hg.out entry_size (BQ E) ?_))
     intro C Z g;rw[hd.out] at Z;have hi:aG C (w.heap.size+1) _ _:=x.grown g (λe=>by have:=aM e;omega);have o:Below w.heap.size w C:=p.grown g p.size oG0;clear Y x p g hd hg hc c0 c1 c2;go_wp2;go_roundw
     case rel=>exact⟨j+1,_,by omega,by go_num,o,Z,hi,K⟩
     case measure=>simp[intOf];omega
    have K:Hid (Mh t (8*(k+1)) l'):=by
     rcases M.out with e|e
     ·have e0:j=0:=by omega
      subst e0;exact ae (Mh.skip s.out A e)
     have e8:j=8:=by omega
     subst e8;exact s
    go_wp2;go_roundw
    case rel=>exact⟨k+1,l',by omega,by go_num,n,z,m,K⟩
    case measure=>simp[intOf];omega
  obtain rfl:k=8:=by omega
  obtain rfl:l=dC t:=R.out.fin;have hf:(dC t).length=64:=by simp[dC]
  have d:Hid ((xR (dC t)).size=192):=ae (by rw[vg,hf]);have hr:(xR (dC t)).all (·.oneCell')=true:=by rw[<-mD,fD];intro u hu;exact Cz (dC t) u (by simpa[xR]using hu)
  clear R hf
  go_wp2_with (first | (refine iy rfl 69 (.tmp 3) rfl (w.heap.size+2) 0 rfl (xR (dC t)).toList I.rd _ underlying69 rfl (by rw[jk,d.out];exact arr64_size) ?_) | (refine aA rfl (.tmp 2) (.tmp 28) rfl (w.heap.size+1) (xR (dC t)) rfl rfl y (by rw[d.out];rfl) (by rw[d.out];exact arr64_size) hr ?_))
  intro C hA g;have o:Below w.heap.size w C:=D.grown g D.size oG0;go_wp2;refine bodyPost_ret (v:=.agg (xR (dC t))) (fw results22 (w.heap.size+1) hA underlying69 (by rw[d.out];exact arr64_size)) rfl ?_;exact⟨rfl,o⟩
theorem sM.app{t:Tb}(h:sM w B cs t)(M:q<8){l:List En}(K:cs[q]?=some v)(S:Own w' B 68 3 v' l.length (l.flatMap lZ))(N:w.grownBy w' v.ownBlock)
 (J:v'.ownBlock=v.ownBlock\/∀g,v'.ownBlock=some g->w.heap.size<=g):sM w' B (cs.setIfInBounds q v') (t.set q l) where
 sz:=by simp[h.sz]
 own:=λk z=>by
  by_cases e:k=q
  ·subst e;exact⟨v',by rw[sW (by rw[h.sz];exact z)],by simpa using S⟩
  obtain⟨u,D,h2⟩:=h.own k z;refine⟨u,by rw[gZ (λs=>e s.symm)];exact D,?_⟩;rw[yE M z (λs=>e s.symm)];refine h2.grown N λg A R => ?_;rcases vL e with n|n
  ·exact h.apart k q u v n D K g A R
  ·exact h.apart q k v u n K D g R A
 apart:=λj k x y f G C g b a=>by
  have F:∀j u,j≠q->cs[j]?=some u->v'.ownBlock=some g->u.ownBlock=some g->False:=by
   intro j u d I A c;have i:j<8:=by
    rcases gu j 8 with z|z
    ·exact z
    ·rw[mM (by rw[h.sz];exact z)]at I;cases I
   obtain⟨V,D,h2⟩:=h.own j i;rw[I]at D;cases D;rcases J with J|J
   ·rw[J]at A;rcases vL d with n|n
    ·exact h.apart j q u v n I K g c A
    ·exact h.apart q j v u n K I g A c
   have Z:=J g A;have Y:=Ng h2 g c;omega
  by_cases e:j=q
  ·subst e;rw[sW (by rw[h.sz];exact M)]at G;cases G;rw[gZ (by omega)]at C;exact F k y (by omega) C b a
  rw[gZ (λs=>e s.symm)]at G
  by_cases s:k=q
  ·subst s;rw[sW (by rw[h.sz];exact M)]at C;cases C;exact F j x e G a b
  rw[gZ (λU=>s U.symm)]at C;exact h.apart j k x y f G C g b a
theorem Ti{l:List En}(h:aG w b (xR l) T)(d:l[k]?=some E):eu w (some ⟨b,k*3,none⟩) (lZ E):=by
 intro i u n;refine⟨b,k*3,rfl,?_⟩;rw[h.cell];have j:k<l.length:=(bZ.1 d).1;have f:l[k]=E:=(bZ.1 d).2;have:=flat_get lZ 3 gz l k j i u (by rw[f];exact n);simpa[xR]using this
theorem Nv(l:List En)(w:World)(hl:l.length=64):Calls Tryz.prog 38 #[.agg (xR l)] w λr w' => ∃cs,r = .returned (.agg cs)/\sM w' w.heap.size cs (iw l)/\Below w.heap.size w w':=by
 have I:=ae hl;clear hl;go_enter func38,ntmps38;go_upto_region 2 with(fail);refine Kz (λW=>Code.wp _ _ _ _ W) λW0 kg hX hi kc ko => ?_;clear ko;have kj:sM W0 w.heap.size #[.slice none 0 0,.slice none 0 0,.slice none 0 0,.slice none 0 0,.slice none 0 0,.slice none 0 0,.slice none 0 0,.slice none 0 0] zTb:=Cy _ _;have hr:Hid (GA l 0 [] zTb):=ae GA.start;go_wp2
 go_loopw [8] (fun i wr => ∃(k:Nat) (ca:Array Value) (t:Tb),k<=8/\i = .int .i64 k/\Below w.heap.size w wr/\aG wr w.heap.size (xR l) 69/\aG wr (w.heap.size+1) #[.slice none 0 0,.slice none 0 0,.slice none 0 0,.slice none 0 0,.slice none 0 0,.slice none 0 0,.slice none 0 0,.slice none 0 0] 74/\aG wr (w.heap.size+2) ca 74/\sM wr w.heap.size ca t/\Hid (GA l k [] t)) (fun i _=>8-(intOf i).toNat)
 case atStart=>exact⟨0,_,_,bq _,rfl,kg,hX,hi,kc,kj,hr⟩
 case round=>
  obtain⟨k,ca,t,hk,rfl,hp,hx,m,R,N,hT⟩:=hrel;clear kg hX hi kc kj hr
  by_cases f:k<8
  ·have kK:decide ((k:Int)<8)=true:=by simp;omega
   go_wp2
   go_loopw [6,5] (fun i s wr' => ∃(j:Nat),j<=8/\i = .int .i64 j/\s = .bool (zk l k j)/\wr' = wr) (fun i _ _=>8-(intOf i).toNat)
   case atStart=>exact⟨0,bq _,rfl,rfl,rfl⟩
   case round=>
    obtain⟨j,hj,rfl,rfl,rfl⟩:=hrel
    by_cases M:j<8
    ·have kt:decide ((j:Int)<8)=true:=by simp;omega
     obtain⟨E,S,hP⟩:=LQ I.out f M;have ku:=(Ti hx S) 0 (.int .i64 E.k) rfl;obtain⟨_,_,e1,kv⟩:=ku;simp only[jo,rH,and_true]at e1;obtain⟨rfl,rfl⟩:=e1;rw[iK]at kv;have ke:(8:Int)*(k:Int)+(j:Int)<64:=by omega
     have h0:Hid (zk l k (j+1)=(zk l k j||decide (0<E.k))):=ae (by unfold zk;rw[hP,List.any_append];simp[Jq]);clear S hP;cases hs:zk l k j
     all_goals
      rw[hs] at h0;go_wp2;go_roundw
      case rel=>exact⟨j+1,by omega,by go_num,by rw[h0.out];first | rfl | (congr 1;rw[nz];simp),trivial⟩
      case measure=>simp[intOf];omega
    obtain rfl:j=8:=by omega
    rw[show((8:Nat):Int)=8 from rfl];cases hsome:zk l k 8
    ·have p:=ae (UY hsome);clear hsome;go_wp2
     go_loopw [7] (fun i wr'=>i = .int .i64 0/\wr' = wr) (fun _ _=>0)
     case atStart=>exact⟨rfl,rfl⟩
     case round=>
      obtain⟨rfl,rfl⟩:=hrel;have hH:Hid (GA l (k+1) [] t):=ae (GA.next (by rw[p.out];exact hT.out) f);go_wp2;go_roundw
      case rel=>exact⟨k+1,ca,t,by omega,by go_num,hp,hx,m,R,N,hH⟩
      case measure=>simp[intOf];omega
    have p:=ae (Su hsome);clear hsome;have hr:Hid (GA l k ((l.drop (8*k)).take 0) t):=hT;go_wp2
    go_loopw [7] (fun i wr' => ∃(j:Nat) (ca' : Array Value) (t' : Tb),j<=8/\i = .int .i64 j/\Below w.heap.size w wr'/\aG wr' w.heap.size (xR l) 69/\aG wr' (w.heap.size+1) #[.slice none 0 0,.slice none 0 0,.slice none 0 0,.slice none 0 0,.slice none 0 0,.slice none 0 0,.slice none 0 0,.slice none 0 0] 74/\aG wr' (w.heap.size+2) ca' 74/\sM wr' w.heap.size ca' t'/\Hid (GA l k ((l.drop (8*k)).take j) t')) (fun i _=>8-(intOf i).toNat)
    case atStart=>exact⟨0,ca,t,bq _,rfl,hp,hx,m,R,N,hr⟩
    case round=>
     obtain⟨j,ca',t',hj,rfl,hf,hy,n,hB,Z,hq⟩:=hrel;clear hp hx m R N hT hr
     by_cases M:j<8
     ·have kt:decide ((j:Int)<8)=true:=by simp;omega
      obtain⟨E,S,hP⟩:=LQ I.out f M;have h3:=Ti hy S;have ke:(8:Int)*(k:Int)+(j:Int)<64:=by omega
      have kr:¬(8:Int)*(k:Int)+(j:Int)<0:=by omega
      have ks:(k:Int)<8:=by omega
      have kd:IntKind.i64.wrap (8*(k:Int))=8*(k:Int):=bK _ (by omega);have kh:IntKind.i64.wrap (8*(k:Int)+(j:Int))=8*(k:Int)+(j:Int):=bK _ (by omega);have kq:(8*(k:Int)+(j:Int)).toNat=8*k+j:=by omega
      have kx:=ae hP;obtain⟨v,hv,ha⟩:=Z.own k f;have hY:=ae hv;have kJ:t'[k].length=j:=by rw[hq.out.at' f];exact Fv I.out f (by omega)
      obtain⟨xa,xc,rfl,kI,kH,km,kG⟩:=ha.rd;have HE:=ae S;clear S hP hv;go_upto_region 13 with(fail);refine Eu 11 12 [(0,.int .i64 k)] [anyR,mW (.int .i64 k),mW (.pointer (some ⟨w.heap.size+2,k,none⟩)),mW (.slice xa t'[k].length xc),mW (.int .i64 k),mW (.int .i64 (8*(k:Int))),mW (.int .i64 j),mW (.int .i64 (8*(k:Int)+(j:Int))),mW (.pointer (some ⟨w.heap.size,(8*k+j)*3,none⟩)),mW (.agg (jm E)),(Yw 1 (lZ E))] (by kernel_rfl) (by kernel_rfl) (by kernel_rfl) (by kernel_rfl) (by kernel_rfl) (by kernel_rfl) (by decide) (by decide) _ rfl (by kernel_rfl) (ah ?_ (ah ?_ (ah ?_ (ah ?_ (ah ?_ (ah ?_ (ah ?_ (ah ?_ (ah ?_ (ah ?_ (ah ?_ (aF)))))))))))) (aF) rfl ?_
      ·refine QJ rfl ?_;intro ρ y W A C hV;have E4:ρ (.tmp 4) = .int .i64 k:=(C (.tmp 4) rfl).trans rfl;exact⟨(aj),(run_move (.inl rfl) E4)⟩
      ·refine aR ?_;intro ρ y W A C G D;have E4:ρ (.tmp 4) = .int .i64 k:=(C (.tmp 4) rfl).trans rfl;refine ak (.int .i64 k) (run_move (.inl rfl) E4)
      ·refine aR ?_;intro ρ y W A C G D;have E3:ρ (.tmp 3) = .pointer (some ⟨w.heap.size+2,0,none⟩):=(C (.tmp 3) rfl).trans rfl;have kF:=A 34 1 rfl;have h1:y 1=_:=D 1 rfl;refine ak (.pointer (some ⟨w.heap.size+2,k,none⟩)) (by simp[execOp,go_sem,E3,kF,h1,underlying74,ks])
      ·refine aR ?_;intro ρ y W A C G D;have kE:=A 35 2 rfl;have h2:y 2=_:=D 2 rfl;refine ak (.slice xa t'[k].length xc) (by simp[execOp,go_sem,kE,h2,(((hB.ext G).cell k).trans hY.out),underlying72])
      ·refine aR ?_;intro ρ y W A C G D;have E4:ρ (.tmp 4) = .int .i64 k:=(C (.tmp 4) rfl).trans rfl;refine ak (.int .i64 k) (run_move (.inl rfl) E4)
      ·refine aR ?_;intro ρ y W A C G D;have kD:=A 37 4 rfl;have h4:y 4=_:=D 4 rfl;have EC:∀v,ρ (.const v)=v:=λv=>C (.const v) trivial;refine ak (.int .i64 (8*(k:Int))) (by simp[execOp,go_sem,kD,h4,EC,kd])
      ·refine aR ?_;intro ρ y W A C G D;have E7:ρ (.tmp 7) = .int .i64 j:=(C (.tmp 7) rfl).trans rfl;refine ak (.int .i64 j) (run_move (.inl rfl) E7)
      ·refine aR ?_;intro ρ y W A C G D;have kC:=A 38 5 rfl;have h5:y 5=_:=D 5 rfl;have kB:=A 39 6 rfl;have h6:y 6=_:=D 6 rfl;refine ak (.int .i64 (8*(k:Int)+(j:Int))) (by simp[execOp,go_sem,kC,h5,kB,h6,kh])
      ·refine aR ?_;intro ρ y W A C G D;have E1:ρ (.tmp 1) = .pointer (some ⟨w.heap.size,0,none⟩):=(C (.tmp 1) rfl).trans rfl;have kA:=A 40 7 rfl;have h7:y 7=_:=D 7 rfl;refine ak (.pointer (some ⟨w.heap.size,(8*k+j)*3,none⟩)) (by simp[execOp,go_sem,E1,kA,h7,underlying69,ke,kr,kq])
      ·refine aR ?_;intro ρ y W A C G D;have kz:=A 41 8 rfl;have h8:y 8=_:=D 8 rfl;refine ak (.agg (jm E)) (bJ rfl (kz.trans h8) (vs:=lZ E) (h3.below G) underlying68 (A:=entry_size))
      ·refine aR ?_;intro ρ y W A C G D;have ky:=A 42 9 rfl;have h9:y 9=_:=D 9 rfl;refine jg (.slice (some ⟨W.heap.size,0,none⟩) 1 1) (aj) (by simp[execOp,go_sem,ky,h9,jm]) ((Below.refl _ _).alloc (az _) (.cells (jm E) 68)) ?_;exact⟨_,_,rfl,az _,by unfold maxLen;omega,λe=>(by cases e),eu.new _ _ _⟩
      intro ρ y WA o R A C hV b a;cases R;have hU:y 0 = .int .i64 k:=hV 0 _ rfl;have hS:y 1=_:=a 1 (by decide);have hR:y 2=_:=a 2 (by decide);have hD:y 3=_:=a 3 (by decide);have hQ:y 4=_:=a 4 (by decide);have hN:y 5=_:=a 5 (by decide);have hM:y 6=_:=a 6 (by decide);have hL:y 7=_:=a 7 (by decide);have hK:y 8=_:=a 8 (by decide);have hJ:y 9=_:=a 9 (by decide);obtain⟨V,U,hg,K,ymx10,J,F⟩:=a 10 (by decide);have kl:=A 36 3 rfl;rw[hD]at kl;have kk:=A 43 10 rfl;rw[hg]at kk;have EC:∀v,ρ (.const v)=v:=λv=>C (.const v) trivial;have EF:=eF0 C λ_=>trivial;refine Jc (aj) (qB (.tmp 36) (.tmp 43) 72 rfl w.heap.size 68 _ 3 24 underlying72 entry_info rfl _ _ _ kl (ha.below b) V 1 U (lZ E) kk J K rfl F (BQ E) (by unfold maxLen;omega) (bi hf.size b.size)) ?_;rintro Y w4 ⟨h,g,hc⟩;clear a A C hV;simp only[lay,Nat.reduceAdd,Nat.reduceLT,Nat.reduceEqDiff,reduceIte,decide_true,decide_false,if_true,uA,if_false,zX,uT,uB,yL,AL,yZ,hU,hS,hR,hD,hQ,hN,hM,hL,hK,hJ,hg];clear hU hS hR hD hQ hN hM hL hK hJ hg;have q:=ag hf b;have d:=ha.below b;have hA:=lI (hB.ext b) d g;have hW:=lI (hy.ext b) d g;have hh:=lI (n.ext b) d g;have z:=q.grown g q.size (λk hk=>d.ge k hk);have hm:Own w4 w.heap.size 68 3 Y (t'[k]++[E]).length ((t'[k]++[E]).flatMap lZ):=by rw[jq,fM];simpa using h
      have ki:=(Z.below b).app f hY.out hm g hc;have kw:Hid (GA l k ((l.drop (8*k)).take (j+1)) (t'.set k (t'[k]++[E]))):=ae (by
       have:=hq.out.set (h2:=(l.drop (8*k)).take (j+1)) f;have e:t'[k]++[E]=(l.drop (8*k)).take (j+1):=by rw[kx.out,hq.out.at' f]
       rw[e];exact this)
      have hZ:=Z.sz;have hG:∀u∈[Y],u.oneCell' = true:=by obtain⟨_,_,rfl,_⟩:=h.rd;intro u hu;cases bC.1 hu;rfl
      have kf:(Y.cells.toList:List Value)=[Y]:=by obtain⟨_,_,rfl,_⟩:=h.rd;rfl
      clear q d h hm hc g b hy n hB Z hq ha h3 hf F
      go_wp2_with (refine aC (x:=.tmp 45) (y:=.tmp 44) (w.heap.size+2) k [Y] rfl rfl kf _ _ hA (by rw[hZ];exact f) slent_size hG ?_)
      intro w5 kb c;rw[Pw.putAt_one] at kb;have hI:=ki.keep hA (by decide) c;have kn:=cB hW hA c;have hF:aG w5 (w.heap.size+1) _ _:=hh.grown c (λe=>by have:=aM e;omega);have x:=z.grown c z.size oG0;clear hA hW hh z ki c;go_wp2;go_roundw
      case rel=>exact⟨j+1,_,_,by omega,by go_num,x,kn,hF,kb,hI,kw⟩
      case measure=>simp[intOf];omega
     obtain rfl:j=8:=by omega
     have hH:Hid (GA l (k+1) [] t'):=ae (GA.next (by rw[p.out];exact hq.out) f);go_wp2;go_roundw
     case rel=>exact⟨k+1,ca',t',by omega,by go_num,hf,hy,n,hB,Z,hH⟩
     case measure=>simp[intOf];omega
  obtain rfl:k=8:=by omega
  have hC:=hT.out.fin;have ka:=N.rd.one;have hz:=N.sz;rw[hC]at N;clear hC
  go_wp2_with (first | (refine iy rfl 74 (.tmp 3) rfl (w.heap.size+2) 0 rfl ca.toList R.rd _ underlying74 tab_agg (by rw[jk,hz];exact tab_size) ?_) | (refine aA rfl (.tmp 2) (.tmp 47) rfl (w.heap.size+1) ca rfl rfl m (by rw[hz];rfl) (by rw[hz];exact tab_size) ka ?_))
  intro w5 kp c;have hI:=N.keep m (by decide) c;have x:Below w.heap.size w w5:=hp.grown c hp.size oG0;go_wp2;refine bodyPost_ret (v:=.agg ca) (fw results38 (w.heap.size+1) kp underlying74 (by rw[hz];exact tab_size)) rfl ?_;exact⟨_,rfl,hI,x⟩
open Go.Maps
def VJ(b:Bool):List Value:=[.bool b]
theorem IU(b:Bool):(VJ b).length=1:=rfl
theorem bool_info:(Tryz.prog.info? 4).map (λi=>(i.zero,i.size,i.bytes))=some (some (.bool false),1,1):=by kernel_rfl
theorem bool_sz:(Tryz.prog.info? 4).map (·.size)=some 1:=by kernel_rfl
theorem WP(b:Bool):∀u∈[Value.bool b],u.oneCell' = true:=by intro u d;cases bC.1 d;rfl
theorem XO{l:List Bool}(h:eu w (some ⟨b,off,none⟩) (l.flatMap VJ))(i:Nat)(x:Bool)(f:l[i]?=some x):w.cell? ⟨b,off+i,none⟩=some (.bool x):=by
 have j:=(bZ.1 f).1;obtain⟨s,d,e,n⟩:=h.elem IU (by decide) i j;cases e;have:=n 0 (.bool x) (by rw[(bZ.1 f).2];rfl);simpa using this
theorem KU(f:List PF)(k:Int)(a:Option Addr)(c:Nat)(w:World)(h:MO w a c f)(hk64 : -9223372036854775808<=k/\k<=9223372036854775807) :
  Calls Tryz.prog 99 #[.agg (MF a f.length c k)] w λr w'=>r = .returned (.int .i64 (aT (cZ f k)))/\Below w.heap.size w w':=by
 have kr:=bi h.le h.mx;unfold maxLen at kr;unfold MF;go_enter func99,ntmps99;go_upto_region 1 with(fail);refine iC (λW=>Code.wp _ _ _ _ W) λW0 hK U ko => ?_;clear ko
 by_cases J:5<f.length\/k<0\/80<k
 ·have d:Hid (aT (cZ f k)=4):=ae (by unfold aT cZ;rw[if_pos (by simpa using J)]);have S:=U.cell;have kv : 5<f.length\/(¬5<f.length/\k<0)\/(¬5<f.length/\¬k<0/\80<k):=by omega
  clear J;rcases kv with g|⟨g,g2⟩|⟨g,g2,g3⟩
  all_goals
   go_wp2;go_ret;exact⟨aY d.out.symm,hK⟩
 have m:Hid (aT (cZ f k)=pG k (((f.take 0).map PF.fi).flatMap Fi.b) ((f.drop 0).map PF.fi)):=ae (by unfold aT cZ;rw[if_neg (by simpa using J)];rfl);have g1:¬5<f.length:=by omega
 have g2:¬k<0:=by omega
 have g3:¬80<k:=by omega
 have S:=U.cell;clear J;obtain⟨N,hN⟩:∃N:Nat,k=(N:Int):=⟨k.toNat,by omega⟩;subst hN;have ky:N<=80:=by omega
 go_upto_region 4 with(refine Ii _ rfl _ _ _ rfl VJ 4 _ 1 1 false IU (by decide) underlying183 bool_info rfl .i64 .i64 N N N rfl rfl rfl rfl (by omega) (by unfold maxLen;omega) ?_);clear S;intro W1 ki hQ;have hW:Below W0.heap.size W0 W1:=lm hQ;have hE:=ag hK hW;have hR:=U.ext hW;have hG : Own W1 w.heap.size 4 1 (.slice (some ⟨W0.heap.size,0,none⟩) N N) N ((xS N (((f.take 0).map PF.fi).flatMap Fi.b)).flatMap VJ):=by simp only[List.take_zero,aZ,List.flatMap_nil];rw[TV];exact ki.mono hK.size
 obtain⟨Z,kk⟩:∃g,g=W0.heap.size:=⟨_,rfl⟩;rw[<-kk]at hG ⊢;clear kk hK U hW ki hQ;have S:=hR.cell;go_upto_region 5 with(fail);clear S
 go_loopw [28] (fun i wr => ∃(q:Nat),q<=f.length/\i = .int .i64 q/\Below w.heap.size w wr/\aG wr w.heap.size #[.slice a f.length c,.int .i64 (N:Int)] 41/\Own wr w.heap.size 4 1 (.slice (some ⟨Z,0,none⟩) N N) N ((xS N (((f.take q).map PF.fi).flatMap Fi.b)).flatMap VJ)/\Hid (aT (cZ f N)=pG N (((f.take q).map PF.fi).flatMap Fi.b) ((f.drop q).map PF.fi))) (fun i _=>f.length-(intOf i).toNat)
 case atStart=>exact⟨0,bq _,rfl,hE,hR,hG,m⟩
 case round=>
  clear hE hR hG m;obtain⟨q,hq,rfl,o,I,D,m⟩:=hrel
  by_cases hlt:q<f.length
  ·obtain⟨b,off,p,rfl,hp,c0,c1⟩:=xy (h.below o).rd q hlt;have kb:=h.good p (bP hp);have hv:=kb.below o;have hz:=drop_at hp;have hs:=take_at hp;rw[hz,bS]at m;have hL:=ae hs;clear hz hs;generalize hseen:((f.take q).map PF.fi).flatMap Fi.b=seen at D m;have hg:=ae hseen;clear hseen hp
   go_wp2_with (refine aJ rfl rfl (qI p) rfl rfl rfl file_size (rY _) ?_)
   intro w2 hF K;have z:=ag o hF;have h2:=I.ext hF;have kh:=D.below hF;have hi:=hv.below hF;clear o I D hv hF c0 c1;have hU:=K.cell;have f0:(qI p)[0]?=some (.int .i64 p.n):=rfl;have f1:(qI p)[1]?=some (.slice p.a p.l.length p.c):=rfl
   by_cases C:p.n<0\/96<p.n
   ·have d:Hid (aT (cZ f N)=3):=ae (by rw[m.out,wF,if_pos C]);have kp : p.n<0\/(¬p.n<0/\96<p.n):=by omega
    clear C;rcases kp with g|⟨g,g2⟩
    all_goals
     go_wp2;go_ret;exact⟨aY d.out.symm,z⟩
   have u:Hid (aT (cZ f N)=if(p.l.length:Int)≠eY p.n then 2 else if iB N seen p.l≠0 then iB N seen p.l else pG N (seen++p.l) ((f.drop (q+1)).map PF.fi)):=ae (by rw[m.out,wF,if_neg C]);have g4:¬p.n<0:=by omega
   have g5:¬96<p.n:=by omega
   clear C m
   by_cases A:(p.l.length:Int)=eY p.n
   ·have t:Hid (aT (cZ f N)=if iB N seen p.l≠0 then iB N seen p.l else pG N (seen++p.l) ((f.drop (q+1)).map PF.fi)):=ae (by rw[u.out,if_neg (λhh=>hh A)]);have kw:p.l.length<=12:=by have:=yM (n:=p.n) (by omega);omega
    have hV:=ae A;clear u A;go_upto_region 9 with(fail);refine aO 7 [_,_,_,_,_,.v (.int .i64 (eY p.n)),_] (Gf wr.heap.size 1 rfl rfl (Gl K (V:=.slice p.a p.l.length p.c) (by simp[f1,underlying33]) rfl rfl rfl rfl (Gn rfl rfl rfl rfl (Gf wr.heap.size 0 rfl rfl (Gl K (V:=.int .i64 p.n) (by simp[f0]) rfl rfl rfl rfl (ah ?_ (Gb (.bool false) (by simp[go_sem,hV.out]) rfl rfl rfl rfl rfl (aF))))) (underlying33)))) (λ_=>rfl) rfl ?_
    ·intro ρ y W hw hn hb hd;have h0:=hw 44 4 rfl;have J:y 4=_:=hd 4 rfl;have EF:=eF0 hn λ_=>trivial;refine aP (aS rfl (EF _) func33 (by simp only[bU,bS,aZ,h0,J,EF];rfl)) ?_;refine(zG p.n W (by omega)).mono ?_;rintro e w1 ⟨rfl,rfl⟩;exact⟨_,rfl,Below.refl _ _,rfl⟩
    intro y WA s _;have hC:=ag z s;have h1:=h2.ext s;have kf:=kh.below s;have kc:=K.ext s;have hI:=hi.below s;clear z h2 kh K hi s hU;have hU:=kc.cell;have km:Hid (iB N seen p.l=iB N (seen++p.l.take 0) (p.l.drop 0)):=ae (by simp);have kj:Own WA w.heap.size 4 1 (.slice (some ⟨Z,0,none⟩) N N) N ((xS N (seen++p.l.take 0)).flatMap VJ):=by simpa using kf
    have kz:=hI.le;have kq:=hI.mx;have hO:=hI.rd;unfold maxLen at kq;clear kf hI;go_upto_region 12 with(fail);clear hU f0 f1 kc
    go_loopw [50] (fun i wr => ∃(j:Nat),j<=p.l.length/\i = .int .i64 j/\Below w.heap.size w wr/\aG wr w.heap.size #[.slice (some ⟨b,off,none⟩) f.length c,.int .i64 (N:Int)] 41/\Own wr w.heap.size 4 1 (.slice (some ⟨Z,0,none⟩) N N) N ((xS N (seen++p.l.take j)).flatMap VJ)/\eu wr p.a (p.l.map gF)/\Hid (iB N seen p.l=iB N (seen++p.l.take j) (p.l.drop j))) (fun i _=>p.l.length-(intOf i).toNat)
    case atStart=>exact⟨0,bq _,rfl,hC,h1,kj,hO,km⟩
    case round=>
     clear hC h1 kj hO km;obtain⟨j,hj,rfl,o,I,D,hS,M⟩:=hrel
     by_cases hjl:j<p.l.length
     ·obtain⟨x,hX⟩:∃x,p.l[j]?=some x:=⟨p.l[j],aI hjl⟩;obtain⟨b2,G,hT,hc⟩:=kC hS j hjl;rw[show p.l[j]=x from(bZ.1 hX).2]at hc;have hz:=drop_at hX;have hs:=take_at hX;rw[hz,wh]at M;rw[hT];generalize hs2:seen++p.l.take j=seen2 at M D;have hf:Hid (seen++p.l.take (j+1)=seen2++[x]):=ae (by rw[hs,<-jR,hs2]);have h6:=ae hS;have hP:=ae hT;have S:=I.cell;clear hX hz hs hs2 hS hT;have ka : (j:Int)<(p.l.length:Int):=by omega
      by_cases F:x < -1\/(N:Int)<=x
      ·have d:Hid (aT (cZ f N)=3):=ae (by rw[t.out,M.out,if_pos F];rfl);have h8 : x < -1\/(¬x < -1/\(N:Int)<=x):=by omega
       clear F;rcases h8 with g6|⟨g6,g7⟩
       all_goals
        go_wp2;go_ret;exact⟨aY d.out.symm,o⟩
      have g6:¬x < -1:=by omega
      have g7:¬(N:Int)<=x:=by omega
      have R:Hid (iB N seen p.l=if 0<=x/\x∈seen2 then 7 else iB N (seen2++[x]) (p.l.drop (j+1))):=ae (by rw[M.out,if_neg F]);clear M F
      by_cases U:x<0
      ·have e1:x = -1:=by omega
       have hZ:Hid (iB N seen p.l=iB N (seen++p.l.take (j+1)) (p.l.drop (j+1))):=ae (by rw[R.out,if_neg (by omega),hf.out]);have ku:Own wr w.heap.size 4 1 (.slice (some ⟨Z,0,none⟩) N N) N ((xS N (seen++p.l.take (j+1))).flatMap VJ):=by rw[hf.out,Td _ _ _ U];exact D
       have h5:eu wr (some ⟨b2,G,none⟩) (p.l.map gF):=by rw[<-hP.out];exact h6.out
       clear R D;go_wp2;go_roundw
       case rel=>exact⟨j+1,by omega,by go_num,o,I,ku,h5,hZ⟩
       case measure=>simp[intOf];omega
      obtain⟨X,ks⟩:∃X:Nat,x=(X:Int):=⟨x.toNat,by omega⟩;subst ks;have hY:X<N:=by omega
      have kx : (X:Int)<(N:Int):=by omega
      obtain⟨_,_,hH,_,_,_,ke⟩:=D.rd;simp only[lU]at hH;obtain⟨rfl,_,rfl⟩:=hH;have hJ:=XO ke X (decide ((X:Int)∈seen2)) (JA N seen2 X hY);rw[eB]at hJ;clear ke
      by_cases Y:(X:Int)∈seen2
      ·have d:Hid (aT (cZ f N)=7):=ae (by rw[t.out,R.out,if_pos (show 0<=(X:Int)/\(X:Int)∈seen2 from⟨by omega,Y⟩)];rfl);rw[decide_eq_true Y]at hJ;clear Y R;go_wp2;go_ret;exact⟨aY d.out.symm,o⟩
      have hZ:Hid (iB N seen p.l=iB N (seen++p.l.take (j+1)) (p.l.drop (j+1))):=ae (by rw[R.out,if_neg (λhh=>Y hh.2),hf.out]);rw[decide_eq_false Y]at hJ;clear Y R;obtain⟨g3,off3,cap3,cur3,hH,kl,hA,hy,ht⟩:=nP IU (BA N seen2) D X hY;cases hH
      go_wp2_with (refine aC Z X [.bool true] rfl rfl rfl cur3 4 hA (by simpa using hy) bool_sz (WP true) ?_)
      intro w6 kd hu;have kg:=ht w6 true (by rw[eB,uo];exact kd);rw[RL _ _ _ hY,<-hf.out]at kg;have hD:=o.grown hu o.size (λk hk=>by cases hk;exact kl);have kn:=cB I hA hu;have h3:eu w6 (some ⟨b2,G,none⟩) (p.l.map gF):=by have h9:=kb.rd.below hD;rw[hP.out]at h9;exact h9
      clear o I D hu S hc ht hA kd hJ hy;go_wp2;go_roundw
      case rel=>exact⟨j+1,by omega,by go_num,hD,kn,kg,h3,hZ⟩
      case measure=>simp[intOf];omega
     have d:Hid (aT (cZ f N)=pG N (((f.take (q+1)).map PF.fi).flatMap Fi.b) ((f.drop (q+1)).map PF.fi)):=ae (by
      have e0:iB N seen p.l=0:=by rw[M.out,rA (by omega)];rfl
      rw[t.out,if_neg (λhh=>hh e0),hL.out,jM,fM,hg.out];simp[PF.fi])
     have kt:Own wr w.heap.size 4 1 (.slice (some ⟨Z,0,none⟩) N N) N ((xS N (((f.take (q+1)).map PF.fi).flatMap Fi.b)).flatMap VJ):=by rw[jD (by omega)]at D;rw[hL.out,jM,fM,hg.out];simpa[PF.fi]using D
     have ka : ¬(j:Int)<(p.l.length:Int):=by omega
     clear D M t;go_wp2;go_roundw
     case rel=>exact⟨q+1,by omega,by go_num,o,I,kt,d⟩
     case measure=>simp[intOf];omega
   have d:Hid (aT (cZ f N)=2):=ae (by rw[u.out,if_pos A]);have hV:((p.l.length:Int) != eY p.n)=true:=by rw[bne_iff_ne];exact A
   clear u A;go_upto_region 9 with(fail);refine aO 7 [_,_,_,_,_,.v (.int .i64 (eY p.n)),_] (Gf wr.heap.size 1 rfl rfl (Gl K (V:=.slice p.a p.l.length p.c) (by simp[f1,underlying33]) rfl rfl rfl rfl (Gn rfl rfl rfl rfl (Gf wr.heap.size 0 rfl rfl (Gl K (V:=.int .i64 p.n) (by simp[f0]) rfl rfl rfl rfl (ah ?_ (Gb (.bool true) (by simp[go_sem,hV]) rfl rfl rfl rfl rfl (aF))))) (underlying33)))) (λ_=>rfl) rfl ?_
   ·intro ρ y W hw hn hb hd;have h0:=hw 44 4 rfl;have J:y 4=_:=hd 4 rfl;have EF:=eF0 hn λ_=>trivial;refine aP (aS rfl (EF _) func33 (by simp only[bU,bS,aZ,h0,J,EF];rfl)) ?_;refine(zG p.n W (by omega)).mono ?_;rintro e w1 ⟨rfl,rfl⟩;exact⟨_,rfl,Below.refl _ _,rfl⟩
   intro y WA s _;go_wp2;go_ret;exact⟨aY d.out.symm,ag z s⟩
  have d:Hid (aT (cZ f N)=0):=ae (by rw[m.out,rA (by omega)];rfl);go_wp2;go_ret;exact⟨aY d.out.symm,o⟩
def wZ(o:Option Pg):Array Value:=#[.bool o.isSome,.bool (oR o),.bool (oW o),.bool (oH o),.int .i64 (oF o),.int .i64 (oP o)]
def qW(o:Option Pg):List Value:=(wZ o).toList
theorem pK(o:Option Pg):(qW o).length=6:=rfl
theorem TC(o:Option Pg):∀u∈qW o,u.oneCell' = true:=by
 intro u d;simp only[qW,wZ,dz,ib,or_false]at d;rcases d with rfl|rfl|rfl|rfl|rfl|rfl<;>rfl
theorem Me(o:Option Pg):(wZ o).all (·.oneCell')=true:=by simp[wZ,Value.oneCell']
def OZ(l:List (Option Pg)):Array Value:=(l.flatMap qW).toArray
theorem WG(l:List (Option Pg)):(l.flatMap qW).length=l.length*6:=Pw.flat_len qW 6 pK l
theorem Bi(l:List (Option Pg)):(OZ l).size=l.length*6:=by
 unfold OZ;rw[List.size_toArray,WG]
theorem Bz(l:List (Option Pg)):(OZ l).all (·.oneCell')=true:=by
 rw[<-mD,fD];intro u d;obtain⟨o,_,h⟩:=lg.1 (show u∈l.flatMap qW by simpa[OZ]using d);exact TC o u h
theorem VO(l:List (Option Pg))(k:Nat)(u:k<l.length)(x:Option Pg):bH (OZ l) (k*6) (qW x)=OZ (l.set k x):=by
 apply mI;intro i
 by_cases z:i<l.length*6
 ·have d:i / 6<l.length:=by omega
  have b:i=i / 6*6+i%6:=by omega
  have h2:=ku qW 6 pK (l.set k x) (i / 6) (by simpa using d) (i%6) (by omega);rw[<-b]at h2;have f:=ku qW 6 pK l (i / 6) d (i%6) (by omega);rw[<-b]at f;have n:(OZ (l.set k x))[i]?=((l.set k x).flatMap qW)[i]?:=by simp[OZ]
  have s:(OZ l)[i]?=(l.flatMap qW)[i]?:=by simp[OZ]
  by_cases e:i / 6=k
  ·have c:i=k*6+i%6:=by omega
   have a:i%6<(qW x).length:=by rw[pK];omega
   have j:=putAt_in (qW x) (OZ l) (k*6) (i%6) (qW x)[i%6] (by rw[pK,Bi];omega) (aI a);rw[<-c]at j;rw[j,n,h2];simp only[e,JE];exact(aI a).symm
  rw[putAt_out _ _ _ _ (by rw[pK];omega),n,h2,s,f];congr 2;rw[Dj (λh=>e h.symm)]
 ·rw[mM (by rw[size_putAt,Bi];omega),mM (by rw[Bi,bI];omega)]
def fC(f:Nat->Option Pg):Array Value:=OZ (OT f)
theorem ky(f:Nat->Option Pg):(fC f).size=384:=by unfold fC;rw[Bi,xU]
theorem Sd(f:Nat->Option Pg)(k:Nat)(d:k<64)(x:Option Pg):bH (fC f) (k*6) (qW x)=fC (λi=>if i=k then x else f i):=by
 unfold fC;rw[VO _ _ (by rw[xU];exact d),Vo]
theorem TT(cur:Array Value)(o:Nat)(a b c d e x y:Value):bH (bH cur o [a,b,c,d,e,x]) (o+5) [y]=bH cur o [a,b,c,d,e,y]:=by
 simp[bH]
theorem one_size:(Tryz.prog.info? 80).map (·.size)=some 6:=by kernel_rfl
theorem ones_size:(Tryz.prog.info? 81).map (·.size)=some 384:=by kernel_rfl
theorem pR(l:List Ar)(a:Option Addr)(c:Nat)(w:World)(h:eu w a (l.flatMap mV))(hl:l.length<=1000)(hok:∀x∈l,aX x=0) :
  Calls Tryz.prog 24 #[.slice a l.length c] w λr w'=>r = .returned (.agg (fC (dm l)))/\Below w.heap.size w w':=by
 go_enter func24,ntmps24;go_upto_region 2 with(fail);refine tY (λW=>Code.wp _ _ _ _ W) λW0 hy j M hE => ?_;clear hE;replace M:aG W0 (w.heap.size+1) (fC f0) 81:=M;replace j:aG W0 w.heap.size (fC f0) 81:=j;go_upto_region 3 with(fail)
 go_loopw [9] (fun i wr => ∃k:Nat,k<=l.length/\i = .int .i64 k/\Below w.heap.size w wr/\aG wr (w.heap.size+1) (fC (dm (l.take k))) 81/\aG wr w.heap.size (fC f0) 81) (fun i _=>l.length-(intOf i).toNat)
 case atStart=>exact⟨0,bq _,rfl,hy,M,j⟩
 case round=>
  clear hy M j;obtain⟨k,hk,rfl,d,t,hi⟩:=hrel
  by_cases C:k<l.length
  ·have hI:=ae (NU C);have hA:=bM (hok l[k] (fe _));obtain⟨⟨f1,f2,f3⟩,f4,f5,f6,_,_⟩:=hA;generalize hF:dm (l.take k)=F at *
   obtain⟨b,off,rfl,c0,c1,c2,c3,c4,c5,c6⟩:=NB (h.below d) k C;generalize l[k]=A at *
   go_upto_region 5 with(fail);refine iC (λW=>Code.wp _ _ _ _ W) λW1 J S hD => ?_;clear hD c0 c1 c2 c3 c4 c5 c6;have y:=ag d J;have hv:=t.ext J;have hs:=hi.ext J;have hK:w.heap.size+1<wr.heap.size:=t.lt;clear d t hi J;obtain⟨gx,hg⟩:∃g,g=wr.heap.size:=⟨_,rfl⟩;rw[<-hg]at S hK ⊢;clear hg;obtain⟨N,hN⟩:∃N:Nat,A.fr=(N:Int):=⟨A.fr.toNat,by omega⟩;have I:=ae hN;clear hN;have n:=S.cell;go_upto_region 6 with(fail);clear n
   go_loopw [6] (fun i wr => ∃K:Nat,A.fr<=(K:Int)/\(K:Int)<=A.en/\i = .int .i64 K/\Below w.heap.size w wr/\aG wr gx (kH A) 94/\aG wr (w.heap.size+1) (fC (Kq A K F)) 81/\aG wr w.heap.size (fC f0) 81) (fun i _=>(A.en-intOf i).toNat)
   case atStart=>exact⟨N,by have:=I.out;omega,by have:=I.out;omega,by rw[I.out],y,S,by rw[<-I.out,Re];exact hv,hs⟩
   case round=>
    clear y S hv hs;obtain⟨K,hM,hQ,rfl,d,Y,G,Z⟩:=hrel;have n:=Y.cell;unfold kH at n
    by_cases hKe:(K:Int)<A.en
    ·have hB:K<64:=by omega
     have hL:(K:Int)<64:=by omega
     have hh:Hid (K*6+6<=(fC (Kq A K F)).size):=ae (by rw[ky];omega);have hP:IntKind.i64.wrap (A.ba+(K:Int))=A.ba+(K:Int):=bK _ (by omega);have hO:IntKind.i64.wrap (A.ba+(K:Int)-A.fr)=A.ba+(K:Int)-A.fr:=bK _ (by omega);have s:Hid (∀q:Int,q=(if 0<=A.fi then A.ba+(K:Int)-A.fr else 0)->bH (fC (Kq A K F)) (K*6) [.bool true,.bool A.rd,.bool A.wr,.bool A.sh,.int .i64 A.fi,.int .i64 q]=fC (Kq A ((K:Int)+1) F)):=ae (λq hq=>by rw[<-Us hM,<-Sd _ K hB,hq];rfl);go_upto_region 9 with(refine gD rfl _ _ _ rfl (w.heap.size+1) (K*6) #[.bool true,.bool A.rd,.bool A.wr,.bool A.sh,.int .i64 A.fi,.int .i64 0] rfl rfl _ _ G hh.out one_size (by simp[Value.oneCell']) ?_);intro V R p;have m:Below w.heap.size w V:=d.grown p d.size oG0;have z:aG V gx (kH A) 94:=Y.grown p (λe=>by have:=aM e;omega);have hm:aG V w.heap.size (fC f0) 81:=Z.grown p (λe=>by have:=aM e;omega);clear d Y G Z p n;have n:=z.cell;unfold kH at n
     by_cases D:0<=A.fi
     ·go_upto_region 7 with(refine aC (w.heap.size+1) (K*6+5) (v:=.int .i64 (A.ba+(K:Int)-A.fr)) [.int .i64 (A.ba+(K:Int)-A.fr)] rfl rfl rfl _ _ R (by rw[size_putAt];exact hh.out) int_size (by simp[Value.oneCell']) ?_);intro U hu o;have hp:Below w.heap.size w U:=m.grown o m.size oG0;have hC:aG U gx (kH A) 94:=z.grown o (λe=>by have:=aM e;omega);have hH:aG U w.heap.size (fC f0) 81:=hm.grown o (λe=>by have:=aM e;omega);have u:aG U (w.heap.size+1) (fC (Kq A ((K:Int)+1) F)) 81:=by rw[<-s.out _ (by rw[if_pos D]),<-TT];exact hu
      clear m z R hm hu o n s;go_wp2;go_roundw
      case rel=>exact⟨K+1,by omega,by omega,by go_num,hp,hC,u,hH⟩
      case measure=>simp[intOf];omega
     have u:aG V (w.heap.size+1) (fC (Kq A ((K:Int)+1) F)) 81:=by rw[<-s.out 0 (by rw[if_neg D])];exact R
     clear R s;go_wp2;go_roundw
     case rel=>exact⟨K+1,by omega,by omega,by go_num,m,z,u,hm⟩
     case measure=>simp[intOf];omega
    have hz:(K:Int)=A.en:=by omega
    have u:aG wr (w.heap.size+1) (fC (dm (l.take (k+1)))) 81:=by rw[hI.out,<-hz];exact G
    clear G hz;go_wp2;go_roundw
    case rel=>exact⟨k+1,by omega,by go_num,d,u,Z⟩
    case measure=>simp[intOf];omega
  have hJ:k=l.length:=by omega
  subst hJ;rw[yu]at t;have f:Hid ((fC (dm l)).size=384):=ae (ky _);have hj:Hid ((fC f0).size=384):=ae (ky _);have ht:(fC (dm l)).all (·.oneCell')=true:=Bz _
  go_wp2_with (first | (refine iy rfl 81 (.tmp 3) rfl (w.heap.size+1) 0 rfl (fC (dm l)).toList t.rd _ underlying81 rfl (by rw[jk,f.out];exact ones_size) ?_) | (refine aA rfl (.tmp 2) (.tmp 46) rfl w.heap.size (fC (dm l)) rfl rfl hi (by rw[f.out,hj.out]) (by rw[f.out];exact ones_size) ht ?_))
  intro w5 hG hw;have hn:Below w.heap.size w w5:=d.grown hw d.size oG0;go_wp2;refine bodyPost_ret (v:=.agg (fC (dm l))) (fw results24 w.heap.size hG underlying81 (by rw[f.out];exact ones_size)) rfl ?_;exact⟨rfl,hn⟩
theorem Ik(a:Ar)(w:World):Calls Tryz.prog 121 #[.agg (kH a)] w λr w'=>r = .returned (.int .i64 (aX a))/\Below w.heap.size w w':=by
 unfold kH;go_enter func121,ntmps121;go_upto_region 1 with(fail);refine iC (λW=>Code.wp _ _ _ _ W) λW0 b e f => ?_;clear f;have d:=e.cell
 by_cases J:a.fr<0
 ·have j:Hid (aX a=3):=ae (by unfold aX;rw[if_pos (by omega)]);go_wp2;go_ret;exact⟨aY j.out.symm,b⟩
 by_cases I:64<a.en
 ·have j:Hid (aX a=3):=ae (by unfold aX;rw[if_pos (by omega)]);go_wp2;go_ret;exact⟨aY j.out.symm,b⟩
 by_cases G:a.en<=a.fr
 ·have j:Hid (aX a=3):=ae (by unfold aX;rw[if_pos (by omega)]);go_wp2;go_ret;exact⟨aY j.out.symm,b⟩
 by_cases F:a.fi < -1
 ·have j:Hid (aX a=3):=ae (by unfold aX;rw[if_pos (by omega)]);go_wp2;go_ret;exact⟨aY j.out.symm,b⟩
 by_cases D:4<a.fi
 ·have j:Hid (aX a=3):=ae (by unfold aX;rw[if_pos (by omega)]);go_wp2;go_ret;exact⟨aY j.out.symm,b⟩
 by_cases C:a.ba<0
 ·have j:Hid (aX a=3):=ae (by unfold aX;rw[if_pos (by omega)]);go_wp2;go_ret;exact⟨aY j.out.symm,b⟩
 have c:¬(a.fr<0\/a.en<=a.fr\/64<a.en\/a.fi < -1\/5<=a.fi\/a.ba<0):=by omega
 have h:IntKind.i64.wrap (a.en-a.fr)=a.en-a.fr:=bK _ (by omega);have g:IntKind.i64.wrap (12-(a.en-a.fr))=12-(a.en-a.fr):=bK _ (by omega)
 by_cases n:a.fi = -1
 ·have u : (a.fi == -1)=true:=by simpa using n
  by_cases s:a.ba=0
  ·have z : ¬0<a.ba:=by omega
   cases f3:a.sh
   ·have j:Hid (aX a=0):=ae (by unfold aX;rw[if_neg c,if_neg (by rw[f3];simp;omega)]);have K:¬0<=a.fi:=by omega
    clear c n s;rw[f3]at d;go_wp2;go_ret;exact⟨aY j.out.symm,b⟩
   have j:Hid (aX a=7):=ae (by unfold aX;rw[if_neg c,if_pos (.inl ⟨by omega,.inr f3⟩)]);clear c n s;rw[f3]at d;go_wp2;go_ret;exact⟨aY j.out.symm,b⟩
  have j:Hid (aX a=7):=ae (by unfold aX;rw[if_neg c,if_pos (.inl ⟨by omega,.inl s⟩)]);have z : 0<a.ba:=by omega
  clear c n s;go_wp2;go_ret;exact⟨aY j.out.symm,b⟩
 have u : 0<=a.fi:=by omega
 have A : (a.fi == -1)=false:=by simpa using n
 by_cases s:12-(a.en-a.fr)<a.ba
 ·have j:Hid (aX a=7):=ae (by unfold aX;rw[if_neg c,if_pos (.inr ⟨u,s⟩)]);clear c n;go_wp2;go_ret;exact⟨aY j.out.symm,b⟩
 have j:Hid (aX a=0):=ae (by unfold aX;rw[if_neg c,if_neg (by omega)]);clear c n;go_wp2;go_ret;exact⟨aY j.out.symm,b⟩
theorem XD(p q:Pg)(b:Bool)(h:(p==q)=b)(W:World):(Op.equalIn 10000 80 (.agg #[.bool true,.bool p.rd,.bool p.wr,.bool p.sh,.int .i64 p.fi,.int .i64 p.pg]) (.agg #[.bool true,.bool q.rd,.bool q.wr,.bool q.sh,.int .i64 q.fi,.int .i64 q.pg])).run Tryz.prog W = .ok b W:=by
 rw[<-h,Xo]
 by_cases d:p.rd=q.rd
 ·by_cases f:p.wr=q.wr
  ·by_cases j:p.sh=q.sh
   ·by_cases n:(p.fi==q.fi)=true
    ·by_cases s:p.pg=q.pg<;>simp[go_sem,d,f,j,n,s]
    ·simp[go_sem,d,f,j,n]
   ·simp[go_sem,d,f,j]
  ·simp[go_sem,d,f]
 ·simp[go_sem,d]
theorem Xi(q:Pg)(x:Int)(W:World):(Op.equalIn 10000 80 (.agg #[.bool false,.bool false,.bool false,.bool false,.int .i64 0,.int .i64 x]) (.agg #[.bool true,.bool q.rd,.bool q.wr,.bool q.sh,.int .i64 q.fi,.int .i64 q.pg])).run Tryz.prog W = .ok false W:=by
 simp[go_sem]
theorem OO(f:Nat->Option Pg)(k:Nat)(d:k<64):(fC f).extract (k*6) (k*6+6)=wZ (f k):=by
 apply mI;intro i
 by_cases j:i<6
 ·rw[Array.getElem?_extract,if_pos (by rw[ky];omega)];have:=ku qW 6 pK (OT f) k (by rw[xU];exact d) i j;have e:(fC f)[k*6+i]?=((OT f).flatMap qW)[k*6+i]?:=by simp[fC,OZ]
  have n:(OT f)[k]'(by rw[xU];exact d)=f k:=by simp[OT]
  rw[e,this,n];simp[qW]
 ·rw[mM (by simp;omega),mM (by simp[wZ];omega)]
theorem AU(f:Nat->Option Pg)(k j:Nat)(d:k<64)(u:Value)(h:(qW (f k))[j]?=some u)(n:j<6):(fC f)[k*6+j]?=some u:=by
 have:=ku qW 6 pK (OT f) k (by rw[xU];exact d) j n;have e:(fC f)[k*6+j]?=((OT f).flatMap qW)[k*6+j]?:=by simp[fC,OZ]
 have s:(OT f)[k]'(by rw[xU];exact d)=f k:=by simp[OT]
 rw[e,this,s];exact h
theorem yR(f:Nat->Option Pg)(k:Nat)(d:k<64)(o:Option Pg)(j:f k=o)(w:World):(Instr.index 81 (.agg (fC f)) (.int .i64 k)).run Tryz.prog w = .ok (.agg (wZ o)) w:=
 xK underlying81 underlying80 rfl one_size _ k _ d (by rw[<-j];exact OO f k d) _ w
theorem wQ{a:Act}(z:o.guard=none)(t t' : TypeId)(x y:Operand)(u:o.op = .binOp .eql t x y t')(f d:Value)(n:a.eval x=f)(j:a.eval y=d)(B:Bool)
 (s:(do eqGuard .eql t x y f d;binOp .eql t f d:Sem Value).run P w = .ok (.bool B) w) (h:wpList P ops Q rest (a.put o.dst (.bool B)) w):wpList P ops Q (o::rest) a w:=
 wpList_plain z λK A=>by unfold Oper.wp;rw[qC u n j s];exact A _ _ h
theorem RF(p q:Pg)(b:Bool)(h:(p==q)=b)(x y:Operand)(W:World):(do eqGuard .eql 80 x y (.agg #[.bool true,.bool p.rd,.bool p.wr,.bool p.sh,.int .i64 p.fi,.int .i64 p.pg]) (.agg #[.bool true,.bool q.rd,.bool q.wr,.bool q.sh,.int .i64 q.fi,.int .i64 q.pg]);binOp .eql 80 (.agg #[.bool true,.bool p.rd,.bool p.wr,.bool p.sh,.int .i64 p.fi,.int .i64 p.pg]) (.agg #[.bool true,.bool q.rd,.bool q.wr,.bool q.sh,.int .i64 q.fi,.int .i64 q.pg]):Sem Value).run Tryz.prog W = .ok (.bool b) W:=by
 have d:=XD p q b h;simp[go_sem,d]
theorem Ox(q:Pg)(z:Int)(x y:Operand)(W:World):(do eqGuard .eql 80 x y (.agg #[.bool false,.bool false,.bool false,.bool false,.int .i64 0,.int .i64 z]) (.agg #[.bool true,.bool q.rd,.bool q.wr,.bool q.sh,.int .i64 q.fi,.int .i64 q.pg]);binOp .eql 80 (.agg #[.bool false,.bool false,.bool false,.bool false,.int .i64 0,.int .i64 z]) (.agg #[.bool true,.bool q.rd,.bool q.wr,.bool q.sh,.int .i64 q.fi,.int .i64 q.pg]):Sem Value).run Tryz.prog W = .ok (.bool false) W:=by
 have d:=Xi q z;simp[go_sem,d]
theorem Cn(f:Nat->Option Pg)(w:World)(hf:∀i p,f i=some p->0<=p.pg/\p.pg<=100) :
  Calls Tryz.prog 144 #[.agg (fC f)] w λr w' => ∃v,r = .returned v/\Own w' w.heap.size 94 7 v (lY f 64).length ((lY f 64).flatMap mV)/\Below w.heap.size w w':=by
 have hM:=ae (ky f);go_enter func144,ntmps144;go_upto_region 1 with(fail);refine iC (λW=>Code.wp _ _ _ _ W) λW0 h7 hJ hv => ?_;clear hv;go_upto_region 3 with(refine ay _ 0 _ hJ.rd _ underlying81 rfl (by rw[jk,hM.out];exact ones_size) ?_)
 go_loopw [9,3] (fun i u wr => ∃k:Nat,k<=64/\i = .int .i64 k/\Below w.heap.size w wr/\aG wr w.heap.size (fC f) 81/\Own wr w.heap.size 94 7 u (lY f k).length ((lY f k).flatMap mV)) (fun i _ _=>64-(intOf i).toNat)
 case atStart=>exact⟨0,bq _,rfl,h7,hJ,by simpa[lY]using Own.nil _ _ _ _⟩
 case round=>
  clear h7 hJ;obtain⟨k,hk,rfl,a,o,b⟩:=hrel
  by_cases hlt:k<64
  ·have kf:(k:Int)<64:=by omega
   have ki:=JP f k;cases hfk:f k with
   | none=>
    have hQ:=yR f k hlt none hfk;unfold wZ oR oW oH oF oP at hQ;have D:=ae (Sa hfk);go_upto_region 5 with (fail);refine iC (λW=>Code.wp _ _ _ _ W) λW1 U R hO => ?_;have G:=R.cell;have hW:=ag a U;have h6:=o.ext U;have hA:=b.below U;clear hO U a o b;rw[<-D.out] at hA;go_wp2;go_roundw
    case rel=>exact⟨k+1,by omega,by go_num,hW,h6,hA⟩
    case measure=>simp[intOf];omega
   | some p=>
    have hQ:=yR f k hlt (some p) hfk;unfold wZ oR oW oH oF oP at hQ;go_upto_region 5 with(fail);refine iC (λW=>Code.wp _ _ _ _ W) λW1 U R hO => ?_;have a:=ag a U;have o:=o.ext U;have b:=b.below U;clear hO U;obtain⟨gx,h5⟩:∃g,g=wr.heap.size:=⟨_,rfl⟩;rw[<-h5]at R ⊢;clear h5;generalize hacc:lY f k=acc at *
    obtain⟨au,cu,rfl,_⟩:=b.rd;have G:=R.cell;have kh:IntKind.i64.wrap ((k:Int)+1)=(k:Int)+1:=bK _ (by omega)
    by_cases hk0:k=0
    ·have hv:nC f k p=false:=by rw[hk0];rfl
     have D:Hid (lY f (k+1)=acc++[gG k p]):=ae (by rw[Du hfk hv,hacc]);have h4:¬(0:Int)<(k:Int):=by omega
     have h3:¬0<k:=by omega
     clear hk0 hv hfk hacc;go_upto_region 14 with(fail)
     go_wp2_with (at_builtin;refine fQ 71 rfl w.heap.size 94 _ 7 40 underlying71 area_info acc.length (acc.flatMap mV) rfl (b.alloc _) (some ⟨W1.heap.size,0,none⟩) 1 1 (mV (gG k p)) rfl (λh=>(by cases h)) (az _) rfl (eu.new _ (kH (gG k p)) _) (λu S=>sN [gG k p] u (by simpa using S)) (by unfold maxLen;omega) (by omega) (dE a.size) ?_)
     intro v C d l;have t:Below w.heap.size w C:=(a.alloc a.size _).grown l (dE a.size) (b.alloc (.cells (kH (gG k p)) 94)).ge;have x:aG C w.heap.size (fC f) 81:=lI (o.alloc (.cells (kH (gG k p)) 94)) (b.alloc (.cells (kH (gG k p)) 94)) l;have s:Own C w.heap.size 94 7 v (lY f (k+1)).length ((lY f (k+1)).flatMap mV):=by rw[D.out,fM,jq];simpa using d
     clear d l;go_wp2;go_roundw
     case rel=>exact⟨k+1,by omega,by go_num,t,x,s⟩
     case measure=>simp[intOf];omega
    obtain⟨m,hm⟩:∃m,k=m+1:=⟨k-1,by omega⟩;have h4:(0:Int)<(k:Int):=by omega
    have h3:0<k:=by omega
    have kg:IntKind.i64.wrap ((k:Int)-1)=(m:Int):=by rw[bK _ (by omega)];omega
    have h1:m<64:=by omega
    have kb:(m:Int)<64:=by omega
    have hH:∀z,nC f k z=(match f m with | some q=>qU z q==z | none=>false):=λz=>by subst hm;rfl
    have c:∀j u,(qW (f m))[j]?=some u->j<6->W1.cell? ⟨w.heap.size,m*6+j,none⟩=some u:=λj u h hj=>by rw[o.cell];exact AU f m j h1 u h hj
    have h0:=ae hm;clear hm hk0;cases hfm:f m with
    | none=>
     have hv:nC f k p=false:=by rw[hH,hfm]
     have D:Hid (lY f (k+1)=acc++[gG k p]):=ae (by rw[Du hfk hv,hacc]);rw[hfm]at c;have d0:=c 0 _ rfl (by decide);have d1:=c 1 _ rfl (by decide);have d2:=c 2 _ rfl (by decide);have d3:=c 3 _ rfl (by decide);have d4:=c 4 _ rfl (by decide);have d5:=c 5 _ rfl (by decide);simp only[iK,Option.isSome,oR,oW,oH,oF,oP]at d0 d1 d2 d3 d4 d5;clear hH c hv hfk hacc;have hZ:IntKind.i64.wrap (0+1)=1:=by rw[bK _ (by omega)];try rfl
     go_upto_region 9 with(fail);refine iC (λW=>Code.wp _ _ _ _ W) λW2 J F hN => ?_;have a:=ag a J;have Z:=o.ext J;have y:=b.below J;have K:=R.ext J;have hD:gx<W1.heap.size:=R.lt;have hR:w.heap.size<W1.heap.size:=o.lt;have hS:=a.size;clear hN J o b R G d0 d1 d2 d3 d4 d5;have G:=K.cell
     by_cases Y:0<=p.fi
     ·obtain⟨gy,hs⟩:∃g,g=W1.heap.size:=⟨_,rfl⟩;rw[<-hs]at F hD hR ⊢;clear hs;have hU:=F.cell;go_upto_region 11 with(refine aC gy 5 (v:=.int .i64 (1)) [.int .i64 (1)] rfl rfl rfl _ _ F (by simp) int_size (by simp[Value.oneCell']) ?_);intro I hy M;have hx:aG I gy #[.bool false,.bool (false),.bool (false),.bool (false),.int .i64 (0),.int .i64 (1)] 80:=hy;have a:=a.grown M a.size oG0;have ht:aG I w.heap.size (fC f) 81:=Z.grown M (λe=>by have:=aM e;omega);have hz:aG I gx #[.bool true,.bool p.rd,.bool p.wr,.bool p.sh,.int .i64 p.fi,.int .i64 p.pg] 80:=K.grown M (λe=>by have:=aM e;omega);have b:=ax y F M;have o:=ht;clear F hy Z K y M G hU ht hS;have N:=Ox p 1;go_upto_region 12 with(first | (refine ay _ 0 _ hx.rd _ underlying80 rfl one_size ?_) | (refine ay _ 0 _ hz.rd _ underlying80 rfl one_size ?_) | (refine wQ rfl _ _ _ _ rfl _ _ rfl rfl _ (N _ _ _) ?_));clear N hx;have G:=hz.cell;go_upto_region 14 with(fail)
      go_wp2_with (at_builtin;refine fQ 71 rfl w.heap.size 94 _ 7 40 underlying71 area_info acc.length (acc.flatMap mV) rfl (b.alloc _) (some ⟨I.heap.size,0,none⟩) 1 1 (mV (gG k p)) rfl (λh=>(by cases h)) (az _) rfl (eu.new _ (kH (gG k p)) _) (λu S=>sN [gG k p] u (by simpa using S)) (by unfold maxLen;omega) (by omega) (dE a.size) ?_)
      intro v C d l;have t:Below w.heap.size w C:=(a.alloc a.size _).grown l (dE a.size) (b.alloc (.cells (kH (gG k p)) 94)).ge;have x:aG C w.heap.size (fC f) 81:=lI (o.alloc (.cells (kH (gG k p)) 94)) (b.alloc (.cells (kH (gG k p)) 94)) l;have s:Own C w.heap.size 94 7 v (lY f (k+1)).length ((lY f (k+1)).flatMap mV):=by rw[D.out,fM,jq];simpa using d
      clear d l;go_wp2;go_roundw
      case rel=>exact⟨k+1,by omega,by go_num,t,x,s⟩
      case measure=>simp[intOf];omega
     have o:=Z;have b:=y;clear Z y;have hI : ¬0<=p.fi:=Y;have N:=Ox p 0;go_upto_region 12 with(first | (refine ay _ 0 _ F.rd _ underlying80 rfl one_size ?_) | (refine ay _ 0 _ K.rd _ underlying80 rfl one_size ?_) | (refine wQ rfl _ _ _ _ rfl _ _ rfl rfl _ (N _ _ _) ?_));clear N F;have G:=K.cell;go_upto_region 14 with(fail)
     go_wp2_with (at_builtin;refine fQ 71 rfl w.heap.size 94 _ 7 40 underlying71 area_info acc.length (acc.flatMap mV) rfl (b.alloc _) (some ⟨W2.heap.size,0,none⟩) 1 1 (mV (gG k p)) rfl (λh=>(by cases h)) (az _) rfl (eu.new _ (kH (gG k p)) _) (λu S=>sN [gG k p] u (by simpa using S)) (by unfold maxLen;omega) (by omega) (dE a.size) ?_)
     intro v C d l;have t:Below w.heap.size w C:=(a.alloc a.size _).grown l (dE a.size) (b.alloc (.cells (kH (gG k p)) 94)).ge;have x:aG C w.heap.size (fC f) 81:=lI (o.alloc (.cells (kH (gG k p)) 94)) (b.alloc (.cells (kH (gG k p)) 94)) l;have s:Own C w.heap.size 94 7 v (lY f (k+1)).length ((lY f (k+1)).flatMap mV):=by rw[D.out,fM,jq];simpa using d
     clear d l;go_wp2;go_roundw
     case rel=>exact⟨k+1,by omega,by go_num,t,x,s⟩
     case measure=>simp[intOf];omega
    | some q=>
     have kj:=hf m q hfm;have hi:=hH p;rw[hfm]at hi c;simp only[]at hi;have d0:=c 0 _ rfl (by decide);have d1:=c 1 _ rfl (by decide);have d2:=c 2 _ rfl (by decide);have d3:=c 3 _ rfl (by decide);have d4:=c 4 _ rfl (by decide);have d5:=c 5 _ rfl (by decide);simp only[iK,Option.isSome,oR,oW,oH,oF,oP]at d0 d1 d2 d3 d4 d5;generalize hBe:(qU p q==p)=B at hi;have hw:=ae hi;clear hH c hi;have kd:0<=p.fi->((⟨q.rd,q.wr,q.sh,q.fi,q.pg+1⟩:Pg)==p)=B:=λh=>by rw[<-hBe];unfold qU;rw[if_pos h]
     have ke:¬0<=p.fi->(q==p)=B:=λh=>by rw[<-hBe];unfold qU;rw[if_neg h]
     clear hBe;have hZ:IntKind.i64.wrap (q.pg+1)=(q.pg+1):=by rw[bK _ (by omega)];try rfl
     go_upto_region 9 with(fail);refine iC (λW=>Code.wp _ _ _ _ W) λW2 J F hN => ?_;have a:=ag a J;have Z:=o.ext J;have y:=b.below J;have K:=R.ext J;have hD:gx<W1.heap.size:=R.lt;have hR:w.heap.size<W1.heap.size:=o.lt;have hS:=a.size;clear hN J o b R G d0 d1 d2 d3 d4 d5;have G:=K.cell
     by_cases Y:0<=p.fi
     ·obtain⟨gy,hs⟩:∃g,g=W1.heap.size:=⟨_,rfl⟩;rw[<-hs]at F hD hR ⊢;clear hs;have hU:=F.cell;go_upto_region 11 with(refine aC gy 5 (v:=.int .i64 ((q.pg+1))) [.int .i64 ((q.pg+1))] rfl rfl rfl _ _ F (by simp) int_size (by simp[Value.oneCell']) ?_);intro I hy M;have hx:aG I gy #[.bool true,.bool (q.rd),.bool (q.wr),.bool (q.sh),.int .i64 (q.fi),.int .i64 ((q.pg+1))] 80:=hy;have a:=a.grown M a.size oG0;have ht:aG I w.heap.size (fC f) 81:=Z.grown M (λe=>by have:=aM e;omega);have hz:aG I gx #[.bool true,.bool p.rd,.bool p.wr,.bool p.sh,.int .i64 p.fi,.int .i64 p.pg] 80:=K.grown M (λe=>by have:=aM e;omega);have b:=ax y F M;have o:=ht;clear F hy Z K y M G hU ht hS;have N:=RF ⟨q.rd,q.wr,q.sh,q.fi,q.pg+1⟩ p B (kd Y);go_upto_region 12 with(first | (refine ay _ 0 _ hx.rd _ underlying80 rfl one_size ?_) | (refine ay _ 0 _ hz.rd _ underlying80 rfl one_size ?_) | (refine wQ rfl _ _ _ _ rfl _ _ rfl rfl _ (N _ _ _) ?_));clear N hx;have G:=hz.cell
      by_cases hB:B=true
      ·subst hB;have D:=ae (Ua hfk hw.out);rw[hacc]at D;have ka:0<acc.length:=by have:=SN f hfm;rw[<-h0.out,hacc]at this;exact this
       obtain⟨n,hC⟩:∃n,acc.length=n+1:=⟨acc.length-1,by omega⟩;have hP:n<acc.length:=by omega
       have hL:Hid (xm acc ((k:Int)+1)=acc.set n { acc[n]with en:=(k:Int)+1 }):=ae (Lr hC _);have h9:(n:Int)<(acc.length:Int):=by omega
       have h8:IntKind.i64.wrap ((acc.length:Int)-1)=(n:Int):=by rw[bK _ (by omega)];omega
       obtain⟨g,A,cap1,hK,hX,kc,⟨csg,V⟩,hF,hT,hr⟩:=AP rZ rfl b n hP 1 (.int .i64 ((k:Int)+1)) { acc[n]with en:=(k:Int)+1 } rfl;cases hK;have hV:=hF 1 _ rfl;have hG:w.heap.size≠g:=by intro e;subst e;unfold aG at o V;rw[o]at V;simp at V
       clear hF hC hfk hacc hfm;go_upto_region 15 with(fail);have t:Below w.heap.size w (I.setCell ⟨g,A+n*7+1,none⟩ (.int .i64 ((k:Int)+1))):=a.setCell hX _;have x:aG (I.setCell ⟨g,A+n*7+1,none⟩ (.int .i64 ((k:Int)+1))) w.heap.size (fC f) 81:=o.setCell_other _ _ (by simpa using hG);have s:Own (I.setCell ⟨g,A+n*7+1,none⟩ (.int .i64 ((k:Int)+1))) w.heap.size 94 7 (.slice (some ⟨g,A,none⟩) acc.length cu) (lY f (k+1)).length ((lY f (k+1)).flatMap mV):=by rw[D.out,hL.out,bI];exact hr
       clear hr b a o hT hV V G;go_wp2;go_roundw
       case rel=>exact⟨k+1,by omega,by go_num,t,x,s⟩
       case measure=>simp[intOf];omega
      have hY:B=false:=by simpa using hB
      subst hY;have D:Hid (lY f (k+1)=acc++[gG k p]):=ae (by rw[Du hfk hw.out,hacc]);clear hfk hacc hfm hB;go_upto_region 14 with(fail)
      go_wp2_with (at_builtin;refine fQ 71 rfl w.heap.size 94 _ 7 40 underlying71 area_info acc.length (acc.flatMap mV) rfl (b.alloc _) (some ⟨I.heap.size,0,none⟩) 1 1 (mV (gG k p)) rfl (λh=>(by cases h)) (az _) rfl (eu.new _ (kH (gG k p)) _) (λu S=>sN [gG k p] u (by simpa using S)) (by unfold maxLen;omega) (by omega) (dE a.size) ?_)
      intro v C d l;have t:Below w.heap.size w C:=(a.alloc a.size _).grown l (dE a.size) (b.alloc (.cells (kH (gG k p)) 94)).ge;have x:aG C w.heap.size (fC f) 81:=lI (o.alloc (.cells (kH (gG k p)) 94)) (b.alloc (.cells (kH (gG k p)) 94)) l;have s:Own C w.heap.size 94 7 v (lY f (k+1)).length ((lY f (k+1)).flatMap mV):=by rw[D.out,fM,jq];simpa using d
      clear d l;go_wp2;go_roundw
      case rel=>exact⟨k+1,by omega,by go_num,t,x,s⟩
      case measure=>simp[intOf];omega
     have o:=Z;have b:=y;clear Z y;have hI : ¬0<=p.fi:=Y;have N:=RF q p B (ke hI);go_upto_region 12 with(first | (refine ay _ 0 _ F.rd _ underlying80 rfl one_size ?_) | (refine ay _ 0 _ K.rd _ underlying80 rfl one_size ?_) | (refine wQ rfl _ _ _ _ rfl _ _ rfl rfl _ (N _ _ _) ?_));clear N F;have G:=K.cell
     by_cases hB:B=true
     ·subst hB;have D:=ae (Ua hfk hw.out);rw[hacc]at D;have ka:0<acc.length:=by have:=SN f hfm;rw[<-h0.out,hacc]at this;exact this
      obtain⟨n,hC⟩:∃n,acc.length=n+1:=⟨acc.length-1,by omega⟩;have hP:n<acc.length:=by omega
      have hL:Hid (xm acc ((k:Int)+1)=acc.set n { acc[n]with en:=(k:Int)+1 }):=ae (Lr hC _);have h9:(n:Int)<(acc.length:Int):=by omega
      have h8:IntKind.i64.wrap ((acc.length:Int)-1)=(n:Int):=by rw[bK _ (by omega)];omega
      obtain⟨g,A,cap1,hK,hX,kc,⟨csg,V⟩,hF,hT,hr⟩:=AP rZ rfl b n hP 1 (.int .i64 ((k:Int)+1)) { acc[n]with en:=(k:Int)+1 } rfl;cases hK;have hV:=hF 1 _ rfl;have hG:w.heap.size≠g:=by intro e;subst e;unfold aG at o V;rw[o]at V;simp at V
      clear hF hC hfk hacc hfm;go_upto_region 15 with(fail);have t:Below w.heap.size w (W2.setCell ⟨g,A+n*7+1,none⟩ (.int .i64 ((k:Int)+1))):=a.setCell hX _;have x:aG (W2.setCell ⟨g,A+n*7+1,none⟩ (.int .i64 ((k:Int)+1))) w.heap.size (fC f) 81:=o.setCell_other _ _ (by simpa using hG);have s:Own (W2.setCell ⟨g,A+n*7+1,none⟩ (.int .i64 ((k:Int)+1))) w.heap.size 94 7 (.slice (some ⟨g,A,none⟩) acc.length cu) (lY f (k+1)).length ((lY f (k+1)).flatMap mV):=by rw[D.out,hL.out,bI];exact hr
      clear hr b a o hT hV V G;go_wp2;go_roundw
      case rel=>exact⟨k+1,by omega,by go_num,t,x,s⟩
      case measure=>simp[intOf];omega
     have hY:B=false:=by simpa using hB
     subst hY;have D:Hid (lY f (k+1)=acc++[gG k p]):=ae (by rw[Du hfk hw.out,hacc]);clear hfk hacc hfm hB;go_upto_region 14 with(fail)
     go_wp2_with (at_builtin;refine fQ 71 rfl w.heap.size 94 _ 7 40 underlying71 area_info acc.length (acc.flatMap mV) rfl (b.alloc _) (some ⟨W2.heap.size,0,none⟩) 1 1 (mV (gG k p)) rfl (λh=>(by cases h)) (az _) rfl (eu.new _ (kH (gG k p)) _) (λu S=>sN [gG k p] u (by simpa using S)) (by unfold maxLen;omega) (by omega) (dE a.size) ?_)
     intro v C d l;have t:Below w.heap.size w C:=(a.alloc a.size _).grown l (dE a.size) (b.alloc (.cells (kH (gG k p)) 94)).ge;have x:aG C w.heap.size (fC f) 81:=lI (o.alloc (.cells (kH (gG k p)) 94)) (b.alloc (.cells (kH (gG k p)) 94)) l;have s:Own C w.heap.size 94 7 v (lY f (k+1)).length ((lY f (k+1)).flatMap mV):=by rw[D.out,fM,jq];simpa using d
     clear d l;go_wp2;go_roundw
     case rel=>exact⟨k+1,by omega,by go_num,t,x,s⟩
     case measure=>simp[intOf];omega
  have h2:k=64:=by omega
  subst h2;go_wp2;go_ret;exact⟨_,rfl,b,a⟩
theorem VB(f:Nat->Option Pg)(m:List Ar)(s:okF none m)(u:∀i:Nat,i<64->f i=onA m i)(hf' : ∀i p,f i=some p->0<=p.pg/\p.pg<=100)(w:World) :
  Calls Tryz.prog 122 #[.agg (fC f)] w λr w' => ∃v,r = .returned (.tuple #[v,.int .i64 (EJ m.length)])/\Own w' w.heap.size 94 7 v (if 16<m.length then[]else m).length ((if 16<m.length then[]else m).flatMap mV)/\Below w.heap.size w w':=by
 have c:=ae (ky f);have g:=JP f 64;rw[Nb s u]at g;go_enter func122,ntmps122;go_upto_region 1 with(fail);refine iC (λW=>Code.wp _ _ _ _ W) λW0 d e k => ?_;clear k
 go_wp2_with (refine ay _ 0 _ e.rd _ underlying81 rfl (by rw[jk,c.out];exact ones_size) ?_)
 refine(Cn f _ hf').mono ?_;rintro r w1 ⟨D,rfl,a,j⟩;rw[Nb s u]at a;have b:=ag d j;replace a:=a.mono d.size;obtain⟨C,A,rfl,_⟩:=a.rd;clear d e j
 by_cases h:16<m.length
 ·have z:(16:Int)<(m.length:Int):=by omega
  have n:Hid (EJ m.length=4):=ae (by unfold EJ;rw[if_pos h]);go_wp2;go_ret2;exact⟨.slice none 0 0,by first | (rw[n.out];done) | (rw[n.out];rfl),by first | exact Own.nil _ _ _ _ | (rw[if_pos h];exact Own.nil _ _ _ _),b⟩
 have z:¬(16:Int)<(m.length:Int):=by omega
 have n:Hid (EJ m.length=0):=ae (by unfold EJ;rw[if_neg h]);go_wp2;go_ret2;exact⟨.slice C m.length A,by first | (rw[n.out];done) | (rw[n.out];rfl),by first | exact a | (rw[if_neg h];exact a),b⟩
theorem zi{l:Operand}{n:Nat}(u:o.op = .slice t x (some l) (some h) none)(s:ρ x = .slice (some ⟨b,off,none⟩) n c)(z:ρ l = .int .i64 O)(A:ρ h = .int .i64 ((O:Int)+2))
 (d:P.underlying t=some (.slice (P.elem t))) (f:(P.info? (P.elem t)).map (·.size)=some sz) (G:O+1<n) (F:n<=c) :
  (execOp ρ o).run P w = .ok (.value (.slice (some ⟨b,off+O*sz,none⟩) 2 (c-O))) w:=by
 have a:(Go.sizeOf (P.elem t)).run P w = .ok sz w:=by
  cases hq:P.info? (P.elem t)with
  | none=>simp[hq]at f
  | some i=>
   have j:i.size=sz:=by simpa[hq]using f
   simp[Go.sizeOf,typeInfo,run_program,hq,j]
 unfold execOp;simp only[u,s,z,A,Option.map];rw[kY,run_sliceAt_slice w t _ _ _ _ d,run_slice_lh w t _ n c d .i64 .i64 O (O+2) (by omega) (by omega) (by omega),a];have D:((O:Int)+2).toNat-(O:Int).toNat=2:=by omega
 have C:((O:Int)+2).toNat-O=2:=by omega
 simp[sliced,D,C,Addr.add,show ¬c=O by omega,go_sem]
theorem WL{l:List Ar}(h:eu w (some ⟨b,off,none⟩) (l.flatMap mV)){m:Nat}(f:m+1<l.length):eu w (some ⟨b,off+m*7,none⟩) ([l[m],l[m+1]].flatMap mV):=by
 have n:=EB h m (by omega);have h2:=EB h (m+1) f;intro j u d;refine⟨b,off+m*7,rfl,?_⟩;simp only[nV,List.flatMap_nil,oL]at d
 by_cases c:j<7
 ·rw[kN (by rw[rZ];exact c)]at d;exact n j u d
 rw[jX (by rw[rZ];omega),rZ]at d;have:=h2 _ u d;rwa [show off+(m+1)*7+(j-7)=off+m*7+j by omega]at this
theorem Ep(l:List Ar)(a:Option Addr)(c:Nat)(w:World)(h:Xp w a c l) :
  Calls Tryz.prog 100 #[.slice a l.length c] w λe w'=>e = .returned (.agg (Km (bQ l)))/\Below w.heap.size w w':=by
 have hV:=h.le;have h2:=bi h.le h.mx;unfold maxLen at h2;have hE:=h.rd;go_enter func100,ntmps100;go_upto_region 1 with(fail);refine iC (λW=>Code.wp _ _ _ _ W) λW0 d n h1 => ?_;clear h1
 by_cases h16:16<l.length
 ·have hX : (16:Int)<(l.length:Int):=by omega
  have M:Hid (bQ l=(4,0)):=ae (by unfold bQ;rw[if_pos h16])
  go_wp2_with (refine aA rfl _ _ rfl w.heap.size #[.int .i64 (4),.int .i64 (0)] rfl rfl n rfl fau_size (nR _ _) ?_)
  intro K N q;have p:Below w.heap.size w K:=d.grown q d.size (λk J=>by cases J;exact az _);go_wp2;refine bodyPost_ret (v:=.agg #[.int .i64 (4),.int .i64 (0)]) (fw results100 w.heap.size N underlying180 fau_size) rfl ?_;exact⟨by rw[M.out];rfl,p⟩
 have hX : ¬(16:Int)<(l.length:Int):=by omega
 have h0:Hid (bQ l=jS (qJ l 0) 0 (l.drop 0)):=ae (by unfold bQ;rw[if_neg h16];rfl);go_upto_region 4 with(fail)
 go_loopw [12] (fun i wr => ∃k:Nat,k<=l.length/\i = .int .i64 k/\Below w.heap.size w wr/\aG wr w.heap.size #[.int .i64 0,.int .i64 0] 180/\(∀i (h:i<l.length),i<k->aX l[i]=0)/\Hid (bQ l=jS (qJ l k) k (l.drop k))) (fun i _=>l.length-(intOf i).toNat)
 case atStart=>exact⟨0,bq _,rfl,d,n,λi _ h=>absurd h (fA _),h0⟩
 case round=>
  clear d n h0;obtain⟨k,J,rfl,d,n,hU,V⟩:=hrel;have hp:=ae hU;clear hU
  by_cases D:k<l.length
  ·obtain⟨b,off,rfl,c0,c1,c2,c3,c4,c5,c6⟩:=NB (hE.below d) k D;have h6:(k:Int)<(l.length:Int):=by omega
   go_upto_region 6 with(fail);refine iC (λW=>Code.wp _ _ _ _ W) λW1 u hA hZ => ?_;have d:=ag d u;have n:=n.ext u;clear hZ u c0 c1 c2 c3 c4 c5 c6;obtain⟨gx,hW⟩:∃g,g=wr.heap.size:=⟨_,rfl⟩;rw[<-hW]at hA ⊢;clear hW
   go_wp2_with (refine ay _ 0 _ hA.rd _ underlying94 rfl area_size ?_)
   refine(Ik l[k] _).mono ?_;rintro r w2 ⟨rfl,hB⟩;have j:=ag d hB;have o:=n.ext hB;have hD:=hA.ext hB;clear d n hB hA
   by_cases Y:aX l[k]=0
   ·have z:=ae Y;rw[Y];clear Y;go_upto_region 9 with(fail)
    by_cases hk0:k=0
    ·subst hk0;have h8:decide ((0:Int)<((0:Nat):Int))=false:=rfl;have hG:Hid (bQ l=jS (qJ l (0+1)) (0+1) (l.drop (0+1))):=ae (by rw[V.out];exact vN D z.out rfl);go_quiet (fail);go_wp2;go_roundw
     case rel=>exact⟨0+1,by omega,by go_num,below_drewN j _,o.drewN _,mJ hp.out D z.out,hG⟩
     case measure=>simp[intOf];omega
    obtain⟨m,rfl⟩:∃m,k=m+1:=⟨k-1,by omega⟩;have S:IntKind.i64.wrap (((m+1:Nat):Int)-1)=(m:Int):=by rw[bK _ (by omega)];omega
    have hq:m<l.length:=by omega
    have U:IntKind.i64.wrap (m:Int)=(m:Int):=bK _ (by omega);have hI:IntKind.i64.wrap ((m:Int)+1+1)=(m:Int)+2:=by rw[bK _ (by omega)];omega
    have hH:IntKind.i64.wrap (((m+1:Nat):Int)+1)=(m:Int)+2:=by rw[bK _ (by omega)];omega
    have hJ:=ae (LX D);have hC:=hp.out m hq (by omega);have h4:=hE.below j;have hK:=EB h4 m hq;have hT:=WL hE D;have hS:∀x∈[l[m],l[m+1]],aX x=0:=λx hx=>by
     rcases dz.1 hx with rfl|hx
     ·exact hC
     ·rw[bC.1 hx];exact z.out
    have hY:Hid (∀i (h:i<l.length),i<m+1+1->aX l[i]=0):=ae (mJ hp.out D z.out);generalize hA1:l[m+1]=A1 at *
    generalize hA0:l[m]=A0 at *
    by_cases G:A1.fr<A0.en
    ·have M:Hid (bQ l=(2,((m+1:Nat):Int))):=ae (by rw[V.out];exact vQ D (by rw[hA1];exact z.out) (by rw[hA1,hJ.out,decide_eq_true G];rfl));have hF:True:=trivial;have hm:True:=trivial;refine aO 25 [_,_,_,_,_,_,.v (.pointer (some ⟨b,off+m*7,none⟩)),_,.v (.int .i64 A0.en),_,.v (.int .i64 A1.fr),_,_,_,_,_,_,_,_,_,_,_,_,_,.v (.bool true)] (Gk rfl (Gb (.bool true) (by simp[go_sem]) rfl rfl rfl rfl rfl (Gk rfl (Gk rfl (Gk rfl (Gb (.int .i64 (m:Int)) (by simp[go_sem,S,U]) rfl rfl rfl rfl rfl (ah ?_ (Gf b (off+m*7+1) rfl rfl (ah ?_ (Gf gx 0 rfl rfl (ah ?_ (Gb (.bool true) (by simp[go_sem,G]) rfl rfl rfl rfl rfl (Gk rfl (Gk rfl (Gk rfl (Gk rfl (Gk rfl (Gk rfl (Gk rfl (Gk rfl (Gk rfl (Gk rfl (Gk rfl (Gk rfl (Gk rfl (aF)))))))))))))))))))))))))) (λ_=>rfl) rfl ?_
     ·intro ρ y W f F C A;have Z:=f 27 3 rfl;have h3:y 3=_:=A 3 rfl;have hv:=f 29 5 rfl;have h5:y 5=_:=A 5 rfl;refine ak (.pointer (some ⟨b,off+m*7,none⟩)) (h:=(bB 2 26 true true ((f 26 2 rfl).trans (A 2 rfl)))) (by simp[execOp,go_sem,Z,h3,hv,h5,hq])
     ·intro ρ y W f F C A;have hu:=f 31 7 rfl;have h7:y 7=_:=A 7 rfl;have s:=(hK.below C).cells.2.1;refine ak (.int .i64 A0.en) (h:=(bB 2 26 true true ((f 26 2 rfl).trans (A 2 rfl)))) (by simp[execOp,go_sem,hu,h7,s])
     ·intro ρ y W f F C A;have ht:=f 33 9 rfl;have h9:y 9=_:=A 9 rfl;have s:=(hD.ext C).cell 0;simp at s;refine ak (.int .i64 A1.fr) (h:=(bB 2 26 true true ((f 26 2 rfl).trans (A 2 rfl)))) (by simp[execOp,go_sem,ht,h9,s])
     intro y WA t _;have d:=ag j t;have n:=o.ext t;clear j o
     go_wp2_with (refine aA rfl _ _ rfl w.heap.size #[.int .i64 (2),.int .i64 (((m+1:Nat):Int))] rfl rfl n rfl fau_size (nR _ _) ?_)
     intro K N q;have p:Below w.heap.size w K:=d.grown q d.size (λk J=>by cases J;exact az _);go_wp2;refine bodyPost_ret (v:=.agg #[.int .i64 (2),.int .i64 (((m+1:Nat):Int))]) (fw results100 w.heap.size N underlying180 fau_size) rfl ?_;exact⟨by rw[M.out];rfl,p⟩
    have hs:srtF 0 [A0,A1]:=⟨hC,(bM hC).1.2.1.1,z.out,by omega,trivial⟩;have hF:=KZ hs;have hg:=TS hC z.out (by omega:A0.en<=A1.fr);cases hj:dP A0 A1
    ·have hm:(lY (dm [A0,A1]) 64).length=2:=by rw[hg,hj];rfl
     have hG:Hid (bQ l=jS (qJ l (m+1+1)) (m+1+1) (l.drop (m+1+1))):=ae (by rw[V.out];exact vN D (by rw[hA1];exact z.out) (by rw[hA1,hJ.out,decide_eq_false G,hj];rfl));clear hg hs;refine aO 25 [_,_,_,_,_,_,.v (.pointer (some ⟨b,off+m*7,none⟩)),_,.v (.int .i64 A0.en),_,.v (.int .i64 A1.fr),_,_,_,_,_,_,_,_,.v (.agg (fC (dm [A0,A1]))),.r 20 ((nA w.heap.size 94 7 (lY (dm [A0,A1]) 64).length ((lY (dm [A0,A1]) 64).flatMap mV))),.v (.int .i64 (2)),_,_,.v (.bool false)] (Gk rfl (Gb (.bool true) (by simp[go_sem]) rfl rfl rfl rfl rfl (Gk rfl (Gk rfl (Gk rfl (Gb (.int .i64 (m:Int)) (by simp[go_sem,S,U]) rfl rfl rfl rfl rfl (ah ?_ (Gf b (off+m*7+1) rfl rfl (ah ?_ (Gf gx 0 rfl rfl (ah ?_ (Gb (.bool false) (by simp[go_sem,G]) rfl rfl rfl rfl rfl (Gk rfl (Gk rfl (Gk rfl (Gb (.int .i64 (m:Int)) (by simp[go_sem,S,U]) rfl rfl rfl rfl rfl (Gk rfl (Gb (.int .i64 ((m:Int)+2)) (by simp[go_sem,hI,hH]) rfl rfl rfl rfl rfl (Gr (.slice (some ⟨b,off+m*7,none⟩) 2 (c-m)) (λρ y W C R=>(zi rfl (aH rfl R) (aH rfl R) (aH rfl R) underlying71 area_size D hV)) rfl rfl (ah ?_ (ah ?_ (ah ?_ (Gb (.bool false) (by simp[go_sem]) rfl rfl rfl rfl rfl (Gk rfl (Gk rfl (aF)))))))))))))))))))))))))) (λ_=>rfl) rfl ?_
     ·intro ρ y W f F C A;have Z:=f 27 3 rfl;have h3:y 3=_:=A 3 rfl;have hv:=f 29 5 rfl;have h5:y 5=_:=A 5 rfl;refine ak (.pointer (some ⟨b,off+m*7,none⟩)) (h:=(bB 2 26 true true ((f 26 2 rfl).trans (A 2 rfl)))) (by simp[execOp,go_sem,Z,h3,hv,h5,hq])
     ·intro ρ y W f F C A;have hu:=f 31 7 rfl;have h7:y 7=_:=A 7 rfl;have s:=(hK.below C).cells.2.1;refine ak (.int .i64 A0.en) (h:=(bB 2 26 true true ((f 26 2 rfl).trans (A 2 rfl)))) (by simp[execOp,go_sem,hu,h7,s])
     ·intro ρ y W f F C A;have ht:=f 33 9 rfl;have h9:y 9=_:=A 9 rfl;have s:=(hD.ext C).cell 0;simp at s;refine ak (.int .i64 A1.fr) (h:=(bB 2 26 true true ((f 26 2 rfl).trans (A 2 rfl)))) (by simp[execOp,go_sem,ht,h9,s])
     ·intro ρ y W f F C A;have hQ:=f 42 18 rfl;have hN:y 18=_:=A 18 rfl;have I:=eF0 F λ_=>trivial;refine aP (m:=(bB 12 36 false false ((f 36 12 rfl).trans (A 12 rfl)))) (aS rfl (I _) func24 (by simp only[bU,bS,aZ,hQ,hN,I];rfl)) ?_;refine(pR [A0,A1] _ (c-m) W (hT.below (ag j C)) (by simp) hS).mono ?_;rintro r w1 ⟨rfl,u⟩;exact⟨_,rfl,u,rfl⟩
     ·intro ρ y W f F C A;have hP:=f 43 19 rfl;have hM:y 19=_:=A 19 rfl;have I:=eF0 F λ_=>trivial;refine aP (m:=(bB 12 36 false false ((f 36 12 rfl).trans (A 12 rfl)))) (aS rfl (I _) func144 (by simp only[bU,bS,aZ,hP,hM,I];rfl)) ?_;refine(Cn (dm [A0,A1]) W hF).mono ?_;rintro r w1 ⟨v1,rfl,ho,u⟩;exact⟨v1,rfl,u,ho.mono (bi j.size C.size)⟩
     ·intro ρ y W f F C A;have hO:=f 44 20 rfl;have hL:=A 20 rfl;obtain⟨a20,c20,hr,_⟩:=Own.rd hL;refine ak (.int .i64 (2)) (h:=(bB 12 36 false false ((f 36 12 rfl).trans (A 12 rfl)))) (by simp[execOp,go_sem,hO,hr,hm])
     intro y WA t hc;have hR:((nA w.heap.size 94 7 (lY (dm [A0,A1]) 64).length ((lY (dm [A0,A1]) 64).flatMap mV))).r (y 20) WA:=hc 20 (by decide);clear hc;have d:=ag j t;have n:=o.ext t;clear j o S U hI hH hm;go_wp2;go_roundw
     case rel=>exact⟨m+1+1,by omega,by go_num,d,n,hY.out,hG⟩
     case measure=>simp[intOf];omega
    have hm:(lY (dm [A0,A1]) 64).length=1:=by rw[hg,hj];rfl
    have M:Hid (bQ l=(2,((m+1:Nat):Int))):=ae (by rw[V.out];exact vQ D (by rw[hA1];exact z.out) (by rw[hA1,hJ.out,hj,Jk]));clear hg hs;refine aO 25 [_,_,_,_,_,_,.v (.pointer (some ⟨b,off+m*7,none⟩)),_,.v (.int .i64 A0.en),_,.v (.int .i64 A1.fr),_,_,_,_,_,_,_,_,.v (.agg (fC (dm [A0,A1]))),.r 20 ((nA w.heap.size 94 7 (lY (dm [A0,A1]) 64).length ((lY (dm [A0,A1]) 64).flatMap mV))),.v (.int .i64 (1)),_,_,.v (.bool true)] (Gk rfl (Gb (.bool true) (by simp[go_sem]) rfl rfl rfl rfl rfl (Gk rfl (Gk rfl (Gk rfl (Gb (.int .i64 (m:Int)) (by simp[go_sem,S,U]) rfl rfl rfl rfl rfl (ah ?_ (Gf b (off+m*7+1) rfl rfl (ah ?_ (Gf gx 0 rfl rfl (ah ?_ (Gb (.bool false) (by simp[go_sem,G]) rfl rfl rfl rfl rfl (Gk rfl (Gk rfl (Gk rfl (Gb (.int .i64 (m:Int)) (by simp[go_sem,S,U]) rfl rfl rfl rfl rfl (Gk rfl (Gb (.int .i64 ((m:Int)+2)) (by simp[go_sem,hI,hH]) rfl rfl rfl rfl rfl (Gr (.slice (some ⟨b,off+m*7,none⟩) 2 (c-m)) (λρ y W C R=>(zi rfl (aH rfl R) (aH rfl R) (aH rfl R) underlying71 area_size D hV)) rfl rfl (ah ?_ (ah ?_ (ah ?_ (Gb (.bool true) (by simp[go_sem]) rfl rfl rfl rfl rfl (Gk rfl (Gk rfl (aF)))))))))))))))))))))))))) (λ_=>rfl) rfl ?_
    ·intro ρ y W f F C A;have Z:=f 27 3 rfl;have h3:y 3=_:=A 3 rfl;have hv:=f 29 5 rfl;have h5:y 5=_:=A 5 rfl;refine ak (.pointer (some ⟨b,off+m*7,none⟩)) (h:=(bB 2 26 true true ((f 26 2 rfl).trans (A 2 rfl)))) (by simp[execOp,go_sem,Z,h3,hv,h5,hq])
    ·intro ρ y W f F C A;have hu:=f 31 7 rfl;have h7:y 7=_:=A 7 rfl;have s:=(hK.below C).cells.2.1;refine ak (.int .i64 A0.en) (h:=(bB 2 26 true true ((f 26 2 rfl).trans (A 2 rfl)))) (by simp[execOp,go_sem,hu,h7,s])
    ·intro ρ y W f F C A;have ht:=f 33 9 rfl;have h9:y 9=_:=A 9 rfl;have s:=(hD.ext C).cell 0;simp at s;refine ak (.int .i64 A1.fr) (h:=(bB 2 26 true true ((f 26 2 rfl).trans (A 2 rfl)))) (by simp[execOp,go_sem,ht,h9,s])
    ·intro ρ y W f F C A;have hQ:=f 42 18 rfl;have hN:y 18=_:=A 18 rfl;have I:=eF0 F λ_=>trivial;refine aP (m:=(bB 12 36 false false ((f 36 12 rfl).trans (A 12 rfl)))) (aS rfl (I _) func24 (by simp only[bU,bS,aZ,hQ,hN,I];rfl)) ?_;refine(pR [A0,A1] _ (c-m) W (hT.below (ag j C)) (by simp) hS).mono ?_;rintro r w1 ⟨rfl,u⟩;exact⟨_,rfl,u,rfl⟩
    ·intro ρ y W f F C A;have hP:=f 43 19 rfl;have hM:y 19=_:=A 19 rfl;have I:=eF0 F λ_=>trivial;refine aP (m:=(bB 12 36 false false ((f 36 12 rfl).trans (A 12 rfl)))) (aS rfl (I _) func144 (by simp only[bU,bS,aZ,hP,hM,I];rfl)) ?_;refine(Cn (dm [A0,A1]) W hF).mono ?_;rintro r w1 ⟨v1,rfl,ho,u⟩;exact⟨v1,rfl,u,ho.mono (bi j.size C.size)⟩
    ·intro ρ y W f F C A;have hO:=f 44 20 rfl;have hL:=A 20 rfl;obtain⟨a20,c20,hr,_⟩:=Own.rd hL;refine ak (.int .i64 (1)) (h:=(bB 12 36 false false ((f 36 12 rfl).trans (A 12 rfl)))) (by simp[execOp,go_sem,hO,hr,hm])
    intro y WA t hc;have hR:((nA w.heap.size 94 7 (lY (dm [A0,A1]) 64).length ((lY (dm [A0,A1]) 64).flatMap mV))).r (y 20) WA:=hc 20 (by decide);clear hc;have d:=ag j t;have n:=o.ext t;clear j o
    go_wp2_with (refine aA rfl _ _ rfl w.heap.size #[.int .i64 (2),.int .i64 (((m+1:Nat):Int))] rfl rfl n rfl fau_size (nR _ _) ?_)
    intro K N q;have p:Below w.heap.size w K:=d.grown q d.size (λk J=>by cases J;exact az _);go_wp2;refine bodyPost_ret (v:=.agg #[.int .i64 (2),.int .i64 (((m+1:Nat):Int))]) (fw results100 w.heap.size N underlying180 fau_size) rfl ?_;exact⟨by rw[M.out];rfl,p⟩
   have M:Hid (bQ l=(aX l[k],(k:Int))):=ae (by rw[V.out];exact Ia D Y);have z : (aX l[k] != 0)=true:=by simpa using Y
   have d:=j;have n:=o;clear Y j o
   go_wp2_with (refine aA rfl _ _ rfl w.heap.size #[.int .i64 (aX l[k]),.int .i64 (k)] rfl rfl n rfl fau_size (nR _ _) ?_)
   intro K N q;have p:Below w.heap.size w K:=d.grown q d.size (λk J=>by cases J;exact az _);go_wp2;refine bodyPost_ret (v:=.agg #[.int .i64 (aX l[k]),.int .i64 (k)]) (fw results100 w.heap.size N underlying180 fau_size) rfl ?_;exact⟨by rw[M.out];rfl,p⟩
  have M:Hid (bQ l=(0,0)):=ae (by rw[V.out,rA (by omega)];rfl)
  go_wp2_with (refine aA rfl _ _ rfl w.heap.size #[.int .i64 (0),.int .i64 (0)] rfl rfl n rfl fau_size (nR _ _) ?_)
  intro K N q;have p:Below w.heap.size w K:=d.grown q d.size (λk J=>by cases J;exact az _);go_wp2;refine bodyPost_ret (v:=.agg #[.int .i64 (0),.int .i64 (0)]) (fw results100 w.heap.size N underlying180 fau_size) rfl ?_;exact⟨by rw[M.out];rfl,p⟩
def tL(t:List En):List Value:=(List.range 64).flatMap λi=>lZ (t.getD i zEn)
theorem zw(t:List En):(tL t).length=192:=by
 unfold tL;rw[Pw.flat_len (λi=>lZ (t.getD i zEn)) 3 (λ_=>gz _),Ea]
structure MW where
 al:Option Addr
 cl:Nat
 l:List UInt8
 H:MH
 ab:Option Addr
 cb:Nat
 T:List (List En)
def jI(S:MW):Array Value:=#[.slice S.al S.l.length S.cl,.slice S.H.af S.H.m.fs.length S.H.cf,.int .i64 S.H.m.hand,.slice S.H.asl S.H.sl.length S.H.csl,.slice S.H.wb S.H.sw.blocks.length S.H.cwb,.slice S.H.wq S.H.sw.queue.length S.H.cwq,
 .slice S.H.db S.H.dk.blocks.length S.H.cdb,.slice S.H.dq S.H.dk.queue.length S.H.cdq,.slice S.H.ai S.H.fi.length S.H.ci,.int .i64 S.H.ct,.slice S.H.ac S.H.ca.length S.H.cc,.slice S.H.ap S.H.sp.length S.H.cp,.slice S.ab S.T.length S.cb]
def iZ(S:MW):List (Option Nat):=[oB S.H.af,oB S.H.asl,oB S.H.wb,oB S.H.db,oB S.H.dq,oB S.H.ai,oB S.H.ac,oB S.H.ap,oB S.ab]
def nS(b:Nat)(S:MW)(x:Nat):Prop:=x=b\/some x∈iZ S
structure fF (w:World) (B b:Nat) (S:MW):Prop where
 blk:aG w b (jI S) 98
 ge:B<=b
 ma:tT w B S.H
 tt:Own w B 69 192 (.slice S.ab S.T.length S.cb) S.T.length (S.T.flatMap tL)
 rd:vG w S.al S.cl S.l.length (S.l.map zS)
 ra:∀a,S.al=some a->S.l.map zS≠[]->a.block<B
 n1:∀x,oB S.H.wb=some x->oB S.H.db≠some x
 n2:∀p∈S.H.fi,∀x,oB p.a=some x->oB S.H.asl≠some x
 n3:S.H.wq=none
structure MS (w0:World) (b:Nat) (S0:MW) (w:World) (S:MW):Prop where
 os:w.os=w0.os
 tape:w.tape=w0.tape
 output:w.output=w0.output
 size:w0.heap.size<=w.heap.size
 keep:∀x,x<w0.heap.size->¬nS b S0 x->w.heap[x]?=w0.heap[x]?
 sn:∀x,nS b S x->nS b S0 x\/w0.heap.size<=x
theorem MS.refl(w:World)(b:Nat)(S:MW):MS w b S w S:=⟨rfl,rfl,rfl,az _,λ_ _ _=>rfl,λ_ h => .inl h⟩
theorem MS.trans{u s n:MW}(h:MS w0 b u w1 s)(k:MS w1 b s w2 n):MS w0 b u w2 n:=
 ⟨k.os.trans h.os,k.tape.trans h.tape,k.output.trans h.output,bi h.size k.size,λx d j=>(k.keep x (pu d h.size) (λz=>(h.sn x z).elim j (λf=>absurd d (DV.2 f)))).trans (h.keep x d j),
  λx d=>(k.sn x d).elim (h.sn x) (λf => .inr (bi h.size f))⟩
theorem MS.below{j H:MW}(h:MS w0 b j w H)(d:Below w.heap.size w w'):MS w0 b j w' H:=
 ⟨d.os.trans h.os,d.tape.trans h.tape,d.output.trans h.output,bi h.size d.size,λx f n=>(d.block x (pu f h.size)).trans (h.keep x f n),h.sn⟩
theorem MS.put{y:Nat}{H0 H H' : MW}(h:MS w0 b H0 w H)(j:w.grownBy w' (some y))(n:nS b H y)(s:∀x,nS b H' x->nS b H x\/w0.heap.size<=x):MS w0 b H0 w' H':=
 ⟨j.os.trans h.os,j.tape.trans h.tape,j.output.trans h.output,bi h.size j.size,λx d f=>(j.block x (pu d h.size) (λe=>by have e' : x=y:=aM e;rw[<-e']at n;exact(h.sn x n).elim f (λu=>absurd d (DV.2 u)))).trans (h.keep x d f),λx d=>(s x d).elim (h.sn x) .inr⟩
theorem MS.loc{y:Nat}{n H:MW}(h:MS w0 b n w H)(d:w.grownBy w' (some y))(s:w0.heap.size<=y):MS w0 b n w' H:=
 ⟨d.os.trans h.os,d.tape.trans h.tape,d.output.trans h.output,bi h.size d.size,λx j f=>(d.block x (pu j h.size) (λe=>by have e' : x=y:=aM e;omega)).trans (h.keep x j f),h.sn⟩
theorem MS.same{H0 H H' : MW}(h:MS w0 b H0 w H)(f:iZ H' = iZ H):MS w0 b H0 w H':=
 { h with sn:=λx d=>h.sn x (by unfold nS at d ⊢; rw[<-f];exact d) }
theorem fF.lt{S:MW}(h:fF w B b S):b<w.heap.size:=h.blk.lt
theorem fF.bs{S:MW}(h:fF w B b S):B<=w.heap.size:=bi h.ge (rU h.lt)
theorem fF.below{S:MW}(h:fF w B b S)(d:Below w.heap.size w w'):fF w' B b S:=⟨h.blk.ext d,h.ge,h.ma.below d,h.tt.below d,h.rd.below d,h.ra,h.n1,h.n2,h.n3⟩
theorem fF.kb_own{S:MW}(h:fF w B b S){x:Nat}(d:nS b S x):B<=x/\x<w.heap.size:=by
 have own:∀ {e:TypeId} {sz n c:Nat} {a:Option Addr} {xs:List Value},Own w B e sz (.slice a n c) n xs->oB a=some x->B<=x/\x<w.heap.size:=λf d=>by obtain⟨j,cs,h2⟩:=jf f d;exact⟨j,h2.lt⟩
 rcases d with d|d
 ·rw[d];exact⟨h.ge,h.lt⟩
 simp only[iZ,dz,ib,or_false]at d;rcases d with d|d|d|d|d|d|d|d|d
 ·exact own h.ma.fr d.symm
 ·exact own h.ma.sl d.symm
 ·exact own h.ma.sw.b d.symm
 ·exact own h.ma.dk.b d.symm
 ·exact own h.ma.dk.q d.symm
 ·exact own h.ma.st.own d.symm
 ·exact own h.ma.ca d.symm
 ·exact own h.ma.sp d.symm
 ·exact own h.tt d.symm
theorem MS.to{f S:MW}(h:fF w0 B b f)(d:MS w0 b f w S)(s:B0<=B):Below B0 w0 w:=
 ⟨d.os,d.tape,d.output,d.size,λx n=>d.keep x (by have:=h.bs;omega) (λj=>by have:=(h.kb_own j).1;omega)⟩
theorem MS.blkN{x:Nat}{f S:MW}(n:MS w0 b f w S)(d:aG w0 x cs T)(j:¬nS b f x):aG w x cs T:=(n.keep x d.lt j).trans d
theorem MS.not{x:Nat}{d S:MW}(j:MS w0 b d w S)(n:x<w0.heap.size)(f:¬nS b d x):¬nS b S x:=λh=>(j.sn x h).elim f (λh=>by omega)
theorem MS.ownN{s S:MW}{n:Nat}(z:MS w0 b s w S)(j:Own w0 B' t sz v n xs)(u:∀x,v.ownBlock=some x->¬nS b s x):Own w B' t sz v n xs:=
 ⟨j.1,j.2.imp id λ⟨g,off,d,cur,f,C,A,r⟩=>⟨g,off,d,cur,f,C,z.blkN A (u g (by rw[f];rfl)),r⟩⟩
theorem fF.new{S:MW}(h:fF w B b S){x:Nat}(f:w.heap.size<=x):¬nS b S x:=λd=>by have:=(h.kb_own d).2;omega
theorem vG.keep{n:Nat}(h:vG w a c n vs)(C:∀x,a=some x->vs≠[]->x.block<B)(G:B<=w.heap.size)(z:w.grownBy w' (some g))(s:B<=g):vG w' a c n vs:=
 ⟨h.le,h.mx,h.nl,λi u d=>by obtain⟨f,j,e,A⟩:=h.rd i u d;have F:f < B:=C _ e (λD=>by rw[D]at d;cases d);exact⟨f,j,e,z.cell A (λe=>by have I:f = g:=aM e;omega)⟩⟩
theorem fF.putL{S:MW}(h:fF w B b S){l:List UInt8}(j:vG w a c l.length (l.map zS))(f:∀x,a=some x->l.map zS≠[]->x.block<B)(n:aG w' b (bH (jI S) 0 [.slice a l.length c]) 98)(d:w.grownBy w' (some b)) :
  fF w' B b { S with al:=a,cl:=c,l:=l }:=
 ⟨n,h.ge,h.ma.keep h.blk (by decide) d,ax h.tt h.blk d,j.keep f h.bs d h.ge,f,h.n1,h.n2,h.n3⟩
theorem tT.putF(h:tT w B H)(d:aG w g cs 66)(f:w.grownBy w' (some g)){m:Mem}(n:Own w' B 66 13 (.slice H.af m.fs.length H.cf) m.fs.length (m.fs.flatMap ni)):tT w' B { H with m:=m }:=
 ⟨n,ax h.sl d f,h.sw.keep d (by decide) (by decide) f,h.dk.keep d (by decide) (by decide) f,h.st.keep d (by decide) (by decide) f,ax h.ca d f,ax h.sp d f,λp j=>⟨ax (h.ps p j).1 d f,(h.ps p j).2.keep d (by decide) f⟩,h.c64⟩
theorem fF.putF{S:MW}(h:fF w B b S)(f:aG w g cs 66)(j:B<=g)(d:w.grownBy w' (some g)){fs:List Fr}(s:fs.length=S.H.m.fs.length)(n:Own w' B 66 13 (.slice S.H.af fs.length S.H.cf) fs.length (fs.flatMap ni)) :
  fF w' B b { S with H:={ S.H with m:=⟨fs,S.H.m.hand⟩ } }:=
 ⟨by
  have u:=cB h.blk f d;have e:jI { S with H:={ S.H with m:=⟨fs,S.H.m.hand⟩ } }=jI S:=by unfold jI;rw[show({ S.H with m:=⟨fs,S.H.m.hand⟩ }:MH).m.fs.length=S.H.m.fs.length from s]
  rw[e];exact u,h.ge,h.ma.putF f d (m:=⟨fs,S.H.m.hand⟩) n,ax h.tt f d,h.rd.keep h.ra h.bs d j,h.ra,h.n1,h.n2,h.n3⟩
theorem Pf(t:List En)(i r:Nat)(f:i<64)(d:r<3):(tL t)[i*3+r]?=(lZ (t.getD i zEn))[r]?:=by
 unfold tL;rw[ku (λi=>lZ (t.getD i zEn)) 3 (λ_=>gz _) (List.range 64) i (by rw[Ea];exact f) r d,JC]
theorem WT{t:List En}{n:Nat}{x:En}(F:t.length=64)(D:n<64)(cur:Array Value)(o:Nat)(A:o+192<=cur.size)(C:∀j u,(tL t)[j]?=some u->cur[o+j]?=some u) :
  bH cur (o+n*3) (lZ x)=bH cur o (tL (t.set n x)):=by
 have b:∀i,i<64->(t.set n x).getD i zEn=if i=n then x else t.getD i zEn:=λi s=>by
  rw[aW,nE]
  by_cases e:i=n
  ·subst e;rw[if_pos rfl,if_pos (by omega),if_pos rfl];rfl
  ·rw[if_neg (λh=>e h.symm),if_neg e,aW]
 apply mI;intro m;have c:(lZ x).length=3:=gz x;have a:=zw (t.set n x)
 by_cases I:o<=m/\m<o+192
 ·obtain⟨d,rfl⟩:∃d,m=o+d:=⟨m-o,by omega⟩;have G:d<192:=by omega
  obtain⟨i,r,s,z,rfl⟩:∃i r,i<64/\r<3/\d=i*3+r:=⟨d / 3,d%3,by omega,by omega,by omega⟩;obtain⟨u,f⟩:∃u,(tL (t.set n x))[i*3+r]?=some u:=⟨_,aI (by omega)⟩;rw[putAt_in _ _ _ _ u (by rw[a];exact A) f];rw[Pf _ i r s z,b i s]at f
  by_cases e:i=n
  ·subst e;rw[if_pos rfl]at f;rw[<-ng];exact putAt_in _ _ _ _ u (by omega) f
  rw[if_neg e]at f;rw[putAt_out _ _ _ _ (by omega)];exact C _ _ (by rw[Pf _ i r s z];exact f)
 ·rw[putAt_out _ _ _ _ (by omega),putAt_out _ _ _ _ (by omega)]
theorem fF.lst_len{S:MW}(d:p<S.T.length):fP S.T p=S.T[p]:=by
 unfold fP;rw[aW,aI d];rfl
theorem fF.ent{S:MW}(h:fF w B b S){n:Nat}(C:p<S.T.length)(F:n<64)(D:(fP S.T p).length=64) :
  ∃g off cur,S.ab=some ⟨g,off,none⟩/\B<=g/\aG w g cur 69/\off+p*192+n*3+3<=cur.size/\(∀j u,(lZ (fT S.T p n))[j]?=some u->w.cell? ⟨g,off+p*192+n*3+j,none⟩=some u) /\
   ∀w' x,aG w' g (bH cur (off+p*192+n*3) (lZ x)) 69->w.grownBy w' (some g)->fF w' B b { S with T:=setL S.T p n x }:=by
 obtain⟨g,off,M,cur,z,I,A,N,G,J⟩:=h.tt.put zw (by decide) p C;simp only[lU]at z;obtain⟨z,_,_⟩:=z;refine⟨g,off,cur,z,I,A,by omega,λj u s => ?_,λw' x d c => ?_⟩
 ·have i:j<3:=by
   rcases gu j 3 with h|h
   ·exact h
   ·rw[fH (by rw[gz];exact h)]at s;cases s
  have:=G (n*3+j) u (by rw[Pf _ n j F i,<-fF.lst_len C];exact s);rw[<-this];congr 2;omega
 have f:∀j u,(tL (fP S.T p))[j]?=some u->cur[off+p*192+j]?=some u:=λj u s=>by rw[fF.lst_len C]at s;have:=G j u s;rw[A.cell]at this;exact this
 rw[WT D F cur _ (by omega) f]at d;have K:=J w' _ d;have a:({ S with T:=setL S.T p n x }:MW).T.length=S.T.length:=by show(setL S.T p n x).length=_;unfold setL;rw[bI]
 refine⟨?_,h.ge,h.ma.keep A (by decide) c,?_,h.rd.keep h.ra h.bs c I,h.ra,h.n1,h.n2,h.n3⟩
 ·have e:jI { S with T:=setL S.T p n x }=jI S:=by unfold jI;rw[a]
  rw[e];exact cB h.blk A c
 ·rw[a];exact K
theorem fF.putS{S:MW}(h:fF w B b S)(f:aG w g cs 3)(u:B<=g)(s:oB S.H.asl=some g)(d:w.grownBy w' (some g))(A:sl.length=S.H.sl.length)(z:Own w' B 3 1 (.slice S.H.asl sl.length S.H.csl) sl.length (sl.map gF)) :
    fF w' B b { S with H:={ S.H with sl:=sl } }:=
  ⟨by
    have C:=cB h.blk f d;have e:jI { S with H:={ S.H with sl:=sl } }=jI S:=by unfold jI;rw[show({ S.H with sl:=sl }:MH).sl.length=S.H.sl.length from A]
    rw[e];exact C,h.ge,
   ⟨ax h.ma.fr f d,z,h.ma.sw.keep f (by decide) (by decide) d,h.ma.dk.keep f (by decide) (by decide) d,⟨ax h.ma.st.own f d,λi p n=>(h.ma.st.each i p n).grown d (λD j e=>by cases e;unfold ou at j;rw[jF]at j;exact h.n2 p (bP n) _ j s),h.ma.st.apart⟩,ax h.ma.ca f d,ax h.ma.sp f d,λp n=>⟨ax (h.ma.ps p n).1 f d,(h.ma.ps p n).2.keep f (by decide) d⟩,h.ma.c64⟩,
   ax h.tt f d,h.rd.keep h.ra h.bs d u,h.ra,h.n1,h.n2,h.n3⟩
theorem fF.putW{S:MW}(h:fF w B b S)(f:aG w g cs 58)(s:B<=g)(n:oB S.H.wb=some g)(d:w.grownBy w' (some g)){l:List Page}(A:l.length=S.H.sw.blocks.length)(z:Own w' B 58 8 (.slice S.H.wb l.length S.H.cwb) l.length (l.flatMap Dv)) :
    fF w' B b { S with H:={ S.H with sw:=⟨l,S.H.sw.queue⟩ } }:=
  ⟨by
    have C:=cB h.blk f d;have e:jI { S with H:={ S.H with sw:=⟨l,S.H.sw.queue⟩ } }=jI S:=by unfold jI;rw[show({ S.H with sw:=⟨l,S.H.sw.queue⟩ }:MH).sw.blocks.length=S.H.sw.blocks.length from A]
    rw[e];exact C,h.ge,
   ⟨ax h.ma.fr f d,ax h.ma.sl f d,⟨z,ax h.ma.sw.q f d⟩,⟨h.ma.dk.b.grown d (λD j e=>by cases e;rw[jF]at j;exact h.n1 _ n j),ax h.ma.dk.q f d⟩,h.ma.st.keep f (by decide) (by decide) d,ax h.ma.ca f d,ax h.ma.sp f d,λp u=>⟨ax (h.ma.ps p u).1 f d,(h.ma.ps p u).2.keep f (by decide) d⟩,h.ma.c64⟩,
   ax h.tt f d,h.rd.keep h.ra h.bs d s,h.ra,h.n1,h.n2,h.n3⟩
theorem fF.setC{S:MW}(h:fF w B b S){l:List Cc}(f:Own w B 122 3 (.slice a l.length c) l.length (l.flatMap iL))(j:aG w' b (bH (jI S) 10 [.slice a l.length c]) 98)(d:w.grownBy w' (some b)) :
  fF w' B b { S with H:={ S.H with ac:=a,cc:=c,ca:=l } }:=
 ⟨j,h.ge,{ h.ma.keep h.blk (by decide) d with ca:=ax f h.blk d },ax h.tt h.blk d,h.rd.keep h.ra h.bs d h.ge,h.ra,h.n1,h.n2,h.n3⟩
def MW.lst(S:MW)(a:Option Addr)(c:Nat)(l:List UInt8):MW:={ S with al:=a,cl:=c,l:=l }
theorem oZ(S:MW)(a a' : Option Addr)(c c' : Nat)(l l' : List UInt8):(S.lst a c l).lst a' c' l' = S.lst a' c' l':=rfl
theorem QC{x:UInt8}{l:List UInt8}(h:eu w a ((x::l).map zS)):∃b o,a=some ⟨b,o,none⟩/\w.cell? ⟨b,o,none⟩=some (zS x)/\eu w (some ⟨b,o+1,none⟩) (l.map zS):=by
 obtain⟨b,o,rfl,d⟩:=h.at (by simp);exact⟨b,o,rfl,d 0 _ rfl,λi u f=>⟨b,o+1,rfl,by
  have:=d (i+1) u (by simpa using f);rw[show o+1+i=o+(i+1) by omega];exact this⟩⟩
theorem fF.locT{S:MW}(h:fF w B b S)(z:aG w g cs T)(C:T≠3/\T≠94/\T≠68)(D:¬nS b S g)(A:B<=g)(f:w.grownBy w' (some g)):fF w' B b S:=by
 have d:∀ {a:Option Addr},oB a∈iZ S->∀n c u,(Value.slice a n c).ownBlock=some u->some g≠some u:=λF n c u j e=>by cases e;rw[jF]at j;exact D (.inr (by rw[<-j];exact F))
 have m:∀ {x:Option Nat} {l:List (Option Nat)},x∈x::l:=iN;refine⟨h.blk.grown f (λe=>D (.inl (aM e))),h.ge,⟨h.ma.fr.grown f (d (by simp[iZ]) _ _),h.ma.sl.grown f (d (by simp[iZ]) _ _),⟨h.ma.sw.b.grown f (d (by simp[iZ]) _ _),h.ma.sw.q.grown f (λu j=>by rw[h.n3]at j;cases j)⟩,⟨h.ma.dk.b.grown f (d (by simp[iZ]) _ _),h.ma.dk.q.grown f (d (by simp[iZ]) _ _)⟩,
  ⟨h.ma.st.own.grown f (d (by simp[iZ]) _ _),λi p s=>ax (h.ma.st.each i p s) z (p:=C.1) f,h.ma.st.apart⟩,h.ma.ca.grown f (d (by simp[iZ]) _ _),h.ma.sp.grown f (d (by simp[iZ]) _ _),λp s=>⟨ax (h.ma.ps p s).1 z (p:=C.2.1) f,(h.ma.ps p s).2.keep z C.2.2 f⟩,h.ma.c64⟩,
  h.tt.grown f (d (by simp[iZ]) _ _),h.rd.keep h.ra h.bs f A,h.ra,h.n1,h.n2,h.n3⟩
def XL(S:MW)(n:Int)(B b:Nat)(w:World)(r:Ending)(w' : World):Prop:=∃x a c l,r = .returned (.int .i64 x)/\fF w' B b (S.lst a c l)/\MS w b S w' (S.lst a c l)/\(0<=x/\x<256/\(x<n\/x=0))/\(S.l=[]->x=0/\l=[])
theorem fZ(S:MW)(n:Int)(B b:Nat)(w:World)(h:fF w B b S)(hn: -9223372036854775808<=n/\n<=9223372036854775807:=by omega) :
  Calls Tryz.prog 32 #[.pointer (some ⟨b,0,none⟩),.int .i64 n] w (XL S n B b w):=by
 obtain⟨al,cl,l,H,ab,cb,T⟩:=S;have C:vG w al cl l.length (l.map zS):=h.rd;have g:∀a,al=some a->l.map zS≠[]->a.block<B:=h.ra;have D:=h.blk.cell;unfold jI at D;dsimp only at D;have F:=ae h;have d:=ae g;go_enter func32,ntmps32;cases l with
 | nil=>
  clear h C g;go_wp2;go_ret;exact⟨0,al,cl,[],rfl,F.out,MS.refl _ _ _,by omega,λ_=>⟨rfl,rfl⟩⟩
 | cons x l=>
  obtain⟨A,z,rfl,i,o⟩:=QC C.rd;have r:l.length+1<=cl:=by have:=C.le;simpa using this
  have p:=ae C.mx;have m:=ae o;have f:=h.blk;clear h C g o;unfold zS at i
  by_cases R:n<1
  ·go_wp2;go_ret;exact⟨0,_,cl,x::l,rfl,F.out,MS.refl _ _ _,by omega,λe=>(by cases e)⟩
  have s:(1:Int)<=((l.length+1:Nat):Int):=by omega
  have M:=ae x.toNat_lt;have k:Hid ((0:Int)<=(x.toNat:Int)%n/\(x.toNat:Int)%n<256/\((x.toNat:Int)%n<n\/(x.toNat:Int)%n=0)):=ae (by
   have Y:=Int.emod_nonneg (x.toNat:Int) (show n≠0 by omega);have V:=Int.emod_lt_of_pos (x.toNat:Int) (show(0:Int)<n by omega);have U:(x.toNat:Int)%n<=(x.toNat:Int):=by obtain⟨N,rfl⟩:=iO (show 0<=n by omega);rw[<-IJ];have:=Nat.mod_le x.toNat N;omega
   have:=M.out;omega)
  have q:IntKind.i64.wrap (x.toNat:Int)=(x.toNat:Int):=bK _ (by have:=M.out;omega)
  by_cases K:cl=1
  ·subst K;obtain rfl:l=[]:=Eh.1 (by omega)
   go_wp2_with (refine aC b 0 [.slice (some ⟨A,z,none⟩) 0 0] rfl rfl rfl _ _ f (by show 0+1<=13;omega) (by kernel_rfl) (λu I=>by cases bC.1 I;rfl) ?_)
   intro w1 j c;clear D i;go_wp2;go_ret;have J:vG w (some ⟨A,z,none⟩) 0 0 (([]:List UInt8).map zS):=⟨az _,bq _,λe=>(by cases e),eu.nil⟩;exact⟨_,some ⟨A,z,none⟩,0,[],rfl,F.out.putL J (λa e _=>by cases e;exact d.out _ rfl (by simp)) j c,(MS.refl w b _).put c (.inl rfl) λx G => .inl G,k.out,λe=>(by cases e)⟩
  go_wp2_with (refine aC b 0 [.slice (some ⟨A,z+1,none⟩) l.length (cl-1)] rfl rfl rfl _ _ f (by show 0+1<=13;omega) (by kernel_rfl) (λu I=>by cases bC.1 I;rfl) ?_)
  intro w1 j c;clear D i;go_wp2;go_ret;have J:vG w (some ⟨A,z+1,none⟩) (cl-1) l.length (l.map zS):=⟨by omega,by have:=p.out;omega,λe=>(by cases e),m.out⟩;exact⟨_,some ⟨A,z+1,none⟩,cl-1,l,rfl,F.out.putL J (λa e _=>by cases e;exact d.out ⟨A,z,none⟩ rfl (by simp)) j c,(MS.refl w b _).put c (.inl rfl) λx G => .inl G,k.out,λe=>(by cases e)⟩
def XG(S:MW)(B b:Nat)(w:World)(r:Ending)(w' : World):Prop:=∃P a c l,r = .returned (.agg (dW P))/\fF w' B b (S.lst a c l)/\MS w b S w' (S.lst a c l)
theorem yF(S:MW)(B b:Nat)(w:World)(h:fF w B b S) :
  Calls Tryz.prog 35 #[.pointer (some ⟨b,0,none⟩)] w (XG S B b w):=by
 have o:=ae h.bs;go_enter func35,ntmps35;go_upto_region 3 with(fail);refine tY (λW=>Code.wp _ _ _ _ W) λw1 i I F s => ?_;have Y:=h.below i;have U:=(MS.refl w b S).below i;have n:=ae (h.new (az _));have m:=ae (h.new (Nat.le_succ _));clear h
 go_loopw [5] (fun k wr => ∃(q:Nat) (P:Page) (a:Option Addr) (c:Nat) (l:List UInt8),q<=8/\k = .int .i64 q/\fF wr B b (S.lst a c l)/\MS w b S wr (S.lst a c l)/\aG wr w.heap.size (dW zPg) 58/\aG wr (w.heap.size+1) (dW P) 58) (fun k _=>8-(intOf k).toNat)
 case atStart=>exact⟨0,zPg,S.al,S.cl,S.l,bq _,rfl,Y,U,I,F⟩
 case round=>
  clear Y U I F i s;obtain⟨q,P,a,c,l,hq,rfl,R,M,K,J⟩:=hrel;have hb:w.heap.size+2<=wr.heap.size:=J.lt
  by_cases N:q<8
  ·have t:(q:Int)<8:=by omega
   go_wp2_with fail
   refine(fZ _ 4 B b _ R).mono ?_;rintro r w2 ⟨x,a2,c2,l2,rfl,g,f,V,_⟩;rw[oZ]at g f;have G:=f.blkN K n.out;have A:=f.blkN J m.out;have j:=M.trans f;obtain⟨x,rfl⟩:∃y:UInt8,x=(y.toNat:Int):=⟨UInt8.ofNat x.toNat,by rw[UInt8.toNat_ofNat'];omega⟩;have ha:((x.toNat:Nat):Int)<256:=V.2.1;clear R M K J f V
   go_wp2_with (refine aC (w.heap.size+1) q [.int .u8 x.toNat] rfl rfl rfl _ _ A (by show q+1<=8;omega) (by kernel_rfl) (λu hu=>by cases bC.1 hu;rfl) ?_)
   intro Z D d;rw[Pw.putAt_one,BB _ q N] at D;have z:=g.locT A (by decide) m.out (by have:=o.out;omega) d;have p:=j.loc d (Nat.le_succ _);have C:=G.grown d (λe=>by have:=aM e;omega);clear g j G A d;go_wp2;go_roundw
   case rel=>exact⟨q+1,_,a2,c2,l2,by omega,by go_num,z,p,C,D⟩
   case measure=>simp[intOf];omega
  have t:¬(q:Int)<8:=by omega
  go_wp2_with (first | (refine ay (w.heap.size+1) 0 _ J.rd _ underlying58 rfl psize ?_) | (refine aA rfl _ _ rfl w.heap.size (dW P) rfl rfl K rfl psize (eF _) ?_))
  intro Z C d;go_wp2;refine bodyPost_ret (v:=.agg (dW P)) (fw results35 w.heap.size C underlying58 psize) rfl ?_;exact⟨P,a,c,l,rfl,R.locT K (by decide) n.out (by have:=o.out;omega) d,M.loc d (az _)⟩
def MW.frs(S:MW)(fs:List Fr):MW:={ S with H:={ S.H with m:=⟨fs,S.H.m.hand⟩ } }
def Xa(S:MW)(f:Fr)(B b:Nat)(w:World)(r:Ending)(w' : World):Prop:=∃x a c l fs,r = .returned (.int .i64 x)/\fF w' B b ((S.lst a c l).frs fs)/\MS w b S w' ((S.lst a c l).frs fs) /\
   ((x = -1/\fs=S.H.m.fs)\/∃j:Nat,x=j/\j<S.H.m.fs.length/\(aB S.H.ma j).r=0/\fs=S.H.m.fs.set j f)
theorem FI(S:MW)(f:Fr)(B b:Nat)(w:World)(h:fF w B b S)(hz:S.H.m.fs.length<=1000) :
  Calls Tryz.prog 124 #[.pointer (some ⟨b,0,none⟩),.agg (tV f)] w (Xa S f B b w):=by
 go_enter func124,ntmps124;go_upto_region 1 with(fail);refine iC (λW=>Code.wp _ _ _ _ W) λw1 I D hy => ?_;have N:=h.below I;have s1:=(MS.refl w b S).below I;have hl:=ae (h.new (az _));have hJ:=ae h.bs;have A:=N.blk.cell;unfold jI at A;clear h I
 go_wp2_with fail
 refine(fZ _ _ B b _ N).mono ?_;rintro r w2 ⟨x,Z,U,G,rfl,c,t,F,_⟩;have C:=t.blkN D hl.out;have s:=s1.trans t;clear N s1 A t D hy;go_upto_region 4 with(fail);generalize hnn:S.H.m.fs.length=n at *
 go_loopw [20] (fun k wr => ∃q:Nat,q<=n/\k = .int .i64 q/\wr=w2) (fun k _=>n-(intOf k).toNat)
 case atStart=>exact⟨0,bq _,rfl,rfl⟩
 case round=>
  obtain⟨q,hq,rfl,rfl⟩:=hrel;have A:=c.blk.cell;unfold jI at A;dsimp only[MW.lst]at A;rw[hnn]at A
  by_cases hqn:q<n
  ·have hA:(q:Int)<(n:Int):=by omega
   obtain⟨X,rfl⟩:=iO F.1;have hG:(X:Int)<256:=F.2.1;obtain⟨j,hC,hj⟩:∃j:Nat,j<n/\((X:Int)+(q:Int))%(n:Int)=j:=⟨(X+q)%n,rM _ (by omega),by rw[<-Int.natCast_add,<-IJ]⟩;have hI:(j:Int)<(n:Int):=by omega
   obtain⟨g,off,cap,cur,hv,hE,hg,hD,z,hs⟩:=c.ma.fr.put eX (by decide) j (by show j<S.H.m.fs.length;omega);have l:S.H.af=some ⟨g,off,none⟩:=(oO hv).1;rw[l]at A;have R:wr.cell? ⟨g,off+j*13+8,none⟩=some (.int .i64 (S.H.m.fs[j]'(by omega)).r):=z 8 _ rfl;have ht:Hid (aB S.H.ma j=S.H.m.fs[j]'(by omega)):=ae (by unfold aB;show S.H.m.fs.getD j fr0=_;rw[aW,aI (by omega)];rfl);clear hv;have hp:=ae hs;have hF:=ae z;clear hs z;generalize S.H.m.fs[j]'(by omega)=Y at R ht
   by_cases hr:Y.r=0
   ·rw[hr]at R;have hH:g≠w.heap.size:=λe=>hl.out (.inr (by rw[<-e];simp[iZ,l,oB];left;rfl));go_upto_region 8 with(fail);refine aO 9 [_,_,_,_,_,_,.v (.int .i64 (j:Int)),_,_] (Gk rfl (Gk rfl (Gf b 1 rfl rfl (Gf b 1 rfl rfl (Gf b 1 rfl rfl (Gl c.blk (V:=.slice (some ⟨g,off,none⟩) n S.H.cf) (by simp[jI,MW.lst,l,hnn]) rfl rfl rfl rfl (ah ?_ (Gr (.agg #[.int .u8 f.p[0].toNat,.int .u8 f.p[1].toNat,.int .u8 f.p[2].toNat,.int .u8 f.p[3].toNat,.int .u8 f.p[4].toNat,.int .u8 f.p[5].toNat,.int .u8 f.p[6].toNat,.int .u8 f.p[7].toNat,.int .i64 f.r,.bool f.u,.bool f.d,.int .i64 f.f,.int .i64 f.i]) (λρ y W K o=>(bJ rfl (aH rfl o) (bF (C.ext K) 0 13) underlying66)) rfl rfl (Gr (.pointer (some ⟨g,off+j*13,none⟩)) (λρ y W K o=>(bN rfl (aH rfl o) (aH rfl o) hC underlying30 frame_size)) rfl rfl (aF)))))))))) (λ_=>rfl) rfl ?_
    ·intro ρ y W hw hn K hd;have E8:ρ (.tmp 8) = .int .i64 (j:Int):=(hn (.tmp 8) rfl).trans (by show Value.int IntKind.i64 (((X:Int)+(q:Int))%(n:Int))=_;rw[hj]);refine ak (.int .i64 (j:Int)) (run_move (.inl rfl) E8)
    intro y W3 a _;have hm:=c.below a;have J:=hg.ext a;have hi:=s.below a;clear c C s a hg A R
    go_wp2_with (refine aC g (off+j*13) (ni f) rfl rfl rfl _ _ J (by rw[eX];exact hD) (by kernel_rfl) (bV (pq f)) ?_)
    intro w4 h4 M;have hk:=hp.out _ f h4;have hB:=hm.putF J hE M (fs:=S.H.m.fs.set j f) (by simp[MW.lst]) (by simpa[MW.lst]using hk);have hu:=hi.put M (H':=(S.lst Z U G).frs (S.H.m.fs.set j f)) (.inr (by simp[iZ,MW.lst,l,oB];left;rfl)) (λx F => .inl F);clear hm hi J M h4 hk;go_wp2;go_ret;exact⟨j,Z,U,G,_,rfl,hB,hu,.inr ⟨j,rfl,by omega,by rw[ht.out];exact hr,rfl⟩⟩
   go_wp2;go_roundw
   case rel=>exact⟨q+1,by omega,by go_num,by first | rfl | trivial⟩
   case measure=>simp[intOf];omega
  have hA:¬(q:Int)<(n:Int):=by omega
  go_wp2;go_ret;exact⟨-1,Z,U,G,S.H.m.fs,rfl,c,s,.inl ⟨rfl,rfl⟩⟩
theorem TB{o:Nat}(h:eu w (some ⟨b,o,none⟩) (xs++ys)):eu w (some ⟨b,o,none⟩) xs:=λi u d=>h i u (by
 rw[kN (bZ.1 d).1];exact d)
theorem TJ(x:Fr):∃ys,ni x=Dv x.p++ys:=⟨_,rfl⟩
theorem Qx{l:List Cc}{c:Cc}{f i:Int}(s:l[q]?=some c)(j:∀d∈l.take q,¬(d.f=f/\d.i=i))(n:c.f=f/\c.i=i):l.find? (λc=>decide (c.f=f)&&decide (c.i=i))=some c:=by
 rw[<-rJ q l,List.find?_append,qR.2 (λd u=>by have:=j d u;simp only[ed,decide_eq_true_eq];exact this)];rw[vK (bZ.1 s).1,(bZ.1 s).2,List.find?_cons,n.1,n.2];simp
theorem FR{l:List Cc}{f i:Int}(j:∀d∈l,¬(d.f=f/\d.i=i)):l.find? (λc=>decide (c.f=f)&&decide (c.i=i))=none:=
 qR.2 (λd n=>by have:=j d n;simp only[ed,decide_eq_true_eq];exact this)
theorem wo(H:MH)(f i:Int)(w:World)(h:wI w H)(hz:H.ca.length<=1000/\∀f∈H.ma.st.fs,f.b.length<=1000)(hck:∀c∈H.ca,0<=c.k/\c.k<H.m.fs.length)(hf:0<=f/\f<H.fi.length)(hi:0<=i/\i<(aN H.ma.st f).b.length) :
  Calls Tryz.prog 80 #[.agg (dF H),.int .i64 f,.int .i64 i] w λr w'=>r = .returned (.agg (dW (aU H.ma f i)))/\Below w.heap.size w w':=by
 have z7:H.ca.length<=1000:=hz.1;go_enter func80,ntmps80;go_upto_region 1 with(fail);refine tY (λW=>Code.wp _ _ _ _ W) λw1 hR Y rx1 hW => ?_;clear hW;have hr:=Y.cell;unfold dF at hr;go_upto_region 2 with(fail);clear hr
 go_loopw [16] (fun k wr => ∃q:Nat,q<=H.ca.length/\k = .int .i64 q/\Below w.heap.size w wr/\aG wr w.heap.size (dF H) 45/\aG wr (w.heap.size+1) (dW zPg) 58/\Hid (∀d∈H.ca.take q,¬(d.f=f/\d.i=i))) (fun k _=>H.ca.length-(intOf k).toNat)
 case atStart=>exact⟨0,bq _,rfl,hR,Y,rx1,ae (by simp)⟩
 case round=>
  clear hR Y rx1;obtain⟨q,hq,rfl,g,D,A,hv⟩:=hrel
  by_cases hql:q<H.ca.length
  ·obtain⟨bc,oc,h0,t⟩:=Ag (h.below g).ca.rd q hql;obtain⟨c,hc⟩:∃c,H.ca[q]?=some c:=⟨_,aI hql⟩;rw[show H.ca[q]=c from(bZ.1 hc).2]at t;have hY:(q:Int)<(H.ca.length:Int):=by omega
   have hC:=hck c (bP hc);have hO:=ae hc;clear hc;rw[h0]
   go_wp2_with (first | (refine ay bc (oc+q*3) _ t _ underlying122 rfl cached_size ?_) | (refine aJ rfl rfl (vT c) rfl rfl rfl cached_size (wO c) ?_))
   intro w3 hA cx3;have ha:=ag g hA;have V:=D.ext hA;have G:=A.ext hA;have s:=cx3.cell;have kc:=G.lt;clear g D A hA t;unfold vT at s
   by_cases hy:c.f=f/\c.i=i
   ·obtain⟨ht,hD⟩:=hy;obtain⟨k,hk⟩:=iO hC.1;have hL:k<H.m.fs.length:=by have:=hC.2;omega
    obtain⟨Z,of,h3,hg⟩:=jO eX (h.below ha).fr.rd k hL;have hM:(k:Int)<(H.m.fs.length:Int):=by omega
    have o:Hid (aU H.ma f i=(H.m.fs[k]).p):=ae (by unfold aU;rw[show H.ma.ca.find? (λc=>decide (c.f=f)&&decide (c.i=i))=some c from Qx hO.out hv.out ⟨ht,hD⟩];show(H.m.fs.getD c.k.toNat fr0).p=_;rw[hk,aW,show((k:Nat):Int).toNat=k from rfl,aI hL];rfl);generalize H.m.fs[k]=X at hg o;obtain⟨ys,hI⟩:=TJ X;rw[hI]at hg;have hK:=TB hg;have hZ:w3.cell? ⟨w.heap.size,0,none⟩=some (.slice (some ⟨Z,of,none⟩) H.m.fs.length H.cf):=by rw[V.cell,<-h3];rfl
    rw[ht,hD,hk]at s;clear hg hI
    go_wp2_with (first | (refine ay Z (of+k*13) _ hK _ underlying58 rfl psize ?_) | (refine aA rfl _ _ rfl (w.heap.size+1) (dW X.p) rfl rfl G rfl psize (eF X.p) ?_))
    intro J N hF;have y:=ha.grown hF ha.size oG0;clear s hZ;go_wp2;refine bodyPost_ret (v:=.agg (dW X.p)) (fw results80 (w.heap.size+1) N underlying58 psize) rfl ?_;exact⟨by rw[o.out],y⟩
   have hB : Hid (∀d∈H.ca.take (q+1),¬(d.f=f/\d.i=i)):=ae λd hd=>by
    rw[take_at hO.out]at hd;rcases gV.1 hd with hd|hd
    ·exact hv.out d hd
    ·rw[bC.1 hd];exact hy
   by_cases ht:c.f=f
   ·have hD:¬c.i=i:=λe=>hy ⟨ht,e⟩;clear hy;go_wp2;go_roundw
    case rel=>exact⟨q+1,by omega,by go_num,ha,V,G,hB⟩
    case measure=>simp[intOf];omega
   clear hy;go_wp2;go_roundw
   case rel=>exact⟨q+1,by omega,by go_num,ha,V,G,hB⟩
   case measure=>simp[intOf];omega
  have hY:¬(q:Int)<(H.ca.length:Int):=by omega
  rw[jD (by omega)]at hv;have s:=D.cell;unfold dF at s;obtain⟨F,rfl⟩:=iO hf.1;obtain⟨I,rfl⟩:=iO hi.1;have hV:F<H.fi.length:=by omega
  obtain⟨Z,of,hH,t⟩:=jO kE h.st.rd F hV;obtain⟨p,hp⟩:∃p,H.fi[F]?=some p:=⟨_,aI hV⟩;rw[show H.fi[F]=p from(bZ.1 hp).2]at t;have hJ:=ae t;have t:=t.below g;have hm:=(h.below g).st.good p (bP hp);have hn:aN H.ma.st (F:Int)=p.fi:=by unfold aN;rw[if_pos (by omega)];show(H.fi.map PF.fi).getD F ⟨0,[]⟩=p.fi;rw[aW,jd,hp];rfl
  rw[hn]at hi;have hU:I<p.l.length:=by have h2:=hi.2;have e:p.fi.b.length=p.l.length:=rfl;omega
  have h9:p.l.length<=1000:=hz.2 p.fi (iA.2 ⟨p,bP hp,rfl⟩);obtain⟨bb,ob,hE,hr⟩:=kC hm.rd I hU;obtain⟨x,hX⟩:∃x,p.l[I]?=some x:=⟨_,aI hU⟩;rw[show p.l[I]=x from(bZ.1 hX).2]at hr;have U:bO H.ma.st (F:Int) (I:Int)=x:=by unfold bO;rw[hn];show p.l.getD I 0=x;rw[aW,hX];rfl
  have rc:∀j u,(rG p)[j]?=some u->wr.cell? ⟨Z,of+F*2+j,none⟩=some u:=λj u hj=>by obtain⟨b',o',e,hG⟩:=t j u hj;cases e;exact hG
  have R:wr.cell? ⟨Z,of+F*2,none⟩=some (.int .i64 p.n):=rc 0 _ rfl;have rc1:wr.cell? ⟨Z,of+F*2+1,none⟩=some (.slice p.a p.l.length p.c):=rc 1 _ rfl;have o:Hid (aU H.ma F I=if 0<=x then dx (dD H.dk x) (p.n-(I:Int)*8)else zPg):=ae (by unfold aU;rw[show H.ma.ca.find? (λc=>decide (c.f=(F:Int))&&decide (c.i=(I:Int)))=none from FR hv.out,U,hn];rfl);have ke:(F:Int)<(H.fi.length:Int):=by omega
  have kd:(I:Int)<(p.l.length:Int):=by omega
  rw[hE]at rc1;rw[hH]at s;have h4:=ae t;have hS:=ae hH;have h5:=ae hE;have h6:=ae hn;clear rc t hH hE hn hp hX U hi hm
  by_cases hx:x<0
  ·go_wp2_with (refine aA rfl _ _ rfl (w.heap.size+1) (dW zPg) rfl rfl A rfl psize (eF _) ?_)
   intro J N hF;have y:=g.grown hF g.size oG0;clear s;go_wp2;refine bodyPost_ret (v:=.agg (dW zPg)) (fw results80 (w.heap.size+1) N underlying58 psize) rfl ?_;exact⟨by rw[o.out,if_neg (by omega)],y⟩
  go_wp2_with (refine ay w.heap.size 5 _ (bF D 5 2) _ underlying38 rfl disk_size ?_)
  refine(GZ H.dk x _ _ _ _ _ (h.below g).dk).mono ?_;rintro r J ⟨rfl,y⟩;have hN:=aG.new J (dW zPg) 58;have U:Below J.heap.size J (J.alloc (.cells (dW zPg) 58)):=(Below.refl _ _).alloc (az _) _;have kb:=y.size;have ka:=A.lt;have bx5:=(D.ext y).ext U;have rx5:=(A.ext y).ext U;have hs:=ag (ag g y) U;clear s hr R rc1 D A g
  go_wp2_with (refine aA rfl _ _ rfl J.heap.size (dW (dD H.dk x)) rfl rfl hN rfl psize (eF _) ?_)
  intro w5 S hw;have hQ:=hs.grown hw hs.size oG0;have bx6:=bx5.grown hw (λe=>by have:=aM e;omega);have rx6:=rx5.grown hw (λe=>by have:=aM e;omega);clear hN U bx5 rx5 hs hw y;generalize dD H.dk x=P at S o;generalize hp4:J.heap.size=p4 at *
  clear hp4;go_upto_region 12 with(fail)
  go_loopw [59] (fun j wr => ∃k:Nat,k<=8/\j = .int .i64 k/\Below w.heap.size w wr/\aG wr w.heap.size (dF H) 45/\aG wr (w.heap.size+1) (dW zPg) 58/\aG wr p4 (dW (iI P (p.n-(I:Int)*8) k)) 58) (fun j _=>8-(intOf j).toNat)
  case atStart=>exact⟨0,by omega,rfl,hQ,bx6,rx6,by rw[show iI P (p.n-(I:Int)*8) 0=P from by ext j hj;simp[iI]];exact S⟩
  case round=>
   clear hQ bx6 rx6 S;obtain⟨k,hk,rfl,g,D,A,K⟩:=hrel
   by_cases hk8:k<8
   ·have hM:(k:Int)<8:=by omega
    have s:=D.cell;unfold dF at s;rw[hS.out]at s;have R:wr.cell? ⟨Z,of+F*2,none⟩=some (.int .i64 p.n):=by obtain⟨b',o',e,hG⟩:=(hJ.out.below g) 0 _ rfl;cases e;exact hG
    have h8:IntKind.i64.wrap (8*(I:Int))=8*(I:Int):=bK _ (by omega);have h7:IntKind.i64.wrap (8*(I:Int)+(k:Int))=8*(I:Int)+(k:Int):=bK _ (by omega)
    by_cases hge:p.n<=8*(I:Int)+k
    ·have z:Hid ((dW (iI P (p.n-(I:Int)*8) k)).setIfInBounds k (.int .u8 0)=dW (iI P (p.n-(I:Int)*8) (k+1))):=ae (by rw[<-yj P _ k hk8 (by omega)];exact BB _ k hk8 0);generalize hT:iI P (p.n-(I:Int)*8) k=T at K z;clear hT
     go_wp2_with (refine aC p4 k [.int .u8 0] rfl rfl rfl _ _ K (by show k+1<=8;omega) (by kernel_rfl) (λu hu=>by cases bC.1 hu;rfl) ?_)
     intro w7 px7 hl;rw[Pw.putAt_one,z.out] at px7;have hP:=g.grown hl g.size oG0;have bx7:=D.grown hl (λe=>by have:=aM e;omega);have M:=A.grown hl (λe=>by have:=aM e;omega);clear g D A K hl s R;go_wp2;go_roundw
     case rel=>exact⟨k+1,by omega,by go_num,hP,bx7,M,px7⟩
     case measure=>simp[intOf];omega
    have z:iI P (p.n-(I:Int)*8) k=iI P (p.n-(I:Int)*8) (k+1):=by
     ext j hj
     simp only[iI,qX]
     by_cases e:p.n-(I:Int)*8<=(j:Int)
     ·rw[if_neg (by omega),if_neg (by omega)]
     ·rw[if_neg (by omega),if_neg (by omega)]
    rw[z] at K;clear z;go_wp2;go_roundw
    case rel=>exact⟨k+1,by omega,by go_num,g,D,A,K⟩
    case measure=>simp[intOf];omega
   have hM:¬(k:Int)<8:=by omega
   rw[xW _ _ k]at K;have hh : Hid (aU H.ma F I=dx P (p.n-(I:Int)*8)):=ae (by rw[o.out,if_pos (by omega)]);generalize dx P (p.n-(I:Int)*8)=C at K hh
   go_wp2_with (first | (refine ay p4 0 _ K.rd _ underlying58 rfl psize ?_) | (refine aA rfl _ _ rfl (w.heap.size+1) (dW C) rfl rfl A rfl psize (eF _) ?_))
   intro w7 M hl;have h1:=g.grown hl g.size oG0;go_wp2;refine bodyPost_ret (v:=.agg (dW C)) (fw results80 (w.heap.size+1) M underlying58 psize) rfl ?_;exact⟨by rw[hh.out],h1⟩
theorem Ka(s x:Operand)(t:TypeId)(K:o.op=Op.call { callee:=Callee.builtin Builtin.append,args:=#[s,x],argTypes:=#[t,t] })
 (B:Nat) (e:TypeId) (z:Value) (n C:Nat) (S:P.underlying t=some (.slice e)) (h2:(P.info? e).map (λi=>(i.zero,i.size,i.bytes))=some (some z,n,C)) (h6:z.cells.size=n) (V:0<n)
 (g:Nat) (I:ρ s = .slice (some ⟨g,0,none⟩) 0 0) (D:Own w B e n (.slice (some ⟨g,0,none⟩) 0 0) 0 [])
 (F:Option Addr) (m c:Nat) (A:List Value) (G:ρ x = .slice F m c) (M:F=none->c=0) (hmc:m<=c) (N:A.length=m*n) (J:eu w F A)
 (b1:m<=maxLen) (b2:m*C<=140737488355328) (hB:B<=w.heap.size) :
  ∃v' w',(execOp ρ o).run P w = .ok (.value v') w'/\Below w.heap.size w w'/\Own w' B e n v' m A:=by
 obtain⟨Y,R,Z,a,l⟩:=info_parts h2;rcases ut m with U|U
 ·subst U;obtain rfl:A=[]:=kV (by simpa using N);refine⟨.slice (some ⟨g,0,none⟩) 0 0,w,?_,Below.refl _ _,D⟩;cases F with
  | none=>simp[execOp,K,resolve,invoke,builtin,I,G,Builtin.append_,run_underlying S,Go.sizeOf,typeInfo,R,Builtin.lenOf,Builtin.firstCells,storeCells,Result.andThen]
  | some ad=>simp[execOp,K,resolve,invoke,builtin,I,G,Builtin.append_,run_underlying S,Go.sizeOf,typeInfo,R,Builtin.lenOf,Builtin.firstCells,storeCells,loadCells,loadCellsFrom,Result.andThen]
 obtain⟨b,off,rfl,hc⟩:=J.at (by rw[N];exact Nat.mul_pos U V);obtain⟨v',w',hr,d,k⟩:=run_append_arg_grows (P:=P) w t o.type e Y z n C S R Z a l h6 V ⟨g,0,none⟩ 0 0 [] (by simp) (λj u h=>by simp at h) ⟨b,off,none⟩ m c A N (λj u hj=>by rw[qo];exact hc j u hj) (by omega) (by omega) (by rw[eB];exact b2);have f : Own w' B e n v' m A:=by have:=(Own.of_owns d).mono hB;simpa using this
 refine⟨v',w',?_,lm k,f⟩;simp[execOp,K,resolve,invoke,builtin,I,G,hr,Result.andThen]
theorem mK{l:List mP}{J:(Nat->Bool)->(Nat->Value)->World->Prop}{D:Value->World->Prop}(d:Region.wanted o (iq ρ ops)=true)(h:∃v' w',(execOp ρ o).run P w = .ok (.value v') w'/\D v' w')(j:∀v w',D v w'->J (dS L i) (fG y i v) w')(f:∀v w',D v w'->rl l i v w':=by exact(λ_ _ _=>trivial)) :
  if Region.wanted o (iq ρ ops)=true then dZ P o ρ w (λv w'=>J (dS L i) (fG y i v) w'/\rl l i v w')else J (dS L i) (fG y i undef) w/\rl l i undef w:=by
 obtain⟨v,w',n,h2⟩:=h;exact fJ v (h:=d) n (j _ _ h2) (m:=f _ _ h2)
theorem Sb{l:List mP}{D:Value->Prop}(d:Region.wanted o (iq ρ ops)=true)(h:∃v,(execOp ρ o).run P w = .ok (.value v) w/\D v)(f:∀v,D v->rl l i v w) :
  if Region.wanted o (iq ρ ops)=true then dZ P o ρ w (λv w'=>Below w.heap.size w w'/\rl l i v w')else rl l i undef w:=by
 obtain⟨v,j,h2⟩:=h;exact ak v (h:=d) j (m:=f _ h2)
theorem He{α:Type}(enc:α->List Value)(sz:Nat)(d:∀x,(enc x).length=sz):∀(l:List α) (k:Nat),(l.flatMap enc).take (k*sz)=(l.take k).flatMap enc
 | [],k=>by simp
 | x::l,0=>by simp
 | x::l,k+1=>by rw[nV,List.take_succ_cons,nV,Dm,IE,List.take_append,d,jD (by rw[d];omega),Aa,He enc sz d l k]
theorem Ip{α:Type}(enc:α->List Value)(sz:Nat)(d:∀x,(enc x).length=sz):∀(l:List α) (k:Nat),(l.flatMap enc).drop (k*sz)=(l.drop k).flatMap enc
 | [],k=>by simp
 | x::l,0=>by simp
 | x::l,k+1=>by rw[nV,yL,Dm,IE,List.drop_append,d,rA (by rw[d];omega),JR,Aa,Ip enc sz d l k]
theorem Kl(l:List Cc)(c:Cc)(q:Nat)(d:q<=l.length):((l.flatMap iL).take (q*3)++iL c)++(l.flatMap iL).drop (q*3)=(l.insertIdx q c).flatMap iL:=by
 rw[He iL 3 jb,Ip iL 3 jb];have:∀(l:List Cc) (q:Nat),q<=l.length->l.insertIdx q c=l.take q++c::l.drop q:=by
  intro l
  induction l with
  | nil=>
   intro q d;obtain rfl:q=0:=by simpa using d
   rfl
  | cons x l ih=>intro q d;cases q with
   | zero=>rfl
   | succ q=>rw[Dg,ih q (by simpa using d)];rfl
 rw[this l q d];simp[fM]
theorem vG.take{n:Nat}(h:vG w a c n vs)(f:k<=n):vG w a c k (vs.take (k*sz)):=
 ⟨bi f h.le,h.mx,h.nl,λj u d=>h.rd j u (by
  rw[mE]at d;split at d
  ·exact d
  ·cases d)⟩
theorem SY{i:Operand}{n:Nat}(G:o.op = .slice t x none (some i) none)(D:ρ x = .slice a n c)(C:ρ i = .int .i64 (k:Int))(I:k<=n)
 (F:P.underlying t=some (.slice e)) (z:(P.info? e).map (·.size)=some sz) (h:vG W0 a c n vs):(execOp ρ o).run P w = .ok (.value (.slice a k c)) w/\vG W0 a c k (vs.take (k*sz)):=by
 obtain⟨s,f,g⟩:∃s,P.info? e=some s/\s.size=sz:=by
  cases h:P.info? e with
  | none=>rw[h]at z;cases z
  | some s=>rw[h]at z;exact⟨s,rfl,by simpa using z⟩
 have b:(Go.sizeOf e).run P w = .ok sz w:=by simp[Go.sizeOf,typeInfo,f,go_sem,g]
 have m:=h.le;refine⟨?_,bi I h.le,h.mx,h.nl,λj u A=>h.rd j u (by
  rw[mE]at A;split at A
  ·exact A
  ·cases A)⟩
 have d:(k:Int)<=(c:Int):=by omega
 cases a with
 | none=>
  have l:=h.nl rfl;subst l;obtain rfl:k=0:=by omega
  simp[execOp,go_sem,G,D,C,F,b,d]
 | some ad=>simp[execOp,go_sem,G,D,C,F,b,d]
theorem RZ{i:Operand}{n:Nat}(F:o.op = .slice t x (some i) none none)(C:ρ x = .slice a n c)(A:ρ i = .int .i64 (k:Int))(U:k<=n)
 (D:P.underlying t=some (.slice e)) (z:(P.info? e).map (·.size)=some sz) (M:vs.length=n*sz) (h:vG W0 a c n vs):∃v,(execOp ρ o).run P w = .ok (.value v) w/\∃K J,v = .slice K (n-k) J/\vG W0 K J (n-k) (vs.drop (k*sz)):=by
 obtain⟨s,f,g⟩:∃s,P.info? e=some s/\s.size=sz:=by
  cases h:P.info? e with
  | none=>rw[h]at z;cases z
  | some s=>rw[h]at z;exact⟨s,rfl,by simpa using z⟩
 have d:(Go.sizeOf e).run P w = .ok sz w:=by simp[Go.sizeOf,typeInfo,f,go_sem,g]
 have q:=h.le;have p:=h.mx;have l:(k:Int)<=(n:Int):=by omega
 have j:(n:Int)<=(c:Int):=by omega
 cases a with
 | none=>
  have m:=h.nl rfl;subst m;obtain rfl:n=0:=by omega
  obtain rfl:k=0:=by omega
  obtain rfl:vs=[]:=kV (by simpa using M);exact⟨.slice none 0 0,by simp[execOp,go_sem,F,C,A,D,d],none,0,rfl,az _,bq _,λ_=>rfl,by rw[yZ];exact eu.nil⟩
 | some ad=>
  by_cases I:k=c
  ·subst I;obtain rfl:k=n:=by omega
   refine⟨.slice (some ad) 0 0,by simp[execOp,go_sem,F,C,A,D,d],some ad,0,by rw[qD],by omega,bq _,λe=>(by cases e),?_⟩;rw[rA (by omega)];exact eu.nil
  refine⟨.slice (some (ad.add (k*sz))) (n-k) (c-k),?_,some (ad.add (k*sz)),c-k,rfl,by omega,by omega,λe=>(by cases e),?_⟩
  ·have N:k<c:=by omega
   simp[execOp,go_sem,F,C,A,D,d,l,j,N];exactλe=>absurd e.symm I
  intro i u G;rw[qY]at G;obtain⟨b,off,S,R⟩:=h.rd _ _ G;cases S;exact⟨b,off+k*sz,by rw[qo],by rw[ng];exact R⟩
def Au(W0:World)(q:Nat)(l:List Cc)(c:Cc):(Nat->Bool)->(Nat->Value)->World->Prop:=λL y W=>
 Below W0.heap.size W0 W/\(L 23=true->L 15=true)/\(L 15=true->L 9=true) /\
 (L 1=true->L 9=false->∃g,y 1 = .slice (some ⟨g,0,none⟩) 0 0/\Own W W0.heap.size 122 3 (.slice (some ⟨g,0,none⟩) 0 0) 0 []) /\
 (L 9=true->L 15=false->Own W W0.heap.size 122 3 (y 9) q ((l.flatMap iL).take (q*3))) /\
 (L 14=true->L 15=false->∃a e,y 14 = .slice a 1 e/\vG W a e 1 (iL c)) /\
 (L 15=true->L 23=false->Own W W0.heap.size 122 3 (y 15) (q+1) ((l.flatMap iL).take (q*3)++iL c)) /\
 (L 23=true->Own W W0.heap.size 122 3 (y 23) (q+1+(l.length-q)) (((l.flatMap iL).take (q*3)++iL c)++(l.flatMap iL).drop (q*3)))
theorem gM{l:List Cc}{c:Cc}:∀L y W W',Below W.heap.size W W'->Au W0 q l c L y W->Au W0 q l c L y W':=
 λ_ _ _ _ hb ⟨h1,h2,h3,h4,h5,h6,h7,h8⟩=>⟨ag h1 hb,h2,h3,λa b=>by
  obtain⟨g,f,d⟩:=h4 a b;exact⟨g,f,d.below hb⟩,λa b=>(h5 a b).below hb,λa b=>by
  obtain⟨x,e,f,d⟩:=h6 a b;exact⟨x,e,f,d.below hb⟩,λa b=>(h7 a b).below hb,λa=>(h8 a).below hb⟩
theorem Wy{l:List Cc}{c:Cc}(y:Nat->Value):Au W0 q l c (λ_=>false) y W0:=by
 refine⟨Below.refl _ _,?_,?_,?_,?_,?_,?_,?_⟩<;>· intro h;cases h
theorem WM{l:List Cc}{c:Cc}(h:Au W0 q l c L y W):Au W0 q l c (dS L 1) (fG y 1 (.slice (some ⟨W.heap.size,0,none⟩) 0 0)) (W.alloc (.cells #[] 122)):=by
 obtain⟨u,h2,s,z,n,j,f,d⟩:=gM _ _ _ _ ((Below.refl _ _).alloc (az _) (.cells #[] 122)) h;exact⟨u,h2,s,λ_ _=>⟨_,rfl,Own.empty _ _ h.1.size⟩,n,j,f,d⟩
theorem WZ{l:List Cc}{c:Cc}(h:Au W0 q l c L y W)(f:Below W.heap.size W W')(d:Own W' W0.heap.size 122 3 v q ((l.flatMap iL).take (q*3))):Au W0 q l c (dS L 9) (fG y 9 v) W':=by
 obtain⟨u,h2,C,A,z,s,n,j⟩:=gM _ _ _ _ f h;exact⟨u,h2,λ_=>rfl,λ_ e=>(by cases e),λ_ _=>d,s,n,j⟩
theorem UU{l:List Cc}{c:Cc}{e:Nat}(h:Au W0 q l c L y W)(f:Below W.heap.size W W')(d:vG W' a e 1 (iL c)):Au W0 q l c (dS L 14) (fG y 14 (.slice a 1 e)) W':=by
 obtain⟨A,h2,z,u,s,C,n,j⟩:=gM _ _ _ _ f h;exact⟨A,h2,z,u,s,λ_ _=>⟨a,e,rfl,d⟩,n,j⟩
theorem Va{l:List Cc}{c:Cc}(h:Au W0 q l c L y W)(d:L 15=false)(f:L 9=true)(u:W.grownBy W' (y 9).ownBlock)(n:Own W' W0.heap.size 122 3 v (q+1) ((l.flatMap iL).take (q*3)++iL c)):Au W0 q l c (dS L 15) (fG y 15 v) W':=by
 obtain⟨j,h2,G,F,z,D,C,A⟩:=h;have a:L 23=true->False:=λe=>by rw[h2 e]at d;cases d
 exact⟨j.grown u j.size (λk s=>(z f d).ge k s),λ_=>rfl,λ_=>f,λ_ e=>(by rw[show dS L 15 9=L 9 from rfl,f]at e;cases e),λ_ e=>(by cases e),λ_ e=>(by cases e),λ_ _=>n,λe=>(a e).elim⟩
theorem VH{l:List Cc}{c:Cc}(h:Au W0 q l c L y W)(f:L 23=false)(d:L 15=true)(z:W.grownBy W' (y 15).ownBlock)(s:Own W' W0.heap.size 122 3 v (q+1+(l.length-q)) (((l.flatMap iL).take (q*3)++iL c)++(l.flatMap iL).drop (q*3))):Au W0 q l c (dS L 23) (fG y 23 v) W':=by
 obtain⟨n,h2,j,G,F,D,A,C⟩:=h;exact⟨n.grown z n.size (λk u=>(A d f).ge k u),λ_=>d,j,λ_ e=>(by rw[show dS L 23 9=L 9 from rfl,j d]at e;cases e),λ_ e=>(by rw[show dS L 23 15=L 15 from rfl,d]at e;cases e),λ_ e=>(by rw[show dS L 23 15=L 15 from rfl,d]at e;cases e),λ_ e=>(by cases e),λ_=>s⟩
structure JX (S S' : MW):Prop where
 sp:S'.H.sp=S.H.sp
 fi:S'.H.fi=S.H.fi
 ct:S'.H.ct=S.H.ct
 dk:S'.H.dk=S.H.dk
 fl:S'.H.m.fs.length=S.H.m.fs.length
 sl:S'.H.sl.length=S.H.sl.length
theorem JX.refl(S:MW):JX S S:=⟨rfl,rfl,rfl,rfl,rfl,rfl⟩
theorem JX.trans{a b c:MW}(h:JX a b)(k:JX b c):JX a c:=⟨k.sp.trans h.sp,k.fi.trans h.fi,k.ct.trans h.ct,k.dk.trans h.dk,k.fl.trans h.fl,k.sl.trans h.sl⟩
theorem fF.rdM{S:MW}(h:fF w B b S):eu w (some ⟨b,1,none⟩) (dF S.H).toList:=bF h.blk 1 11
theorem Bd.cas{T:List (List En)}(h:Bd m T):m.ca.length<=60:=TF (m:=fq m T) h.rt.ca h.rt.pt.st
theorem Bd.fis{T:List (List En)}(h:Bd m T):∀f∈m.st.fs,f.b.length<=12:=yA h.rt.pt.st
def Mk(S:MW)(B b:Nat)(w:World)(ks:List (Nat × Array Value × TypeId)):(Nat->Bool)->(Nat->Value)->World->Prop:=λ_ _ W=>
 ∃a c l,fF W B b (S.lst a c l)/\MS w b S W (S.lst a c l)/\∀t∈ks,aG W t.1 t.2.1 t.2.2/\¬nS b S t.1
theorem aK{S:MW}{ks:List (Nat × Array Value × TypeId)}:∀L y W W',Below W.heap.size W W'->Mk S B b w ks L y W->Mk S B b w ks L y W':=
 λ_ _ _ _ hb ⟨a,c,l,h1,h2,h3⟩=>⟨a,c,l,h1.below hb,h2.below hb,λt d=>⟨(h3 t d).1.ext hb,(h3 t d).2⟩⟩
theorem AR{S:MW}{ks:List (Nat × Array Value × TypeId)}{y' : Value->Nat->Value}(n:Int)(h:Mk S B b w ks L y W){R:Value->World->Prop}(z:∀x:Int,0<=x->x<256->(x<n\/x=0)->∀W',R (.int .i64 x) W')(hn: -9223372036854775808<=n/\n<=9223372036854775807:=by omega) :
  Calls Tryz.prog 32 #[.pointer (some ⟨b,0,none⟩),.int .i64 n] W λe W' => ∃v,e = .returned v/\Mk S B b w ks L' (y' v) W'/\R v W':=by
 obtain⟨a,c,l,A,h2,j⟩:=h;refine(fZ _ n B b W A (hn:=hn)).mono ?_;rintro r W' ⟨x,D,C,u,rfl,k1,s,d,_⟩;exact⟨_,rfl,⟨D,C,u,k1,h2.trans s,λt f=>⟨s.blkN (j t f).1 (j t f).2,(j t f).2⟩⟩,z x d.1 d.2.1 d.2.2 W'⟩
theorem Um{S:MW}{ks:List (Nat × Array Value × TypeId)}{y' : Value->Nat->Value}(h:Mk S B b w ks L y W){R:Value->World->Prop}(s:∀P W',R (.agg (dW P)) W') :
  Calls Tryz.prog 35 #[.pointer (some ⟨b,0,none⟩)] W λe W' => ∃v,e = .returned v/\Mk S B b w ks L' (y' v) W'/\R v W':=by
 obtain⟨a,c,l,u,h2,f⟩:=h;refine(yF _ B b W u).mono ?_;rintro r W' ⟨P,A,z,n,rfl,k1,j⟩;exact⟨_,rfl,⟨A,z,n,k1,h2.trans j,λt d=>⟨j.blkN (f t d).1 (f t d).2,(f t d).2⟩⟩,s P W'⟩
theorem Ur{l:List Cc}{f i:Int}(D:q<=l.length)(n:∀d∈l.take q,Cq f i d=false)(s:q=l.length\/∃c,l[q]?=some c/\Cq f i c=true):sP l f i=q:=by
 unfold sP;rcases s with rfl|⟨c,C,z⟩
 ·rw[jD (az _)]at n;rw[wu.2 λd A=>n d A];rfl
 obtain⟨u,rfl⟩:=bZ.1 C;rw[si.2 ⟨u,z,λj F=>by have:=n (l[j]'(by omega)) (List.mem_take_iff_getElem.2 ⟨j,by omega,rfl⟩);rw[this];decide⟩];rfl
def Vs(S:MW)(f i:Int)(B b:Nat)(w:World)(r:Ending)(w' : World):Prop:=∃x S',r = .returned (.int .i64 x)/\fF w' B b S'/\MS w b S w' S'/\JX S S'/\S'.T=S.T/\Bd S'.H.ma S'.T/\(x = -1\/∃c∈S'.H.ca,c.f=f/\c.i=i/\c.k=x)
theorem LW(S:MW)(f i:Int)(B b:Nat)(w:World)(h:fF w B b S)(D:Bd S.H.ma S.T)(hi:qP S.H.ma.st f i) :
  Calls Tryz.prog 123 #[.pointer (some ⟨b,0,none⟩),.int .i64 f,.int .i64 i] w (Vs S f i B b w):=by
 have z7:S.H.ca.length<=60:=D.cas;have k4:=ae h.bs;have gw:=h.lt;obtain⟨F,rfl⟩:=iO hi.1.1;obtain⟨I,rfl⟩:=iO hi.2.1;have kD:F<S.H.fi.length:=by have:=hi.1.2;simp[MH.ma,cZ]at this;omega
 have gx:(F:Int)<(S.H.fi.length:Int):=by omega
 have hO:=zB D.few.2.2.2.2.1 hi;have gy:(F:Int)<5:=hO.1;have gn:(I:Int)<12:=hO.2.1;obtain⟨N,hN⟩:∃N,(aN S.H.ma.st (F:Int)).n=N:=⟨_,rfl⟩;obtain⟨p,hp⟩:∃p,S.H.fi[F]?=some p:=⟨_,aI kD⟩;have ks:p.n=N:=by rw[<-hN];have:aN S.H.ma.st (F:Int)=p.fi:=jN (by show(S.H.fi.map PF.fi)[F]?=_;rw[jd,hp];rfl);rw[this];rfl
 have kX:=ae hp;have kC:=ae hN;have kr:=ae ks;have hA:=ae D;have ke:=ae hi;clear D hi hp hN ks hO;go_enter func123,ntmps123;have U:=h.blk.cell;unfold jI at U;go_upto_region 2 with(fail);clear U
 go_loopw [20] (fun k wr => ∃q:Nat,q<=S.H.ca.length/\k = .int .i64 q/\Below w.heap.size w wr/\Hid (∀d∈S.H.ca.take q,¬(d.f=(F:Int)/\d.i=(I:Int)))) (fun k _=>S.H.ca.length-(intOf k).toNat)
 case atStart=>exact⟨0,bq _,rfl,Below.refl _ _,ae (by simp)⟩
 case round=>
  obtain⟨q,hq,rfl,hJ,hX⟩:=hrel
  by_cases K:q<S.H.ca.length
  ·obtain⟨Y,R,hh,t⟩:=Ag (h.ma.rd.below hJ).ca.rd q K;obtain⟨c,U⟩:∃c,S.H.ca[q]?=some c:=⟨_,aI K⟩;rw[show S.H.ca[q]=c from(bZ.1 U).2]at t;have hH:(q:Int)<(S.H.ca.length:Int):=by omega
   have ky:=ae U;clear U;rw[hh]
   go_wp2_with (first | (refine ay Y (R+q*3) _ t _ underlying122 rfl cached_size ?_) | (refine aJ rfl rfl (vT c) rfl rfl rfl cached_size (wO c) ?_))
   intro w3 hK cx3;have hE:=ag hJ hK;have hD:=cx3.cell;have gu:=cx3.lt;clear hJ hK t;unfold vT at hD
   by_cases hy:c.f=(F:Int)/\c.i=(I:Int)
   ·obtain⟨hU,kc⟩:=hy;rw[hU,kc]at hD;go_wp2;go_ret;exact⟨c.k,S,rfl,h.below hE,(MS.refl w b S).below hE,.refl _,rfl,hA.out,.inr ⟨c,bP ky.out,hU,kc,rfl⟩⟩
   have h0 : Hid (∀d∈S.H.ca.take (q+1),¬(d.f=(F:Int)/\d.i=(I:Int))):=ae λd D=>by
    rw[take_at ky.out]at D;rcases gV.1 D with D|D
    ·exact hX.out d D
    ·rw[bC.1 D];exact hy
   by_cases hU:c.f=(F:Int)
   ·have kc:¬c.i=(I:Int):=λe=>hy ⟨hU,e⟩;clear hy;go_wp2;go_roundw
    case rel=>exact⟨q+1,by omega,by go_num,hE,h0⟩
    case measure=>simp[intOf];omega
   clear hy;go_wp2;go_roundw
   case rel=>exact⟨q+1,by omega,by go_num,hE,h0⟩
   case measure=>simp[intOf];omega
  have hH:¬(q:Int)<(S.H.ca.length:Int):=by omega
  rw[jD (by omega)]at hX;have h1:=h.below hJ;have s1:=(MS.refl w b S).below hJ;have gt:=ae (h1.new (az _));have U:=h1.blk.cell;unfold jI at U
  go_wp2_with (refine ay b 1 _ h1.rdM _ underlying45 rfl machine_size ?_)
  refine(wo S.H F I _ h1.ma.rd ⟨by omega,λf hf=>bi (hA.out.fis f hf) (by decide)⟩ (λc U=>hA.out.rt.ca.lt c U) (by have:=ke.out.1;simpa[MH.ma,cZ]using this) ke.out.2).mono ?_;rintro r w2 ⟨rfl,kk⟩;have hP:Hid (dx (aU S.H.ma F I) (N-(I:Int)*8)=aU S.H.ma F I/\aU S.H.ma F I=dB S.H.ma F I):=ae (by
   have e:aU S.H.ma F I=dB S.H.ma F I:=by unfold aU dB;rw[show S.H.ma.ca.find? (λc=>decide (c.f=(F:Int))&&decide (c.i=(I:Int)))=none from FR hX.out]
   exact⟨by rw[e,<-kC.out];exact Ig _ _ _,e⟩)
  generalize aU S.H.ma F I=P at hP;have h2:=h1.below kk;have s2:=s1.below kk;clear h1 s1 U kk h hJ
  go_wp2_with (refine aJ rfl rfl (dW P) rfl rfl rfl psize (eF P) ?_)
  intro w3 hK px3;have h3:=h2.below hK;have s3:=s2.below hK;have hL:=ae (h2.new (az _));have kd:=ae s2.size;have kW:w2.heap.size<w3.heap.size:=px3.lt;have kt:B<=w2.heap.size:=bi k4.out kd.out;clear h2 s2 hK;generalize hp4:w2.heap.size=p4 at *
  clear hp4
  go_wp2_with fail
  refine(fZ _ 2 B b _ h3).mono ?_;rintro r w4 ⟨x,a4,c4,l4,rfl,h4,s4,J,_⟩;have px4:=s4.blkN px3 hL.out;have s4:=s3.trans s4;clear h3 s3 px3 J kW;go_upto_if 46 with(fail)
  go_cut [10] (fun s10 wx => ∃(d:Bool) (a:Option Addr) (c:Nat) (l:List UInt8) (P:Page),s10 = .bool d/\fF wx B b (S.lst a c l)/\MS w b S wx (S.lst a c l)/\aG wx p4 (dW P) 58/\Hid (dx P (N-(I:Int)*8)=P/\(d=false->P=dB S.H.ma F I)))
  case first=>
   by_cases hx1:x=1
   ·subst hx1
    go_wp2_with fail
    refine(yF _ B b _ h4).mono ?_;rintro r w5 ⟨M,a5,c5,l5,rfl,h5,s5⟩;rw[oZ]at h5 s5;have px5:=s5.blkN px4 hL.out;have s5:=s4.trans s5;clear h4 s4 px4 hP
    go_wp2_with (refine aA rfl _ _ rfl p4 (dW M) rfl rfl px5 rfl psize (eF _) ?_)
    intro w6 px6 kg;have h6:=h5.locT px5 (by decide) hL.out kt kg;have s6:=s5.loc kg kd.out;clear h5 s5 px5 kg;go_upto_region 11 with(fail)
    go_loopw [49] (fun j wr => ∃k:Nat,k<=8/\j = .int .i64 k/\fF wr B b (S.lst a5 c5 l5)/\MS w b S wr (S.lst a5 c5 l5)/\aG wr p4 (dW (iI M (N-(I:Int)*8) k)) 58) (fun j _=>8-(intOf j).toNat)
    case atStart=>exact⟨0,by omega,rfl,h6,s6,by rw[show iI M (N-(I:Int)*8) 0=M from by ext j hj;simp[iI]];exact px6⟩
    case round=>
     clear h6 s6 px6;obtain⟨k,hk,rfl,hm,hs,px⟩:=hrel
     by_cases hk8:k<8
     ·have kZ:(k:Int)<8:=by omega
      have hD:=hm.blk.cell;unfold jI at hD;dsimp only[MW.lst]at hD;obtain⟨bf,of,kl,t⟩:=jO kE hm.ma.rd.st.rd F kD;dsimp only[MW.lst]at kl t;rw[show S.H.fi[F]=p from(bZ.1 kX.out).2]at t;rw[kl]at hD;have rc0:wr.cell? ⟨bf,of+F*2,none⟩=some (.int .i64 N):=by rw[<-kr.out];obtain⟨b',o',e,hS⟩:=t 0 _ rfl;cases e;exact hS
      clear t kl;have gs:IntKind.i64.wrap (8*(I:Int))=8*(I:Int):=bK _ (by omega);have gr:IntKind.i64.wrap (8*(I:Int)+(k:Int))=8*(I:Int)+(k:Int):=bK _ (by omega)
      by_cases hge:N<=8*(I:Int)+k
      ·have hr:Hid ((dW (iI M (N-(I:Int)*8) k)).setIfInBounds k (.int .u8 0)=dW (iI M (N-(I:Int)*8) (k+1))):=ae (by rw[<-yj M _ k hk8 (by omega)];exact BB _ k hk8 0);generalize hT:iI M (N-(I:Int)*8) k=T at px hr;clear hT
       go_wp2_with (refine aC p4 k [.int .u8 0] rfl rfl rfl _ _ px (by show k+1<=8;omega) (by kernel_rfl) (λu hu=>by cases bC.1 hu;rfl) ?_)
       intro w7 px7 kf;rw[Pw.putAt_one,hr.out] at px7;have kY:=hm.locT px (by decide) hL.out kt kf;have kV:=hs.loc kf kd.out;clear hm hs px kf hD rc0;go_wp2;go_roundw
       case rel=>exact⟨k+1,by omega,by go_num,kY,kV,px7⟩
       case measure=>simp[intOf];omega
      have hr:iI M (N-(I:Int)*8) k=iI M (N-(I:Int)*8) (k+1):=by
       ext j hj
       simp only[iI,qX]
       by_cases e:N-(I:Int)*8<=(j:Int)
       ·rw[if_neg (by omega),if_neg (by omega)]
       ·rw[if_neg (by omega),if_neg (by omega)]
      rw[hr] at px;clear hr;go_wp2;go_roundw
      case rel=>exact⟨k+1,by omega,by go_num,hm,hs,px⟩
      case measure=>simp[intOf];omega
     have kZ:¬(k:Int)<8:=by omega
     rw[xW _ _ k]at px;have hC:Hid (dx (dx M (N-(I:Int)*8)) (N-(I:Int)*8)=dx M (N-(I:Int)*8)):=ae (Pb _ _);generalize dx M (N-(I:Int)*8)=C at px hC;go_wp2;go_meet
     case rel=>exact⟨true,a5,c5,l5,C,rfl,hm,hs,px,ae ⟨hC.out,λh=>(by cases h)⟩⟩
   go_wp2;go_meet
   case rel=>exact⟨false,a4,c4,l4,P,rfl,h4,s4,px4,ae ⟨hP.out.1,λ_=>hP.out.2⟩⟩
  case rest=>
   obtain⟨d,a5,c5,l5,M,rfl,h5,s5,px5,kB⟩:=hcut;clear h4 s4 px4 hP;go_upto_region 16 with(fail);refine iH 9 [.v (.pointer (some ⟨b,0,none⟩)),.v (.agg (dW M)),_,.r 3 ((dJ λv => ∃x:Int,v = .int .i64 x/\0<=x)),.r 4 ((dJ λv => ∃u,v = .bool u)),_,_,_,.r 8 ((dJ λv => ∃u,v = .agg (tV ⟨M,1,u,d,(F:Int),(I:Int)⟩)))] (Mk S B b w [(p4,dW M,58)]) aK (λ_=>⟨a5,c5,l5,h5,s5,by simpa using⟨px5,hL.out⟩⟩) (Qk aK rfl (ah ?_ (Qk aK rfl (ah ?_ (ah ?_ (Qk aK rfl (Qk aK rfl (Qk aK rfl (ah ?_ (aF)))))))))) (λ_=>rfl) rfl ?_
   ·intro ρ y W L G Z o s A D;refine fV aK A ?_;have E9:ρ (.tmp 9) = .pointer (some ⟨p4,0,none⟩):=(Z (.tmp 9) rfl).trans rfl;obtain⟨a,c,l,m1,m2,m3⟩:=A;have m3:=(m3 _ (bC.2 rfl)).1;refine ak (.agg (dW M)) (dG rfl E9 m3 underlying58 psize)
   ·intro ρ y W L G Z o s A D;have gi:=G 72 2 rfl;have h2:y 2=_:=D 2 rfl;have EC:∀v,ρ (.const v)=v:=λv=>Z (.const v) trivial;have EF:=eF0 Z λ_=>trivial;refine je _ _ (aj) (aS rfl (EF _) func32 (by simp only[bU,bS,aZ,gi,h2,EC,EF];rfl)) ?_;exact AR 2 A λx h1 _ _ _=>⟨x,rfl,h1⟩
   ·intro ρ y W L G Z o s A D;refine fV aK A ?_;have gh:=G 73 3 rfl;have h3:=D 3 rfl;obtain⟨x,J,_⟩:=h3;refine ak _ (qC rfl (gh.trans J) (Z (.const _) trivial) (by simp[go_sem];rfl)) (m:=⟨_,rfl⟩)
   ·intro ρ y W L G Z o s A D;refine fV aK A ?_;have gj:=G 71 1 rfl;have h1:y 1=_:=D 1 rfl;have gg:=G 74 4 rfl;have h4:=D 4 rfl;have gf:=G 75 5 rfl;have h5:y 5=_:=D 5 rfl;have ge:=G 76 6 rfl;have h6:y 6=_:=D 6 rfl;have gd:=G 77 7 rfl;have h7:y 7=_:=D 7 rfl;obtain⟨u,hu⟩:=h4;have EC:∀v,ρ (.const v)=v:=λv=>Z (.const v) trivial;refine ak (.agg (tV ⟨M,1,u,d,(F:Int),(I:Int)⟩)) (by simp[execOp,go_sem,gj,h1,gg,gf,h5,ge,h6,gd,h7,EC,hu,dW,tV]) (m:=⟨_,rfl⟩)
   intro y W5 kz hG;have gq:((dJ λv => ∃x:Int,v = .int .i64 x/\0<=x)).r (y 3) W5:=hG 3 (by decide);have gp:((dJ λv => ∃u,v = .bool u)).r (y 4) W5:=hG 4 (by decide);have kT:((dJ λv => ∃u,v = .agg (tV ⟨M,1,u,d,(F:Int),(I:Int)⟩))).r (y 8) W5:=hG 8 (by decide);clear hG;obtain⟨a6,c6,l6,h6,s6,px6⟩:=kz;have px6:=(px6 _ (bC.2 rfl)).1;obtain⟨u,hu⟩:=kT;rw[hu];clear hu h5 s5 px5
   go_wp2_with fail
   refine(FI _ _ B b _ h6 (by have:=hA.out.few.1;show S.H.m.fs.length<=1000;have e:S.H.ma.m.fs.length=S.H.m.fs.length:=rfl;omega)).mono ?_;rintro r w7 ⟨x7,a7,c7,l7,fs,rfl,h7,s7,kU⟩;rw[oZ]at h7 s7;have s7:=s6.trans s7;clear h6 s6 px6;rcases kU with⟨rfl,rfl⟩|⟨j,rfl,hj,hjr,rfl⟩
   ·go_wp2;go_ret;exact⟨-1,_,rfl,h7,s7,⟨rfl,rfl,rfl,rfl,rfl,rfl⟩,rfl,hA.out,.inl rfl⟩
   have k0 : j<S.H.m.fs.length:=hj;have kw:=ae hjr;have gv:(0:Int)<=(j:Int):=by omega
   clear hj hjr;go_upto_region 20 with(fail)
   go_loopw [13] (fun k wr => ∃q:Nat,q<=S.H.ca.length/\k = .int .i64 q/\Below w7.heap.size w7 wr/\Hid (∀d∈S.H.ca.take q,Cq F I d=false)) (fun k _=>S.H.ca.length-(intOf k).toNat)
   case atStart=>exact⟨0,bq _,rfl,Below.refl _ _,ae (by simp)⟩
   case round=>
    obtain⟨q,hq,rfl,kj,hz⟩:=hrel;have ha:=h7.below kj;have kn:IntKind.i64.wrap (100*(F:Int))=100*(F:Int):=bK _ (by omega);have km:IntKind.i64.wrap (100*(F:Int)+(I:Int))=100*(F:Int)+(I:Int):=bK _ (by omega)
    by_cases K:q<S.H.ca.length
    case' neg=>
     have hH:¬(q:Int)<(S.H.ca.length:Int):=by omega
     go_upto_region 20 with(fail);refine aO 35 [_,_,_,_,_,_,_,_,_,_,_,_,_,_,_,_,_,_,_,_,_,_,_,_,_,_,_,_,_,_,_,_,_,_,.v (.bool false)] (Gk rfl (Gk rfl (Gk rfl (Gf b 1 rfl rfl (Gf b 10 rfl rfl (Gl ha.blk (V:=.slice S.H.ac S.H.ca.length S.H.cc) (by simp[jI,MW.frs,MW.lst]) rfl rfl rfl rfl (Gn rfl rfl rfl rfl (Gb (.bool false) (by simp[go_sem,hH,K]) rfl rfl rfl rfl rfl (Gk rfl (Gk rfl (Gk rfl (Gk rfl (Gk rfl (Gk rfl (Gk rfl (Gk rfl (Gk rfl (Gk rfl (Gk rfl (Gk rfl (Gk rfl (Gk rfl (Gk rfl (Gk rfl (Gk rfl (Gk rfl (Gk rfl (Gk rfl (Gk rfl (Gk rfl (Gk rfl (Gk rfl (Gk rfl (Gk rfl (Gk rfl (aF)))))))))))))))))))))))))))))))))))) (λ_=>rfl) rfl ?_;intro y W8 hl _;have kA:Hid (sP S.H.ca F I=q):=ae (Ur hq hz.out (.inl (by omega)))
    case' pos=>
     obtain⟨Y,R,hh,t⟩:=Ag ha.ma.rd.ca.rd q K;have hh:S.H.ac=some ⟨Y,R,none⟩:=hh;obtain⟨c,U⟩:∃c,S.H.ca[q]?=some c:=⟨_,aI K⟩;have t:eu wr (some ⟨Y,R+q*3,none⟩) (iL c):=by rw[<-(bZ.1 U).2];exact t
     have hH:(q:Int)<(S.H.ca.length:Int):=by omega
     have kh:=hA.out.rt.ca.file c (bP U);have gl:=zB hA.out.few.2.2.2.2.1 kh;have gm:0<=c.f/\0<=c.i:=⟨kh.1.1,kh.2.1⟩;have kp:IntKind.i64.wrap (100*c.f)=100*c.f:=bK _ (by omega);have ko:IntKind.i64.wrap (100*c.f+c.i)=100*c.f+c.i:=bK _ (by omega);have hW:∀W,Below wr.heap.size wr W->W.cell? ⟨Y,R+q*3,none⟩=some (.int .i64 c.f):=λW A=>by obtain⟨b',o',e,hS⟩:=(t.below A) 0 _ rfl;cases e;exact hS
     have hV:∀W,Below wr.heap.size wr W->W.cell? ⟨Y,R+q*3+1,none⟩=some (.int .i64 c.i):=λW A=>by obtain⟨b',o',e,hS⟩:=(t.below A) 1 _ rfl;cases e;exact hS
     have hY:Hid (Cq F I c=true↔¬100*c.f+c.i<100*(F:Int)+(I:Int)):=ae (by rw[yn];omega)
     by_cases hlt:100*c.f+c.i<100*(F:Int)+(I:Int)
     case pos=>
      go_upto_region 20 with(fail);refine aO 35 [_,_,_,_,_,_,_,_,_,_,_,_,_,_,_,_,_,_,_,_,_,_,_,_,_,_,_,_,_,_,_,_,_,_,.v (.bool true)] (Gk rfl (Gk rfl (Gk rfl (Gf b 1 rfl rfl (Gf b 10 rfl rfl (Gl ha.blk (V:=.slice S.H.ac S.H.ca.length S.H.cc) (by simp[jI,MW.frs,MW.lst]) rfl rfl rfl rfl (Gn rfl rfl rfl rfl (Gb (.bool true) (by simp[go_sem,hH,K]) rfl rfl rfl rfl rfl (Gk rfl (Gk rfl (Gk rfl (Gf b 1 rfl rfl (Gf b 10 rfl rfl (Gl ha.blk (V:=.slice (some ⟨Y,R,none⟩) S.H.ca.length S.H.cc) (by simp[jI,MW.frs,MW.lst,hh]) rfl rfl rfl rfl (Gk rfl (Gr (.pointer (some ⟨Y,R+q*3,none⟩)) (λρ y W A z=>(bN rfl (aH rfl z) (aH rfl z) K underlying42 cached_size)) rfl rfl (Gf Y (R+q*3) rfl rfl (Gc (.int .i64 c.f) (λW A=>by simp[hW _ A]) rfl rfl rfl rfl (Gb (.int .i64 (100*c.f)) (by simp[go_sem,kp]) rfl rfl rfl rfl rfl (Gk rfl (Gk rfl (Gf b 1 rfl rfl (Gf b 10 rfl rfl (Gl ha.blk (V:=.slice (some ⟨Y,R,none⟩) S.H.ca.length S.H.cc) (by simp[jI,MW.frs,MW.lst,hh]) rfl rfl rfl rfl (Gk rfl (Gr (.pointer (some ⟨Y,R+q*3,none⟩)) (λρ y W A z=>(bN rfl (aH rfl z) (aH rfl z) K underlying42 cached_size)) rfl rfl (Gf Y (R+q*3+1) rfl rfl (Gc (.int .i64 c.i) (λW A=>by simp[hV _ A]) rfl rfl rfl rfl (Gb (.int .i64 (100*c.f+c.i)) (by simp[go_sem,ko]) rfl rfl rfl rfl rfl (Gk rfl (Gb (.int .i64 (100*(F:Int))) (by simp[go_sem,kn]) rfl rfl rfl rfl rfl (Gk rfl (Gb (.int .i64 (100*(F:Int)+(I:Int))) (by simp[go_sem,km]) rfl rfl rfl rfl rfl (Gb (.bool true) (by simp[go_sem,hlt]) rfl rfl rfl rfl rfl (Gk rfl (aF)))))))))))))))))))))))))))))))))))) (λ_=>rfl) rfl ?_;intro y W8 hl _;have ku:Hid (∀d∈S.H.ca.take (q+1),Cq F I d=false):=ae λd D=>by
       rw[take_at U]at D;rcases gV.1 D with D|D
       ·exact hz.out d D
       rw[bC.1 D];cases hg:Cq F I c with
       | false=>rfl
       | true=>exact absurd hlt (hY.out.1 hg)
      have hZ:=ag kj hl;clear hl U hh t hW hV hY hz ha;go_wp2;go_roundw
      case rel=>exact⟨q+1,by omega,by go_num,hZ,ku⟩
      case measure=>simp[intOf];omega
     go_upto_region 20 with(fail);refine aO 35 [_,_,_,_,_,_,_,_,_,_,_,_,_,_,_,_,_,_,_,_,_,_,_,_,_,_,_,_,_,_,_,_,_,_,.v (.bool false)] (Gk rfl (Gk rfl (Gk rfl (Gf b 1 rfl rfl (Gf b 10 rfl rfl (Gl ha.blk (V:=.slice S.H.ac S.H.ca.length S.H.cc) (by simp[jI,MW.frs,MW.lst]) rfl rfl rfl rfl (Gn rfl rfl rfl rfl (Gb (.bool true) (by simp[go_sem,hH,K]) rfl rfl rfl rfl rfl (Gk rfl (Gk rfl (Gk rfl (Gf b 1 rfl rfl (Gf b 10 rfl rfl (Gl ha.blk (V:=.slice (some ⟨Y,R,none⟩) S.H.ca.length S.H.cc) (by simp[jI,MW.frs,MW.lst,hh]) rfl rfl rfl rfl (Gk rfl (Gr (.pointer (some ⟨Y,R+q*3,none⟩)) (λρ y W A z=>(bN rfl (aH rfl z) (aH rfl z) K underlying42 cached_size)) rfl rfl (Gf Y (R+q*3) rfl rfl (Gc (.int .i64 c.f) (λW A=>by simp[hW _ A]) rfl rfl rfl rfl (Gb (.int .i64 (100*c.f)) (by simp[go_sem,kp]) rfl rfl rfl rfl rfl (Gk rfl (Gk rfl (Gf b 1 rfl rfl (Gf b 10 rfl rfl (Gl ha.blk (V:=.slice (some ⟨Y,R,none⟩) S.H.ca.length S.H.cc) (by simp[jI,MW.frs,MW.lst,hh]) rfl rfl rfl rfl (Gk rfl (Gr (.pointer (some ⟨Y,R+q*3,none⟩)) (λρ y W A z=>(bN rfl (aH rfl z) (aH rfl z) K underlying42 cached_size)) rfl rfl (Gf Y (R+q*3+1) rfl rfl (Gc (.int .i64 c.i) (λW A=>by simp[hV _ A]) rfl rfl rfl rfl (Gb (.int .i64 (100*c.f+c.i)) (by simp[go_sem,ko]) rfl rfl rfl rfl rfl (Gk rfl (Gb (.int .i64 (100*(F:Int))) (by simp[go_sem,kn]) rfl rfl rfl rfl rfl (Gk rfl (Gb (.int .i64 (100*(F:Int)+(I:Int))) (by simp[go_sem,km]) rfl rfl rfl rfl rfl (Gb (.bool false) (by simp[go_sem,hlt]) rfl rfl rfl rfl rfl (Gk rfl (aF)))))))))))))))))))))))))))))))))))) (λ_=>rfl) rfl ?_;intro y W8 hl _;have kA:Hid (sP S.H.ca F I=q):=ae (Ur hq hz.out (.inr ⟨c,U,hY.out.2 hlt⟩));clear U hh t hW hV hY
    all_goals
     have hZ:=ag kj hl;have hI:=h7.below hZ;have s9:=s7.below hZ;clear hl ha hz;go_upto_region 22 with(fail);have sC:vG W8 S.H.ac S.H.cc S.H.ca.length (S.H.ca.flatMap iL):=hI.ma.rd.ca;have sT:=sC.take (sz:=3) hq;have k3:S.H.ca.length<=60:=z7;have tlen:((S.H.ca.flatMap iL).take (q*3)).length=q*3:=by rw[iQ,jE];omega
     have dlen:((S.H.ca.flatMap iL).drop (q*3)).length=(S.H.ca.length-q)*3:=by rw[AA,jE];omega
     refine iH 27 [_,.r 1 ((dJ λ_=>True)),_,_,_,_,.v (.slice S.H.ac S.H.ca.length S.H.cc),_,_,.r 9 ((dJ λ_=>True)),_,_,_,.v (.agg #[.int .i64 (F:Int),.int .i64 (I:Int),.int .i64 (j:Int)]),.r 14 ((dJ λ_=>True)),.r 15 ((dJ λ_=>True)),_,_,_,_,.v (.slice S.H.ac S.H.ca.length S.H.cc),_,.r 22 ((dJ λv => ∃a e,v = .slice a (S.H.ca.length-q) e/\vG W8 a e (S.H.ca.length-q) ((S.H.ca.flatMap iL).drop (q*3)))),.r 23 ((dJ λ_=>True)),_,_,_] (Au W8 q S.H.ca ⟨(F:Int),(I:Int),(j:Int)⟩) gM (λy=>Wy y) (Qk gM rfl (ah ?_ (Qk gM rfl (Qk gM rfl (Qf gM b 1 rfl rfl (Qf gM b 10 rfl rfl (ah ?_ (Qk gM rfl (Qr gM (.slice S.H.ac q S.H.cc) (λρ y W z=>(SY (W0:=W8) rfl (aH rfl z) (aH rfl z) hq underlying42 cached_size sC).1) rfl rfl (ah ?_ (Qk gM rfl (Qk gM rfl (Qk gM rfl (ah ?_ (ah ?_ (ah ?_ (Qk gM rfl (Qk gM rfl (Qf gM b 1 rfl rfl (Qf gM b 10 rfl rfl (ah ?_ (Qk gM rfl (ah ?_ (ah ?_ (Qk gM rfl (Qf gM b 1 rfl rfl (Qf gM b 10 rfl rfl (aF)))))))))))))))))))))))))))) (λ_=>rfl) rfl ?_
     ·intro ρ y W L G Z o s A D;refine fJ (.slice (some ⟨W.heap.size,0,none⟩) 0 0) ?_ (WM A);simp[execOp,go_sem]
     ·intro ρ y W L G Z o s A D;refine fV gM A ?_;have kR:=G 124 5 rfl;have h5:y 5=_:=D 5 rfl;refine ak (.slice S.H.ac S.H.ca.length S.H.cc) (by simp[execOp,go_sem,kR,h5,(hI.below A.1).blk.cell,jI,MW.frs,MW.lst])
     ·intro ρ y W L G Z o s A D;have kS:=G 120 1 rfl;have h1:=D 1 rfl;have kQ:=G 127 8 rfl;have h8:y 8=_:=D 8 rfl;obtain⟨g,k2,k1⟩:=A.2.2.2.1 (s 1 rfl) o;refine mK (aj) (Ka _ _ _ rfl W8.heap.size 122 (.agg #[.int .i64 0,.int .i64 0,.int .i64 0]) 3 24 underlying42 cached_info rfl (by decide) g (kS.trans k2) k1 S.H.ac q S.H.cc _ (kQ.trans h8) sT.nl sT.le tlen (sT.below A.1).rd (by unfold maxLen;omega) (by omega) A.1.size) (λv W1 h=>WZ A h.1 h.2)
     ·intro ρ y W L G Z o s A D;refine fV gM A ?_;have kO:=G 129 10 rfl;have gc:y 10=_:=D 10 rfl;have kN:=G 130 11 rfl;have gb:y 11=_:=D 11 rfl;have kM:=G 131 12 rfl;have ga:y 12=_:=D 12 rfl;refine ak (.agg #[.int .i64 (F:Int),.int .i64 (I:Int),.int .i64 (j:Int)]) (by simp[execOp,go_sem,kO,gc,kN,gb,kM,ga])
     ·intro ρ y W L G Z o s A D;have kL:=G 132 13 rfl;have k9:y 13=_:=D 13 rfl;refine fJ (.slice (some ⟨W.heap.size,0,none⟩) 1 1) ?_ (UU (W':=W.alloc (.cells (vT ⟨(F:Int),(I:Int),(j:Int)⟩) 122)) A ((Below.refl _ _).alloc (az _) _) ⟨az _,by unfold maxLen;omega,λe=>(by cases e),eu.new _ _ _⟩);simp[execOp,go_sem,kL.trans k9,vT]
     ·intro ρ y W L G Z o s A D;have kP:=G 128 9 rfl;have h9:=D 9 rfl;have kK:=G 133 14 rfl;have gA:=D 14 rfl;obtain⟨a,e,hx1,hB⟩:=A.2.2.2.2.2.1 (s 14 rfl) o;have hv:=A.2.2.2.2.1 (s 9 rfl) o;refine mK (aj) (qB _ _ _ rfl W8.heap.size 122 (.agg #[.int .i64 0,.int .i64 0,.int .i64 0]) 3 24 underlying42 cached_info rfl (y 9) q _ kP hv a 1 e _ (kK.trans hx1) hB.nl hB.le rfl hB.rd (DI _) (by unfold maxLen;omega) A.1.size) (λv W1 h=>Va A o (s 9 rfl) h.2.1 h.1)
     ·intro ρ y W L G Z o s A D;refine fV gM A ?_;have kI:=G 138 19 rfl;have k8:y 19=_:=D 19 rfl;refine ak (.slice S.H.ac S.H.ca.length S.H.cc) (by simp[execOp,go_sem,kI,k8,(hI.below A.1).blk.cell,jI,MW.frs,MW.lst])
     ·intro ρ y W L G Z o s A D;refine fV gM A ?_;have kH:=G 139 20 rfl;have k7:y 20=_:=D 20 rfl;have kG:=G 140 21 rfl;have k6:y 21=_:=D 21 rfl;exact Sb (aj) (RZ (W0:=W8) rfl (kH.trans k7) (kG.trans k6) hq underlying42 cached_size (jE _) sC) (λ_ h=>h)
     ·intro ρ y W L G Z o s A D;have kJ:=G 134 15 rfl;have gz:=D 15 rfl;have kF:=G 141 22 rfl;have k5:=D 22 rfl;obtain⟨a,e,hx1,hB⟩:=k5;have hv:=A.2.2.2.2.2.2.1 (s 15 rfl) o;refine mK (aj) (qB _ _ _ rfl W8.heap.size 122 (.agg #[.int .i64 0,.int .i64 0,.int .i64 0]) 3 24 underlying42 cached_info rfl (y 15) (q+1) _ kJ hv a (S.H.ca.length-q) e _ (kF.trans hx1) hB.nl hB.le dlen (hB.below A.1).rd (λu hu=>yV _ u (List.mem_of_mem_drop hu)) (by unfold maxLen;omega) A.1.size) (λv W1 h=>VH A o (s 15 rfl) h.2.1 h.1)
     intro y W9 hF kb;have gk:((dJ λv => ∃a e,v = .slice a (S.H.ca.length-q) e/\vG W8 a e (S.H.ca.length-q) ((S.H.ca.flatMap iL).drop (q*3)))).r (y 22) W9:=kb 22 (by decide);clear kb;have ht:=hF.2.2.2.2.2.2.2 rfl;have hM:=hI.below hF.1;have s10:=s9.below hF.1;rw[Kl _ _ _ hq]at ht;have hQ:Hid ((S.H.ca.insertIdx q (⟨(F:Int),(I:Int),(j:Int)⟩:Cc)).length=q+1+(S.H.ca.length-q)):=ae (by rw[List.length_insertIdx_of_le_length hq];omega);obtain⟨a9,c9,kq,_⟩:=ht.rd;rw[kq]at ht ⊢;have kx:Hid (∀x,oB a9=some x->w.heap.size<=x):=ae λx J=>bi s9.size (jf ht J).1;have ht:=ht.mono (bi hI.bs (az _));clear kq hF hI s9 sT sC tlen dlen h7 s7
     go_wp2_with (refine aC b 10 [.slice a9 (q+1+(S.H.ca.length-q)) c9] rfl rfl rfl _ _ hM.blk (by show 10+1<=13;omega) (by kernel_rfl) (λu hu=>by cases bC.1 hu;rfl) ?_)
     intro w11 ka hR;have kv:=hM.setC (l:=S.H.ca.insertIdx q ⟨(F:Int),(I:Int),(j:Int)⟩) (by rw[hQ.out];exact ht) (by rw[hQ.out];exact ka) hR;have s12:=s10.put (H':=_) hR (.inl rfl) (λx (J:nS b { ((S.lst a7 c7 l7).frs (S.H.m.fs.set j ⟨M,1,u,d,(F:Int),(I:Int)⟩))with H:={ ((S.lst a7 c7 l7).frs (S.H.m.fs.set j ⟨M,1,u,d,(F:Int),(I:Int)⟩)).H with ac:=a9,cc:=c9,ca:=S.H.ca.insertIdx q ⟨(F:Int),(I:Int),(j:Int)⟩ } } x)=>by
      rcases J with J|J
      ·exact .inl (.inl J)
      simp only[iZ,dz,ib,or_false]at J;rcases J with J|J|J|J|J|J|J|J|J
      ·exact .inl (.inr (by simp only[iZ,dz,ib,or_false];exact .inl J))
      ·exact .inl (.inr (by simp only[iZ,dz,ib,or_false];exact .inr (.inl J)))
      ·exact .inl (.inr (by simp only[iZ,dz,ib,or_false];exact .inr (.inr (.inl J))))
      ·exact .inl (.inr (by simp only[iZ,dz,ib,or_false];exact .inr (.inr (.inr (.inl J)))))
      ·exact .inl (.inr (by simp only[iZ,dz,ib,or_false];exact .inr (.inr (.inr (.inr (.inl J))))))
      ·exact .inl (.inr (by simp only[iZ,dz,ib,or_false];exact .inr (.inr (.inr (.inr (.inr (.inl J)))))))
      ·exact .inr (kx.out x J.symm)
      ·exact .inl (.inr (by simp only[iZ,dz,ib,or_false];exact .inr (.inr (.inr (.inr (.inr (.inr (.inr (.inl J)))))))))
      ·exact .inl (.inr (by simp only[iZ,dz,ib,or_false];exact .inr (.inr (.inr (.inr (.inr (.inr (.inr (.inr J))))))))))
     clear hM s10 ka hR ht;go_wp2;go_ret;have ki:=hA.out.cache (X:=⟨M,1,u,d,(F:Int),(I:Int)⟩) ke.out hX.out k0 kw.out ⟨rfl,rfl,rfl⟩ (by rw[kC.out];exact kB.out.1) kB.out.2;refine⟨j,_,rfl,kv,s12,⟨rfl,rfl,rfl,rfl,bI,rfl⟩,rfl,?_,.inr ⟨⟨(F:Int),(I:Int),(j:Int)⟩,(yS hq).2 (.inl rfl),rfl,rfl,rfl⟩⟩;unfold AJ at ki;rw[show sP S.H.ma.ca F I=q from kA.out]at ki;exact ki
theorem ents_size:(Tryz.prog.info? 69).map (·.size)=some 192:=by kernel_rfl
theorem Ha{o d:Nat}(z:ys.length=xs.length)(A:o+xs.length<=cur.size)(C:∀j u,xs[j]?=some u->cur[o+j]?=some u)(D:d+vs.length<=xs.length)
 (s:∀i,i<vs.length->ys[d+i]?=vs[i]?) (n:∀i,(i<d\/d+vs.length<=i)->ys[i]?=xs[i]?):bH cur (o+d) vs=bH cur o ys:=by
 apply mI;intro m
 by_cases F:o<=m/\m<o+xs.length
 ·obtain⟨e,rfl⟩:∃e,m=o+e:=⟨m-o,by omega⟩;obtain⟨u,f⟩:∃u,ys[e]?=some u:=⟨_,aI (by omega)⟩;rw[putAt_in _ _ _ _ u (by omega) f]
  by_cases h2:d<=e/\e<d+vs.length
  ·obtain⟨i,rfl⟩:∃i,e=d+i:=⟨e-d,by omega⟩;rw[s i (by omega)]at f;rw[<-ng];exact putAt_in _ _ _ _ u (by omega) f
  rw[n e (by omega)]at f;rw[putAt_out _ _ _ _ (by omega)];exact C _ _ f
 ·rw[putAt_out _ _ _ _ (by omega),putAt_out _ _ _ _ (by omega)]
theorem Lj{o:Nat}(d:o+13<=cur.size)(s:∀j u,(ni X)[j]?=some u->cur[o+j]?=some u):bH cur (o+8) [.int .i64 (X.r+1)]=bH cur o (ni (eH X)):=
 Ha (xs:=ni X) rfl d s (by show 8+1<=13;omega) (λi f=>by
  obtain rfl:i=0:=by simpa using f
  rfl) (λi f=>by
  match i,f with
  | 0,_=>rfl
  | 1,_=>rfl
  | 2,_=>rfl
  | 3,_=>rfl
  | 4,_=>rfl
  | 5,_=>rfl
  | 6,_=>rfl
  | 7,_=>rfl
  | 8,h=>exact absurd h (by show ¬(8<8\/8+1<=8);omega)
  | 9,_=>rfl
  | 10,_=>rfl
  | 11,_=>rfl
  | 12,_=>rfl
  | n+13,_=>rfl)
def WN(S:MW)(p n:Nat)(B b:Nat)(w:World)(r:Ending)(w' : World):Prop:=∃S',r = .returned (.tuple #[])/\fF w' B b S'/\MS w b S w' S'/\JX S S'/\Bd S'.H.ma S'.T/\∀q j,¬(q=p/\j=n)->fT S'.T q j=fT S.T q j
theorem Nc(S:MW)(p n:Nat)(g:Pg)(B b:Nat)(w:World)(h:fF w B b S)(C:Bd S.H.ma S.T)(hp:p<S.H.sp.length)(G:n<64)(h0:(fT S.T p n).k=0)(hg:onA (dI S.H.ma p).ar n=some g)(hfi:g.fi<S.H.fi.length)(hpg:0<=g.pg)(hsh:g.sh=true->0<=g.fi) :
  Calls Tryz.prog 78 #[.pointer (some ⟨b,0,none⟩),.int .i64 p,.int .i64 n,.agg #[.bool true,.bool g.rd,.bool g.wr,.bool g.sh,.int .i64 g.fi,.int .i64 g.pg]] w (WN S p n B b w):=by
 obtain⟨grd,gwr,gsh,gfi,gpg⟩:=g;dsimp only at hfi hpg hsh ⊢;obtain⟨I,rfl⟩:=iO hpg;have hm:=ae C;have kM:=ae hg;have kT:=ae h0;have gY:=ae h.bs;clear C hg h0 hpg;go_enter func78,ntmps78;go_upto_region 1 with(fail);refine iC (λW=>Code.wp _ _ _ _ W) λw1 kP bx1 gx => ?_;have h1:=h.below kP;have s1:=(MS.refl w b S).below kP;have hT:=ae (h.new (az _));clear h kP gx
 go_wp2_with fail
 refine(fZ _ 4 B b _ h1).mono ?_;rintro r w2 ⟨x,a2,c2,l2,rfl,h2,s2,hx,_⟩;have bx2:=s2.blkN bx1 hT.out;have s2:=s1.trans s2;clear h1 s1 bx1;have hG:=bx2.cell;go_upto_region 5 with(fail)
 by_cases hx0:x=0
 ·subst hx0;go_wp2;refine bodyPost_ret (v:=.tuple #[]) (by simp[results,go_sem,results78]) rfl ?_;exact⟨_,rfl,h2,s2,⟨rfl,rfl,rfl,rfl,rfl,rfl⟩,hm.out,λ_ _ _=>rfl⟩
 have gP:(x==0)=false:=by simp[hx0]
 go_upto_region 6 with(fail)
 go_cut [44] (fun s44 wx=>s44 = .bool (decide (0<=gfi/\(gsh=true\/x=1)))/\wx=w2)
 case first=>
  by_cases hf:0<=gfi
  ·cases gsh with
   | true=>
    go_wp2;go_meet
    case rel=>exact⟨by simp[hf],rfl⟩
   | false=>
    by_cases hx1:x=1
    ·have k5:(x==1)=true:=by simp[hx1]
     have k6:=ae hx1;clear hx1;go_wp2;go_meet
     case rel=>exact⟨by rw[decide_eq_true ⟨hf,.inr k6.out⟩],rfl⟩
    have k5:(x==1)=false:=by simp[hx1]
    go_wp2;go_meet
    case rel=>exact⟨by rw[decide_eq_false (by rintro⟨_,h | h⟩;cases h;exact hx1 h)],rfl⟩
  go_wp2;go_meet
  case rel=>exact⟨by rw[decide_eq_false (λh=>by have:=h.1;omega)],rfl⟩
 case rest=>
  obtain⟨rfl,gt⟩:=hcut;subst wc
  by_cases hF:0<=gfi/\(gsh=true\/x=1)
  ·rw[decide_eq_true hF];obtain⟨F,rfl⟩:=iO hF.1;have kr:F<S.H.fi.length:=by omega
   obtain⟨p0,kD⟩:∃p0,S.H.fi[F]?=some p0:=⟨_,aI kr⟩;have gB:Hid (aN S.H.ma.st (F:Int)=p0.fi):=ae (jN (by show(S.H.fi.map PF.fi)[F]?=_;rw[jd,kD];rfl));obtain⟨bf,of,hY,kn⟩:=jO kE h2.ma.rd.st.rd F kr;have hY:S.H.ai=some ⟨bf,of,none⟩:=hY;have kn:eu w2 (some ⟨bf,of+F*2,none⟩) (rG p0):=by rw[<-(bZ.1 kD).2];exact kn
   have rc1:∀W,Below w2.heap.size w2 W->W.cell? ⟨bf,of+F*2+1,none⟩=some (.slice p0.a p0.l.length p0.c):=λW A=>by obtain⟨b',o',e,gC⟩:=(kn.below A) 1 _ rfl;cases e;exact gC
   have gV:=ae hfi;clear kD kn hfi;go_upto_region 7 with(fail)
   by_cases hge:(p0.l.length:Int)<=(I:Int)
   ·skip;refine aO 15 [_,_,_,_,_,_,_,_,_,_,_,_,_,_,_] (Gf w.heap.size 5 rfl rfl (Gl bx2 rfl rfl rfl rfl rfl (Gk rfl (Gk rfl (Gf b 1 rfl rfl (Gf b 8 rfl rfl (Gf b 8 rfl rfl (Gl h2.blk (V:=.slice (some ⟨bf,of,none⟩) S.H.fi.length S.H.ci) (by simp[jI,MW.lst,hY]) rfl rfl rfl rfl (Gf w.heap.size 4 rfl rfl (Gl bx2 rfl rfl rfl rfl rfl (Gr (.pointer (some ⟨bf,of+F*2,none⟩)) (λρ y W A hq=>(bN rfl (aH rfl hq) (aH rfl hq) kr underlying39 file_size)) rfl rfl (Gf bf (of+F*2+1) rfl rfl (Gc (.slice p0.a p0.l.length p0.c) (λW A=>by simp[rc1 _ A]) rfl rfl rfl rfl (Gn rfl rfl rfl rfl (Gb (.bool true) (by simp[go_sem,hge]) rfl rfl rfl rfl rfl (aF)))))))))))))))) (λ_=>rfl) rfl ?_;intro y W3 hE _;have h3:=h2.below hE;have s3:=s2.below hE;have bx3:=bx2.ext hE;clear h2 s2 bx2 hG hE rc1 hY;have hG:=bx3.cell;go_wp2;refine bodyPost_ret (v:=.tuple #[]) (by simp[results,go_sem,results78]) rfl ?_;exact⟨_,rfl,h3,s3,⟨rfl,rfl,rfl,rfl,rfl,rfl⟩,hm.out,λ_ _ _=>rfl⟩
   skip;refine aO 15 [_,_,_,_,_,_,_,_,_,_,_,_,_,_,_] (Gf w.heap.size 5 rfl rfl (Gl bx2 rfl rfl rfl rfl rfl (Gk rfl (Gk rfl (Gf b 1 rfl rfl (Gf b 8 rfl rfl (Gf b 8 rfl rfl (Gl h2.blk (V:=.slice (some ⟨bf,of,none⟩) S.H.fi.length S.H.ci) (by simp[jI,MW.lst,hY]) rfl rfl rfl rfl (Gf w.heap.size 4 rfl rfl (Gl bx2 rfl rfl rfl rfl rfl (Gr (.pointer (some ⟨bf,of+F*2,none⟩)) (λρ y W A hq=>(bN rfl (aH rfl hq) (aH rfl hq) kr underlying39 file_size)) rfl rfl (Gf bf (of+F*2+1) rfl rfl (Gc (.slice p0.a p0.l.length p0.c) (λW A=>by simp[rc1 _ A]) rfl rfl rfl rfl (Gn rfl rfl rfl rfl (Gb (.bool false) (by simp[go_sem,hge]) rfl rfl rfl rfl rfl (aF)))))))))))))))) (λ_=>rfl) rfl ?_;intro y W3 hE _;have h3:=h2.below hE;have s3:=s2.below hE;have bx3:=bx2.ext hE;clear h2 s2 bx2 hG hE rc1 hY;have hG:=bx3.cell
   go_wp2_with fail
   refine(LW _ F I B b _ h3 hm.out ⟨⟨by omega,by simp[MH.ma,cZ,MW.lst];omega⟩,by omega,by show(I:Int)<(aN S.H.ma.st (F:Int)).b.length;rw[gB.out];show(I:Int)<p0.l.length;omega⟩).mono ?_;rintro r w4 ⟨x3,J,rfl,h4,s4,k4,t4,bd4,gr⟩;have bx4:=s4.blkN bx3 hT.out;have ga:=ae (s4.not bx3.lt hT.out);have s4:=s3.trans s4;clear h3 s3 bx3 hG;have hG:=bx4.cell;rcases gr with rfl|⟨c,hcm,hcf,hci,rfl⟩
   ·go_wp2;refine bodyPost_ret (v:=.tuple #[]) (by simp[results,go_sem,results78]) rfl ?_;exact⟨J,rfl,h4,s4,⟨k4.sp,k4.fi,k4.ct,k4.dk,k4.fl,k4.sl⟩,bd4,λ_ _ _=>by rw[t4];rfl⟩
   have gb:=bd4.rt.ca.lt c hcm;obtain⟨f,kN⟩:=iO gb.1;have gc:f<J.H.m.fs.length:=by have e:((fq J.H.ma J.T).m.fs.length:Nat)=J.H.m.fs.length:=rfl;omega
   have kA:=ae (And.intro hcm (And.intro hcf hci));have gd:=ae kN;rw[kN];clear gb hcm hcf hci kN;obtain⟨gf,off,cap,cur,hv,kJ,hN,ko,hU,hW⟩:=h4.ma.fr.put eX (by decide) f gc;have kR:J.H.af=some ⟨gf,off,none⟩:=(oO hv).1;have hX:Hid (aB J.H.ma f=J.H.m.fs[f]):=ae (by unfold aB;show J.H.m.fs.getD f fr0=_;rw[aW,aI (by omega)];rfl);have k9:=bd4.rt.fewR (f:=f) gc;have gy:0<=(J.H.m.fs[f]).r/\(J.H.m.fs[f]).r<=257:=by rw[<-hX.out];exact k9
   have c8:w4.cell? ⟨gf,off+f*13+8,none⟩=some (.int .i64 (J.H.m.fs[f]).r):=hU 8 _ rfl;have hV:=ae hW;have kd:=ae hU;clear hv hW hU k9;generalize J.H.m.fs[f]=X at c8 hX gy kd;have hc:=h4.blk.cell;unfold jI at hc;rw[kR]at hc;have gW:IntKind.i64.wrap (X.r+1)=X.r+1:=bK _ (by omega);have gU:(f:Int)<(J.H.m.fs.length:Int):=by omega
   go_wp2_with (refine aC gf (off+f*13+8) [.int .i64 (X.r+1)] rfl rfl rfl _ _ hN (by show off+f*13+8+1<=cur.size;omega) (by kernel_rfl) (λu K=>by cases bC.1 K;rfl) ?_)
   intro w5 kO kp;rw[Lj (by omega) (λj u hj=>by rw[<-hN.cell];exact kd.out j u hj)]at kO;have h5:fF w5 B b (J.frs (J.H.m.fs.set f (eH X))):=h4.putF hN kJ kp (fs:=J.H.m.fs.set f (eH X)) (by simp) (by simpa using hV.out _ _ kO);have kw:nS b J gf:=.inr (by simp only[iZ,kR];exact iN);have s5:=s4.put (H':=J.frs (J.H.m.fs.set f (eH X))) kp kw (λx hx => .inl hx);have bx5:=bx4.grown kp (λe=>ga.out (by rw[<-aM e];exact kw));have hM:Hid (¬nS b (J.frs (J.H.m.fs.set f (eH X))) w.heap.size):=ga;have kq:J.T.length=S.H.sp.length:=by have:=bd4.ok.len;rw[this];show(J.H.sp.map PS.sp).length=_;rw[eQ,k4.sp];rfl
   have hD:p<J.T.length:=by omega
   have gh:∀(S' : MW),S'.T=J.T->(fP S'.T p).length=64:=λS' e=>by rw[e];exact bd4.ok.l64 (by rw[<-bd4.ok.len];exact hD)
   have kv:dI J.H.ma p=dI S.H.ma p:=by show(J.H.sp.map PS.sp).getD p zSp=(S.H.sp.map PS.sp).getD p zSp;rw[k4.sp];rfl
   have kC:p<J.H.ma.sp.length:=by show p<(J.H.sp.map PS.sp).length;rw[eQ,k4.sp];exact hp
   have hH:Hid (∀u:Bool,(u=true->gsh=true/\gwr=true)->Bd (J.frs (J.H.m.fs.set f (eH X))).H.ma (setL (J.frs (J.H.m.fs.set f (eH X))).T p n ⟨1,f,u⟩)):=ae λu K=>by have h9:=bd4.cachedE (w:=u) kC G (by rw[t4];exact kT.out) kA.out.1 (by rw[kv];exact kM.out) kA.out.2 K;rw[gd.out,bv,hX.out]at h9;exact h9
   have i:Hid (JX S (J.frs (J.H.m.fs.set f (eH X)))):=ae ⟨k4.sp,k4.fi,k4.ct,k4.dk,by show(J.H.m.fs.set f (eH X)).length=_;rw[bI];exact k4.fl,k4.sl⟩;have hA:Hid (∀x q j,¬(q=p/\j=n)->fT (setL (J.frs (J.H.m.fs.set f (eH X))).T p n x) q j=fT S.T q j):=ae λx q j kb=>by show fT (setL J.T p n x) q j=_;rw[xu bd4.ok kC G,if_neg kb,t4];rfl
   have o:Hid (p<(J.frs (J.H.m.fs.set f (eH X))).T.length):=ae hD;have hI:Hid (∀S' : MW,S'.T=(J.frs (J.H.m.fs.set f (eH X))).T->(fP S'.T p).length=64):=ae gh;generalize J.frs (J.H.m.fs.set f (eH X))=S5 at *
   obtain⟨Y,U,_,hl,_⟩:=fF.ent (S:=S5) h5 (p:=p) (n:=n) o.out G (hI.out _ rfl);clear kv kC hD gh kq;clear h4 s4 bx4 hG hc c8 kO kp hN kd hV ko kR;go_upto_region 11 with(fail);cases gsh with
   | true=>cases gwr with
    | true=>
     skip;refine iH 20 [_,_,_,.v (.slice (some ⟨Y,U,none⟩) S5.T.length S5.cb),_,.v (.int .i64 (n:Int)),_,_,.v (.bool true),_,_,.v (.bool true),_,_,_,.r 15 ((dJ λv => ∃x:Int,v = .int .i64 x/\0<=x)),.r 16 ((dJ λv => ∃u,v = .bool u)),.r 17 ((dJ λv => ∃u,(u=true->true=true)/\v = .bool u)),.r 18 ((dJ λv => ∃u,(u=true->true=true)/\v = .agg #[.int .i64 1,.int .i64 (f:Int),.bool u])),_] (Mk S5 B b w5 [(w.heap.size,#[.bool true,.bool grd,.bool true,.bool true,.int .i64 (F:Int),.int .i64 (I:Int)],80)]) aK (λ_=>⟨S5.al,S5.cl,S5.l,h5,MS.refl _ _ _,by simpa using⟨bx5,hM.out⟩⟩) (Qk aK rfl (Qk aK rfl (Qf aK b 12 rfl rfl (ah ?_ (Qk aK rfl (Qk aK rfl (Qk aK rfl (Qf aK w.heap.size 3 rfl rfl (ah ?_ (Qk aK rfl (Qf aK w.heap.size 2 rfl rfl (ah ?_ (Qk aK rfl (Qk aK rfl (Qk aK rfl (ah ?_ (ah ?_ (ah ?_ (ah ?_ (Qr aK (.pointer (some ⟨Y,U+p*192,none⟩)) (λρ y W hq=>(bN rfl (aH rfl hq) (aH rfl hq) o.out underlying96 ents_size)) rfl rfl (aF))))))))))))))))))))) (λ_=>rfl) rfl ?_
     ·intro ρ y W L D G s z A C;refine fV aK A ?_;have kk:=D 94 2 rfl;have h2:y 2=_:=C 2 rfl;obtain⟨a,c,l,m1,m2,M⟩:=A;refine ak (.slice (some ⟨Y,U,none⟩) S5.T.length S5.cb) (by simp[execOp,go_sem,kk,h2,m1.blk.cell,jI,MW.lst,hl])
     ·intro ρ y W L D G s z A C;refine fV aK A ?_;have ki:=D 99 7 rfl;have h7:y 7=_:=C 7 rfl;obtain⟨a,c,l,m1,m2,M⟩:=A;have M:=(M _ (bC.2 rfl)).1;refine ak (.bool true) (by simp[execOp,go_sem,ki,h7,M.cell])
     ·intro ρ y W L D G s z A C;refine fV aK A ?_;have km:=D 102 10 rfl;have kh:y 10=_:=C 10 rfl;obtain⟨a,c,l,m1,m2,M⟩:=A;have M:=(M _ (bC.2 rfl)).1;refine ak (.bool true) (h:=(bB 9 101 true true ((D 101 9 rfl).trans (C 9 rfl)))) (by simp[execOp,go_sem,km,kh,M.cell])
     ·intro ρ y W L D G s z A C;have gn:=D 106 14 rfl;have gH:y 14=_:=C 14 rfl;have EC:∀v,ρ (.const v)=v:=λv=>G (.const v) trivial;have EF:=eF0 G λ_=>trivial;refine je _ _ (bB 13 105 true true ((D 105 13 rfl).trans (C 13 rfl))) (aS rfl (EF _) func32 (by simp only[bU,bS,aZ,gn,gH,EC,EF];rfl)) ?_;exact AR 2 A λx h1 _ _ _=>⟨x,rfl,h1⟩
     ·intro ρ y W L D G s z A C;refine fV aK A ?_;have gm:=D 107 15 rfl;have gG:=C 15 rfl;obtain⟨x,hx,_⟩:=gG;refine ak _ (h:=(bB 13 105 true true ((D 105 13 rfl).trans (C 13 rfl)))) (qC rfl (gm.trans hx) (G (.const _) trivial) (by simp[go_sem];rfl)) (m:=⟨_,rfl⟩)
     ·intro ρ y W L D G s z A C;refine fV aK A ?_;have hR:=D 105 13 rfl;have hJ:y 13=_:=C 13 rfl;have kl:=D 108 16 rfl;have kS:=C 16 rfl;obtain⟨u,K⟩:=kS;refine ak (.bool u) (qM rfl (hR.trans hJ) (by simpa using kl.trans K)) (m:=⟨_,λ_=>rfl,rfl⟩)
     ·intro ρ y W L D G s z A C;refine fV aK A ?_;have kj:=D 98 6 rfl;have Z:y 6=_:=C 6 rfl;have hQ:=D 109 17 rfl;have kg:=C 17 rfl;obtain⟨u,hr,K⟩:=kg;have EC:∀v,ρ (.const v)=v:=λv=>G (.const v) trivial;refine ak (.agg #[.int .i64 1,.int .i64 (f:Int),.bool u]) (by simp[execOp,go_sem,kj,Z,hQ,EC,K]) (m:=⟨u,hr,rfl⟩)
     intro y W6 hB d;have gM:((dJ λv => ∃x:Int,v = .int .i64 x/\0<=x)).r (y 15) W6:=d 15 (by decide);have gL:((dJ λv => ∃u,v = .bool u)).r (y 16) W6:=d 16 (by decide);have ks:((dJ λv => ∃u,(u=true->true=true)/\v = .bool u)).r (y 17) W6:=d 17 (by decide);have hK:((dJ λv => ∃u,(u=true->true=true)/\v = .agg #[.int .i64 1,.int .i64 (f:Int),.bool u])).r (y 18) W6:=d 18 (by decide);clear d;obtain⟨a6,c6,l6,Z,R,_⟩:=hB;obtain⟨u,hr,K⟩:=hK;rw[K];clear K;obtain⟨gT',oT',curT,hk,hO,hy,hs,_,ha⟩:=fF.ent (S:=S5.lst a6 c6 l6) Z (p:=p) (n:=n) o.out G (hI.out _ rfl);have e9:(some (⟨gT',oT',none⟩:Addr))=some ⟨Y,U,none⟩:=hk.symm.trans hl;cases e9;have hL:(p:Int)<(S5.T.length:Int):=by have:=o.out;omega
     have ka:(n:Int)<64:=by omega
     have hh:=ae ha;have R:=s5.trans R;clear ha hk h5 s5
     go_wp2_with (refine aC Y (U+p*192+n*3) (lZ ⟨1,f,u⟩) rfl rfl rfl _ _ hy (by rw[gz];exact hs) (by kernel_rfl) (bV (jB _)) ?_)
     intro w7 hC hi;have h7:=hh.out w7 ⟨1,f,u⟩ hC hi;have s7:=R.put (H':={ S5.lst a6 c6 l6 with T:=setL (S5.lst a6 c6 l6).T p n ⟨1,f,u⟩ }) hi (.inr (by simp only[iZ,MW.lst,hl];simp[oB];right;right;right;right;right;right;right;right;rfl)) (λx hx => .inl hx);clear hy hC hi Z R;go_wp2;refine bodyPost_ret (v:=.tuple #[]) (by simp[results,go_sem,results78]) rfl ?_;exact⟨_,rfl,h7,s7,⟨i.out.sp,i.out.fi,i.out.ct,i.out.dk,i.out.fl,i.out.sl⟩,hH.out u (λh=>by first | exact trivial | exact⟨rfl,rfl⟩ | exact absurd (hr h) (by decide) | simp),hA.out _⟩
    | false=>
     skip;refine iH 20 [_,_,_,.v (.slice (some ⟨Y,U,none⟩) S5.T.length S5.cb),_,.v (.int .i64 (n:Int)),_,_,.v (.bool true),_,_,.v (.bool false),_,_,_,_,_,.r 17 ((dJ λv => ∃u,(u=true->false=true)/\v = .bool u)),.r 18 ((dJ λv => ∃u,(u=true->false=true)/\v = .agg #[.int .i64 1,.int .i64 (f:Int),.bool u])),_] (Mk S5 B b w5 [(w.heap.size,#[.bool true,.bool grd,.bool false,.bool true,.int .i64 (F:Int),.int .i64 (I:Int)],80)]) aK (λ_=>⟨S5.al,S5.cl,S5.l,h5,MS.refl _ _ _,by simpa using⟨bx5,hM.out⟩⟩) (Qk aK rfl (Qk aK rfl (Qf aK b 12 rfl rfl (ah ?_ (Qk aK rfl (Qk aK rfl (Qk aK rfl (Qf aK w.heap.size 3 rfl rfl (ah ?_ (Qk aK rfl (Qf aK w.heap.size 2 rfl rfl (ah ?_ (Qk aK rfl (Qk aK rfl (Qk aK rfl (Qk aK rfl (Qk aK rfl (ah ?_ (ah ?_ (Qr aK (.pointer (some ⟨Y,U+p*192,none⟩)) (λρ y W hq=>(bN rfl (aH rfl hq) (aH rfl hq) o.out underlying96 ents_size)) rfl rfl (aF))))))))))))))))))))) (λ_=>rfl) rfl ?_
     ·intro ρ y W L D G s z A C;refine fV aK A ?_;have kk:=D 94 2 rfl;have h2:y 2=_:=C 2 rfl;obtain⟨a,c,l,m1,m2,M⟩:=A;refine ak (.slice (some ⟨Y,U,none⟩) S5.T.length S5.cb) (by simp[execOp,go_sem,kk,h2,m1.blk.cell,jI,MW.lst,hl])
     ·intro ρ y W L D G s z A C;refine fV aK A ?_;have ki:=D 99 7 rfl;have h7:y 7=_:=C 7 rfl;obtain⟨a,c,l,m1,m2,M⟩:=A;have M:=(M _ (bC.2 rfl)).1;refine ak (.bool true) (by simp[execOp,go_sem,ki,h7,M.cell])
     ·intro ρ y W L D G s z A C;refine fV aK A ?_;have km:=D 102 10 rfl;have kh:y 10=_:=C 10 rfl;obtain⟨a,c,l,m1,m2,M⟩:=A;have M:=(M _ (bC.2 rfl)).1;refine ak (.bool false) (h:=(bB 9 101 true true ((D 101 9 rfl).trans (C 9 rfl)))) (by simp[execOp,go_sem,km,kh,M.cell])
     ·intro ρ y W L D G s z A C;refine fV aK A ?_;have hR:=D 105 13 rfl;have hJ:y 13=_:=C 13 rfl;have kl:=D 108 16 rfl;have kS:y 16=_:=C 16 rfl;refine ak (.bool false) (qM rfl (hR.trans hJ) (by exact(G (.const _) trivial).trans rfl)) (m:=⟨false,λh=>(by cases h),rfl⟩)
     ·intro ρ y W L D G s z A C;refine fV aK A ?_;have kj:=D 98 6 rfl;have Z:y 6=_:=C 6 rfl;have hQ:=D 109 17 rfl;have kg:=C 17 rfl;obtain⟨u,hr,K⟩:=kg;have EC:∀v,ρ (.const v)=v:=λv=>G (.const v) trivial;refine ak (.agg #[.int .i64 1,.int .i64 (f:Int),.bool u]) (by simp[execOp,go_sem,kj,Z,hQ,EC,K]) (m:=⟨u,hr,rfl⟩)
     intro y W6 hB d;have ks:((dJ λv => ∃u,(u=true->false=true)/\v = .bool u)).r (y 17) W6:=d 17 (by decide);have hK:((dJ λv => ∃u,(u=true->false=true)/\v = .agg #[.int .i64 1,.int .i64 (f:Int),.bool u])).r (y 18) W6:=d 18 (by decide);clear d;obtain⟨a6,c6,l6,Z,R,_⟩:=hB;obtain⟨u,hr,K⟩:=hK;rw[K];clear K;obtain⟨gT',oT',curT,hk,hO,hy,hs,_,ha⟩:=fF.ent (S:=S5.lst a6 c6 l6) Z (p:=p) (n:=n) o.out G (hI.out _ rfl);have e9:(some (⟨gT',oT',none⟩:Addr))=some ⟨Y,U,none⟩:=hk.symm.trans hl;cases e9;have hL:(p:Int)<(S5.T.length:Int):=by have:=o.out;omega
     have ka:(n:Int)<64:=by omega
     have hh:=ae ha;have R:=s5.trans R;clear ha hk h5 s5
     go_wp2_with (refine aC Y (U+p*192+n*3) (lZ ⟨1,f,u⟩) rfl rfl rfl _ _ hy (by rw[gz];exact hs) (by kernel_rfl) (bV (jB _)) ?_)
     intro w7 hC hi;have h7:=hh.out w7 ⟨1,f,u⟩ hC hi;have s7:=R.put (H':={ S5.lst a6 c6 l6 with T:=setL (S5.lst a6 c6 l6).T p n ⟨1,f,u⟩ }) hi (.inr (by simp only[iZ,MW.lst,hl];simp[oB];right;right;right;right;right;right;right;right;rfl)) (λx hx => .inl hx);clear hy hC hi Z R;go_wp2;refine bodyPost_ret (v:=.tuple #[]) (by simp[results,go_sem,results78]) rfl ?_;exact⟨_,rfl,h7,s7,⟨i.out.sp,i.out.fi,i.out.ct,i.out.dk,i.out.fl,i.out.sl⟩,hH.out u (λh=>by first | exact trivial | exact⟨rfl,rfl⟩ | exact absurd (hr h) (by decide) | simp),hA.out _⟩
   | false=>
    skip;refine iH 20 [_,_,_,.v (.slice (some ⟨Y,U,none⟩) S5.T.length S5.cb),_,.v (.int .i64 (n:Int)),_,_,.v (.bool false),_,_,_,_,_,_,_,_,.r 17 ((dJ λv => ∃u,(u=true->false=true)/\v = .bool u)),.r 18 ((dJ λv => ∃u,(u=true->false=true)/\v = .agg #[.int .i64 1,.int .i64 (f:Int),.bool u])),_] (Mk S5 B b w5 [(w.heap.size,#[.bool true,.bool grd,.bool gwr,.bool false,.int .i64 (F:Int),.int .i64 (I:Int)],80)]) aK (λ_=>⟨S5.al,S5.cl,S5.l,h5,MS.refl _ _ _,by simpa using⟨bx5,hM.out⟩⟩) (Qk aK rfl (Qk aK rfl (Qf aK b 12 rfl rfl (ah ?_ (Qk aK rfl (Qk aK rfl (Qk aK rfl (Qf aK w.heap.size 3 rfl rfl (ah ?_ (Qk aK rfl (Qk aK rfl (Qk aK rfl (Qk aK rfl (Qk aK rfl (Qk aK rfl (Qk aK rfl (Qk aK rfl (ah ?_ (ah ?_ (Qr aK (.pointer (some ⟨Y,U+p*192,none⟩)) (λρ y W hq=>(bN rfl (aH rfl hq) (aH rfl hq) o.out underlying96 ents_size)) rfl rfl (aF))))))))))))))))))))) (λ_=>rfl) rfl ?_
    ·intro ρ y W L D G s z A C;refine fV aK A ?_;have kk:=D 94 2 rfl;have h2:y 2=_:=C 2 rfl;obtain⟨a,c,l,m1,m2,M⟩:=A;refine ak (.slice (some ⟨Y,U,none⟩) S5.T.length S5.cb) (by simp[execOp,go_sem,kk,h2,m1.blk.cell,jI,MW.lst,hl])
    ·intro ρ y W L D G s z A C;refine fV aK A ?_;have ki:=D 99 7 rfl;have h7:y 7=_:=C 7 rfl;obtain⟨a,c,l,m1,m2,M⟩:=A;have M:=(M _ (bC.2 rfl)).1;refine ak (.bool false) (by simp[execOp,go_sem,ki,h7,M.cell])
    ·intro ρ y W L D G s z A C;refine fV aK A ?_;have hR:=D 105 13 rfl;have hJ:y 13=_:=C 13 rfl;have kl:=D 108 16 rfl;have kS:y 16=_:=C 16 rfl;refine ak (.bool false) (qM rfl (hR.trans hJ) (by exact(G (.const _) trivial).trans rfl)) (m:=⟨false,λh=>(by cases h),rfl⟩)
    ·intro ρ y W L D G s z A C;refine fV aK A ?_;have kj:=D 98 6 rfl;have Z:y 6=_:=C 6 rfl;have hQ:=D 109 17 rfl;have kg:=C 17 rfl;obtain⟨u,hr,K⟩:=kg;have EC:∀v,ρ (.const v)=v:=λv=>G (.const v) trivial;refine ak (.agg #[.int .i64 1,.int .i64 (f:Int),.bool u]) (by simp[execOp,go_sem,kj,Z,hQ,EC,K]) (m:=⟨u,hr,rfl⟩)
    intro y W6 hB d;have ks:((dJ λv => ∃u,(u=true->false=true)/\v = .bool u)).r (y 17) W6:=d 17 (by decide);have hK:((dJ λv => ∃u,(u=true->false=true)/\v = .agg #[.int .i64 1,.int .i64 (f:Int),.bool u])).r (y 18) W6:=d 18 (by decide);clear d;obtain⟨a6,c6,l6,Z,R,_⟩:=hB;obtain⟨u,hr,K⟩:=hK;rw[K];clear K;obtain⟨gT',oT',curT,hk,hO,hy,hs,_,ha⟩:=fF.ent (S:=S5.lst a6 c6 l6) Z (p:=p) (n:=n) o.out G (hI.out _ rfl);have e9:(some (⟨gT',oT',none⟩:Addr))=some ⟨Y,U,none⟩:=hk.symm.trans hl;cases e9;have hL:(p:Int)<(S5.T.length:Int):=by have:=o.out;omega
    have ka:(n:Int)<64:=by omega
    have hh:=ae ha;have R:=s5.trans R;clear ha hk h5 s5
    go_wp2_with (refine aC Y (U+p*192+n*3) (lZ ⟨1,f,u⟩) rfl rfl rfl _ _ hy (by rw[gz];exact hs) (by kernel_rfl) (bV (jB _)) ?_)
    intro w7 hC hi;have h7:=hh.out w7 ⟨1,f,u⟩ hC hi;have s7:=R.put (H':={ S5.lst a6 c6 l6 with T:=setL (S5.lst a6 c6 l6).T p n ⟨1,f,u⟩ }) hi (.inr (by simp only[iZ,MW.lst,hl];simp[oB];right;right;right;right;right;right;right;right;rfl)) (λx hx => .inl hx);clear hy hC hi Z R;go_wp2;refine bodyPost_ret (v:=.tuple #[]) (by simp[results,go_sem,results78]) rfl ?_;exact⟨_,rfl,h7,s7,⟨i.out.sp,i.out.fi,i.out.ct,i.out.dk,i.out.fl,i.out.sl⟩,hH.out u (λh=>by first | exact trivial | exact⟨rfl,rfl⟩ | exact absurd (hr h) (by decide) | simp),hA.out _⟩
  rw[decide_eq_false hF];obtain rfl:gsh=false:=by
   cases gsh with
   | false=>rfl
   | true=>exact absurd ⟨hsh rfl,.inl rfl⟩ hF
  have ke:=ae hm.out.few;have gu:S.H.sl.length<=60:=ke.out.2.1;have hc:=h2.blk.cell;unfold jI at hc;dsimp only[MW.lst]at hc;clear hF hsh;go_upto_region 12 with(fail)
  go_cut [113] (fun s113 wx=>s113 = .bool (decide (x=2/\0<S.H.sl.length))/\wx=w2)
  case first=>
   by_cases hx2:x=2
   ·have k2:(x==2)=true:=by simp[hx2]
    have k3:=ae hx2;clear hx2
    by_cases hsl:0<S.H.sl.length
    ·have k8:(0:Int)<(S.H.sl.length:Int):=by omega
     go_wp2;go_meet
     case rel=>exact⟨by rw[decide_eq_true ⟨k3.out,hsl⟩],rfl⟩
    have k8:¬(0:Int)<(S.H.sl.length:Int):=by omega
    go_wp2;go_meet
    case rel=>exact⟨by rw[decide_eq_false (λh=>hsl h.2)],rfl⟩
   have k2:(x==2)=false:=by simp[hx2]
   go_wp2;go_meet
   case rel=>exact⟨by rw[decide_eq_false (λh=>hx2 h.1)],rfl⟩
  case rest=>
   obtain⟨rfl,gt⟩:=hcut;subst wc
   by_cases hS:x=2/\0<S.H.sl.length
   ·rw[decide_eq_true hS];have hsl:=hS.2;clear hS
    go_wp2_with fail
    refine(fZ _ _ B b _ h2).mono ?_;rintro r w3 ⟨y3,a3,c3,l3,rfl,h3,s3,k0,_⟩;rw[oZ]at h3 s3;have s3:=s2.trans s3;obtain⟨N,rfl⟩:=iO k0.1;have kB:N<S.H.sl.length:=by omega
    have gR:(N:Int)<(S.H.sl.length:Int):=by omega
    clear h2 s2 bx2 hG hc k0;have hc:=h3.blk.cell;unfold jI at hc;dsimp only[MW.lst]at hc;obtain⟨gs,off,cap,cur,hv,kJ,hN,ko,hU,hW⟩:=Own.put (enc:=λx=>[gF x]) (sz:=1) (l:=S.H.sl) (λ_=>rfl) Nat.one_pos (by rw[kI];exact h3.ma.sl) N kB;have kQ:S.H.asl=some ⟨gs,off,none⟩:=(oO hv).1;rw[kQ]at hc;rw[uo]at ko hU hW;have c0:w3.cell? ⟨gs,off+N,none⟩=some (.int .i64 S.H.sl[N]):=hU 0 _ rfl;have kZ:Hid (jW S.H.ma N=S.H.sl[N]):=ae (by unfold jW;show S.H.sl.getD N 0=_;rw[aW,aI kB];rfl);have hV:=ae hW;clear hv hW hU;generalize S.H.sl[N]=v0 at c0 kZ
    by_cases hz:v0=0
    ·subst hz
     go_wp2_with (refine aC gs (off+N) [.int .i64 1] rfl rfl rfl _ _ hN (by show off+N+1<=cur.size;omega) (by kernel_rfl) (λu K=>by cases bC.1 K;rfl) ?_)
     intro w4 gg kL;have kH:oB (S.lst a3 c3 l3).H.asl=some gs:=by show oB S.H.asl=some gs;rw[kQ];rfl
     have h4:fF w4 B b { S.lst a3 c3 l3 with H:={ S.H with sl:=S.H.sl.set N 1 } }:=h3.putS hN kJ kH kL (sl:=S.H.sl.set N 1) (by simp[MW.lst]) (by have:=hV.out w4 1 gg;rw[kI]at this;simpa[MW.lst]using this);have s4:=s3.put (H':={ S.lst a3 c3 l3 with H:={ S.H with sl:=S.H.sl.set N 1 } }) kL (.inr (by simp[iZ,kH])) (λx hx => .inl hx);have gQ:S.H.sw.blocks.length=S.H.sl.length:=ke.out.2.2.2.2.2.2.2;have gD:Hid (JX S { S.lst a3 c3 l3 with H:={ S.H with sl:=S.H.sl.set N 1 } }):=ae ⟨rfl,rfl,rfl,rfl,rfl,bI⟩;have kq:S.T.length=S.H.sp.length:=by have:=hm.out.ok.len;rw[this];exact eQ _
     have hD:p<S.T.length:=by omega
     have gE:(fP S.T p).length=64:=hm.out.ok.l64 (by rw[<-hm.out.ok.len];exact hD);have hH:Hid (∀P,Bd { S.H.ma with sl:=S.H.sl.set N 1,sw:=⟨S.H.sw.blocks.set N P,S.H.sw.queue⟩ } (setL S.T p n ⟨2,N,false⟩)):=ae λP=>
      hm.out.slotE (P:=P) (by rw[<-hm.out.ok.len];exact hD) G kT.out kB kZ.out kM.out rfl
     have hA:Hid (∀x q j,¬(q=p/\j=n)->fT (setL S.T p n x) q j=fT S.T q j):=ae λx q j kb=>by rw[xu hm.out.ok (by rw[<-hm.out.ok.len];exact hD) G,if_neg kb]
     obtain⟨gw,ow,capw,curw,k7,gS,_,_,_,_⟩:=h4.ma.sw.b.put nQ (by decide) N (by show N<S.H.sw.blocks.length;omega);have kf:S.H.wb=some ⟨gw,ow,none⟩:=(oO k7).1;generalize hS4:({ S.lst a3 c3 l3 with H:={ S.H with sl:=S.H.sl.set N 1 } }:MW)=S4 at h4 s4 gD;have kf:S4.H.wb=some ⟨gw,ow,none⟩:=by rw[<-hS4];exact kf
     have ku:S4.H.sw=S.H.sw:=by rw[<-hS4]
     clear h3 s3 gg kL hN ko c0 hc kQ kH k7;go_upto_region 16 with(fail);refine iH 9 [_,_,_,_,_,.v (.slice (some ⟨gw,ow,none⟩) S4.H.sw.blocks.length S4.H.cwb),.v (.int .i64 (N:Int)),_,.r 8 ((dJ λv => ∃P,v = .agg (dW P)))] (Mk S4 B b w4 []) aK (λ_=>⟨S4.al,S4.cl,S4.l,h4,MS.refl _ _ _,λt ht=>(by cases ht)⟩) (Qk aK rfl (Qk aK rfl (Qf aK b 1 rfl rfl (Qf aK b 4 rfl rfl (Qf aK b 4 rfl rfl (ah ?_ (Qk aK rfl (Qk aK rfl (ah ?_ (aF)))))))))) (λ_=>rfl) rfl ?_
     ·intro ρ y W L D G s z A C;refine fV aK A ?_;have gl:=D 153 4 rfl;have h4:y 4=_:=C 4 rfl;obtain⟨a,c,l,m1,m2,M⟩:=A;refine ak (.slice (some ⟨gw,ow,none⟩) S4.H.sw.blocks.length S4.H.cwb) (by simp[execOp,go_sem,gl,h4,m1.blk.cell,jI,MW.lst,kf])
     ·intro ρ y W L D G s z A C;have gk:=D 156 7 rfl;have h7:y 7=_:=C 7 rfl;have EF:=eF0 G λ_=>trivial;refine je _ _ (aj) (aS rfl (EF _) func35 (by simp only[bU,bS,aZ,gk,h7,EF];rfl)) ?_;exact Um A λP _=>⟨P,rfl⟩
     intro y W6 hB d;have gp:((dJ λv => ∃P,v = .agg (dW P))).r (y 8) W6:=d 8 (by decide);clear d;obtain⟨a6,c6,l6,Z,R,_⟩:=hB;obtain⟨P,hP⟩:=gp;rw[hP];clear hP;have R:=s4.trans R;obtain⟨gw',ow',capw',curw',kt,kG,kc,ky,_,kx⟩:=Z.ma.sw.b.put nQ (by decide) N (by show N<S4.H.sw.blocks.length;rw[ku];omega);have e9:(some (⟨gw',ow',none⟩:Addr))=some ⟨gw,ow,none⟩:=(oO kt).1.symm.trans kf;cases e9;have gv:(N:Int)<(S4.H.sw.blocks.length:Int):=by rw[ku];omega
     have kF:=ae kx;clear kt kx h4 s4
     go_wp2_with (refine aC gw (ow+N*8) (Dv P) rfl rfl rfl _ _ kc (by rw[nQ];exact ky) (by kernel_rfl) (bV (eF P)) ?_)
     intro w7 hC hi;have kz:oB (S4.lst a6 c6 l6).H.wb=some gw:=by show oB S4.H.wb=some gw;rw[kf];rfl
     have h7:fF w7 B b { S4.lst a6 c6 l6 with H:={ S4.H with sw:=⟨S4.H.sw.blocks.set N P,S4.H.sw.queue⟩ } }:=Z.putW kc kG kz hi (l:=S4.H.sw.blocks.set N P) (by simp[MW.lst]) (by simpa[MW.lst]using kF.out w7 P hC);have s7:=R.put (H':={ S4.lst a6 c6 l6 with H:={ S4.H with sw:=⟨S4.H.sw.blocks.set N P,S4.H.sw.queue⟩ } }) hi (.inr (by simp[iZ,kz])) (λx hx => .inl hx);clear Z R kc hC hi ky gv;subst hS4;dsimp only[MW.lst]at h7 s7;obtain⟨Y,U,curT,hl,hO,hy,hs,_,ha⟩:=fF.ent h7 (p:=p) (n:=n) hD G gE;have hl:S.ab=some ⟨Y,U,none⟩:=hl;have hc:=h7.blk.cell;unfold jI at hc;dsimp only at hc;rw[hl]at hc;have hL:(p:Int)<(S.T.length:Int):=by omega
     have ka:(n:Int)<64:=by omega
     have hh:=ae ha;clear ha
     go_wp2_with (refine aC Y (U+p*192+n*3) (lZ ⟨2,N,false⟩) rfl rfl rfl _ _ hy (by rw[gz];exact hs) (by kernel_rfl) (bV (jB _)) ?_)
     intro w8 ge kK;have h8:=hh.out w8 ⟨2,N,false⟩ ge kK;have s8:=s7.put kK (.inr (by simp only[iZ,hl];simp[oB];right;right;right;right;right;right;right;right;rfl)) (λx hx => .inl hx) (H':=_);clear h7 s7 hc ge kK hy;go_wp2;refine bodyPost_ret (v:=.tuple #[]) (by simp[results,go_sem,results78]) rfl ?_;exact⟨_,rfl,h8,s8.same rfl,⟨rfl,rfl,rfl,rfl,rfl,bI⟩,hH.out P,hA.out _⟩
    go_wp2;refine bodyPost_ret (v:=.tuple #[]) (by simp[results,go_sem,results78]) rfl ?_;exact⟨_,rfl,h3,s3,⟨rfl,rfl,rfl,rfl,rfl,rfl⟩,hm.out,λ_ _ _=>rfl⟩
   rw[decide_eq_false hS];clear hS hc
   go_wp2_with fail
   refine(yF _ B b _ h2).mono ?_;rintro r w3 ⟨P,a3,c3,l3,rfl,h3,s3⟩;rw[oZ]at h3 s3;have bx3:=s3.blkN bx2 hT.out;have s3:=s2.trans s3;clear h2 s2 bx2 hG;have hG:=bx3.cell;unfold dW
   go_wp2_with fail
   refine(fZ _ 2 B b _ h3).mono ?_;rintro r w4 ⟨y3,a4,c4,l4,rfl,h4,s4,_,_⟩;rw[oZ]at h4 s4;have bx4:=s4.blkN bx3 hT.out;have s4:=s3.trans s4;clear h3 s3 bx3 hG;have hG:=bx4.cell
   go_wp2_with fail
   refine(FI _ ⟨P,1,y3==1,false,-1,0⟩ B b _ h4 (by have:=ke.out.1;show S.H.m.fs.length<=1000;have e:S.H.ma.m.fs.length=S.H.m.fs.length:=rfl;omega)).mono ?_;rintro r w5 ⟨xf,a5,c5,l5,fs,rfl,h5,s5,gq⟩;rw[oZ]at h5 s5;have bx5:=s5.blkN bx4 hT.out;have hM:=ae (s5.not bx4.lt hT.out);have s5:=s4.trans s5;clear h4 s4 bx4 hG;rcases gq with⟨rfl,rfl⟩|⟨f,rfl,hj,hjr,rfl⟩
   ·go_wp2;refine bodyPost_ret (v:=.tuple #[]) (by simp[results,go_sem,results78]) rfl ?_;exact⟨_,rfl,h5,s5,⟨rfl,rfl,rfl,rfl,rfl,rfl⟩,hm.out,λ_ _ _=>rfl⟩
   have gA:f<S.H.m.fs.length:=hj;have kq:S.T.length=S.H.sp.length:=by have:=hm.out.ok.len;rw[this];exact eQ _
   have hD:p<S.T.length:=by omega
   have hH:Hid (∀u:Bool,(u=true->gwr=true)->Bd ((S.lst a5 c5 l5).frs (S.H.m.fs.set f ⟨P,1,y3==1,false,-1,0⟩)).H.ma (setL ((S.lst a5 c5 l5).frs (S.H.m.fs.set f ⟨P,1,y3==1,false,-1,0⟩)).T p n ⟨1,f,u⟩)):=ae λu K=>
    hm.out.anonE (X:=⟨P,1,y3==1,false,-1,0⟩) (w:=u) (by rw[<-hm.out.ok.len];exact hD) G kT.out gA hjr ⟨rfl,rfl,rfl,rfl⟩ kM.out rfl K
   have i:Hid (JX S ((S.lst a5 c5 l5).frs (S.H.m.fs.set f ⟨P,1,y3==1,false,-1,0⟩))):=ae ⟨rfl,rfl,rfl,rfl,bI,rfl⟩;have hA:Hid (∀x q j,¬(q=p/\j=n)->fT (setL ((S.lst a5 c5 l5).frs (S.H.m.fs.set f ⟨P,1,y3==1,false,-1,0⟩)).T p n x) q j=fT S.T q j):=ae λx q j kb=>by show fT (setL S.T p n x) q j=_;rw[xu hm.out.ok (by rw[<-hm.out.ok.len];exact hD) G,if_neg kb]
   have o:Hid (p<((S.lst a5 c5 l5).frs (S.H.m.fs.set f ⟨P,1,y3==1,false,-1,0⟩)).T.length):=ae hD;have hI:Hid (∀S' : MW,S'.T=((S.lst a5 c5 l5).frs (S.H.m.fs.set f ⟨P,1,y3==1,false,-1,0⟩)).T->(fP S'.T p).length=64):=ae λS' e=>by rw[e];exact hm.out.ok.l64 (by rw[<-hm.out.ok.len];exact hD)
   have h5:fF w5 B b ((S.lst a5 c5 l5).frs (S.H.m.fs.set f ⟨P,1,y3==1,false,-1,0⟩)):=h5;have s5:MS w b S w5 ((S.lst a5 c5 l5).frs (S.H.m.fs.set f ⟨P,1,y3==1,false,-1,0⟩)):=s5;have hM:Hid (¬nS b ((S.lst a5 c5 l5).frs (S.H.m.fs.set f ⟨P,1,y3==1,false,-1,0⟩)) w.heap.size):=hM;have gX:(0:Int)<=(f:Int):=by omega
   clear hj hjr hD kq;generalize (S.lst a5 c5 l5).frs (S.H.m.fs.set f ⟨P,1,y3==1,false,-1,0⟩)=S5 at *
   obtain⟨Y,U,_,hl,_⟩:=fF.ent (S:=S5) h5 (p:=p) (n:=n) o.out G (hI.out _ rfl);go_upto_region 4 with(fail);cases gwr with
   | true=>
    skip;refine iH 16 [_,_,_,.v (.slice (some ⟨Y,U,none⟩) S5.T.length S5.cb),_,.v (.int .i64 (n:Int)),_,_,.v (.bool true),_,_,.r 11 ((dJ λv => ∃x:Int,v = .int .i64 x/\0<=x)),.r 12 ((dJ λv => ∃u,v = .bool u)),.r 13 ((dJ λv => ∃u,(u=true->true=true)/\v = .bool u)),.r 14 ((dJ λv => ∃u,(u=true->true=true)/\v = .agg #[.int .i64 1,.int .i64 (f:Int),.bool u])),_] (Mk S5 B b w5 [(w.heap.size,#[.bool true,.bool grd,.bool true,.bool false,.int .i64 gfi,.int .i64 (I:Int)],80)]) aK (λ_=>⟨S5.al,S5.cl,S5.l,h5,MS.refl _ _ _,by simpa using⟨bx5,hM.out⟩⟩) (Qk aK rfl (Qk aK rfl (Qf aK b 12 rfl rfl (ah ?_ (Qk aK rfl (Qk aK rfl (Qk aK rfl (Qf aK w.heap.size 2 rfl rfl (ah ?_ (Qk aK rfl (Qk aK rfl (ah ?_ (ah ?_ (ah ?_ (ah ?_ (Qr aK (.pointer (some ⟨Y,U+p*192,none⟩)) (λρ y W hq=>(bN rfl (aH rfl hq) (aH rfl hq) o.out underlying96 ents_size)) rfl rfl (aF))))))))))))))))) (λ_=>rfl) rfl ?_
    ·intro ρ y W L D G s z A C;refine fV aK A ?_;have kY:=D 26 2 rfl;have h2:y 2=_:=C 2 rfl;obtain⟨a,c,l,m1,m2,M⟩:=A;refine ak (.slice (some ⟨Y,U,none⟩) S5.T.length S5.cb) (by simp[execOp,go_sem,kY,h2,m1.blk.cell,jI,MW.lst,hl])
    ·intro ρ y W L D G s z A C;refine fV aK A ?_;have kW:=D 31 7 rfl;have h7:y 7=_:=C 7 rfl;obtain⟨a,c,l,m1,m2,M⟩:=A;have M:=(M _ (bC.2 rfl)).1;refine ak (.bool true) (by simp[execOp,go_sem,kW,h7,M.cell])
    ·intro ρ y W L D G s z A C;have gK:=D 34 10 rfl;have kh:y 10=_:=C 10 rfl;have EC:∀v,ρ (.const v)=v:=λv=>G (.const v) trivial;have EF:=eF0 G λ_=>trivial;refine je _ _ (bB 9 33 true true ((D 33 9 rfl).trans (C 9 rfl))) (aS rfl (EF _) func32 (by simp only[bU,bS,aZ,gK,kh,EC,EF];rfl)) ?_;exact AR 2 A λx h1 _ _ _=>⟨x,rfl,h1⟩
    ·intro ρ y W L D G s z A C;refine fV aK A ?_;have gJ:=D 35 11 rfl;have gI:=C 11 rfl;obtain⟨x,hx,_⟩:=gI;refine ak _ (h:=(bB 9 33 true true ((D 33 9 rfl).trans (C 9 rfl)))) (qC rfl (gJ.trans hx) (G (.const _) trivial) (by simp[go_sem];rfl)) (m:=⟨_,rfl⟩)
    ·intro ρ y W L D G s z A C;refine fV aK A ?_;have kV:=D 33 9 rfl;have h9:y 9=_:=C 9 rfl;have gj:=D 36 12 rfl;have gi:=C 12 rfl;obtain⟨u,K⟩:=gi;refine ak (.bool u) (qM rfl (kV.trans h9) (by simpa using gj.trans K)) (m:=⟨_,λ_=>rfl,rfl⟩)
    ·intro ρ y W L D G s z A C;refine fV aK A ?_;have kX:=D 30 6 rfl;have Z:y 6=_:=C 6 rfl;have kU:=D 37 13 rfl;have hJ:=C 13 rfl;obtain⟨u,hr,K⟩:=hJ;have EC:∀v,ρ (.const v)=v:=λv=>G (.const v) trivial;refine ak (.agg #[.int .i64 1,.int .i64 (f:Int),.bool u]) (by simp[execOp,go_sem,kX,Z,kU,EC,K]) (m:=⟨u,hr,rfl⟩)
    intro y W6 hB d;have gO:((dJ λv => ∃x:Int,v = .int .i64 x/\0<=x)).r (y 11) W6:=d 11 (by decide);have gN:((dJ λv => ∃u,v = .bool u)).r (y 12) W6:=d 12 (by decide);have k1:((dJ λv => ∃u,(u=true->true=true)/\v = .bool u)).r (y 13) W6:=d 13 (by decide);have hZ:((dJ λv => ∃u,(u=true->true=true)/\v = .agg #[.int .i64 1,.int .i64 (f:Int),.bool u])).r (y 14) W6:=d 14 (by decide);clear d;obtain⟨a6,c6,l6,Z,R,_⟩:=hB;obtain⟨u,hr,K⟩:=hZ;rw[K];clear K;obtain⟨gT',oT',curT,hk,hO,hy,hs,_,ha⟩:=fF.ent (S:=S5.lst a6 c6 l6) Z (p:=p) (n:=n) o.out G (hI.out _ rfl);have e9:(some (⟨gT',oT',none⟩:Addr))=some ⟨Y,U,none⟩:=hk.symm.trans hl;cases e9;have hL:(p:Int)<(S5.T.length:Int):=by have:=o.out;omega
    have ka:(n:Int)<64:=by omega
    have hh:=ae ha;have R:=s5.trans R;clear ha hk h5 s5
    go_wp2_with (refine aC Y (U+p*192+n*3) (lZ ⟨1,f,u⟩) rfl rfl rfl _ _ hy (by rw[gz];exact hs) (by kernel_rfl) (bV (jB _)) ?_)
    intro w7 hC hi;have h7:=hh.out w7 ⟨1,f,u⟩ hC hi;have s7:=R.put (H':={ S5.lst a6 c6 l6 with T:=setL (S5.lst a6 c6 l6).T p n ⟨1,f,u⟩ }) hi (.inr (by simp only[iZ,MW.lst,hl];simp[oB];right;right;right;right;right;right;right;right;rfl)) (λx hx => .inl hx);clear hy hC hi Z R;go_wp2;refine bodyPost_ret (v:=.tuple #[]) (by simp[results,go_sem,results78]) rfl ?_;exact⟨_,rfl,h7,s7,⟨i.out.sp,i.out.fi,i.out.ct,i.out.dk,i.out.fl,i.out.sl⟩,hH.out u (λh=>by first | exact trivial | exact⟨rfl,rfl⟩ | exact absurd (hr h) (by decide) | simp),hA.out _⟩
   | false=>
    skip;refine iH 16 [_,_,_,.v (.slice (some ⟨Y,U,none⟩) S5.T.length S5.cb),_,.v (.int .i64 (n:Int)),_,_,.v (.bool false),_,_,_,_,.r 13 ((dJ λv => ∃u,(u=true->false=true)/\v = .bool u)),.r 14 ((dJ λv => ∃u,(u=true->false=true)/\v = .agg #[.int .i64 1,.int .i64 (f:Int),.bool u])),_] (Mk S5 B b w5 [(w.heap.size,#[.bool true,.bool grd,.bool false,.bool false,.int .i64 gfi,.int .i64 (I:Int)],80)]) aK (λ_=>⟨S5.al,S5.cl,S5.l,h5,MS.refl _ _ _,by simpa using⟨bx5,hM.out⟩⟩) (Qk aK rfl (Qk aK rfl (Qf aK b 12 rfl rfl (ah ?_ (Qk aK rfl (Qk aK rfl (Qk aK rfl (Qf aK w.heap.size 2 rfl rfl (ah ?_ (Qk aK rfl (Qk aK rfl (Qk aK rfl (Qk aK rfl (ah ?_ (ah ?_ (Qr aK (.pointer (some ⟨Y,U+p*192,none⟩)) (λρ y W hq=>(bN rfl (aH rfl hq) (aH rfl hq) o.out underlying96 ents_size)) rfl rfl (aF))))))))))))))))) (λ_=>rfl) rfl ?_
    ·intro ρ y W L D G s z A C;refine fV aK A ?_;have kY:=D 26 2 rfl;have h2:y 2=_:=C 2 rfl;obtain⟨a,c,l,m1,m2,M⟩:=A;refine ak (.slice (some ⟨Y,U,none⟩) S5.T.length S5.cb) (by simp[execOp,go_sem,kY,h2,m1.blk.cell,jI,MW.lst,hl])
    ·intro ρ y W L D G s z A C;refine fV aK A ?_;have kW:=D 31 7 rfl;have h7:y 7=_:=C 7 rfl;obtain⟨a,c,l,m1,m2,M⟩:=A;have M:=(M _ (bC.2 rfl)).1;refine ak (.bool false) (by simp[execOp,go_sem,kW,h7,M.cell])
    ·intro ρ y W L D G s z A C;refine fV aK A ?_;have kV:=D 33 9 rfl;have h9:y 9=_:=C 9 rfl;have gj:=D 36 12 rfl;have gi:y 12=_:=C 12 rfl;refine ak (.bool false) (qM rfl (kV.trans h9) (by exact(G (.const _) trivial).trans rfl)) (m:=⟨false,λh=>(by cases h),rfl⟩)
    ·intro ρ y W L D G s z A C;refine fV aK A ?_;have kX:=D 30 6 rfl;have Z:y 6=_:=C 6 rfl;have kU:=D 37 13 rfl;have hJ:=C 13 rfl;obtain⟨u,hr,K⟩:=hJ;have EC:∀v,ρ (.const v)=v:=λv=>G (.const v) trivial;refine ak (.agg #[.int .i64 1,.int .i64 (f:Int),.bool u]) (by simp[execOp,go_sem,kX,Z,kU,EC,K]) (m:=⟨u,hr,rfl⟩)
    intro y W6 hB d;have k1:((dJ λv => ∃u,(u=true->false=true)/\v = .bool u)).r (y 13) W6:=d 13 (by decide);have hZ:((dJ λv => ∃u,(u=true->false=true)/\v = .agg #[.int .i64 1,.int .i64 (f:Int),.bool u])).r (y 14) W6:=d 14 (by decide);clear d;obtain⟨a6,c6,l6,Z,R,_⟩:=hB;obtain⟨u,hr,K⟩:=hZ;rw[K];clear K;obtain⟨gT',oT',curT,hk,hO,hy,hs,_,ha⟩:=fF.ent (S:=S5.lst a6 c6 l6) Z (p:=p) (n:=n) o.out G (hI.out _ rfl);have e9:(some (⟨gT',oT',none⟩:Addr))=some ⟨Y,U,none⟩:=hk.symm.trans hl;cases e9;have hL:(p:Int)<(S5.T.length:Int):=by have:=o.out;omega
    have ka:(n:Int)<64:=by omega
    have hh:=ae ha;have R:=s5.trans R;clear ha hk h5 s5
    go_wp2_with (refine aC Y (U+p*192+n*3) (lZ ⟨1,f,u⟩) rfl rfl rfl _ _ hy (by rw[gz];exact hs) (by kernel_rfl) (bV (jB _)) ?_)
    intro w7 hC hi;have h7:=hh.out w7 ⟨1,f,u⟩ hC hi;have s7:=R.put (H':={ S5.lst a6 c6 l6 with T:=setL (S5.lst a6 c6 l6).T p n ⟨1,f,u⟩ }) hi (.inr (by simp only[iZ,MW.lst,hl];simp[oB];right;right;right;right;right;right;right;right;rfl)) (λx hx => .inl hx);clear hy hC hi Z R;go_wp2;refine bodyPost_ret (v:=.tuple #[]) (by simp[results,go_sem,results78]) rfl ?_;exact⟨_,rfl,h7,s7,⟨i.out.sp,i.out.fi,i.out.ct,i.out.dk,i.out.fl,i.out.sl⟩,hH.out u (λh=>by first | exact trivial | exact⟨rfl,rfl⟩ | exact absurd (hr h) (by decide) | simp),hA.out _⟩
def Qm(B:Nat):mP:=⟨λv w => ∃g,v = .pointer (some ⟨g,0,none⟩)/\aG w g (fC f0) 81/\B<=g,λ_ _ _ hb ⟨g,h1,h2,h3⟩=>⟨g,h1,h2.ext hb,h3⟩⟩
theorem OC{l:List mP}(n:l.getD q anyR=Qm B)(j:l.getD p anyR=Qm B):GX (rl l) p q i (.pointer (some ⟨w.heap.size,0,none⟩)) w:=by
 refine KW (λu d => ?_) (λu d => ?_)
 ·unfold rl at d;rw[n]at d;obtain⟨g,f,h2,_⟩:=d;exact⟨g,_,_,f,h2⟩
 unfold rl at d;rw[j]at d;obtain⟨g,f,h2,_⟩:=d;exact⟨g,_,_,f,h2⟩
theorem EU{l:List mP}(v:Value)(f:Region.wanted o (iq ρ ops)=true)(d:(execOp ρ o).run P w = .ok (.value v) w')(j:Below w.heap.size w w')(n:rl l i v w')(s:GX (rl l) p q i v w) :
  if Region.wanted o (iq ρ ops)=true then dZ P o ρ w (λv w'=>(Below w.heap.size w w'/\rl l i v w')/\GX (rl l) p q i v w)else rl l i undef w/\i≠p/\i≠q:=by
 rw[if_pos f];unfold dZ;rw[d];exact⟨⟨j,n⟩,s⟩
theorem Uu(l:List Ar)(x:Ar)(a:Option Addr)(c:Nat)(w:World)(h:Xp w a c l) :
  Calls Tryz.prog 77 #[.slice a l.length c,.agg (kH x)] w λr w' => ∃v,r = .returned (.tuple #[v,.int .i64 (Ca l x)])/\Own w' w.heap.size 94 7 v (zD l x).length ((zD l x).flatMap mV)/\Below w.heap.size w w':=by
 go_enter func77,ntmps77;go_upto_region 1 with(fail);refine iC (λW=>Code.wp _ _ _ _ W) λW0 hT h5 km => ?_;clear km
 go_wp2_with fail
 refine(Ep l a c _ (h.below hT)).mono ?_;rintro r w1 ⟨rfl,R⟩;have hs:=ag hT R;have h4:=h5.ext R;clear hT h5 R;unfold Km
 go_wp2_with (refine aJ rfl rfl #[.int .i64 (bQ l).1,.int .i64 (bQ l).2] rfl rfl rfl fau_size (nR _ _) ?_)
 intro w2 hS hv;have b:=ag hs hS;have hL:=h4.ext hS;clear hs h4 hS
 by_cases A:(bQ l).1=0
 ·have ht:=iX.1 A;have hM:=ae A;have Z:=lK ht.2;rw[A]at hv;have ka:=hv.cell;clear A
  go_wp2_with (refine ay _ 0 _ hL.rd _ underlying94 rfl area_size ?_)
  refine(Ik x _).mono ?_;rintro r w3 ⟨rfl,hR⟩;have b:=ag b hR;have hZ:=hL.ext hR;clear ka hv hL hR
  by_cases N:aX x=0
  ·have o:=ae N;rw[N];clear N;go_upto_region 7 with(fail);refine TW 7 5 6 [mW (.slice a l.length c),mW (.agg (fC (dm l))),mW (.agg (kH x)),(XW x),mW (.agg (fC (dm [x]))),(Qm w.heap.size),(Qm w.heap.size)] (by kernel_rfl) (by decide) (by decide) (by decide) _ rfl (by kernel_rfl) (by kernel_rfl) (by decide) _ rfl (by kernel_rfl) (ah (vD (Yu (Yy rfl) (YA rfl (Yx rfl rfl) rfl))) (ah ?_ (ah ?_ (ah ?_ (ah ?_ (ah ?_ (ah ?_ (aF)))))))) ?_
   ·refine vD ?_;intro ρ y W A D F I;have kt:=A 23 0 rfl;have h0:y 0=_:=I 0 rfl;have EF:=eF0 D λ_=>trivial;refine aP (aS rfl (EF _) func24 (by simp only[bU,bS,aZ,kt,h0,EF];rfl)) ?_;refine(pR l a c W (h.below (ag b F)).rd (by omega) (λx hx=>(srtF_ok Z x hx).1)).mono ?_;rintro r w1 ⟨rfl,R⟩;exact⟨_,rfl,R,rfl⟩
   ·refine vD ?_;intro ρ y W A D F I;have E3:ρ (.tmp 3) = .pointer (some ⟨w.heap.size,0,none⟩):=(D (.tmp 3) rfl).trans rfl;refine ak (.agg (kH x)) (dG rfl E3 (hZ.ext F) underlying94 area_size)
   ·refine vD ?_;intro ρ y W A D F I;have ks:=A 25 2 rfl;have h2:y 2=_:=I 2 rfl;refine jg (.slice (some ⟨W.heap.size,0,none⟩) 1 1) (aj) (by simp[execOp,go_sem,bW,ks,h2,kH]) ((Below.refl _ _).alloc (az _) (.cells (kH x) 94)) ?_;exact⟨_,rfl,aG.new _ _ _⟩
   ·refine vD ?_;intro ρ y W A D F I;have kr:=A 26 3 rfl;have h3:=I 3 rfl;have EF:=eF0 D λ_=>trivial;obtain⟨gq,ko,kn⟩:=h3;refine aP (aS rfl (EF _) func24 (by simp only[bU,bS,aZ,kr,EF,ko];rfl)) ?_;refine(pR [x] _ 1 W (λj u hj=>kn.rd j u (by simpa[mV]using hj)) (by simp) (λz hz=>by rw[bC.1 hz];exact o.out)).mono ?_;rintro r w1 ⟨rfl,R⟩;exact⟨_,rfl,R,rfl⟩
   ·intro ρ y W A D F I;refine EU (.pointer (some ⟨W.heap.size,0,none⟩)) (aj) (w':=W.alloc (.cells (fC f0) 81)) ?_ ((Below.refl _ _).alloc (az _) _) ⟨_,rfl,aG.new _ _ _,(ag b F).size⟩ (OC rfl rfl);simp[execOp,go_sem,bW,bW];rfl
   ·intro ρ y W A D F I;refine EU (.pointer (some ⟨W.heap.size,0,none⟩)) (aj) (w':=W.alloc (.cells (fC f0) 81)) ?_ ((Below.refl _ _).alloc (az _) _) ⟨_,rfl,aG.new _ _ _,(ag b F).size⟩ (OC rfl rfl);simp[execOp,go_sem,bW,bW];rfl
   intro y WA hH d hB;have hW:y 1=_:=d 1 (by decide);have hV:y 4=_:=d 4 (by decide);have kl:=d 3 (by decide);have kk:((Qm w.heap.size)).r (y 5) WA:=d 5 (by decide);have kj:((Qm w.heap.size)).r (y 6) WA:=d 6 (by decide);clear d;simp only[lay,dn,bW,bS,aZ,Nat.reduceAdd,Nat.reduceLT,decide_true,decide_false,if_true,uA,if_false,zX,uT,uB,yL,AL,yZ,hW,hV];clear hW hV;obtain⟨K,hK,kc,h9⟩:∃g,y 5 = .pointer (some ⟨g,0,none⟩)/\aG WA g (fC f0) 81/\w.heap.size<=g:=kk;obtain⟨J,hJ,kb,kp⟩:∃g,y 6 = .pointer (some ⟨g,0,none⟩)/\aG WA g (fC f0) 81/\w.heap.size<=g:=kj;have hU:K≠J:=λe=>hB (by rw[hK,hJ,e]);simp only[hK,hJ];have s:=ag b hH;clear kl hK hJ hB b hZ hH;go_upto_region 8 with(refine aA rfl _ _ rfl K (fC (dm l)) rfl rfl kc (by rw[ky,ky]) (by rw[ky];exact ones_size) (Bz _) ?_);intro W5 ki hm;have t:=s.grown hm s.size (λk hk=>by cases hk;exact h9);have kf:aG W5 J (fC f0) 81:=kb.grown hm (λe=>hU (aM e));clear s kc kb hm;go_upto_region 8 with(refine aA rfl _ _ rfl J (fC (dm [x])) rfl rfl kf (by rw[ky,ky]) (by rw[ky];exact ones_size) (Bz _) ?_);intro W6 ke hl;have hr:=t.grown hl t.size (λk hk=>by cases hk;exact kp);have kh:aG W6 K (fC (dm l)) 81:=ki.grown hl (λe=>hU (aM e).symm);clear t ki kf hl;go_upto_region 9 with(fail)
   go_loopw [28] (fun i wr => ∃n:Nat,n<=64/\i = .int .i64 n/\Below w.heap.size w wr/\aG wr K (fC (uM x n (dm l))) 81/\aG wr J (fC (dm [x])) 81/\∀i:Nat,i<n->¬(pU (i:Int) x=true/\onA l i≠none)) (fun i _=>64-(intOf i).toNat)
   case atStart=>exact⟨0,by omega,rfl,hr,by rw[Nl];exact kh,ke,λi hi=>absurd hi (fA _)⟩
   case round=>
    clear hr kh ke;obtain⟨n,D,rfl,m,U,S,hE⟩:=hrel;have hO:=ae hE;clear hE
    by_cases C:n<64
    ·have ku:(n:Int)<64:=by omega
     have Y:wr.cell? ⟨K,n*6,none⟩=some (.bool (onA l n).isSome):=by rw[U.cell];exact AU (uM x n (dm l)) n 0 C _ (by rw[UK,oN Z];rfl) (by decide)
     have V:wr.cell? ⟨J,n*6,none⟩=some (.bool (dm [x] n).isSome):=by rw[S.cell];exact AU (dm [x]) n 0 C _ rfl (by decide)
     rw[TD]at V
     by_cases f:pU (n:Int) x=true
     ·rw[if_pos f]at V;cases hon:onA l (n:Int)with
      | some p=>
       rw[hon]at Y;simp only[Option.isSome]at Y V;have q0:Hid _:=ae (Ju (l:=l) (x:=x) (e:=6) (by unfold Ca;rw[if_neg (by rw[hM.out];simp),if_neg (by rw[o.out];simp),if_pos (Ud f (by rw[hon];simp))]) (by decide));have b:=m;clear f hon;go_wp2;go_ret2;have q:=q0.out;exact⟨.slice none 0 0,by first | (rw[q.1];done) | (rw[q.1];rfl),by rw[q.2];exact Own.nil _ _ _ _,b⟩
      | none=>
       rw[hon]at Y;simp only[Option.isSome]at Y V;have hC:Hid (bH (fC (uM x n (dm l))) (n*6) (qW (some (kS x n)))=fC (uM x (n+1) (dm l))):=ae (by rw[Sd _ n C,Sm f]);have hD:eu wr (some ⟨J,n*6,none⟩) (qW (some (kS x n))):=λj u hj=>⟨J,n*6,rfl,by
        rw[S.cell];exact AU (dm [x]) n j C u (by rw[TD,if_pos f];exact hj) (by have:=(bZ.1 hj).1;rwa [pK]at this)⟩
       have hu:Hid (∀i:Nat,i<n+1->¬(pU (i:Int) x=true/\onA l i≠none)):=ae (λi hi M=>by
        by_cases c:i=n
        ·subst c;exact M.2 hon
        ·exact hO.out i (by omega) M)
       have hF:Hid (n*6+6<=(fC (uM x n (dm l))).size):=ae (by rw[ky];omega);clear f hon;go_upto_region 15 with(first | (refine ay _ (n*6) _ hD _ underlying80 rfl one_size ?_) | (refine gD rfl _ _ _ rfl K (n*6) (wZ (some (kS x n))) rfl rfl _ _ U hF.out one_size (Me _) ?_));intro W7 kg hh;have hy:aG W7 K (fC (uM x (n+1) (dm l))) 81:=by rw[<-hC.out];exact kg
       have hQ:=m.grown hh m.size (λk hk=>by cases hk;exact h9);have kq:aG W7 J (fC (dm [x])) 81:=S.grown hh (λe=>hU (aM e));clear U S m kg hh Y V hD hC hF;go_wp2;go_roundw
       case rel=>exact⟨n+1,by omega,by go_num,hQ,hy,kq,hu.out⟩
       case measure=>simp[intOf];omega
     rw[if_neg f]at V;simp only[Option.isSome]at V;have hu:Hid (∀i:Nat,i<n+1->¬(pU (i:Int) x=true/\onA l i≠none)):=ae (λi hi M=>by
      by_cases c:i=n
      ·subst c;exact f M.1
      ·exact hO.out i (by omega) M)
     have hy:aG wr K (fC (uM x (n+1) (dm l))) 81:=by rw[QB f];exact U
     clear f U;cases hsX:(onA l (n:Int)).isSome
     ·rw[hsX] at Y;clear hsX;go_wp2;go_roundw
      case rel=>exact⟨n+1,by omega,by go_num,m,hy,S,hu.out⟩
      case measure=>simp[intOf];omega
     rw[hsX] at Y;clear hsX;go_wp2;go_roundw
     case rel=>exact⟨n+1,by omega,by go_num,m,hy,S,hu.out⟩
     case measure=>simp[intOf];omega
    have h6:n=64:=by omega
    subst h6;have hI:=Vl ht.2 o.out hO.out;have h7:∀z∈l,qQ x z=false:=λz hz=>by have:=uY.1 hI z hz;simpa using this
    have hg:=Fj o.out Z (bM o.out).1.2.1.1 h7;rw[<-Dr]at hg;have hG:Hid (Ca l x=EJ (um (Es l x)).length):=ae (by unfold Ca;rw[if_neg (by rw[hM.out];simp),if_neg (by rw[o.out];simp),if_neg (by rw[hI];simp)];rfl);have h8:Hid (zD l x=if 16<(um (Es l x)).length then[]else um (Es l x)):=ae (by
     unfold zD;rw[hG.out];unfold EJ
     by_cases G:16<(um (Es l x)).length
     ·rw[if_pos G,if_pos G];rfl
     ·rw[if_neg G,if_neg G];rfl)
    have hN:Hid ((fC (uM x 64 (dm l))).size=384):=ae (ky _);clear C
    go_wp2_with (refine ay _ 0 _ U.rd _ underlying81 rfl (by rw[jk,hN.out];exact ones_size) ?_)
    refine(VB (uM x 64 (dm l)) (um (Es l x)) (Jd hg) (λi hi => ?_) (λi p hp => ?_) _).mono ?_
    ·rw[JJ hg,Dr,Jp o.out _ Z h7];unfold uM;rw[oN Z]
     by_cases c:pU (i:Int) x=true
     ·rw[if_pos ⟨c,hi⟩,if_pos c]
     ·rw[if_neg (λq=>c q.1),if_neg c]
    ·unfold uM at hp;split at hp
     ·rename_i M;cases hp;have h1:=OX o.out M.1;refine⟨h1.2.2.1,?_⟩
      by_cases hf:(kS x i).fi<0
      ·rw[(h1.2.2.2.1 hf).1];decide
      ·have:=h1.2.2.2.2 (by omega);omega
     ·exact KZ Z i p hp
    rintro r w9 ⟨v9,rfl,hA,kd⟩;have hP:=ag m kd;replace hA:=hA.mono m.size;rw[<-h8.out]at hA;rw[<-hG.out];clear m U S kd h8;go_wp2;go_ret2;exact⟨v9,rfl,hA,hP⟩
  have q0:Hid _:=ae (Ju (l:=l) (x:=x) (e:=aX x) (by unfold Ca;rw[if_neg (by rw[hM.out];simp),if_pos N]) N);have kw : (aX x != 0)=true:=by simpa using N
  clear N ht;go_wp2;go_ret2;have q:=q0.out;exact⟨.slice none 0 0,by first | (rw[q.1];done) | (rw[q.1];rfl),by rw[q.2];exact Own.nil _ _ _ _,b⟩
 have q0:Hid _:=ae (Ju (l:=l) (x:=x) (e:=(bQ l).1) (by unfold Ca;rw[if_pos A]) A);have kv : ((bQ l).1 != 0)=true:=by simpa using A
 have ka:=hv.cell;clear A;go_upto_region 3 with(fail);go_quiet (fail);rename_i nq;have b:=below_drewN b nq;go_wp2;go_ret2;have q:=q0.out;exact⟨.slice none 0 0,by first | (rw[q.1];done) | (rw[q.1];rfl),by rw[q.2];exact Own.nil _ _ _ _,b⟩
end Go.Proofs.YthihaopabbpalaaGreat