/- Walks and lemmas on the program of this seat, used by its statements; each theorem bears its own conditions. -/
import Derived.Test.YteplbljjlbdhaacGreatDoorY12
namespace Go.Proofs.YteplbljjlbdhaacGreatDoor
open Go.RowKit
set_option linter.unusedVariables false
set_option linter.unusedSimpArgs false
set_option linter.unusedSectionVars false
set_option maxHeartbeats 16000000
set_option maxRecDepth 100000
theorem slice_own1 {b o len c q:Nat} (h:(Value.slice (some ⟨b,o,none⟩) len c).ownBlock=some q):q=b:=by simpa [Value.ownBlock,eq_comm] using h
def nfF (bs:List UInt8) (fs k:Nat):Nat:=numF ((bs.drop (512*fs+k*512)).take 64)
def numsL (bs:List UInt8) (fs n i:Nat):List Int:=(List.range n).map fun k=>if k<i then (nfF bs fs k:Int) else 0
theorem numsL_len (bs:List UInt8) (fs n i:Nat):(numsL bs fs n i).length=n:=by simp [numsL]
theorem numsL_at (bs:List UInt8) (fs n i k:Nat) (hk:k<n):numAt (numsL bs fs n i) k=if k<i then (nfF bs fs k:Int) else 0:=by
 unfold numAt numsL
 rw[List.getD_eq_getElem?_getD,List.getElem?_map,List.getElem?_range hk]
 rfl
theorem numsL_zero (bs:List UInt8) (fs n:Nat):numsL bs fs n 0=List.replicate n 0:=by
 apply List.ext_getElem
 ·simp [numsL]
 ·intro i h1 h2;simp [numsL]
theorem numsL_set (bs:List UInt8) (fs n i:Nat) (hi:i<n):(numsL bs fs n i).set i (nfF bs fs i:Int)=numsL bs fs n (i+1):=by
 apply List.ext_getElem
 ·simp [numsL]
 ·intro k h1 h2
  rw[List.getElem_set]
  simp only[numsL,List.getElem_map,List.getElem_range]
  by_cases he:i=k
  ·subst he;rw[if_pos rfl,if_pos (by omega)]
  ·rw[if_neg he]
   by_cases hk:k<i
   ·rw[if_pos hk,if_pos (by omega)]
   ·rw[if_neg hk,if_neg (by omega)]
def LoPost (pb fb bb cb fs n:Nat) (w:World) (f:Fl) (segs:List Sg) (e:Ending) (w':World):Prop:=
 ∃ lb v,w.heap.size≤lb∧e = .returned (.tuple #[Ptr lb,I 0])∧LgAt w' lb pb fb bb cb fs n v segs f false∧(∀ q,v.ownBlock=some q→w.heap.size≤q)∧Kept [] w w'
theorem lopen_any (w : World) (pb fb bb cb fs n : Nat) (f : Fl) (h : PtAt w pb fb bb cb fs n f) (hd : f.dead = false) (h4 : 4 ≤ n) (D : Nat) (l : List (List (List Ch))) (h1 : 1 ≤ l.length) (h2 : l.length ≤ n) (hD : D ≤ 1000000000) (hh : HeadsOK n D l.length (nfF f.bs fs)) :
    Calls Tryz.prog 109 #[Ptr pb] w (LoPost pb fb bb cb fs n w f (sgs n D l)):=by
  obtain⟨lb,hlb⟩:∃ lb,w.heap.size=lb:=⟨_,rfl⟩
  obtain⟨W,hW⟩:∃ W,w.alloc (.cells #[Ptr pb,.slice none 0 0,.bool false] 179)=W:=⟨_,rfl⟩
  have hk0:Kept [] w W:=by rw[← hW];exact (Kept.refl _ _).alloc _
  have hsW:W.heap.size=lb+1:=by rw[← hW,World.size_alloc,hlb]
  have hl0:LgAt W lb pb fb bb cb fs n (.slice none 0 0) [] f false:=by
    have hb:W.heap[lb]? = some (.cells #[Ptr pb,.slice none 0 0,.bool false] 179 (0,0)):=by rw[← hW,← hlb];exact heap_new w _
    have:=h.fl.lt
    have:=h.fl.lt2
    have:=h.fl.lt3
    have:=lt_of_block h.blk
    exact ⟨hb,⟨rfl,.inl ⟨rfl,rfl⟩⟩,h.same hk0,by omega,by omega,by omega,by omega⟩
  have H0:=Lib.hid (And.intro hl0 hk0)
  have HBL:=Lib.hid (fun W (l:LgAt W lb pb fb bb cb fs n (.slice none 0 0) [] f false)=>lblocks_any W lb pb fb bb cb fs n _ [] f false l)
  have hn256:(n:Int)≤256:=by have:=h.bound.1;omega
  have hnI:(4:Int)≤n:=by omega
  have hnf:decide ((n:Int)<4)=false:=decide_eq_false (by omega)
  have HRD:=Lib.hid (fun W' (k:Kept [] w W') b (hb:b<n)=>pread_any W' pb fb bb cb fs n f (h.same k) hd (b*512) 64 (by omega) (by omega))
  have HNB:=Lib.hid (fun W' (b:Nat) (hb:b<n)=>number_any W' ((f.bs.drop (512*fs+b*512)).take 64) (by rw[List.length_take,List.length_drop];have:=h.bound.2;omega))
  obtain⟨L,hL⟩:∃ L,l.length=L:=⟨_,rfl⟩
  have HS:=Lib.hid (backs_sgs (n:=n) (D:=D) l h1)
  rw[hL] at HS hh h1 h2
  have HHO:=Lib.hid (And.intro hh (And.intro h1 (And.intro h2 (And.intro hD hL))))
  obtain⟨nb,hnb⟩:∃ nb,W.heap.size=nb:=⟨_,rfl⟩
  obtain⟨W1,hW1⟩:∃ W1,W.alloc (.cells (madeCells #[I 0] n) 3)=W1:=⟨_,rfl⟩
  have hmk:=run_make_row' (P:=Tryz.prog) 53 3 (.int .i64 0) 8 Tryz.underlying53 int_info rfl .i64 .i64 n (by omega) (by omega) W
  have hk1:Kept [] w W1:=by rw[← hW1];exact hk0.alloc _
  have hn1:Nums W1 nb (numsL f.bs fs n 0):=by
    unfold Nums
    rw[numsL_zero,← madeI,← hW1,← hnb]
    exact heap_new W _
  have hkW:Kept [] W W1:=by rw[← hW1];exact (Kept.refl _ _).alloc _
  have H1:=Lib.hid (And.intro (hl0.same hkW) (And.intro hn1 hk1))
  have HLB:=Lib.hid (And.intro hlb (And.intro hsW hnb))
  clear h hd h4 hl0 hk0 hk1 hn1 hh h1 h2 hD hL hsW hkW
  go_enter Tryz.func109,Tryz.ntmps109
  go_upto_region 2 with (fail)
  clear hlb
  go_wp2_with (fail)
  refine (HBL.out _ H0.out.1).mono ?_
  rintro e w1 ⟨rfl,rfl⟩
  go_wp2_with (fail)
  refine (HBL.out _ H0.out.1).mono ?_
  rintro e w2 ⟨rfl,rfl⟩
  go_wp2_with (fail)
  go_loopw [6,23] (fun v6 v23 wr=>∃ (i N:Nat),i≤n∧v23=I i∧v6=I N∧N<n∧(N<i∨(N=0∧i=0))∧(∀ k,k<i→nfF f.bs fs k≤nfF f.bs fs N)∧LgAt wr lb pb fb bb cb fs n (.slice none 0 0) [] f false∧Nums wr nb (numsL f.bs fs n i)∧Kept [] w wr) (fun _ v23 _=>n-(intOf v23).toNat)
  case atStart=>exact ⟨0,0,by omega,rfl,rfl,by omega,.inr ⟨rfl,rfl⟩,fun k hk=>by omega,H1.out.1,H1.out.2.1,H1.out.2.2⟩
  case round =>
    obtain⟨i,N,hi,rfl,rfl,hN,hNi,hmax,hl,hnm,kr⟩:=hrel
    have hNI:(N:Int)<n:=by omega
    by_cases hlt:i<n
    · have hltI:(i:Int)<n:=by omega
      have HR:=Lib.hid (HRD.out wr kr i hlt)
      have HN:=Lib.hid (fun W'=>HNB.out W' i hlt)
      obtain⟨SS,hSS⟩:∃ SS,(f.bs.drop (512*fs+i*512)).take 64=SS:=⟨_,rfl⟩
      have hnfi:numF SS=nfF f.bs fs i:=by unfold nfF;rw[hSS]
      rw[hSS] at HR
      rw[hSS,hnfi] at HN
      obtain⟨N5,hN5⟩:∃ N5:Nat,i*512=N5:=⟨_,rfl⟩
      rw[hN5] at HR
      have hm5:(i:Int)*512=N5:=by omega
      have hm6:(N5:Int)≤131072:=by omega
      have hset:=numsL_set f.bs fs n i hlt
      have hatN:=numsL_at f.bs fs n (i+1) N hN
      rw[if_pos (by omega)] at hatN
      have hlen:=numsL_len f.bs fs n
      obtain⟨x,hx⟩:∃ x,nfF f.bs fs i=x:=⟨_,rfl⟩
      obtain⟨y,hy⟩:∃ y,nfF f.bs fs N=y:=⟨_,rfl⟩
      rw[hx] at HN hset
      rw[hy] at hatN hmax
      have HX:=Lib.hid (And.intro hl (And.intro hnm (And.intro kr (And.intro hset (And.intro hatN (And.intro hlen (And.intro hx (And.intro hy (And.intro hmax hNi)))))))))
      clear hl hnm kr hset hatN hlen hx hy hmax hNi hSS hnfi hN5
      go_wp2_with (fail)
      refine HR.out.mono ?_
      rintro e w3 ⟨rfl,hw⟩
      replace hw:=hw.symm
      subst hw
      go_wp2_with (fail)
      refine (HN.out _).mono ?_
      rintro e w3 ⟨rfl,k3⟩
      have hn3:Nums w3 nb (numsL f.bs fs n i):=k3.at HX.out.2.1 (by simp)
      have hc1:=hn3.cell i (by rw[HX.out.2.2.2.2.2.1];exact hlt)
      have hc2:=hn3.free i
      have hn4:=hn3.set i (x:Int)
      rw[HX.out.2.2.2.1] at hn4
      have hd1:=hn4.cell i (by rw[HX.out.2.2.2.2.2.1];exact hlt)
      have hd2:=hn4.cell N (by rw[HX.out.2.2.2.2.2.1];exact hN)
      rw[HX.out.2.2.2.2.1] at hd2
      rw[numsL_at _ _ _ _ _ hlt,if_pos (by omega),HX.out.2.2.2.2.2.2.1] at hd1
      have H4:=Lib.hid (And.intro hn4 k3)
      clear hn3 hn4 k3
      by_cases hgt:y<x
      · have hgI:(y:Int)<x:=by omega
        have hgd:decide ((y:Int)<x)=true:=decide_eq_true hgI
        have hgn:decide (y<x)=true:=decide_eq_true (by omega)
        go_wp2_with (fail)
        go_quiet (fail)
        go_wp2_with (fail)
        go_roundw
        case rel =>
          obtain⟨hl,hnm,kr,hset,hatN,hlen,hx,hy,hmax,hNi⟩:=HX.out
          obtain⟨hn4,k3⟩:=H4.out
          have kk:Kept [nb] wr ((w3.setCell ⟨nb,i,none⟩ (I (x:Int))).drewN nq):=((k3.mono (by simp):Kept [nb] wr w3).setCell (.inl (by simp)) _).drewN _
          obtain⟨hb1,hb2,hb3⟩:=HLB.out
          refine ⟨i+1,i,by omega,by go_num,rfl,by omega,.inl (by omega),fun k hk=>?_,hl.kept kk (by simp;omega) (by have:=hl.n1;simp;omega) (by have:=hl.n2;simp;omega) (by have:=hl.n3;simp;omega) (by have:=hl.n4;simp;omega) (fun q hq=>by cases hq),hn4,kr.new kk (fun z hz=>by simp at hz;omega)⟩
          by_cases hki:k<i
          · have:=hmax k hki;omega
          · have:k=i:=by omega
            subst this;omega
        case measure=>simp [intOf];omega
      · have hgI:¬ (y:Int)<x:=by omega
        have hgd:decide ((y:Int)<x)=false:=decide_eq_false hgI
        have hgn:decide (y<x)=false:=decide_eq_false (by omega)
        go_wp2_with (fail)
        go_quiet (fail)
        go_wp2_with (fail)
        go_roundw
        case rel =>
          obtain⟨hl,hnm,kr,hset,hatN,hlen,hx,hy,hmax,hNi⟩:=HX.out
          obtain⟨hn4,k3⟩:=H4.out
          have kk:Kept [nb] wr ((w3.setCell ⟨nb,i,none⟩ (I (x:Int))).drewN nq):=((k3.mono (by simp):Kept [nb] wr w3).setCell (.inl (by simp)) _).drewN _
          obtain⟨hb1,hb2,hb3⟩:=HLB.out
          refine ⟨i+1,N,by omega,by go_num,rfl,by omega,.inl (by omega),fun k hk=>?_,hl.kept kk (by simp;omega) (by have:=hl.n1;simp;omega) (by have:=hl.n2;simp;omega) (by have:=hl.n3;simp;omega) (by have:=hl.n4;simp;omega) (fun q hq=>by cases hq),hn4,kr.new kk (fun z hz=>by simp at hz;omega)⟩
          by_cases hki:k<i
          · have:=hmax k hki;omega
          · have:k=i:=by omega
            subst this;omega
        case measure=>simp [intOf];omega
    · have hie:i=n:=by omega
      obtain⟨hh,h1,h2,hD,hL⟩:=HHO.out
      obtain⟨e1,e2⟩:=hh.newest h1 h2 hN (fun k hk=>hmax k (by omega))
      rw[← backB_zero h1] at e1
      have hnm2:Nums wr nb (numsL f.bs fs n n):=by rw[hie] at hnm;exact hnm
      have hcN:=hnm2.cell N (by rw[numsL_len];exact hN)
      rw[numsL_at _ _ _ _ _ hN,if_pos hN,e2] at hcN
      obtain⟨T,hT⟩:∃ T,D+L=T:=⟨_,rfl⟩
      rw[hT] at hcN
      have hT1:(T:Int)≤2000000000:=by omega
      have hT0:¬ (T:Int)=0:=by omega
      have hTb:((T:Int)==0)=false:=by simpa using hT0
      have hTd:decide ((140737488355328:Int)<T)=false:=decide_eq_false (by omega)
      have hTd2:decide (140737488355328<T)=false:=decide_eq_false (by omega)
      have hiI:¬ (i:Int)<n:=by omega
      have hiN:¬ i<n:=hlt
      have HX:=Lib.hid (And.intro hl (And.intro hnm2 (And.intro kr (And.intro hT e1))))
      clear hl hnm hnm2 kr hT e1 e2 hmax hNi hh h1 h2 hD hL hie hlt hi
      go_wp2_with (fail)
      go_quiet (fail)
      go_wp2_with (fail)
      obtain⟨i0,hi0,hz0,hz1,hz2⟩:=info_parts seg_info
      have HI:=Lib.hid (And.intro hi0 (And.intro hz0 (And.intro hz1 hz2)))
      clear hi0 hz0 hz1 hz2 hcN hT0 hTb hTd hTd2 hiI hiN
      have hLT:Hid (L≤n∧1≤L∧L≤T):=Lib.hid ⟨HHO.out.2.2.1,HHO.out.2.1,by have:=HX.out.2.2.2.1;omega⟩
      go_loopw [10,11] (fun v10 v11 wx=>∃ (t:Nat) (v:Value),t≤L∧v10=I (backB n D L t)∧v11=I ((T:Int)-t)∧LgAt wx lb pb fb bb cb fs n v (backs n D L t) f false∧(∀ q,v.ownBlock=some q→nb<q)∧Nums wx nb (numsL f.bs fs n n)∧Kept [] w wx) (fun _ v11 _=>(intOf v11).toNat)
      case atStart=>exact ⟨0,.slice none 0 0,Nat.zero_le _,by rw[HX.out.2.2.2.2],by go_num,(HX.out.1).same ((Kept.refl [] wr).drewN nq),(fun q (hq:none=some q)=>by cases hq),HX.out.2.1,HX.out.2.2.1.drewN nq⟩
      case round =>
        obtain⟨t,v,ht,rfl,rfl,hl,hv,hnm,kx⟩:=hrel
        have hown:=hl.own
        obtain⟨pv,cv,rfl⟩:=own_form hown
        obtain⟨c0,c1,c2⟩:=hl.cells
        rw[backs_len] at c1 hown
        simp only[backs_len] at hv
        have hf:=hl.free
        have hBlt:backB n D L t<n:=Nat.mod_lt _ (by omega)
        have hcB:=hnm.cell (backB n D L t) (by rw[numsL_len];exact hBlt)
        rw[numsL_at _ _ _ _ _ hBlt,if_pos hBlt] at hcB
        obtain⟨B,hB⟩:∃ B,backB n D L t=B:=⟨_,rfl⟩
        by_cases htL:t<L
        · have hbk:=HHO.out.1.back HHO.out.2.2.1 htL
          rw[hB,HX.out.2.2.2.1] at hbk
          rw[hB,hbk] at hcB
          have hnx:=backB_next (D:=D) (by omega:0<n) htL HHO.out.2.2.1
          rw[hB] at hnx
          obtain⟨B',hB'⟩:∃ B',backB n D L (t+1)=B':=⟨_,rfl⟩
          rw[hB'] at hnx
          obtain⟨M,hM⟩:∃ M,T-t=M:=⟨_,rfl⟩
          have hMI:(T:Int)-t=M:=by have:=hLT.out;omega
          rw[hM] at hcB
          have hM1:(0:Int)<M:=by have:=hLT.out;omega
          have hM2:(M:Int)≤2000000000:=by omega
          have htI:(t:Int)<n:=by have:=hLT.out;omega
          rw[hB] at hBlt
          have hBI:(B:Int)<n:=by omega
          have hrem : ((B : Int) + n - 1) % n = B' := by have : ((B + n - 1 : Nat) : Int) % (n : Int) = ((B + n - 1) % n : Nat) := rfl
                                                         rw[hnx] at this;rw[← this];congr 1;omega
          have hrem2:((B:Int)+n-1).tmod n=B':=by rw[Int.tmod_eq_emod_of_nonneg (by omega)];exact hrem
          have hnz:¬ (n:Int)=0:=by omega
          have hnzN:¬ n=0:=by omega
          have hbs:=backs_succ (n:=n) (D:=D) (L:=L) t
          rw[hB,HX.out.2.2.2.1,hM] at hbs
          have HY:=Lib.hid (And.intro hl (And.intro hv (And.intro hnm (And.intro kx (And.intro hB' (And.intro hM (And.intro hbs (And.intro hB ht))))))))
          have HOW:=Lib.hid hown
          clear hl hv hnm kx hB' hM hbs hbk hnx ht hown
          rw[hB,hMI]
          clear hB
          obtain⟨hi0,hz0,hz1,hz2⟩:=HI.out
          go_wp2_with (first
            | (at_builtin
               refine wpList_append_lies _ rfl (.tmp 95) (.tmp 99) _ rfl (lb+1) 206 i0 (.agg #[.int .i64 0,.int .i64 0]) 2 16 Tryz.underlying177 hi0 hz0 hz1 hz2 rfl (by decide) (.slice pv t cv) t (segCells (backs n D L t)) rfl (own_kept HOW.out ((Kept.refl [] wr).alloc _) (by simp)) ⟨wr.heap.size,0,none⟩ 1 1 [I B,I M] rfl rfl (World.news_of_block (heap_new wr _)) (by intro u hu;simp at hu;rcases hu with rfl | rfl <;> rfl) (by omega) (by unfold maxLen;omega) (by omega) (by rw[World.size_alloc];have:=HY.out.1.lt;omega) _ rfl ?_
               intro g1 cap1 wa own1 gr1 hat1 hlt1
               have kg:=kept_grown gr1
               have kw0:=(Kept.refl [] wr).alloc (Obj.cells #[I B,I M] 206)
               have hblk:=kg.at (kw0.at HY.out.1.blk (by simp)) (by intro hm;have:=(own_lt HOW.out lb (by simpa using hm)).1;omega)
               have d1:wa.cell? ⟨lb,1,none⟩=some (.slice pv t cv):=by rw[cell_at hblk,backs_len];rfl
               have df:∀ i,wa.frozen? ⟨lb,i,none⟩=false:=free_at hblk
               have hp1:PtAt wa pb fb bb cb fs n f:=(HY.out.1.pt.same kw0).kept kg (by intro hm;have:=(own_lt HOW.out pb (by simpa using hm)).1;have:=HY.out.1.n1;omega) (by intro hm;have:=(own_lt HOW.out fb (by simpa using hm)).1;have:=HY.out.1.n2;omega) (by intro hm;have:=(own_lt HOW.out bb (by simpa using hm)).1;have:=HY.out.1.n3;omega) (by intro hm;have:=(own_lt HOW.out cb (by simpa using hm)).1;have:=HY.out.1.n4;omega)
               have hn1:Nums wa nb (numsL f.bs fs n n):=kg.at (kw0.at HY.out.2.2.1 (by simp)) (by intro hm;have:=HY.out.2.1 nb (by simpa using hm);omega)
               have HA:=Lib.hid (And.intro own1 (And.intro kg (And.intro hblk (And.intro hp1 (And.intro hn1 (And.intro hat1 kw0))))))
               clear own1 gr1 hat1 hlt1 kg kw0 hblk hp1 hn1))
          go_roundw
          case rel =>
            obtain⟨own1,kg,hblk,hp1,hn1,hat1,kw0⟩:=HA.out
            obtain⟨hl,hv,hnm,kx,hB',hM,hbs,hB,ht⟩:=HY.out
            have hkk:=HLB.out
            have hsc:segCells (backs n D L t)++[I B,I M]=segCells (backs n D L (t+1)):=by rw[hbs];simp [segCells]
            rw[hsc] at own1
            have kfin:Kept [lb] wa (wa.setCell ⟨lb,1,none⟩ (.slice (some ⟨g1,0,none⟩) (t+1) cap1)):=(Kept.refl _ _).setCell (.inl (by simp)) _
            have hg1:lb+1<g1:=by
              rcases hat1 with h | h
              · have:=hv g1 (by simpa using h);omega
              · have:=lt_of_block hnm
                rw[h,World.size_alloc]
                omega
            refine ⟨t+1,.slice (some ⟨g1,0,none⟩) (t+1) cap1,by omega,by rw[hB'],by congr 1;omega,⟨heap_setCell_at hblk 1 _,?_,hp1.kept kfin (by have:=hl.n1;simp;omega) (by have:=hl.n2;simp;omega) (by have:=hl.n3;simp;omega) (by have:=hl.n4;simp;omega),hl.n1,hl.n2,hl.n3,hl.n4⟩,fun q hq=>by have:=slice_own1 hq;omega,kfin.at hn1 (by simp;omega),?_⟩
            · rw[backs_len]
              exact own_kept own1 kfin (fun q hq hm=>by have:=slice_own1 hq;simp at hm;omega)
            · have hlw:=hkk.1
              refine (kx.trans' kw0).new (S':=lb::(Value.slice pv t cv).ownBlock.toList) (((kg.mono (fun x hx=>List.mem_cons_of_mem _ hx))).trans' (kfin.mono (fun x hx=>by simp at hx;simp [hx]))) (fun x hx=>?_)
              rcases List.mem_cons.1 hx with rfl | hx
              · omega
              · have:=hv x (by simpa using hx);omega
          case measure=>simp [intOf];omega
        · have htL2:t=L:=by omega
          obtain⟨hlenX,hor⟩:=hown
          obtain⟨g,cap,cur,hev,hbg,hg,hcap,hmax2,hsz,hex⟩:∃ g cap cur,Value.slice pv t cv = .slice (some ⟨g,0,none⟩) t cap∧lb+1≤g∧wr.heap[g]? = some (.cells cur 206 (0,0))∧t≤cap∧cap≤maxLen∧cur.size=cap*2∧cur.toList.take (t*2)=segCells (backs n D L t):=by
            rcases hor with ⟨_,h0⟩ | h
            · have:=hLT.out;omega
            · exact h
          cases hev
          have hM:(T:Int)-t=D:=by have:=HX.out.2.2.2.1;omega
          have HRV:=Lib.hid (sreverse_any wr (backs n D L t) g cv cur hg (by rw[backs_len,hsz];omega) (by rw[backs_len];exact hex) (by rw[backs_len];have:=hLT.out;omega))
          rw[backs_len] at HRV
          have HFIN:Hid (∀ w5 cur',w5.heap[g]? = some (.cells cur' 206 (0,0))→cur'.size=cur.size→cur'.toList.take (t*2)=segCells (backs n D L t).reverse→Kept [g] wr w5→LoPost pb fb bb cb fs n w f (sgs n D l) (.returned (.tuple #[Ptr lb,I 0])) w5):=Lib.hid (fun w5 cur' r1 r2 r3 k5=>by
            obtain⟨hb1,hb2,hb3⟩:=HLB.out
            have hS:(backs n D L t).reverse=sgs n D l:=by rw[htL2];exact HS.out
            have hln:(sgs n D l).length=t:=by rw[sgs_len,HHO.out.2.2.2.2];omega
            rw[hS] at r3
            have hgx:=hv g rfl
            refine ⟨lb,_,by omega,rfl,⟨k5.at (by have:=hl.blk;rw[backs_len] at this;exact this) (by simp;omega),⟨by rw[segCells_len],.inr ⟨g,cv,cur',by rw[hln],hbg,r1,by rw[hln];exact hcap,hmax2,by rw[r2,hsz],by rw[hln];exact r3⟩⟩,hl.pt.kept k5 (by have:=hl.n1;simp;omega) (by have:=hl.n2;simp;omega) (by have:=hl.n3;simp;omega) (by have:=hl.n4;simp;omega),hl.n1,hl.n2,hl.n3,hl.n4⟩,fun q hq=>by have:=slice_own1 hq;omega,kx.new k5 (fun z hz=>by simp at hz;omega)⟩)
          have htN:(t:Int)=L:=by omega
          have HT:=Lib.hid (And.intro hl.blk (And.intro htL2 hmax2))
          rw[hM]
          by_cases hD0:D=0
          · have hDI:¬ (0:Int)<(D:Int):=by omega
            have hDd:decide ((0:Int)<(D:Int))=false:=decide_eq_false hDI
            have hDn:decide (0<D)=false:=decide_eq_false (by omega)
            clear hl hv hnm kx hor hlenX hg hcap hmax2 hsz hex ht hM hB htL htL2 htN hD0 hcB hBlt
            go_wp2_with (fail)
            refine (HRV.out).mono ?_
            rintro e w5 ⟨rfl,⟨cur',r1,r2,r3⟩,k5⟩
            have H5:=Lib.hid (And.intro r1 (And.intro r2 (And.intro r3 k5)))
            clear r1 r2 r3 k5
            go_wp2_with (fail)
            go_ret2
            exact HFIN.out _ cur' H5.out.1 H5.out.2.1 H5.out.2.2.1 H5.out.2.2.2
          · have hstop:=HHO.out.1.stop HHO.out.2.1 HHO.out.2.2.1 (by omega)
            have hB2:backB n D L L=B:=by rw[← hB,htL2]
            rw[hB2] at hstop
            clear hB2
            rw[hB] at hcB hBlt ⊢
            obtain⟨z,hz⟩:∃ z,nfF f.bs fs B=z:=⟨_,rfl⟩
            rw[hz] at hcB hstop
            have hDI:(0:Int)<(D:Int):=by omega
            have hzI:¬ (z:Int)=D:=by omega
            have hzb:((z:Int)==D)=false:=by simpa using hzI
            have hzn:(z==D)=false:=by simpa using hstop
            have hBI:(B:Int)<n:=by omega
            clear hl hv hnm kx hor hlenX hg hcap hmax2 hsz hex ht hM hB htL htL2 htN hD0 hz
            go_wp2_with (fail)
            refine (HRV.out).mono ?_
            rintro e w5 ⟨rfl,⟨cur',r1,r2,r3⟩,k5⟩
            have H5:=Lib.hid (And.intro r1 (And.intro r2 (And.intro r3 k5)))
            clear r1 r2 r3 k5
            go_wp2_with (fail)
            go_ret2
            exact HFIN.out _ cur' H5.out.1 H5.out.2.1 H5.out.2.2.1 H5.out.2.2.2
theorem chW_le (c:Ch):7*chW c≤(chB c).length:=by
 have h:=chB_len c
 unfold chW wF pagesF
 cases hd:c.drop with
 | true=>simp
 | false =>
  rw[hd] at h
  simp only[Bool.false_eq_true,if_false] at h ⊢
  split <;> omega
theorem sumC_le (l:List Ch):7*sumC l≤(recF l).length:=by
 induction l with
 | nil=>exact Nat.zero_le _
 | cons c l ih =>
  have:=chW_le c
  rw[recF_cons,List.length_append]
  simp only[sumC]
  omega
theorem rec_le (l:List Ch):(recF l).length≤63*pgs l:=by unfold pgs pagesF;split <;> omega
theorem sumC_pgs (l:List Ch):sumC l≤9*pgs l:=by have:=sumC_le l;have:=rec_le l;omega
theorem takes_sum_le (s a:Nat) (l:List Ch):∀ {M:OM},SortedA M→sumA wO (takesF M l s a)≤sumA wO M+sumC l:=by
 induction l with
 | nil=>intro M h;exact Nat.le_refl _
 | cons c l ih =>
  intro M h
  have h1:=take1_sum wO h s a c
  have h2:=ih (take1_sorted h s a c)
  show sumA wO (takesF (take1 s a M c) l s a)≤_
  have e:(if c.drop then 0 else wO ⟨c.val,s,a⟩)=chW c:=rfl
  rw[e] at h1
  simp only[sumC]
  omega
theorem repR_sum (num:Nat):∀ (rs:List (List Ch)) (i:Nat) {M:OM},SortedA M→sumA wO (repR num rs i M)≤sumA wO M+9*usedS rs
 | [],i,M,h=>Nat.le_add_right _ _
 | l::rs,i,M,h=>by
  have h1:=takes_sum_le num i l h
  have h2:=sumC_pgs l
  have h3:=repR_sum num rs (i+1) (takes_sorted num i l h)
  show sumA wO (repR num rs (i+1) (takesF M l num i))≤_
  simp only[usedS]
  omega
theorem repS_sum:∀ (t:List (List (List Ch))) (num:Nat) {M:OM},SortedA M→(∀ rs∈t,usedS rs≤7)→sumA wO (repS num t M)≤sumA wO M+63*t.length
 | [],num,M,h,_=>Nat.le_add_right _ _
 | rs::t,num,M,h,hu=>by
  have h1:=repR_sum num rs 0 h
  have h2:=repS_sum t (num+1) (M:=repR num rs 0 M) (repR_sorted _ _ _ _ h) (fun r hr=>hu r (List.mem_cons_of_mem _ hr))
  have h3:=hu rs List.mem_cons_self
  show sumA wO (repS (num+1) t (repR num rs 0 M))≤_
  rw[List.length_cons]
  omega
theorem takes_vals (s a:Nat) (l:List Ch) (hl:∀ c∈l,c.val.length≤256):∀ {M:OM},SortedA M→Vals256 M→Vals256 (takesF M l s a):=by
 induction l with
 | nil=>intro M _ h;exact h
 | cons c l ih =>
  intro M hs h
  exact ih (fun x hx=>hl x (List.mem_cons_of_mem _ hx)) (take1_sorted hs s a c) (vals_take1 hs h s a c (hl c List.mem_cons_self))
theorem repR_vals (num:Nat):∀ (rs:List (List Ch)) (i:Nat) {M:OM},(∀ l∈rs,∀ c∈l,c.val.length≤256)→SortedA M→Vals256 M→Vals256 (repR num rs i M)
 | [],i,M,_,_,h=>h
 | l::rs,i,M,hl,hs,h=>repR_vals num rs (i+1) (fun r hr=>hl r (List.mem_cons_of_mem _ hr)) (takes_sorted num i l hs) (takes_vals num i l (hl l List.mem_cons_self) hs h)
structure CtPart (D L:Nat) (segs:List (List (List Ch))) (j i:Nat) (C:List (Int×Nat)):Prop where
 done:∀ a rs,a<j→segs[a]? = some rs→(findA C ((D+a+1:Nat):Int)).getD 0=rs.length
 now:(findA C ((D+j+1:Nat):Int)).getD 0=i
 late:∀ a,j<a→findA C ((D+a+1:Nat):Int)=none
 out:∀ k:Int,(k≤D∨((D+L:Nat):Int)<k)→findA C k=none
theorem CtPart.zero (D L:Nat) (segs:List (List (List Ch))):CtPart D L segs 0 0 []:=⟨fun a rs h=>by omega,rfl,fun _ _=>rfl,fun _ _=>rfl⟩
theorem CtPart.few {D L:Nat} {segs:List (List (List Ch))} {j i:Nat} {C:List (Int×Nat)} (h:CtPart D L segs j i C) (hs:SortedA C):C.length≤L:=by
 refine sorted_few C (D+1) L hs fun p hp=>?_
 have hf:=find_of_mem hs (k:=p.1) (o:=p.2) hp
 apply Classical.byContradiction
 intro hn
 rw[h.out p.1 (by omega)] at hf
 cases hf
theorem CtPart.all {st:St} {C:List (Int×Nat)} (h:CtPart st.D st.segs.length st.segs st.segs.length 0 C):CtOK st C:=
 ⟨fun j rs hj=>h.done j rs (List.getElem?_eq_some_iff.1 hj).1 hj,h.out⟩
theorem repS_take (num:Nat) (l:List (List (List Ch))) (M:OM) (j:Nat) (rs:List (List Ch)) (h:l[j]? = some rs):repS num (l.take (j+1)) M=repR (num+j) rs 0 (repS num (l.take j) M):=by
 have hlt:=(List.getElem?_eq_some_iff.1 h).1
 rw[List.take_add_one,h]
 show repS num (l.take j++[rs]) M=_
 rw[repS_snoc,List.length_take,Nat.min_eq_left (by omega)]
theorem repR_take (num:Nat) (rs:List (List Ch)) (M:OM) (i:Nat) (l:List Ch) (h:rs[i]? = some l):repR num (rs.take (i+1)) 0 M=takesF (repR num (rs.take i) 0 M) l num i:=by
 have hlt:=(List.getElem?_eq_some_iff.1 h).1
 rw[List.take_add_one,h]
 show repR num (rs.take i++[l]) 0 M=_
 rw[repR_snoc,List.length_take,Nat.min_eq_left (by omega),Nat.zero_add]
theorem usedS_take (rs:List (List Ch)):∀ i,usedS (rs.take i)≤usedS rs:=by
 induction rs with
 | nil=>intro i;simp
 | cons x rs ih =>
  intro i
  cases i with
  | zero=>simp [usedS]
  | succ i=>have:=ih i;simp only[List.take_succ_cons,usedS];omega
theorem form_zero (l:List Ch):∀ (last:Int),RisesC l→(∀ c∈l,last<c.key∧1≤c.key∧c.key≤2147483647∧c.val.length≤256∧(c.drop=true→c.val=[]))→formG last l=0:=by
 induction l with
 | nil=>intro last _ _;rfl
 | cons c l ih =>
  intro last hr h
  obtain⟨h1,h2⟩:=List.pairwise_cons.1 hr
  obtain⟨a1,a2,a3,a4,a5⟩:=h c List.mem_cons_self
  unfold formG
  rw[if_neg (by omega),if_neg (by
   rintro (q | ⟨q1,q2⟩)
   ·omega
   ·exact q2 (a5 q1))]
  exact ih c.key h2 (fun d hd=>⟨h1 d hd,(h d (List.mem_cons_of_mem _ hd)).2⟩)
theorem formC_zero {l:List Ch} (h:FormC l):formF l=0:=form_zero l 0 h.1 (fun c hc=>⟨by have:=(h.2.1 c hc).1;omega,h.2.1 c hc⟩)
theorem formC_len {l:List Ch} (h:FormC l):l.length≤400:=by
 have:∀ l:List Ch,l.length≤(recF l).length:=fun l=>by
  induction l with
  | nil=>simp
  | cons c l ih =>
   rw[recF_cons,List.length_append,List.length_cons]
   have:=chB_len c
   split at this <;> omega
 have:=this l
 have:=h.2.2
 omega
theorem FlAt.power {w:World} {fb bb cb:Nat} {f:Fl} (h:FlAt w fb bb cb f) (d:Bool) (a:Int):FlAt ((w.setCell ⟨fb,6,none⟩ (.bool d)).setCell ⟨fb,3,none⟩ (I a)) fb bb cb { f with dead:=d,armed:=a }:=by
 have k:Kept [fb] w ((w.setCell ⟨fb,6,none⟩ (.bool d)).setCell ⟨fb,3,none⟩ (I a)):=((Kept.refl [fb] w).setCell (.inl (by simp)) _).setCell (.inl (by simp)) _
 refine ⟨?_,h.row.kept k (by simpa using h.n1),?_,h.n1,h.n2,h.n3,h.len,h.few,h.pos⟩
 ·have h1:=heap_setCell_at h.blk 6 (.bool d)
  have h2:=heap_setCell_at h1 3 (I a)
  rw[h2]
  simp [Fl.arr]
 ·exact k.at h.cnt (by simpa using h.n2)
theorem crash_any (w:World) (fb bb cb:Nat) (f:Fl) (h:FlAt w fb bb cb f) (hd:f.dead=false) :
  Calls Tryz.prog 7 #[Ptr fb] w fun e w'=>e = .returned (I 0)∧FlAt w' fb bb cb { f with dead:=true,armed:=0 }∧Kept [fb] w w':=by
 have c6:w.cell? ⟨fb,6,none⟩=some (.bool false):=by rw[cell_at h.blk,← hd];rfl
 have c3:w.cell? ⟨fb,3,none⟩=some (I f.armed):=by rw[cell_at h.blk];rfl
 have f6:=free_at h.blk 6
 have f3:=free_at h.blk 3
 have H:=Lib.hid (h.power true 0)
 clear h
 go_enter Tryz.func7,Tryz.ntmps7
 go_wp2_with (fail)
 go_ret
 exact ⟨rfl,H.out,((Kept.refl [fb] w).setCell (.inl (by simp)) _).setCell (.inl (by simp)) _⟩
theorem revive_any (w:World) (fb bb cb:Nat) (f:Fl) (h:FlAt w fb bb cb f) :
  Calls Tryz.prog 38 #[Ptr fb] w fun e w'=>e = .returned (.tuple #[])∧FlAt w' fb bb cb { f with dead:=false,armed:=0 }∧Kept [fb] w w':=by
 obtain⟨c0,c1,c2,c3,c4,c5,c6⟩:=h.cells
 have f6:=h.free 6
 have f3:=h.free 3
 have H:=Lib.hid (h.power false 0)
 clear h c0 c1 c2 c4 c5
 go_enter Tryz.func38,Tryz.ntmps38
 go_wp2_with (fail)
 exact bodyPost_end (v:=.tuple #[]) (by simp [results,Tryz.results38,go_sem]) rfl ⟨rfl,H.out,((Kept.refl [fb] w).setCell (.inl (by simp)) _).setCell (.inl (by simp)) _⟩
theorem stold_gone (w:World) (sb pb lb mb kb:Nat) (x:Int) (M:OM) (C:List (Int×Nat)) (h:CoreAt w sb pb lb mb kb x M C) :
  Calls Tryz.prog 127 #[Ptr sb,I 2] w fun e w'=>e = .returned (I 2)∧CoreX w' sb mb x M true∧Kept [sb] w w':=by
 obtain⟨c0,c1,c2,c3,c4,c5⟩:=h.cells
 have hf:=h.free
 have H:=Lib.hid h
 clear h
 go_enter Tryz.func127,Tryz.ntmps127
 go_wp2_with (fail)
 go_ret
 have kk:Kept [sb] w (w.setCell ⟨sb,5,none⟩ (.bool true)):=(Kept.refl _ _).setCell (.inl (by simp)) _
 have hb:=heap_setCell_at H.out.blk 5 (.bool true)
 refine ⟨rfl,⟨?_,?_,?_,H.out.ob.kept kk (by simpa using Ne.symm H.out.n1)⟩,kk⟩
 ·rw[cell_at hb];rfl
 ·rw[cell_at hb];rfl
 ·rw[cell_at hb];rfl
end Go.Proofs.YteplbljjlbdhaacGreatDoor
