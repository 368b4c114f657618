/- Walks and lemmas on the program of this seat, used by its statements; each theorem bears its own conditions. -/
import Derived.Test.YteplbljjlbdhaacGreatDoorY22
import Derived.Test.YteplbljjlbdhaacGreatDoorY18
namespace Go.Proofs.YteplbljjlbdhaacGreatDoor
open Go.RowKit
set_option linter.unusedVariables false
set_option linter.unusedSimpArgs false
set_option linter.unusedSectionVars false
set_option maxHeartbeats 16000000
set_option maxRecDepth 100000
theorem oformed_two (w:World):Calls Tryz.prog 86 #[I 2] w fun e w'=>e = .returned (I 2)∧w'=w:=by
 go_enter Tryz.func86,Tryz.ntmps86
 go_wp2_with (fail)
 go_ret
 exact ⟨rfl,rfl⟩
theorem DropPostL.val {lb pb fb bb cb fs n:Nat} {v:Value} {s0:Sg} {tl:List Sg} {f:Fl} {w:World} {e:Ending} {w':World} (h:DropPostL lb pb fb bb cb fs n v tl s0 f w e w') :
  ∃ r:Int,e = .returned (I r)∧((r=0∧∃ g v',StepOK f g∧blockOf g.bs (fs+s0.1)=fullB∧Others (fs+s0.1) f g∧Fresh w v v'∧LgAt w' lb pb fb bb cb fs n v' tl g false∧Kept (LgT lb fb bb cb v) w w') ∨
   (r=2∧∃ g,StepDead f g∧(blockOf g.bs (fs+s0.1)=blockOf f.bs (fs+s0.1)∨JunkB (blockOf g.bs (fs+s0.1)))∧Others (fs+s0.1) f g∧LgAt w' lb pb fb bb cb fs n v (tl++[s0]) g true∧Kept (LgT lb fb bb cb v) w w')):=by
 rcases h with ⟨g,a,b,c,rfl,v',d,x,y⟩ | ⟨g,a,b,c,rfl,x,y⟩
 ·exact ⟨0,rfl,.inl ⟨rfl,g,v',a,b,c,d,x,y⟩⟩
 ·exact ⟨2,rfl,.inr ⟨rfl,g,a,b,c,x,y⟩⟩
def SOpenK (w:World) (pb fb bb cb n:Nat) (st:KS) (f:Fl) (e:Ending) (w':World):Prop:=
 (∃ sb lb mb kb v f',e = .returned (.tuple #[Ptr sb,I 0])∧SAtK w' sb lb pb fb bb cb mb kb n v st f'∧StepOK f f'∧w.heap.size≤sb∧w.heap.size≤lb∧w.heap.size≤mb∧w.heap.size≤kb∧(∀ q,v.ownBlock=some q→w.heap.size≤q)∧Kept [fb,bb,cb] w w') ∨
 (∃ g,e = .returned (.tuple #[.pointer none,I 2])∧StepDead f g∧FlAt w' fb bb cb g∧CrP n g st.M st.D∧Kept [fb,bb,cb] w w')
theorem headsX {n:Nat} {f:Fl} {st:KS} (hn:0<n) (h:FlX n f st false) (hD:st.D+n≤100000000000000) (hlen:512*(1+n)≤f.bs.length):HeadsOK n st.D st.segs.length (nfF f.bs 1):=by
 intro j hj
 have hm:=Nat.mod_lt (st.D+j) hn
 have hl:(blockOf f.bs (1+(st.D+j)%n)).length=512:=blockOf_len (by omega)
 have e6:(256:Nat) ^ 6=281474976710656:=by decide
 rw[nf_block]
 cases hs:st.segs[j]? with
 | none =>
  have hjl:=List.getElem?_eq_none_iff.1 hs
  rw[if_neg (by omega)]
  exact num_junk hl (flX_free h hj (by rw[segs_len] at hjl;omega))
 | some rs =>
  rw[if_pos (List.getElem?_eq_some_iff.1 hs).1]
  obtain⟨u,h1,_⟩:=flX_seg h hj hs
  exact h1.num (by omega) (by omega)
theorem headB_num {num:Nat} {B:List UInt8} (h:HeadB num B) (h1:1≤num) (h2:num<256 ^ 6):numF (B.take 64)=num:=by
 have h3:=head_num num h1 h2 []
 rw[List.append_nil,List.take_of_length_le (by rw[headL_len];omega)] at h3
 rw[show B.take 64=headL num from h]
 exact h3
theorem headsX2 {n:Nat} {f:Fl} {st:KS} (hn:st.init.length+2=n) (h:FlX n f st true) (hh:HeadB (st.D+n) (blockOf f.bs (1+(st.D+(n-1))%n))) (hD:st.D+n≤100000000000000):HeadsOK n st.D (st.segs++[[]]).length (nfF f.bs 1):=by
 intro j hj
 have e6:(256:Nat) ^ 6=281474976710656:=by decide
 have hl:(st.segs++[[]]).length=n:=by rw[List.length_append,segs_len];simp;omega
 rw[nf_block,if_pos (by omega)]
 by_cases hjl:j=n-1
 ·subst hjl
  rw[headB_num hh (by omega) (by omega)]
  omega
 ·obtain⟨rs,hs⟩:∃ rs,st.segs[j]? = some rs:=⟨_,List.getElem?_eq_getElem (by rw[segs_len];omega)⟩
  obtain⟨u,h1,_⟩:=flX_seg h hj hs
  exact h1.num (by omega) (by omega)
theorem CtPart.step {D L:Nat} {segs:List (List (List Ch))} {j i:Nat} {C:List (Int×Nat)} (h:CtPart D L segs j i C) (hs:SortedA C) (hj:j<L):CtPart D L segs j (i+1) (insA (delA C ((D+j+1:Nat):Int)) ((D+j+1:Nat):Int) (i+1)):=by
 have hf:∀ (k q:Int) (x:Nat),findA (insA (delA C k) k x) q=if q=k then some x else findA C q:=by
  intro k q x
  rw[find_ins _ _ _ (by rw[find_del hs,if_pos rfl]),find_del hs]
  by_cases hq:q=k
  ·rw[if_pos hq,if_pos hq]
  ·rw[if_neg hq,if_neg hq,if_neg hq]
 refine ⟨fun a rs ha hr=>?_,?_,fun a ha=>?_,fun k hk=>?_⟩
 ·rw[hf,if_neg (by omega)];exact h.done a rs ha hr
 ·rw[hf,if_pos rfl];rfl
 ·rw[hf,if_neg (by omega)];exact h.late a ha
 ·rw[hf,if_neg (by omega)];exact h.out k hk
theorem CtPart.next {D L:Nat} {segs:List (List (List Ch))} {j:Nat} {C:List (Int×Nat)} {rs:List (List Ch)} (hr:segs[j]? = some rs) (h:CtPart D L segs j rs.length C):CtPart D L segs (j+1) 0 C:=by
 refine ⟨fun a r ha hra=>?_,?_,fun a ha=>h.late a (by omega),h.out⟩
 ·by_cases e:a=j
  ·subst e;rw[hr] at hra;cases hra;exact h.now
  ·exact h.done a r (by omega) hra
 ·rw[h.late (j+1) (by omega)];rfl
theorem oopen_arm (w:World) (pb fb bb cb n:Nat) (f:Fl) (st:KS) (h:PtAt w pb fb bb cb 1 n f) (ha:ArmOK f) (h8:8≤n) (hF:FlX n f st true) (hI:InvK n st) (hfree:st.init.length+2≤n) (hq:sumA wO st.M≤quotaF n) (hD:st.D≤900000000) :
  Calls Tryz.prog 80 #[Ptr pb] w (SOpenK w pb fb bb cb n st f):=by
 have HS:=Lib.hid (size_any w pb fb bb cb 1 n f h)
 have hb:=h.bound
 have hsl:=segs_len st.toSt
 have hlen:512*(1+n)≤f.bs.length:=by omega
 have hLL:∃ l':List (List (List Ch)),1≤l'.length∧l'.length≤n∧HeadsOK n st.D l'.length (nfF f.bs 1)∧((l'=st.segs∧FlX n f st false)∨(l'=st.segs++[[]]∧st.init.length+2=n)):=by
  rcases flX_cases hF with hc | ⟨hc,hh⟩
  ·exact ⟨st.segs,by omega,by omega,headsX (by omega) hc (by omega) hlen,.inl ⟨rfl,hc⟩⟩
  ·exact ⟨st.segs++[[]],by simp,by rw[List.length_append];simp;omega,headsX2 hc hF hh (by omega),.inr ⟨rfl,hc⟩⟩
 obtain⟨l',q1,q2,q3,q4⟩:=hLL
 have HL:=Lib.hid (lopen_any w pb fb bb cb 1 n f h ha.1 (by omega) st.D l' q1 q2 (by omega) q3)
 obtain⟨L,hL⟩:∃ L,st.segs.length=L:=⟨_,rfl⟩
 have hLn:L+1≤n:=by omega
 have hsg:(sgs n st.D st.segs).length=L:=by rw[sgs_len,hL]
 have HFR:=Lib.hid (fun W lb v (l:LgAt W lb pb fb bb cb 1 n v (sgs n st.D l') f false)=>by
  have:=free_any W lb pb fb bb cb 1 n v _ f false l (by rw[sgs_len];omega)
  rw[sgs_len] at this
  exact this)
 have HSG:=Lib.hid (fun W lb v f' (l:LgAt W lb pb fb bb cb 1 n v (sgs n st.D st.segs) f' false)=>by
  have:=segs_any W lb pb fb bb cb 1 n v _ f' false l (by intro he;rw[he] at hsg;simp at hsg;omega) (by rw[hsg];omega)
  rw[hsg] at this
  exact this)
 have HRC:=Lib.hid (fun W lb v f' (l:LgAt W lb pb fb bb cb 1 n v (sgs n st.D st.segs) f' false) (hF':FlX n f' st false) (hd':f'.dead=false) j rs (hj:st.segs[j]? = some rs)=>by
  have hjl:=(List.getElem?_eq_some_iff.1 hj).1
  have hjs:j<(sgs n st.D st.segs).length:=by omega
  have hat:=sgs_at n st.segs st.D j hjs
  obtain⟨u,hu,_⟩:=flX_seg hF' (by omega) hj
  have:=records_arm W lb pb fb bb cb 1 n v (sgs n st.D st.segs) f' l (by rw[hsg];omega) hd' j hjs (by rw[hat];exact Nat.mod_lt _ (by omega)) (fun i hi=>by rw[sgs_at,hat];simp;omega) (rs.map recF) u (by rw[hat];exact hu)
  rw[hat,List.length_map] at this
  exact this)
 have HDN:=Lib.hid (fun W lb v (l:LgAt W lb pb fb bb cb 1 n v (sgs n st.D st.segs++[((st.D+L)%n,st.D+L+1)]) f false)=>dropNewest_arm W lb pb fb bb cb 1 n v (sgs n st.D st.segs) ((st.D+L)%n,st.D+L+1) f l ha (Nat.mod_lt _ (by omega)) (by omega) (by omega))
 have hq5:(l'=st.segs∧FlX n f st false∧l'.length<n)∨(sgs n st.D l'=sgs n st.D st.segs++[((st.D+L)%n,st.D+L+1)]∧st.init.length+2=n∧l'.length=n):=by
  rcases q4 with ⟨rfl,hc⟩ | ⟨rfl,hc⟩
  ·exact .inl ⟨rfl,hc,by omega⟩
  ·exact .inr ⟨by rw[sgs_snoc,hL],hc,by rw[List.length_append];simp;omega⟩
 obtain⟨LL,hLL⟩:∃ LL,l'.length=LL:=⟨_,rfl⟩
 rw[hLL] at HFR hq5 q2
 have HFX:Hid (st.init.length+2=n→∀ g,g.bs.length=f.bs.length→JunkB (blockOf g.bs (1+(st.D+L)%n))→Others (1+(st.D+L)%n) f g→FlX n g st false):=Lib.hid (fun hn g r0 r1 r2=>by
  rcases flX_cases (flX_junk hF (J:=L) (by omega) (by omega) hlen r2 r1) with hc | ⟨hc,hh⟩
  ·exact hc
  ·exfalso
   have e6:(256:Nat) ^ 6=281474976710656:=by decide
   have hLe:n-1=L:=by omega
   rw[hLe] at hh
   have hm:=Nat.mod_lt (st.D+L) (by omega:0<n)
   have z1:=headB_num hh (by omega) (by omega)
   rw[num_junk (blockOf_len (by omega)) r1] at z1
   omega)
 have HBK:Hid (st.init.length+2=n→∀ g,blockOf g.bs (1+(st.D+L)%n)=blockOf f.bs (1+(st.D+L)%n)→Others (1+(st.D+L)%n) f g→FlX n g st true):=Lib.hid (fun hn g r1 r2=>by
  intro j hj
  have h1:=hF j hj
  have e:blockOf g.bs (1+(st.D+j)%n)=blockOf f.bs (1+(st.D+j)%n):=by
   by_cases hj0:(st.D+j)%n=(st.D+L)%n
   ·rw[hj0];exact r1
   ·have:=Nat.mod_lt (st.D+j) (by omega:0<n)
    exact r2 _ (by omega) (by omega)
  rw[e]
  exact h1)
 obtain⟨N,hN⟩:∃ N:Nat,n*512=N:=⟨_,rfl⟩
 rw[hN] at HS
 have hNI:¬ (N:Int)<4096:=by omega
 have hnI:(n:Int)≤256:=by omega
 have hLI:(L:Int)≤n:=by omega
 have hLLI:(LL:Int)≤n:=by omega
 have HH:=Lib.hid (And.intro h (And.intro ha (And.intro hb (And.intro h8 (And.intro hF (And.intro hI (And.intro hfree (And.intro hq (And.intro hD (And.intro hL (And.intro hLn hb.1)))))))))))
 have HQ5:=Lib.hid hq5
 clear h ha h8 hF hI hfree hq hD hb hsl hsg hN hLn hL hLL hq5 q1 q2 q3 q4 hlen
 go_enter Tryz.func80,Tryz.ntmps80
 go_wp2_with (fail)
 refine HS.out.mono ?_
 rintro e w1 ⟨rfl,rfl⟩
 go_wp2_with (fail)
 refine HL.out.mono ?_
 rintro e w2 ⟨lb,v,hlb,rfl,hlg,hv,k2⟩
 have H2:=Lib.hid (And.intro hlb (And.intro hlg (And.intro hv k2)))
 have HT2:Hid (∀ W,Kept (LgT lb fb bb cb v) w2 W→Kept [fb,bb,cb] w1 W):=Lib.hid (fun W k=>(k2.mono (by simp)).trans k (fun x hx=>by
  simp only[LgT,List.mem_append,Option.mem_toList] at hx
  rcases hx with hx | hx
  ·simp at hx
   rcases hx with rfl | rfl | rfl | rfl
   ·exact .inr hlb
   ·exact .inl (by simp)
   ·exact .inl (by simp)
   ·exact .inl (by simp)
  ·exact .inr (hv x (by simpa using hx))))
 clear hlb hlg hv k2
 go_wp2_with (fail)
 refine (HFR.out w2 lb v H2.out.2.1).mono ?_
 rintro e w3 ⟨rfl,k3⟩
 have K3:=Lib.hid k3
 clear k3
 go_upto_if 30 with (fail)
 go_cut [] from 28 to 36 (fun wx=>∃ v2 f2,StepOK f f2∧FlX n f2 st false∧LgAt wx lb pb fb bb cb 1 n v2 (sgs n st.D st.segs) f2 false∧(∀ q,v2.ownBlock=some q→w1.heap.size≤q)∧Kept [fb,bb,cb] w1 wx)
 case first =>
  rcases HQ5.out with ⟨e1,e2,e3⟩ | ⟨e1,e2,e3⟩
  ·have hnL:¬ (n:Int)-LL=0:=by omega
   have hnL2:((n:Int)-LL==0)=false:=by simpa using hnL
   have HE:=Lib.hid (And.intro e1 (And.intro e2 e3))
   clear e1 e2 e3
   go_wp2_with (fail)
   go_meet
   have h1:=H2.out.2.1.same K3.out
   rw[HE.out.1] at h1
   exact ⟨v,f,StepOK.refl HH.out.2.1,HE.out.2.1,h1,H2.out.2.2.1,HT2.out _ (LgT.sub0 K3.out)⟩
  ·have hnL:(n:Int)-LL=0:=by omega
   have hnL2:((n:Int)-LL==0)=true:=by simpa using hnL
   have HE:=Lib.hid (And.intro e1 (And.intro e2 e3))
   have h2':=H2.out.2.1
   rw[e1] at h2'
   have HDN2:=Lib.hid (fun W (k:Kept [] w2 W)=>HDN.out W lb v (h2'.same k))
   clear e1 e2 e3 h2'
   go_wp2_with (fail)
   refine (HDN2.out _ K3.out).mono ?_
   intro e w4 hp4
   obtain⟨r4,rfl,hv4⟩:=hp4.val
   clear hp4
   rcases hv4 with ⟨rfl,g,v',a1,a2,a3,hfr,hlg,k4⟩ | ⟨rfl,g,a1,a2,a3,hlg,k4⟩
   ·have H4:=Lib.hid (And.intro a1 (And.intro a2 (And.intro a3 (And.intro hfr (And.intro hlg k4)))))
    clear a1 a2 a3 hfr hlg k4
    go_wp2_with (fail)
    go_meet
    obtain⟨a1,a2,a3,hfr,hlg,k4⟩:=H4.out
    exact ⟨v',g,a1,HFX.out HE.out.2.1 g a1.len (by rw[a2];exact junk_full) a3,hlg,fun q hq=>by
     rcases hfr q hq with h1 | h1
     ·exact H2.out.2.2.1 q h1
     ·have:=H2.out.2.2.2.size;have:=K3.out.size;omega,HT2.out _ ((LgT.sub0 K3.out).trans' k4)⟩
   ·have H4:=Lib.hid (And.intro a1 (And.intro a2 (And.intro a3 (And.intro hlg k4))))
    clear a1 a2 a3 hlg k4
    go_wp2_with (fail)
    refine (oformed_two w4).mono ?_
    rintro e w5 ⟨rfl,rfl⟩
    go_wp2_with (fail)
    go_ret2
    obtain⟨a1,a2,a3,hlg,k4⟩:=H4.out
    refine .inr ⟨g,rfl,a1,hlg.pt.fl,?_,HT2.out _ ((LgT.sub0 K3.out).trans' k4)⟩
    rcases a2 with a2 | a2
    ·exact ⟨st,HH.out.2.2.2.2.2.1,HBK.out HE.out.2.1 g a2 a3,HH.out.2.2.2.2.2.2.1,fun _=>rfl,Nat.le_refl _⟩
    ·exact CrP.of HH.out.2.2.2.2.2.1 (HFX.out HE.out.2.1 g a1.len a2 a3) HH.out.2.2.2.2.2.2.1 (fun _=>rfl) (Nat.le_refl _)
 case rest =>
 obtain⟨v2,f2,hs2,hf2,hlg2,hv2,k3⟩:=hcut
 obtain⟨w3,hw3⟩:∃ w3,wc=w3:=⟨_,rfl⟩
 subst hw3
 have HF2:=Lib.hid (And.intro hs2 hf2)
 have HV2:=Lib.hid hv2
 have H3:=Lib.hid (And.intro hlg2 k3)
 have hs3:=k3.size
 have HS3:=Lib.hid hs3
 clear hs2 hf2 hlg2 hv2 k3 hs3 HFR HL HDN HFX HBK
 have m1:(Instr.makeMap 120 none).run Tryz.prog wc = .ok (.map (some wc.heap.size)) (wc.alloc (.map #[] 0)):=rfl
 have m2:(Instr.makeMap 121 none).run Tryz.prog (wc.alloc (.map #[] 0)) = .ok (.map (some (wc.heap.size+1))) ((wc.alloc (.map #[] 0)).alloc (.map #[] 0)):=by rw[← World.size_alloc];rfl
 obtain⟨W1,hW1⟩:∃ W1,wc.alloc (.map #[] 0)=W1:=⟨_,rfl⟩
 have s1:W1.heap.size=wc.heap.size+1:=by rw[← hW1,World.size_alloc]
 have o1:ObAt W1 wc.heap.size []:=by rw[← hW1];exact amap_made wc
 have kA:Kept [] wc W1:=by rw[← hW1];exact (Kept.refl [] wc).alloc _
 obtain⟨W2,hW2⟩:∃ W2,W1.alloc (.map #[] 0)=W2:=⟨_,rfl⟩
 have s2:W2.heap.size=wc.heap.size+2:=by rw[← hW2,World.size_alloc,s1]
 have o2:CtAt W2 (wc.heap.size+1) []:=by rw[← hW2,← s1];exact amap_made W1
 have kB:Kept [] W1 W2:=by rw[← hW2];exact (Kept.refl [] W1).alloc _
 obtain⟨W3,hW3⟩:∃ W3,W2.alloc (.cells #[Ptr pb,Ptr lb,.map (some wc.heap.size),.map (some (wc.heap.size+1)),I 0,.bool false] 123)=W3:=⟨_,rfl⟩
 have hb3:W3.heap[wc.heap.size+2]? = some (.cells #[Ptr pb,Ptr lb,.map (some wc.heap.size),.map (some (wc.heap.size+1)),I 0,.bool false] 123 (0,0)):=by rw[← hW3,← s2];exact heap_new W2 _
 have kC:Kept [] W2 W3:=by rw[← hW3];exact (Kept.refl [] W2).alloc _
 obtain⟨mb,hmb⟩:∃ mb,wc.heap.size=mb:=⟨_,rfl⟩
 rw[hmb] at o1 o2 hb3 m1 m2 s1 s2
 rw[hW1] at m1 m2
 rw[hW2] at m2
 have hcore:CoreAt W3 (mb+2) pb lb mb (mb+1) (sumA wO ([]:OM)) [] []:=⟨hb3,o1.same (kB.trans' kC),o2.same kC,by omega,by omega,by omega⟩
 have HC3:=Lib.hid (And.intro hcore (And.intro (H3.out.1.same ((kA.trans' kB).trans' kC)) (And.intro (H3.out.2.trans' (((kA.trans' kB).trans' kC).mono (by simp))) (And.intro hmb s2))))
 clear hcore o1 o2 hb3 kA kB kC s1
 go_wp2_with (fail)
 rw[show W2.alloc (Obj.cells #[Ptr pb,Ptr lb,.map (some mb),.map (some (mb+1)),.int .i64 0,.bool false] 123)=W3 from by rw[← hW3,hmb]]
 refine (HSG.out W3 lb v2 f2 HC3.out.2.1).mono ?_
 rintro e w4 ⟨vs,rfl,own4,k4⟩
 obtain⟨gs,cs,rfl,hgs,hcs⟩:=row_cells1 own4 (by have:=HH.out.2.2.2.2.2.2.2.2.2.1;have:=segs_len st.toSt;omega)
 have hrow:∀ j,j<L→w4.cell? ⟨gs,j,none⟩=some (I (st.D+j+1:Nat)):=by
  intro j hj
  rw[hcs j hj,sgs_nums,HH.out.2.2.2.2.2.2.2.2.2.1,List.getElem?_map,List.getElem?_map,List.getElem?_range hj]
  rfl
 have hgs2:mb+3<gs:=by
  have:W3.heap.size=mb+3:=by rw[← hW3,World.size_alloc];omega
  omega
 have H4:=Lib.hid (And.intro (HC3.out.1.same k4) (And.intro (HC3.out.2.1.same k4) (And.intro (HC3.out.2.2.1.trans' (k4.mono (by simp))) (And.intro hrow (And.intro hgs2 (lt_of_block HC3.out.1.blk))))))
 clear own4 hcs k4 hrow hgs2 m1 m2 hW1 hW2 hW3 s2 hmb HSG
 go_wp2_with (fail)
 go_loopw [46] (fun v46 wr=>∃ (j:Nat) (C:List (Int×Nat)),j≤L∧v46=I j∧CoreAt wr (mb+2) pb lb mb (mb+1) (sumA wO (repS (st.D+1) (st.segs.take j) [])) (repS (st.D+1) (st.segs.take j) []) C∧CtPart st.D L st.segs j 0 C∧Kept [mb+2,mb,mb+1] w4 wr) (fun v46 _=>L-(intOf v46).toNat)
 case atStart=>exact ⟨0,[],Nat.zero_le _,rfl,H4.out.1,CtPart.zero _ _ _,Kept.refl _ _⟩
 case round =>
  obtain⟨j,C,hj,rfl,hcore,hct,kr⟩:=hrel
  have hlo:mb+2<w4.heap.size∧lb<mb:=by
   have h1:=H4.out.2.2.2.2.2
   have h2:=H3.out.1.lt
   have h3:=HC3.out.2.2.2.1
   have:=H4.out.1.lt
   omega
  have hlg:LgAt wr lb pb fb bb cb 1 n v2 (sgs n st.D st.segs) f2 false:=by
   have hl:=H4.out.2.1
   have h3:=H3.out.1
   have h4:=HC3.out.2.2.2.1
   refine hl.kept kr (by simp;omega) (by have:=hl.n1;simp;omega) (by have:=hl.n2;simp;omega) (by have:=hl.n3;simp;omega) (by have:=hl.n4;simp;omega) (fun q hq hm=>?_)
   have:=(own_lt h3.own q hq).2
   simp at hm
   omega
  by_cases hlt:j<L
  ·have hltI:(j:Int)<L:=by omega
   obtain⟨rs,hrs⟩:∃ rs,st.segs[j]? = some rs:=⟨_,List.getElem?_eq_getElem (by have:=HH.out.2.2.2.2.2.2.2.2.2.1;omega)⟩
   have hc9:=(kr.cell (p:=⟨gs,j,none⟩) (World.block_lt_of_cell? w4 _ (H4.out.2.2.2.1 j hlt)) (by have:=H4.out.2.2.2.2.1;simp;omega)).trans (H4.out.2.2.2.1 j hlt)
   have HR:=Lib.hid (HRC.out wr lb v2 f2 hlg HF2.out.2 HF2.out.1.arm.1 j rs hrs)
   obtain⟨SN,hSN⟩:∃ SN,st.D+j+1=SN:=⟨_,rfl⟩
   have hrs7:=HH.out.2.2.2.2.2.1.inv.recs rs (List.mem_of_getElem? hrs)
   have hrl:rs.length≤7:=by
    have:∀ rs:List (List Ch),rs.length≤usedS rs:=fun rs=>by
     induction rs with
     | nil=>exact Nat.le_refl _
     | cons x t ih=>have:=pgs_pos x;simp only[List.length_cons,usedS];omega
    have:=this rs
    omega
   obtain⟨Mj,hMj⟩:∃ Mj,repS (st.D+1) (st.segs.take j) []=Mj:=⟨_,rfl⟩
   have hMnext:repS (st.D+1) (st.segs.take (j+1)) []=repR SN rs 0 Mj:=by rw[repS_take _ _ _ j rs hrs,hMj,show st.D+1+j=SN by omega]
   have hMs:SortedA Mj:=by rw[← hMj];exact repS_sorted _ _ _ List.Pairwise.nil
   have hMv:Vals256 Mj:=by
    have:∀ (t:List (List (List Ch))) (num:Nat) (M:OM),(∀ r∈t,∀ l∈r,∀ c∈l,c.val.length≤256)→SortedA M→Vals256 M→Vals256 (repS num t M):=fun t=>by
     induction t with
     | nil=>intro num M _ _ h;exact h
     | cons r t ih=>intro num M h1 h2 h3;exact ih (num+1) _ (fun x hx=>h1 x (List.mem_cons_of_mem _ hx)) (repR_sorted _ _ _ _ h2) (repR_vals num r 0 (h1 r List.mem_cons_self) h2 h3)
    rw[← hMj]
    refine this _ _ _ (fun r hr l hl c hc=>?_) List.Pairwise.nil (fun k o ho=>by cases ho)
    exact (((HH.out.2.2.2.2.2.1.inv.recs r (List.mem_of_mem_take hr)).2 l hl).2.1 c hc).2.2.1
   have hMw:sumA wO Mj≤63*256:=by
    rw[← hMj]
    have:=repS_sum (st.segs.take j) (st.D+1) (M:=[]) List.Pairwise.nil (fun r hr=>(HH.out.2.2.2.2.2.1.inv.recs r (List.mem_of_mem_take hr)).1)
    rw[List.length_take] at this
    have e0:sumA wO ([]:OM)=0:=rfl
    omega
   rw[hSN] at HR hc9
   rw[hMj] at hcore
   have hSNI:(SN:Int)≤1000000000:=by have:=HH.out.2.2.2.2.2.2.2.2.1;omega
   have HX:=Lib.hid (And.intro hcore (And.intro hct (And.intro kr (And.intro hrs (And.intro hrs7 (And.intro hrl (And.intro hMnext (And.intro hMs (And.intro hMv (And.intro hMw (And.intro hSN hlo)))))))))))
   clear hcore hct kr hlg hrs hrs7 hrl hMnext hMs hMv hMw hSN hMj hlo
   go_wp2_with (fail)
   refine HR.out.mono ?_
   rintro e w5 ⟨vo,rfl,own5,k5⟩
   obtain⟨p5,c5,rfl⟩:=own_form own5
   have H5:=Lib.hid (And.intro own5 k5)
   clear own5 k5
   go_wp2_with (fail)
   obtain⟨CJ,hCJ⟩:∃ CJ,C=CJ:=⟨_,rfl⟩
   subst hCJ
   have hrI:(rs.length:Int)≤7:=by have:=HX.out.2.2.2.2.2.1;omega
   have HK5:Hid (Kept [mb+2,mb,mb+1] w4 w5):=Lib.hid (HX.out.2.2.1.trans' (H5.out.2.mono (by simp)))
   go_loopw [62] (fun v62 wx=>∃ (i:Nat) (D:List (Int×Nat)),i≤rs.length∧v62=I i∧CoreAt wx (mb+2) pb lb mb (mb+1) (sumA wO (repR SN (rs.take i) 0 Mj)) (repR SN (rs.take i) 0 Mj) D∧CtPart st.D L st.segs j i D∧Kept [mb+2,mb,mb+1] w5 wx) (fun v62 _=>rs.length-(intOf v62).toNat)
   case atStart=>exact ⟨0,C,Nat.zero_le _,rfl,HX.out.1.same H5.out.2,HX.out.2.1,Kept.refl _ _⟩
   case round =>
    obtain⟨i,D,hi,rfl,hcore,hct,kx⟩:=hrel
    by_cases hil:i<rs.length
    ·have hilI:(i:Int)<rs.length:=by omega
     obtain⟨g5,c5',e5,hg5,hc5⟩:=row_cells1 H5.out.1 (by omega)
     cases e5
     have d5:=hc5 i hil
     rw[List.getElem?_map,List.getElem?_map,List.getElem?_eq_getElem hil] at d5
     simp only[Option.map_some] at d5
     obtain⟨R,hR⟩:∃ R,rs[i]=R:=⟨_,rfl⟩
     have hRi:rs[i]? = some R:=by rw[List.getElem?_eq_getElem hil,hR]
     rw[hR] at d5
     have hFR:FormC R:=HX.out.2.2.2.2.1.2 R (List.mem_of_getElem? hRi)
     have hlo:=HX.out.2.2.2.2.2.2.2.2.2.2.2
     have hw4:=HX.out.2.2.1.size
     have d6:=(kx.cell (p:=⟨g5,i,none⟩) (World.block_lt_of_cell? w5 _ d5) (by simp;omega)).trans d5
     have HP:=Lib.hid (fun W=>oparse_any R (fun c hc=>hFR.2.1 c hc) (by have:=hFR.2.2;omega) (by have:=formC_len hFR;omega) W)
     have HFO:=Lib.hid (fun W cv (hv:ChsAt W cv R)=>by
      have:=form_any R cv W hv (by have:=formC_len hFR;omega)
      rw[formC_zero hFR] at this
      exact this)
     have hms:=repR_sorted SN (rs.take i) 0 Mj HX.out.2.2.2.2.2.2.2.1
     have hmv:=repR_vals SN (rs.take i) 0 (fun l hl c hc=>((HX.out.2.2.2.2.1.2 l (List.mem_of_mem_take hl)).2.1 c hc).2.2.1) HX.out.2.2.2.2.2.2.2.1 HX.out.2.2.2.2.2.2.2.2.1
     have hmw:sumA wO (repR SN (rs.take i) 0 Mj)≤63*257:=by
      have h1:=repR_sum SN (rs.take i) 0 (M:=Mj) HX.out.2.2.2.2.2.2.2.1
      have h2:=usedS_take rs i
      have h3:=HX.out.2.2.2.2.1.1
      have h4:=HX.out.2.2.2.2.2.2.2.2.2.1
      omega
     have hnext:=repR_take SN rs Mj i R hRi
     obtain⟨Mi,hMi⟩:∃ Mi,repR SN (rs.take i) 0 Mj=Mi:=⟨_,rfl⟩
     rw[hMi] at hcore hms hmv hmw hnext
     have hcl:=hct.few hcore.ct.srt
     have hjL:j<L:=hlt
     have hSN:=HX.out.2.2.2.2.2.2.2.2.2.2.1
     have hnow:=hct.now
     rw[hSN] at hnow
     have hstep:=hct.step hcore.ct.srt hjL
     rw[hSN] at hstep
     have HTK:=Lib.hid (fun W (k:Kept [] wr W) cv (hv:ChsAt W cv R) (hq:∀ q,cv.ownBlock=some q→q∉[mb+2,mb,mb+1])=>takes_any W (mb+2) pb lb mb (mb+1) Mi D (hcore.same k) R cv hv hq (by have:=formC_len hFR;omega) (fun c hc=>⟨(hFR.2.1 c hc).1,(hFR.2.1 c hc).2.1,(hFR.2.1 c hc).2.2.1⟩) hmv (by omega) SN i (by have:=HH.out.2.2.2.2.2.2.2.2.1;omega) hnow (by have:=HX.out.2.2.2.2.2.1;omega) (by have:=HH.out.2.2.2.2.2.2.2.2.2.2;omega))
     have HY:=Lib.hid (And.intro hstep (And.intro kx (And.intro hnext (And.intro hlo hw4))))
     clear hcore hct kx hc5 d5 hR hRi hFR hlo hw4 hms hmv hmw hnext hMi hcl hSN hnow hstep
     obtain⟨RB,hRB⟩:∃ RB,recF R=RB:=⟨_,rfl⟩
     rw[hRB] at d6 HP
     clear hRB
     go_wp2_with (fail)
     refine (HP.out _).mono ?_
     rintro e w6 ⟨p6,c6,rfl,own6,k6⟩
     have hch:=own6.at
     have H6:=Lib.hid (And.intro own6 (And.intro k6 hch))
     clear own6 k6 hch
     go_wp2_with (fail)
     refine (HFO.out w6 _ H6.out.2.2).mono ?_
     rintro e w7 ⟨rfl,k7⟩
     have HT7:=Lib.hid (HTK.out w7 (H6.out.2.1.trans' k7) _ (H6.out.2.2.same k7) (fun q hq hm=>by
      have h1:=(own_lt H6.out.1 q hq).1
      have h2:=HY.out.2.1.size
      have h3:=HY.out.2.2.2.2
      have h4:=HY.out.2.2.2.1
      have h5:=H5.out.2.size
      simp at hm
      omega))
     have K7:=Lib.hid (H6.out.2.1.trans' k7)
     clear k7
     go_wp2_with (fail)
     refine HT7.out.mono ?_
     rintro e w8 ⟨rfl,hc8,k8⟩
     have H8:=Lib.hid (And.intro hc8 k8)
     clear hc8 k8
     go_wp2_with (fail)
     go_roundw
     case rel=>exact ⟨i+1,_,by omega,by go_num,by rw[HY.out.2.2.1];exact H8.out.1,HY.out.1,(HY.out.2.1.trans' (K7.out.mono (by simp))).trans' H8.out.2⟩
     case measure=>simp [intOf];omega
    ·have hie:i=rs.length:=by omega
     subst hie
     rw[List.take_length] at hcore
     have HE:=Lib.hid (And.intro hcore (And.intro hct kx))
     clear hcore hct kx hil hi
     go_wp2_with (fail)
     go_roundw
     case rel=>exact ⟨j+1,D,by omega,by go_num,by rw[HX.out.2.2.2.2.2.2.1];exact HE.out.1,HE.out.2.1.next HX.out.2.2.2.1,HK5.out.trans' HE.out.2.2⟩
     case measure=>simp [intOf];omega
  ·have hje:j=L:=by omega
   subst hje
   obtain⟨h,ha,hb2,h8,hF,hI,hfree,hq,hD,hL,hLn,hb⟩:=HH.out
   have hrep:repS (st.D+1) (st.segs.take j) []=st.M:=by rw[← hL,List.take_length];exact hI.inv.rep
   rw[hrep] at hcore
   have hct2:CtOK st.toSt C:=by
    have hct3:CtPart st.D st.segs.length st.segs j 0 C:=by rw[hL];exact hct
    refine CtPart.all (st:=st.toSt) ?_
    rw[hL]
    exact hct
   have HQ:=Lib.hid (fun W (k:Kept [] wr W)=>oquota_any W (mb+2) pb lb mb (mb+1) fb bb cb n _ st.M C (hcore.same k) f2 (hlg.same k).pt h8)
   have c4:=hcore.cells.2.2.2.2.1
   have hfz:=hcore.free
   have hsep:∀ x,x∈[mb+2,mb,mb+1]→x∉LgT lb fb bb cb v2∧x≠pb:=by
    intro x hx
    have h3:=H3.out.1
    have h4:=HC3.out.2.2.2.1
    have e1:=hlg.n1
    have e2:=hlg.n2
    have e3:=hlg.n3
    have e4:=hlg.n4
    have hxm:mb≤x:=by simp at hx;omega
    refine ⟨fun hm=>?_,by omega⟩
    simp only[LgT,List.mem_append,Option.mem_toList] at hm
    rcases hm with hm | hm
    ·simp at hm;omega
    ·have:=(own_lt h3.own x (by simpa using hm)).2
     omega
   have HFIN:Hid (∀ W,Kept [] wr W→SOpenK w1 pb fb bb cb n st f (.returned (.tuple #[Ptr (mb+2),I 0])) W):=Lib.hid (fun W k=>by
    have h4:=HC3.out.2.2.2.1
    have h2:=H2.out
    have hsz:=h2.2.2.2.size
    have hsz3:=HS3.out
    refine .inl ⟨mb+2,lb,mb,mb+1,v2,f2,rfl,⟨hlg.same k,⟨C,hcore.same k,hct2⟩,HF2.out.2,hI,HF2.out.1.arm,hsep⟩,HF2.out.1,by omega,h2.1,by omega,by omega,HV2.out,?_⟩
    exact (H4.out.2.2.1.trans kr (fun x hx=>.inr (by simp at hx;omega))).trans' (k.mono (by simp)))
   obtain⟨X,hX⟩:∃ X,sumA wO st.M=X:=⟨_,rfl⟩
   obtain⟨Q,hQ⟩:∃ Q,quotaF n=Q:=⟨_,rfl⟩
   rw[hX] at c4 hq
   rw[hQ] at HQ hq
   have hle:(X:Int)≤Q:=by omega
   have hld:decide ((Q:Int)<X)=false:=decide_eq_false (by omega)
   have hld2:decide (Q<X)=false:=decide_eq_false (by omega)
   clear h ha hb2 h8 hF hI hfree hq hD hL hLn hb hrep hcore hct hct2 hsep hlg kr hX hQ hlt
   go_wp2_with (fail)
   go_quiet ((go_at_call 81;exact Calls.quiet_of_same (HQ.out _ ((Kept.refl [] wr).drewN _))))
   go_wp2_with (fail)
   go_ret2
   exact HFIN.out _ ((Kept.refl [] wr).drewN nq)
@[go_sem] theorem i64_and3 (n:Int):bits .and .i64 n 3=n%4:=by
 have h:(BitVec.ofInt 64 3).toNat=2 ^ 2-1:=by decide
 have key:(BitVec.ofInt 64 n &&& BitVec.ofInt 64 3).toNat=(n%((2 ^ 64:Nat):Int)).toNat%2 ^ 2:=by
  rw[BitVec.toNat_and,BitVec.toNat_ofInt,h,Nat.and_two_pow_sub_one_eq_mod]
 show IntKind.i64.wrap ((BitVec.ofInt 64 n &&& BitVec.ofInt 64 3).toNat:Nat)=n%4
 rw[key,IntKind.wrap_i64]
 omega
theorem arm_yes (w:World) (fb bb cb:Nat) (f:Fl) (h:FlAt w fb bb cb f) (hd:f.dead=false) (N K:Int) (M:UInt8) (hN:0≤N) :
  Calls Tryz.prog 6 #[Ptr fb,I N,I K,B M] w fun e w'=>e = .returned (I 0)∧FlAt w' fb bb cb { f with armed:=N,keep:=max 0 K,mask:=M }∧Kept [fb] w w':=by
 obtain⟨c0,c1,c2,c3,c4,c5,c6⟩:=h.cells
 have hf:=h.free
 rw[hd] at c6
 have H:=Lib.hid h
 have hNb:decide (N<0)=false:=decide_eq_false (by omega)
 clear h hd
 go_enter Tryz.func6,Tryz.ntmps6
 go_wp2_with (fail)
 go_ret
 exact ⟨rfl,((H.out.set3 _).set4 _).set5 _,(((Kept.refl _ _).setCell (.inl (by simp)) _).setCell (.inl (by simp)) _).setCell (.inl (by simp)) _⟩
theorem arm_no (w:World) (fb bb cb:Nat) (f:Fl) (h:FlAt w fb bb cb f) (hd:f.dead=false) (N K:Int) (M:UInt8) (hN:N<0) :
  Calls Tryz.prog 6 #[Ptr fb,I N,I K,B M] w fun e w'=>e = .returned (I 1)∧w'=w:=by
 obtain⟨c0,c1,c2,c3,c4,c5,c6⟩:=h.cells
 rw[hd] at c6
 clear h hd
 go_enter Tryz.func6,Tryz.ntmps6
 go_wp2_with (fail)
 go_ret
 exact ⟨rfl,rfl⟩
def STK (w:World) (fb sb n:Nat) (V:OM) (d:Nat) (T:List Nat):Prop:=
 ∃ bb cb pb lb mb kb v st f,T=pb::StT sb lb fb bb cb mb kb v∧SAtK w sb lb pb fb bb cb mb kb n v st f∧GoodK n st∧SortedA V∧(∀ k,valM st.M k=valM V k)∧st.D≤d∧f.cs.length=n+1
def FLK (w:World) (fb bb cb n:Nat) (g:Fl) (V W:OM) (d:Nat):Prop:=
 FlAt w fb bb cb g∧0≤g.keep∧g.cs.length=n+1∧(CrP n g V d∨CrP n g W d)
theorem CrP.bs {n:Nat} {f g:Fl} {V:OM} {d:Nat} (h:CrP n f V d) (e:g.bs=f.bs):CrP n g V d:=by
 obtain⟨st,h1,h2,h3⟩:=h
 exact ⟨st,h1,fun j hj=>by have:=h2 j hj;rw[← e] at this;exact this,h3⟩
theorem SAtK.arms {w w':World} {sb lb pb fb bb cb mb kb n:Nat} {v:Value} {st:KS} {f f':Fl} (h:SAtK w sb lb pb fb bb cb mb kb n v st f) (k:Kept [fb] w w') (hf:FlAt w' fb bb cb f') (e1:f'.bs=f.bs) (e2:f'.cs=f.cs) (ha:ArmOK f'):SAtK w' sb lb pb fb bb cb mb kb n v st f':=by
 obtain⟨C,hc,hct⟩:=h.core
 have hs:∀ x∈[sb,mb,kb],x∉[fb]:=fun x hx hm=>by
  have hx2:=(h.sep x hx).1
  have:x=fb:=by simpa using hm
  subst this
  exact hx2 (by simp [LgT])
 have kk:Kept [fb,bb,cb] w w':=k.mono (by simp)
 exact ⟨h.lg.turned kk (h.lg.pt.turned kk hf (by rw[e2])),⟨C,hc.kept k (hs _ (by simp)) (hs _ (by simp)) (hs _ (by simp)),hct⟩,fun j hj=>by have:=h.fl j hj;rw[← e1] at this;exact this,h.inv,ha,h.sep⟩
def PF (w:World) (fb n:Nat) (V1 V2:OM) (d:Nat) (T:List Nat):Prop:=∃ bb cb g,T=[fb,bb,cb]∧FLK w fb bb cb n g V1 V2 d∧g.dead=true
section
variable {w:World} {fb sb n:Nat} {V V1 V2:OM} {d:Nat} {T:List Nat}
theorem STK.lt (h:STK w fb sb n V d T):∀ x∈T,x<w.heap.size:=by
 obtain⟨bb,cb,pb,lb,mb,kb,v,st,f,rfl,h,_⟩:=h
 intro x hx
 rcases List.mem_cons.1 hx with rfl | hx
 ·exact h.lt.2
 ·exact h.lt.1 x hx
theorem STK.same {w':World} (h:STK w fb sb n V d T) (k:Kept [] w w'):STK w' fb sb n V d T:=by
 obtain⟨bb,cb,pb,lb,mb,kb,v,st,f,e,h1,h2⟩:=h
 exact ⟨bb,cb,pb,lb,mb,kb,v,st,f,e,h1.same k,h2⟩
theorem STK.kept {w':World} {U:List Nat} (h:STK w fb sb n V d T) (k:Kept U w w') (hU:∀ x∈U,x∉T):STK w' fb sb n V d T:=by
 obtain⟨bb,cb,pb,lb,mb,kb,v,st,f,e,h1,h2⟩:=h
 subst e
 exact ⟨bb,cb,pb,lb,mb,kb,v,st,f,rfl,h1.kept k (fun x hx=>by have:=hU x hx;simp only[List.mem_cons,not_or] at this;exact ⟨this.2,this.1⟩),h2⟩
theorem STK.mono {d':Nat} (h:STK w fb sb n V d T) (hd:d≤d'):STK w fb sb n V d' T:=by
 obtain⟨bb,cb,pb,lb,mb,kb,v,st,f,e,h1,h2,h3,h4,h5,h6⟩:=h
 exact ⟨bb,cb,pb,lb,mb,kb,v,st,f,e,h1,h2,h3,h4,by omega,h6⟩
theorem STK.rd (h:STK w fb sb n V d T):RD w sb V:=by
 obtain⟨bb,cb,pb,lb,mb,kb,v,st,f,e,h1,h2,h3,h4,h5,h6⟩:=h
 obtain⟨C,hc,_⟩:=h1.core
 have hb:=h1.bound.1
 have:=h2.quota
 exact ⟨h3,mb,st.M,false,hc.toX,h1.inv.inv.sorted,h4,om_keys h1.inv.inv,by unfold quotaF at this;omega,vals_of h1.inv.inv⟩
theorem STK.small (h:STK w fb sb n V d T):8≤n∧n≤255∧sumA wO V≤quotaF n∧quotaF n≤2000:=by
 obtain⟨bb,cb,pb,lb,mb,kb,v,st,f,e,h1,h2,h3,h4,h5,h6⟩:=h
 have hb:=h1.bound.1
 refine ⟨h2.eight,by omega,?_,by unfold quotaF;omega⟩
 rw[← weight_same h1.inv.inv.sorted h3 h4]
 exact h2.quota
theorem PF.lt (h:PF w fb n V1 V2 d T):∀ x∈T,x<w.heap.size:=by
 obtain⟨bb,cb,g,rfl,h,_⟩:=h
 have:=h.1.lt
 have:=h.1.lt2
 have:=h.1.lt3
 intro x hx
 simp at hx
 omega
theorem PF.same {w':World} (h:PF w fb n V1 V2 d T) (k:Kept [] w w'):PF w' fb n V1 V2 d T:=by
 obtain⟨bb,cb,g,e,h,hd⟩:=h
 exact ⟨bb,cb,g,e,⟨h.1.same k,h.2⟩,hd⟩
theorem PF.kept {w':World} {U:List Nat} (h:PF w fb n V1 V2 d T) (k:Kept U w w') (hU:∀ x∈U,x∉T):PF w' fb n V1 V2 d T:=by
 obtain⟨bb,cb,g,rfl,h,hd⟩:=h
 refine ⟨bb,cb,g,rfl,⟨h.1.kept k (fun hm=>hU _ hm (by simp)) (fun hm=>hU _ hm (by simp)) (fun hm=>hU _ hm (by simp)),h.2⟩,hd⟩
theorem CrP.mono {f:Fl} {d':Nat} (h:CrP n f V d) (hd:d≤d'):CrP n f V d':=h.vals (fun _=>rfl) hd
theorem PF.mono {d':Nat} (h:PF w fb n V1 V2 d T) (hd:d≤d'):PF w fb n V1 V2 d' T:=by
 obtain⟨bb,cb,g,e,⟨a,b,c,x⟩,hg⟩:=h
 exact ⟨bb,cb,g,e,⟨a,b,c,x.imp (·.mono hd) (·.mono hd)⟩,hg⟩
theorem stk_arm (h:STK w fb sb n V d T) (N K:Int) (M:UInt8) (hN:N≤9223372036854775807) :
  Calls Tryz.prog 6 #[Ptr fb,I N,I K,B M] w fun e w'=>∃ r:Int,e = .returned (I r)∧STK w' fb sb n V d T∧Kept T w w':=by
 have h0:=h
 obtain⟨bb,cb,pb,lb,mb,kb,v,st,f,rfl,h1,h2,h3,h4,h5,h6⟩:=h
 by_cases hn:N<0
 ·refine (arm_no w fb bb cb f h1.lg.pt.fl h1.live.1 N K M hn).mono ?_
  rintro e w' ⟨rfl,rfl⟩
  exact ⟨1,rfl,h0,Kept.refl _ _⟩
 ·refine (arm_yes w fb bb cb f h1.lg.pt.fl h1.live.1 N K M (by omega)).mono ?_
  rintro e w' ⟨rfl,hf,k⟩
  have:=h1.arms k hf rfl rfl ⟨h1.live.1,by show 0≤N;omega,hN,by show 0≤max 0 K;omega⟩
  refine ⟨0,rfl,⟨bb,cb,pb,lb,mb,kb,v,st,_,rfl,this,h2,h3,h4,h5,h6⟩,k.mono (fun x hx=>?_)⟩
  have:x=fb:=by simpa using hx
  subst this
  simp [StT,LgT]
theorem stk_crash (h:STK w fb sb n V d T):Calls Tryz.prog 7 #[Ptr fb] w fun e w'=>e = .returned (I 0)∧∃ T',PF w' fb n V V d T'∧(∀ x∈T',x<w'.heap.size)∧Kept T w w'∧(∀ x∈T',x∈T∨w.heap.size≤x):=by
 obtain⟨bb,cb,pb,lb,mb,kb,v,st,f,rfl,h1,h2,h3,h4,h5,h6⟩:=h
 refine (crash_any w fb bb cb f h1.lg.pt.fl h1.live.1).mono ?_
 rintro e w' ⟨rfl,hf,k⟩
 have hq:PF w' fb n V V d [fb,bb,cb]:=⟨bb,cb,_,rfl,⟨hf,h1.live.2.2.2,h6,.inl ((CrP.of h1.inv h1.fl h2.free h4 h5).bs rfl)⟩,rfl⟩
 refine ⟨rfl,_,hq,hq.lt,k.mono (fun x hx=>?_),fun x hx=>.inl ?_⟩
 ·have:x=fb:=by simpa using hx
  subst this
  simp [StT,LgT]
 ·simp at hx
  rcases hx with rfl | rfl | rfl <;> simp [StT,LgT]
theorem stk_fdead (h:STK w fb sb n V d T):Calls Tryz.prog 9 #[Ptr fb] w fun e w'=>e = .returned (.bool false)∧w'=w:=by
 obtain⟨bb,cb,pb,lb,mb,kb,v,st,f,rfl,h1,_⟩:=h
 have:=fdead_any w fb bb cb f h1.lg.pt.fl
 rw[h1.live.1] at this
 exact this
theorem pf_fdead (h:PF w fb n V1 V2 d T):Calls Tryz.prog 9 #[Ptr fb] w fun e w'=>e = .returned (.bool true)∧w'=w:=by
 obtain⟨bb,cb,g,rfl,h1,h2⟩:=h
 have:=fdead_any w fb bb cb g h1.1
 rw[h2] at this
 exact this
theorem stk_dead (h:STK w fb sb n V d T):Calls Tryz.prog 29 #[Ptr sb] w fun e w'=>e = .returned (.bool false)∧w'=w:=by
 obtain⟨bb,cb,pb,lb,mb,kb,v,st,f,rfl,h1,_⟩:=h
 obtain⟨C,hc,_⟩:=h1.core
 exact xdead_any w sb mb _ _ false hc.toX
end
end Go.Proofs.YteplbljjlbdhaacGreatDoor
