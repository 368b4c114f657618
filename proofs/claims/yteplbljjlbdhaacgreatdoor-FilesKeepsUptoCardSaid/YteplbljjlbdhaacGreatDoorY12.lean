/- Walks and lemmas on the program of this seat, used by its statements; each theorem bears its own conditions. -/
import Derived.Test.YteplbljjlbdhaacGreatDoorY11
import Derived.Deep.OwnRows
import Derived.Shelf.SlMaps.Clone
namespace Go.Proofs.YteplbljjlbdhaacGreatDoor
open Go.RowKit
set_option linter.unusedVariables false
set_option linter.unusedSimpArgs false
set_option linter.unusedSectionVars false
set_option maxHeartbeats 16000000
set_option maxRecDepth 100000
def flNew (n:Nat):Fl:=⟨List.replicate (512*n) 255,List.replicate n 0,0,0,0,0,false⟩
theorem madeI (n:Nat):madeCells #[I 0] n=((List.replicate n (0:Int)).map fun n=>I n).toArray:=by
 apply Array.ext
 ·simp [madeCells]
 ·intro i h1 h2
  simp [madeCells,Nat.mod_one]
theorem fof_any (w:World) (g n:Nat) (h1:1≤n) (h2:n≤256) (hr:RowX w g (List.replicate (512*n) 255)) :
  Calls Tryz.prog 41 #[.slice (some ⟨g,0,none⟩) (512*n) (512*n)] w fun e w'=>∃ fb cb,e = .returned (.tuple #[Ptr fb,I 0])∧w.heap.size≤fb∧w.heap.size≤cb∧FlAt w' fb g cb (flNew n)∧Kept [] w w':=by
 have HR:=Lib.hid hr
 clear hr
 obtain⟨N,hN⟩:∃ N,512*n=N:=⟨_,rfl⟩
 rw[hN] at HR ⊢
 have hd:(N:Int)/512=n:=by omega
 have hm:(N:Int)%512=0:=by omega
 have hNI:(N:Int)≤131072:=by omega
 have hnI:(1:Int)≤n:=by omega
 have hnI2:(n:Int)≤256:=by omega
 have HN:=Lib.hid hN
 have hmk:=run_make_row' (P:=Tryz.prog) 53 3 (.int .i64 0) 8 Tryz.underlying53 int_info rfl .i64 .i64 n (by omega) (by omega) w
 clear hN
 go_enter Tryz.func41,Tryz.ntmps41
 go_wp2_with (fail)
 go_ret2
 have k1:Kept [] w (w.alloc (.cells (madeCells #[I 0] n) 3)):=(Kept.refl [] w).alloc _
 have b1:=heap_new w (.cells (madeCells #[I 0] n) 3)
 have hgl:g<w.heap.size:=HR.out.lt
 have hN:=HN.out
 refine ⟨_,_,rfl,by omega,Nat.le_refl _,⟨?_,?_,?_,by omega,by omega,by omega,by simp [flNew],by simp [flNew];omega,by simp [flNew];omega⟩,k1.alloc _⟩
 ·have:=heap_new (w.alloc (.cells (madeCells #[I 0] n) 3)) (Obj.cells #[.slice (some ⟨g,0,none⟩) N N,.slice (some ⟨w.heap.size,0,none⟩) n n,I 0,I 0,I 0,B 0,.bool false] 55)
  rw[World.size_alloc] at this
  refine this.trans ?_
  simp [flNew,Fl.arr,hN]
 ·show RowX _ g (List.replicate (512*n) 255)
  rw[hN]
  exact HR.out.kept (k1.alloc _) (by simp)
 ·show Nums _ w.heap.size (List.replicate n 0)
  unfold Nums
  rw[← madeI]
  exact ((Kept.refl [] (w.alloc (.cells (madeCells #[I 0] n) 3))).alloc _).at b1 (by simp)
theorem fnew_any (w:World) (n:Nat) (h1:1≤n) (h2:n≤256) :
  Calls Tryz.prog 14 #[I n] w fun e w'=>∃ fb g cb,e = .returned (.tuple #[Ptr fb,I 0])∧w.heap.size≤fb∧w.heap.size≤g∧w.heap.size≤cb∧FlAt w' fb g cb (flNew n)∧Kept [] w w':=by
 have hnI:(1:Int)≤n:=by omega
 have hnI2:(n:Int)≤256:=by omega
 obtain⟨W,hW⟩:∃ W,w.alloc (.cells #[B 255] 5)=W:=⟨_,rfl⟩
 have hk:Kept [] w W:=by rw[← hW];exact (Kept.refl [] w).alloc _
 have hc:W.cell? ⟨w.heap.size,0,none⟩=some (B 255):=by rw[← hW];exact cell_at (heap_new w _) 0
 have HRP:=Lib.hid (repeat_any W w.heap.size 1 (512*n) (by omega) (by omega) hc)
 obtain⟨N,hN⟩:∃ N,512*n=N:=⟨_,rfl⟩
 have HOF:=Lib.hid (fun W' g (h:RowX W' g (List.replicate N 255))=>by have:=fof_any W' g n h1 h2 (by rw[hN];exact h);rw[hN] at this;exact this)
 rw[hN] at HRP
 have hmul:(n:Int)*512=N:=by omega
 have HK:=Lib.hid hk
 have hNI:(N:Int)≤131072:=by omega
 clear hk hc hN
 go_enter Tryz.func14,Tryz.ntmps14
 go_wp2_with (fail)
 rw[show w.alloc (.cells #[.int .u8 255] 5)=W from hW]
 refine HRP.out.mono ?_
 rintro e w2 ⟨g,rfl,hg,hr,k2⟩
 have HR2:=Lib.hid (And.intro hr (And.intro hg k2))
 clear hr hg k2 hW
 go_wp2_with (fail)
 refine (HOF.out w2 g HR2.out.1).mono ?_
 rintro e w3 ⟨fb,cb,rfl,h1,h2,hf,k3⟩
 have H3:=Lib.hid (And.intro hf (And.intro k3 (And.intro h1 h2)))
 clear hf k3 h1 h2
 go_wp2_with (fail)
 go_ret2
 have hs1:=HK.out.size
 have hs2:=HR2.out.2.2.size
 exact ⟨fb,g,cb,rfl,by have:=H3.out.2.2.1;omega,by have:=HR2.out.2.1;omega,by have:=H3.out.2.2.2;omega,H3.out.1,(HK.out.trans' HR2.out.2.2).trans' H3.out.2.1⟩
theorem pnew_any (w:World) (fb bb cb fs n:Nat) (f:Fl) (h:FlAt w fb bb cb f) (h1:1≤n) (h2:fs+n≤f.cs.length) :
  Calls Tryz.prog 43 #[Ptr fb,.agg #[I fs,I n]] w fun e w'=>∃ pb,e = .returned (.tuple #[Ptr pb,I 0])∧w.heap.size≤pb∧PtAt w' pb fb bb cb fs n f∧Kept [] w w':=by
 have hfew:=h.few
 obtain⟨W,hW⟩:∃ W,w.alloc (.cells #[I fs,I n] 83)=W:=⟨_,rfl⟩
 have hk:Kept [] w W:=by rw[← hW];exact (Kept.refl [] w).alloc _
 have HB:=Lib.hid (fun W' (k:Kept [] w W')=>blocks_any W' fb bb cb f (h.kept k (by simp) (by simp) (by simp)))
 have HH:=Lib.hid (And.intro h hk)
 obtain⟨L,hL⟩:∃ L,f.cs.length=L:=⟨_,rfl⟩
 rw[hL] at HB
 have i1:(0:Int)≤fs:=by omega
 have i2:(1:Int)≤n:=by omega
 have i3:(fs:Int)≤L:=by omega
 have i4:(n:Int)≤L-fs:=by omega
 have i5:(L:Int)≤256:=by omega
 have HL:=Lib.hid (And.intro h1 h2)
 have hb:=heap_new w (.cells #[I fs,I n] 83)
 rw[hW] at hb
 have c0:=cell_at hb 0
 have c1:=cell_at hb 1
 simp only[List.getElem?_toArray,List.getElem?_cons_zero,List.getElem?_cons_succ] at c0 c1
 have HQ:=Lib.hid (HB.out W hk)
 clear h hk h1 h2 hL hfew hb
 go_enter Tryz.func43,Tryz.ntmps43
 have hd1:decide ((fs:Int)<0)=false:=decide_eq_false (by omega)
 have hd2:decide ((n:Int)<1)=false:=decide_eq_false (by omega)
 have hd3:decide (L<fs)=false:=decide_eq_false (by omega)
 have hd4:decide ((L:Int)-fs<n)=false:=decide_eq_false (by omega)
 have hwr:IntKind.i64.wrap ((L:Int)-fs)=(L:Int)-fs:=by rw[IntKind.wrap_i64];omega
 go_upto_region 1 with (fail)
 go_quiet ((go_at_call 44;exact Calls.quiet_of_same (HB.out _ (HH.out.2.drewN _))))
 go_wp2_with (fail)
 go_ret2
 obtain⟨hf,hk⟩:=HH.out
 have kk:Kept [] w ((W.drewN nq).alloc (Obj.cells #[Ptr fb,I fs,I n] 141)):=(hk.drewN nq).alloc _
 have h3:=hf.lt
 have h4:=hf.row.lt
 have h5:=lt_of_block hf.cnt
 have h6:=hk.size
 refine ⟨_,rfl,h6,⟨?_,hf.kept kk (by simp) (by simp) (by simp),HL.out.2,HL.out.1,by omega,by omega,by omega⟩,kk⟩
 exact heap_new (W.drewN nq) _
def St0:St:=⟨0,[],[],[]⟩
theorem st0_segs:St0.segs=[[]]:=rfl
theorem inv0 {n:Nat} (hn:1≤n):InvS n St0 where
 few:=by simp [St0];omega
 recs:=by
  intro rs hrs
  rw[st0_segs,List.mem_singleton] at hrs
  subst hrs
  exact ⟨by simp [usedS],fun l hl=>by cases hl⟩
 sorted:=List.Pairwise.nil
 placed:=fun k o h=>by cases h
 rep:=rfl
theorem cs0 {n:Nat} (hn:1≤n) (f:Fl) (h:f.cs=List.replicate (n+1) 0):CsOK n f 0:=by
 have hz:∀ k,numAt f.cs k=0:=fun k=>by
  rw[h];unfold numAt
  rw[List.getD_eq_getElem?_getD,List.getElem?_replicate]
  split <;> rfl
 refine ⟨fun k hk=>?_,hz 0,by rw[h,List.length_replicate]⟩
 rw[hz,Nat.div_eq_of_lt (by omega)];rfl
theorem fl0 {n:Nat} (f:Fl) (hn:1≤n) (hl:512*(1+n)≤f.bs.length) (hc:∀ k,k<n→blockOf f.bs (1+k)=fullB):FlOK n (madeF f 1 0 1) St0:=by
 intro j hj
 rw[st0_segs]
 show blockOf _ (1+(0+j)%n)=_
 rw[Nat.zero_add,Nat.mod_eq_of_lt hj]
 cases j with
 | zero=>exact seg_made f 1 0 1 (by omega) (hc 0 hj)
 | succ j =>
  show _=fullB
  rw[seg_made_other f 1 0 1 _ (by omega) (by omega)]
  exact hc _ hj
theorem ct0:CtOK St0 []:=by
 refine ⟨fun j rs hj=>?_,fun k hk=>rfl⟩
 rw[st0_segs] at hj
 cases j with
 | zero=>cases hj;rfl
 | succ j=>cases hj
def SNew (w:World) (pb fb bb cb n:Nat) (f:Fl) (e:Ending) (w':World):Prop:=
 ∃ sb lb mb kb v,e = .returned (.tuple #[Ptr sb,I 0])∧SAt w' sb lb pb fb bb cb mb kb n v St0 f∧w.heap.size≤sb∧w.heap.size≤lb∧w.heap.size≤mb∧w.heap.size≤kb∧(∀ q,v.ownBlock=some q→w.heap.size≤q)∧Kept [fb,bb,cb] w w'
theorem sformat_any (w:World) (pb fb bb cb n:Nat) (f:Fl) (h:PtAt w pb fb bb cb 1 n f) (hd:f.dead=false) (ha:f.armed=0) (h8:8≤n) (hc:∀ k,k<n→blockOf f.bs (1+k)=fullB) :
  Calls Tryz.prog 46 #[Ptr pb] w (SNew w pb fb bb cb n (madeF f 1 0 1)):=by
 have HS:=Lib.hid (size_any w pb fb bb cb 1 n f h)
 have HL:=Lib.hid (lformat_any w pb fb bb cb 1 n f h hd ha (by omega) hc)
 have hb:=h.bound
 obtain⟨N,hN⟩:∃ N:Nat,n*512=N:=⟨_,rfl⟩
 rw[hN] at HS
 have hNI:¬ (N:Int)<4096:=by omega
 have HH:=Lib.hid (And.intro h (And.intro hd (And.intro ha (And.intro h8 hc))))
 clear h hd ha h8 hc hb hN
 go_enter Tryz.func46,Tryz.ntmps46
 go_wp2_with (fail)
 refine HS.out.mono ?_
 rintro e w1 ⟨rfl,rfl⟩
 go_wp2_with (fail)
 refine HL.out.mono ?_
 rintro e w2 ⟨lb,v,hlb,rfl,hlg,hv,k2⟩
 have H2:=Lib.hid (And.intro hlb (And.intro hlg (And.intro hv k2)))
 clear hlb hlg hv k2
 have m1:(Instr.makeMap 120 none).run Tryz.prog w2 = .ok (.map (some w2.heap.size)) (w2.alloc (.map #[] 0)):=rfl
 have m2:(Instr.makeMap 121 none).run Tryz.prog (w2.alloc (.map #[] 0)) = .ok (.map (some (w2.heap.size+1))) ((w2.alloc (.map #[] 0)).alloc (.map #[] 0)):=by rw[← World.size_alloc];rfl
 go_wp2_with (fail)
 go_ret2
 obtain⟨hlb,hlg,hv,k2⟩:=H2.out
 obtain⟨h,hd,ha,h8,hc⟩:=HH.out
 obtain⟨W1,hW1⟩:∃ W1,w2.alloc (.map #[] 0)=W1:=⟨_,rfl⟩
 have s1:W1.heap.size=w2.heap.size+1:=by rw[← hW1,World.size_alloc]
 have o1:ObAt W1 w2.heap.size []:=by rw[← hW1];exact amap_made w2
 have kA:Kept [] w2 W1:=by rw[← hW1];exact (Kept.refl [] w2).alloc _
 obtain⟨W2,hW2⟩:∃ W2,W1.alloc (.map #[] 0)=W2:=⟨_,rfl⟩
 have s2:W2.heap.size=w2.heap.size+2:=by rw[← hW2,World.size_alloc,s1]
 have o2:CtAt W2 (w2.heap.size+1) []:=by rw[← hW2,← s1];exact amap_made W1
 have kB:Kept [] W1 W2:=by rw[← hW2];exact (Kept.refl [] W1).alloc _
 obtain⟨W3,hW3⟩:∃ W3,W2.alloc (.cells #[Ptr pb,Ptr lb,.map (some w2.heap.size),.map (some (w2.heap.size+1)),I 0,.bool false] 123)=W3:=⟨_,rfl⟩
 have hb3:W3.heap[w2.heap.size+2]? = some (.cells #[Ptr pb,Ptr lb,.map (some w2.heap.size),.map (some (w2.heap.size+1)),I 0,.bool false] 123 (0,0)):=by rw[← hW3,← s2];exact heap_new W2 _
 have kC:Kept [] W2 W3:=by rw[← hW3];exact (Kept.refl [] W2).alloc _
 have k3:Kept [] w2 W3:=(kA.trans' kB).trans' kC
 have l1:=hlg.lt
 have l2:=hlg.n1
 have l3:=hlg.n2
 have l4:=hlg.n3
 have l5:=hlg.n4
 have l6:=k2.size
 have l7:=h.bound
 rw[hW1,hW2,hW3]
 refine ⟨_,lb,w2.heap.size,w2.heap.size+1,v,rfl,⟨?_,⟨[],⟨hb3,o1.same (kB.trans' kC),o2.same kC,by omega,by omega,by omega⟩,ct0⟩,fl0 f (by omega) (by omega) hc,inv0 (by omega),⟨hd,ha⟩,?_⟩,by omega,hlb,by omega,by omega,hv,k2.trans' (k3.mono (by simp))⟩
 ·have e:sgs n St0.D St0.segs=[(0,1)]:=by
   show [(0%n,0+1)]=_
   rw[Nat.zero_mod]
  rw[e]
  exact hlg.same k3
 ·intro x hx
  have hown:∀ q,v.ownBlock=some q→q<w2.heap.size:=fun q hq=>(own_lt hlg.own q hq).2
  have hxs:w2.heap.size≤x:=by simp at hx;omega
  refine ⟨fun hm=>?_,by omega⟩
  simp only[LgT,List.mem_append,Option.mem_toList] at hm
  rcases hm with hm | hm
  ·simp at hm;omega
  ·have:=hown x (by simpa using hm);omega
theorem old_val {M N:OM} (h:∀ k,valM M k=valM N k) (c:Ch):oldW M c=oldW N c:=by
 have:=congrArg (fun o:Option (List UInt8)=>(o.map wF).getD 0) (h c.key)
 simp only[valM,Option.map_map,Function.comp_def] at this
 exact this
theorem becW_val {M N:OM} (h:∀ k,valM M k=valM N k):∀ (l:List Ch) (x:Int),becW M l x=becW N l x
 | [],_=>rfl
 | c::l,x=>by
  show becW M l _=becW N l _
  rw[old_val h c,becW_val h l]
theorem mayF_val {n:Nat} {M N:OM} (h1:SortedA M) (h2:SortedA N) (h:∀ k,valM M k=valM N k) (l:List Ch):mayF n M l=mayF n N l:=by
 unfold mayF
 rw[becW_val h,weight_same h1 h2 h]
def putF (n:Nat) (V:OM) (l:List Ch):OM:=if mayF n V l=0 then takesF V l 0 0 else V
theorem put_sorted {n:Nat} {V:OM} {l:List Ch} (h:SortedA V):SortedA (putF n V l):=by
 unfold putF
 split
 ·exact takes_sorted _ _ _ h
 ·exact h
theorem may_form {n:Nat} {V:OM} {l:List Ch} (h:mayF n V l=0):formF l=0:=by
 unfold mayF at h
 split at h
 ·exact h
 ·next hz=>simpa using hz
section
variable {w:World} {sb lb pb fb bb cb mb kb n:Nat} {v:Value} {V:OM} {d:Nat}
theorem chs_lt {w:World} {cv:Value} {l:List Ch} (h:ChsAt w cv l) (hne:l≠[]):∀ q,cv.ownBlock=some q→q<w.heap.size:=by
 obtain⟨p,c,b,o,rfl,hp,hc⟩:=h
 have e:=hp hne
 subst e
 intro q hq
 have:q=b:=by simpa [Value.ownBlock,eq_comm] using hq
 subst this
 exact World.block_lt_of_cell? w _ (hc 0 (List.length_pos_iff.2 hne)).1
theorem om_keys {n:Nat} {st:St} (h:InvS n st):∀ k∈st.M.map (·.1),1≤k∧k≤2147483647:=by
 intro k hk
 rw[mem_find] at hk
 obtain⟨o,ho⟩:=Option.isSome_iff_exists.1 hk
 obtain⟨l,⟨j,rs,a1,a2,a3⟩,hin⟩:=h.placed k o ho
 have:=((h.recs rs (List.mem_of_getElem? a1)).2 l (List.mem_of_getElem? a3)).2.1 _ hin
 exact ⟨this.1,this.2.1⟩
theorem om_len (M:OM):M.length≤sumA wO M:=by
 induction M with
 | nil=>exact Nat.le_refl _
 | cons p t ih =>
  have:1≤wO p.2:=by unfold wO wF;exact pages_pos _
  simp only[List.length_cons,sumA];omega
def getF (V:OM) (k:Int):List UInt8:=(valM V k).getD []
end
def L1:List Ch:=[⟨5,zerosL 53,false⟩]
def L2:List Ch:=[⟨6,zerosL 54,false⟩,⟨7,[],true⟩]
def V1:OM:=takesF [] L1 0 0
def V2:OM:=takesF V1 L2 0 0
theorem zeros_made (w:World) (n:Nat) (h:n≤1000):∃ W,(Instr.makeSlice 52 (I n) (I n)).run Tryz.prog w = .ok (.slice (some ⟨w.heap.size,0,none⟩) n n) W∧Kept [] w W∧W.heap.size=w.heap.size+1∧∀ c W',Kept [] W W'→(convert 52 9 (.slice (some ⟨w.heap.size,0,none⟩) n c)).run Tryz.prog W' = .ok (S (zerosL n)) W':=by
 refine ⟨_,make_bytes w n (by omega),(Kept.refl [] w).alloc _,by rw[World.size_alloc],fun c W' k=>?_⟩
 have hr:Row W' w.heap.size (zerosL n):=k.at (heap_new w (.cells (Lib.byteCells (zerosL n)).toArray 5)) (by simp)
 have:=conv_row hr c
 rw[zerosL_len] at this
 exact this
def headP (m:Nat):List UInt8:=83::putN 6 m++[0]++List.replicate 56 255
def numF (s:List UInt8):Nat:=if getN ((s.drop 1).take 6)=0 then 0 else if headP (getN ((s.drop 1).take 6))=s then getN ((s.drop 1).take 6) else 0
theorem rep255:Lib.repeatL ([255]:List UInt8) 56=List.replicate 56 255:=by kernel_rfl
theorem repeat_any255 (w:World):Calls Tryz.prog 178 #[S [255],I 56] w fun e w'=>e = .returned (S (List.replicate 56 255))∧Kept [] w w':=by
 refine (Tryz.strings_Repeat ⟨#[255]⟩ 56 w (by omega) (by decide)).mono ?_
 rintro e w' ⟨rfl,hb⟩
 exact ⟨by rw[show (⟨#[255]⟩:ByteArray).data.toList=[255] from rfl,rep255],Kept.of_below hb (Nat.le_refl _)⟩
theorem number_any (w:World) (s:List UInt8) (hs:s.length=64):Calls Tryz.prog 145 #[S s] w fun e w'=>e = .returned (I (numF s))∧Kept [] w w':=by
 have hl6:((s.drop 1).take 6).length=6:=by rw[List.length_take,List.length_drop];omega
 have HG:=Lib.hid (get_any w ((s.drop 1).take 6) (by intro h;rw[h] at hl6;simp at hl6) (by omega))
 rw[show ((s.drop 1).take 6)=(s.take 7).tail by rw[← List.drop_one,List.drop_take]] at HG
 have hlt:=getN_lt ((s.drop 1).take 6)
 rw[hl6] at hlt
 obtain⟨m,hm⟩:∃ m,getN ((s.drop 1).take 6)=m:=⟨_,rfl⟩
 have hm0:getN (s.take 7).tail=m:=by rw[← hm];congr 1;rw[← List.drop_one,List.drop_take]
 have HN:Hid (numF s=if m=0 then 0 else if headP m=s then m else 0):=Lib.hid (by unfold numF;rw[show ((s.drop 1).take 6)=(s.take 7).tail by rw[← List.drop_one,List.drop_take]];rw[hm0])
 rw[show ((s.drop 1).take 6)=(s.take 7).tail by rw[← List.drop_one,List.drop_take]] at hm
 rw[hm] at HG
 rw[show ((s.drop 1).take 6)=(s.take 7).tail by rw[← List.drop_one,List.drop_take],hm] at hlt
 have HB:=Lib.hid (fun W=>begin_any W m hlt)
 have HR:=Lib.hid (fun W=>repeat_any255 W)
 obtain⟨rp,hrp⟩:∃ rp:List UInt8,List.replicate 56 255=rp:=⟨_,rfl⟩
 obtain⟨bg,hbg⟩:∃ bg,83::putN 6 m=bg:=⟨_,rfl⟩
 rw[show headP m=bg++[0]++rp from by unfold headP;rw[hrp,hbg]] at HN
 have hrl:rp.length≤56:=by rw[← hrp];simp
 have hbl:bg.length≤7:=by rw[← hbg,List.length_cons,putN_len];omega
 rw[hrp] at HR
 rw[hbg] at HB
 have hsI:(s.length:Int)=64:=by omega
 clear hlt hm hl6 hm0 hrp hbg
 go_enter Tryz.func145,Tryz.ntmps145
 go_wp2_with (fail)
 refine HG.out.mono ?_
 rintro e w1 ⟨rfl,rfl⟩
 by_cases hz:m=0
 ·have hzI:(m:Int)<1:=by omega
  subst hz
  go_wp2_with (fail)
  go_ret
  exact ⟨by rw[HN.out];rfl,Kept.refl _ _⟩
 ·have hzI:¬ (m:Int)<1:=by omega
  go_wp2_with (fail)
  refine (HB.out _).mono ?_
  rintro e w2 ⟨rfl,k2⟩
  have K2:=Lib.hid k2
  clear k2
  go_wp2_with (fail)
  refine (HR.out _).mono ?_
  rintro e w3 ⟨rfl,k3⟩
  have K3:=Lib.hid (K2.out.trans' k3)
  clear k3
  by_cases hh:bg++[0]++rp=s
  ·have HNH:Hid (numF s=m):=Lib.hid (by rw[HN.out,if_neg hz,if_pos hh])
   go_wp2_with (fail)
   go_ret
   exact ⟨by rw[HNH.out];rfl,K3.out⟩
  ·have HNH:Hid (numF s=0):=Lib.hid (by rw[HN.out,if_neg hz,if_neg hh])
   have hb1:¬ bg++0::rp=s:=by simpa using hh
   have hb2:(bg++0::rp != s)=true:=by simpa using hh
   have hb3:(bg++0::rp==s)=false:=by simpa using hh
   go_wp2_with (fail)
   go_ret
   exact ⟨by rw[HNH.out];rfl,K3.out⟩
def HeadsOK (n D L:Nat) (nf:Nat→Nat):Prop:=∀ j,j<n→nf ((D+j)%n)=if j<L then D+j+1 else 0
theorem mod_hits {n D N:Nat} (hN:N<n):∃ j,j<n∧(D+j)%n=N:=by
 have hn:0<n:=by omega
 have hD:=Nat.mod_lt D hn
 have e:=Nat.div_add_mod D n
 obtain⟨q,hq⟩:∃ q,D/n=q:=⟨_,rfl⟩
 obtain⟨r,hr⟩:∃ r,D%n=r:=⟨_,rfl⟩
 rw[hq,hr] at e
 rw[hr] at hD
 by_cases h:r≤N
 ·refine ⟨N-r,by omega,?_⟩
  rw[show D+(N-r)=N+n*q by omega,Nat.add_mul_mod_self_left,Nat.mod_eq_of_lt hN]
 ·refine ⟨N+n-r,by omega,?_⟩
  rw[show D+(N+n-r)=N+n*(q+1) by rw[Nat.mul_succ];omega,Nat.add_mul_mod_self_left,Nat.mod_eq_of_lt hN]
section
variable {n D L:Nat} {nf:Nat→Nat}
theorem HeadsOK.newest (h:HeadsOK n D L nf) (h1:1≤L) (h2:L≤n) {N:Nat} (hN:N<n) (hmax:∀ i,i<n→nf i≤nf N):N=(D+(L-1))%n∧nf N=D+L:=by
 obtain⟨j,hj,rfl⟩:=mod_hits (D:=D) hN
 have hb:=hmax ((D+(L-1))%n) (Nat.mod_lt _ (by omega))
 rw[h (L-1) (by omega),if_pos (by omega),h j hj] at hb
 rw[h j hj]
 split at hb
 ·next hjL =>
  have:j=L-1:=by omega
  subst this
  exact ⟨rfl,by rw[if_pos hjL];omega⟩
 ·omega
def backB (n D L i:Nat):Nat:=(D+L-1+n-i)%n
theorem backB_zero (h1:1≤L):backB n D L 0=(D+(L-1))%n:=by
 unfold backB
 rw[Nat.sub_zero,Nat.add_mod_right,show D+L-1=D+(L-1) by omega]
theorem backB_next (hn:0<n) {i:Nat} (hi:i<L) (h2:L≤n):(backB n D L i+n-1)%n=backB n D L (i+1):=by
 unfold backB
 have hm:=Nat.mod_lt (D+L-1+n-i) hn
 have e:=Nat.div_add_mod (D+L-1+n-i) n
 obtain⟨q,hq⟩:∃ q,(D+L-1+n-i)/n=q:=⟨_,rfl⟩
 obtain⟨r,hr⟩:∃ r,(D+L-1+n-i)%n=r:=⟨_,rfl⟩
 rw[hq,hr] at e
 rw[hr]
 have e1:D+L-1+n-(i+1)+n=(r+n-1)+n*q:=by omega
 have e2:(D+L-1+n-(i+1)+n)%n=(D+L-1+n-(i+1))%n:=Nat.add_mod_right _ _
 rw[e1,Nat.add_mul_mod_self_left] at e2
 exact e2
theorem backB_is {i:Nat} (hi:i<L):backB n D L i=(D+(L-1-i))%n:=by
 unfold backB
 rw[show D+L-1+n-i=D+(L-1-i)+n by omega,Nat.add_mod_right]
theorem HeadsOK.back (h:HeadsOK n D L nf) (h2:L≤n) {i:Nat} (hi:i<L):nf (backB n D L i)=D+L-i:=by
 rw[backB_is hi,h _ (by omega),if_pos (by omega)];omega
theorem HeadsOK.stop (h:HeadsOK n D L nf) (h1:1≤L) (h2:L≤n) (hD:0<D):nf (backB n D L L)≠D:=by
 have e:backB n D L L=(D+(n-1))%n:=by unfold backB;rw[show D+L-1+n-L=D+(n-1) by omega]
 rw[e,h (n-1) (by omega)]
 split <;> omega
def backs (n D L i:Nat):List Sg:=(List.range i).map fun k=>(backB n D L k,D+L-k)
theorem backs_len (i:Nat):(backs n D L i).length=i:=by simp [backs]
theorem backs_succ (i:Nat):backs n D L (i+1)=backs n D L i++[(backB n D L i,D+L-i)]:=by
 unfold backs;rw[List.range_succ,List.map_append];rfl
end
theorem backs_sgs {n D:Nat} (l:List (List (List Ch))) (h:1≤l.length):(backs n D l.length l.length).reverse=sgs n D l:=by
 apply List.ext_getElem
 ·rw[List.length_reverse,backs_len,sgs_len]
 ·intro i h1 h2
  rw[sgs_len] at h2
  rw[sgs_at,List.getElem_reverse]
  unfold backs
  simp only[List.getElem_map,List.getElem_range,List.length_map,List.length_range]
  rw[backB_is (by omega),show l.length-1-(l.length-1-i)=i by omega,show D+l.length-(l.length-1-i)=D+i+1 by omega]
theorem head_num (num:Nat) (h1:1≤num) (h2:num<256 ^ 6) (T:List UInt8):numF ((headL num++T).take 64)=num:=by
 have e:(headL num++T).take 64=headL num:=by
  rw[show (64:Nat)=(headL num).length from (headL_len num).symm,List.take_left]
 rw[e]
 have e2:((headL num).drop 1).take 6=putN 6 num:=by
  unfold headL
  rw[List.cons_append,List.drop_succ_cons,List.drop_zero]
  have h6:∀ (a b:List UInt8),a.length=6→(a++b).take 6=a:=fun a b h=>by rw[← h,List.take_left]
  exact h6 _ _ (putN_len 6 num)
 have e3:headP num=headL num:=by unfold headP headL;simp
 unfold numF
 rw[e2,getN_put 6 num h2,if_neg (by omega),if_pos e3]
theorem sc_cons (s:Sg) (l:List Sg):segCells (s::l)=I s.1::I s.2::segCells l:=rfl
theorem segCells_set (l:List Sg):∀ (i:Nat) (x:Sg),segCells (l.set i x)=((segCells l).set (i*2) (I x.1)).set (i*2+1) (I x.2):=by
 induction l with
 | nil=>intro i x;rfl
 | cons s l ih =>
  intro i x
  cases i with
  | zero=>rfl
  | succ i =>
   show segCells (s::l.set i x)=_
   rw[sc_cons,sc_cons,ih,show (i+1)*2=i*2+1+1 by omega]
   rfl
theorem row_set2 {w:World} {g:Nat} {cur:Array Value} {es:List Sg} (hg:w.heap[g]? = some (.cells cur 206 (0,0))) (htk:cur.toList.take (es.length*2)=segCells es) (i:Nat) (x:Sg) :
  ∃ cur',((w.setCell ⟨g,i*2,none⟩ (I x.1)).setCell ⟨g,i*2+1,none⟩ (I x.2)).heap[g]? = some (.cells cur' 206 (0,0))∧cur'.size=cur.size∧cur'.toList.take ((es.set i x).length*2)=segCells (es.set i x):=by
 have h1:=heap_setCell_at hg (i*2) (I x.1)
 have h2:=heap_setCell_at h1 (i*2+1) (I x.2)
 refine ⟨_,h2,by simp,?_⟩
 rw[segCells_set,← htk]
 simp [List.take_set]
theorem seg_at {w:World} {g:Nat} {cur:Array Value} {es:List Sg} (hg:w.heap[g]? = some (.cells cur 206 (0,0))) (htk:cur.toList.take (es.length*2)=segCells es) (i:Nat) (hi:i<es.length) :
  w.cell? ⟨g,i*2,none⟩=some (I es[i].1)∧w.cell? ⟨g,i*2+1,none⟩=some (I es[i].2):=by
 obtain⟨q1,q2⟩:=segCells_at es i hi
 rw[← htk] at q1 q2
 rw[cell_at hg,cell_at hg]
 constructor
 ·rw[← q1,List.getElem?_take_of_lt (by omega),Array.getElem?_toList]
 ·rw[← q2,List.getElem?_take_of_lt (by omega),Array.getElem?_toList]
theorem sreverse_any (w:World) (segs:List Sg) (g c:Nat) (cur:Array Value) (hg:w.heap[g]? = some (.cells cur 206 (0,0))) (hsz:segs.length*2≤cur.size) (htk:cur.toList.take (segs.length*2)=segCells segs) (hs:segs.length≤1000) :
  Calls Tryz.prog 146 #[.slice (some ⟨g,0,none⟩) segs.length c] w fun e w'=>e = .returned (.tuple #[])∧(∃ cur',w'.heap[g]? = some (.cells cur' 206 (0,0))∧cur'.size=cur.size∧cur'.toList.take (segs.length*2)=segCells segs.reverse)∧Kept [g] w w':=by
 have hsI:(segs.length:Int)≤1000:=by omega
 obtain⟨L,hL⟩:∃ L,segs.length=L:=⟨_,rfl⟩
 have H:=Lib.hid (And.intro hg (And.intro hsz (And.intro htk (And.intro hs hL))))
 rw[hL] at hsI ⊢
 clear hg hsz htk hs hL
 go_enter Tryz.func146,Tryz.ntmps146
 go_wp2_with (fail)
 go_loopw [2,3] (fun v2 v3 wr=>∃ (i:Nat) (cu:Array Value) (es:List Sg),v2=I i∧v3=I ((L:Int)-1-i)∧2*i≤L∧wr.heap[g]? = some (.cells cu 206 (0,0))∧cu.size=cur.size∧es.length=L∧cu.toList.take (L*2)=segCells es∧(∀ k,k<L→es[k]? = if k<i∨L-1-i<k then segs[L-1-k]? else segs[k]?)∧Kept [g] w wr) (fun v2 _ _=>L-(intOf v2).toNat)
 case atStart =>
  obtain⟨hg,hsz,htk,hs,hL⟩:=H.out
  exact ⟨0,cur,segs,rfl,by go_num,by omega,hg,rfl,hL,by rw[← hL];exact htk,fun k hk=>by rw[if_neg (by omega)],Kept.refl _ _⟩
 case round =>
  obtain⟨i,cu,es,rfl,rfl,hi2,hgr,hcs,hel,htk,hes,kr⟩:=hrel
  by_cases hlt:(i:Int)<(L:Int)-1-i
  ·obtain⟨j,hj⟩:∃ j:Nat,(L:Int)-1-i=(j:Int):=⟨L-1-i,by omega⟩
   have hil:i<es.length:=by omega
   have hjl:j<es.length:=by omega
   rw[hj] at hlt ⊢
   rw[← hel] at htk
   obtain⟨a1,a2⟩:=seg_at hgr htk i hil
   obtain⟨b1,b2⟩:=seg_at hgr htk j hjl
   obtain⟨⟨x1,x2⟩,hx⟩:∃ x,es[i]=x:=⟨_,rfl⟩
   obtain⟨⟨y1,y2⟩,hy⟩:∃ y,es[j]=y:=⟨_,rfl⟩
   rw[hx] at a1 a2
   rw[hy] at b1 b2
   obtain⟨cu1,r1,r2,r3⟩:=row_set2 (es:=es) hgr htk i (y1,y2)
   obtain⟨cu2,r4,r5,r6⟩:=row_set2 r1 r3 j (x1,x2)
   have hfz:∀ q,wr.frozen? ⟨g,q,none⟩=false:=free_at hgr
   have hsi:∀ q,q<cu.size→(wr.cell? ⟨g,q,none⟩).isSome=true:=fun q hq=>by rw[cell_at hgr,Array.getElem?_eq_getElem hq];rfl
   have hjL:(j:Int)<L:=by omega
   have hiL:(i:Int)<L:=by omega
   have hij:¬ (j:Int)=i:=by omega
   simp only at a1 a2 b1 b2
   have HX:=Lib.hid (And.intro hx (And.intro hy (And.intro hj (And.intro hes (And.intro kr (And.intro hel (And.intro r4 (And.intro r5 (And.intro r6 (And.intro r2 hcs))))))))))
   clear hx hy hes kr r1 r2 r3 r4 r5 r6 hel hcs htk
   go_wp2_with (fail)
   go_region
   all_goals
    go_wp2
    go_roundw
    case rel =>
     obtain⟨hx,hy,hj,hes,kr,hel,r4,r5,r6,r2,hcs⟩:=HX.out
     refine ⟨i+1,cu2,(es.set i (y1,y2)).set j (x1,x2),by go_num,by congr 1;omega,by omega,r4,by rw[r5,r2,hcs],by simpa using hel,?_,fun k hk=>?_,?_⟩
     ·have:=r6
      simp only[List.length_set,hel] at this
      exact this
     ·have hi0:=hes i (by omega)
      have hj0:=hes j (by omega)
      rw[List.getElem?_eq_getElem hil,hx,if_neg (by omega)] at hi0
      rw[List.getElem?_eq_getElem hjl,hy,if_neg (by omega)] at hj0
      rw[List.getElem?_set,List.getElem?_set]
      by_cases h1:j=k
      ·subst h1
       rw[if_pos rfl,if_pos (by simpa using hjl),if_pos (by omega),hi0]
       congr 1;omega
      ·rw[if_neg h1]
       by_cases h2:i=k
       ·subst h2
        rw[if_pos rfl,if_pos hil,if_pos (by omega),hj0]
        congr 1;omega
       ·rw[if_neg h2,hes k hk]
        by_cases h3:k<i∨L-1-i<k
        ·rw[if_pos h3,if_pos (by omega)]
        ·rw[if_neg h3,if_neg (by omega)]
     ·exact ((((kr.setCell (.inl (by simp)) _).setCell (.inl (by simp)) _).setCell (.inl (by simp)) _).setCell (.inl (by simp)) _).drew
    case measure=>simp [intOf];omega
  ·have HX:=Lib.hid (And.intro hes (And.intro kr (And.intro hel (And.intro hgr (And.intro hcs htk)))))
   have hi3:L≤2*i+1:=by omega
   clear hes kr hel hgr hcs htk
   go_wp2_with (fail)
   refine bodyPost_end (v:=.tuple #[]) (by simp [results,Tryz.results146,go_sem]) rfl ?_
   obtain⟨hes,kr,hel,hgr,hcs,htk⟩:=HX.out
   obtain⟨_,_,_,hs,hL⟩:=H.out
   refine ⟨rfl,⟨cu,hgr,hcs,?_⟩,kr⟩
   rw[htk]
   congr 1
   apply List.ext_getElem?
   intro k
   by_cases hk:k<L
   ·rw[hes k hk,List.getElem?_reverse (by omega),hL]
    split
    ·rfl
    ·congr 1;omega
   ·rw[List.getElem?_eq_none (by omega),List.getElem?_eq_none (by simp;omega)]
structure CoreX (w:World) (sb mb:Nat) (x:Int) (M:OM) (dd:Bool):Prop where
 c2:w.cell? ⟨sb,2,none⟩=some (.map (some mb))
 c4:w.cell? ⟨sb,4,none⟩=some (I x)
 c5:w.cell? ⟨sb,5,none⟩=some (.bool dd)
 ob:ObAt w mb M
theorem CoreX.same {w w':World} {sb mb:Nat} {x:Int} {M:OM} {dd:Bool} (h:CoreX w sb mb x M dd) (k:Kept [] w w'):CoreX w' sb mb x M dd:=⟨k.cellOf h.c2,k.cellOf h.c4,k.cellOf h.c5,h.ob.same k⟩
theorem CoreAt.toX {w:World} {sb pb lb mb kb:Nat} {x:Int} {M:OM} {C:List (Int×Nat)} (h:CoreAt w sb pb lb mb kb x M C):CoreX w sb mb x M false:=by
 obtain⟨c0,c1,c2,c3,c4,c5⟩:=h.cells
 exact ⟨c2,c4,c5,h.ob⟩
theorem CoreX.find_some {w:World} {sb mb:Nat} {x:Int} {M:OM} {dd:Bool} (h:CoreX w sb mb x M dd) {k:Int} (hk:I64 k) {o:Ob} (ho:findA M k=some o):(Instr.lookup 120 (.map (some mb)) (I k) true).run Tryz.prog w = .ok (.tuple #[.agg #[S o.val,I o.seg,I o.pos],.bool true]) w:=
 h.ob.look_some Tryz.underlying120 (ob_zero w) (obR_mk _) obR_inv hk ho
theorem CoreX.find_none {w:World} {sb mb:Nat} {x:Int} {M:OM} {dd:Bool} (h:CoreX w sb mb x M dd) {k:Int} (hk:I64 k) (ho:findA M k=none):(Instr.lookup 120 (.map (some mb)) (I k) true).run Tryz.prog w = .ok (.tuple #[.agg #[S [],I 0,I 0],.bool false]) w:=
 h.ob.look_none Tryz.underlying120 (ob_zero w) (obR_mk _) (fun v ps hv=>obR_inv v ⟨[],0,0⟩ ps hv) hk ho
theorem xget_any (w:World) (sb mb:Nat) (x:Int) (M:OM) (dd:Bool) (h:CoreX w sb mb x M dd) (k:Int) (hk:I64 k) :
  Calls Tryz.prog 88 #[Ptr sb,I k] w fun e w'=>e = .returned (.tuple #[S (valF M k),.bool (findA M k).isSome])∧Kept [] w w':=by
 obtain⟨c2,c4,c5,_⟩:=id h
 obtain⟨ov,os,op,is,hov,hlook⟩:∃ (ov:List UInt8) (os op:Nat) (is:Bool),(valF M k=ov∧(findA M k).isSome=is)∧(Instr.lookup 120 (.map (some mb)) (I k) true).run Tryz.prog w = .ok (.tuple #[.agg #[S ov,I os,I op],.bool is]) w:=by
  unfold valF
  cases hfo:findA M k with
  | none=>exact ⟨[],0,0,false,⟨rfl,rfl⟩,h.find_none hk hfo⟩
  | some ob=>exact ⟨ob.val,ob.seg,ob.pos,true,⟨rfl,rfl⟩,h.find_some hk hfo⟩
 rw[hov.1,hov.2]
 have hnw:=heap_new w (Obj.cells #[S [],I 0,I 0] 185)
 have hf2:=free_at hnw
 have z0:=cell_at hnw 0
 have z1:=cell_at hnw 1
 have z2:=cell_at hnw 2
 simp only[List.getElem?_toArray,List.getElem?_cons_zero,List.getElem?_cons_succ] at z0 z1 z2
 have HN:=Lib.hid hnw
 clear h hk hov hnw c4 c5
 go_enter Tryz.func88,Tryz.ntmps88
 go_wp2_with (fail)
 have hst:=store3 HN.out (S ov) (I os) (I op)
 have q0:=cell_at hst 0
 simp only[List.getElem?_toArray,List.getElem?_cons_zero,List.getElem?_cons_succ] at q0
 go_wp2_with (fail)
 go_ret2
 exact ⟨rfl,(Kept.refl [] w).alloc _⟩
theorem xweight_any (w:World) (sb mb:Nat) (x:Int) (M:OM) (dd:Bool) (h:CoreX w sb mb x M dd) :
  Calls Tryz.prog 75 #[Ptr sb] w fun e w'=>e = .returned (I x)∧w'=w:=by
 obtain⟨c2,c4,c5,_⟩:=id h
 clear h
 go_enter Tryz.func75,Tryz.ntmps75
 go_wp2_with (fail)
 go_ret
 exact ⟨rfl,rfl⟩
theorem xdead_any (w:World) (sb mb:Nat) (x:Int) (M:OM) (dd:Bool) (h:CoreX w sb mb x M dd) :
  Calls Tryz.prog 29 #[Ptr sb] w fun e w'=>e = .returned (.bool dd)∧w'=w:=by
 obtain⟨c2,c4,c5,_⟩:=id h
 clear h
 go_enter Tryz.func29,Tryz.ntmps29
 go_wp2_with (fail)
 go_ret
 exact ⟨rfl,rfl⟩
def RD (w:World) (sb:Nat) (V:OM):Prop:=SortedA V∧∃ mb M dd,CoreX w sb mb (sumA wO M) M dd∧SortedA M∧(∀ k,valM M k=valM V k)∧(∀ k∈M.map (·.1),1≤k∧k≤2147483647)∧sumA wO M≤2000∧Vals256 M
theorem RD.same {w w':World} {sb:Nat} {V:OM} (h:RD w sb V) (k:Kept [] w w'):RD w' sb V:=by
 obtain⟨h0,mb,M,dd,h1,h2⟩:=h
 exact ⟨h0,mb,M,dd,h1.same k,h2⟩
theorem RD.weight {w:World} {sb:Nat} {V:OM} (h:RD w sb V):Calls Tryz.prog 75 #[Ptr sb] w fun e w'=>e = .returned (I (sumA wO V:Nat))∧w'=w:=by
 obtain⟨h0,mb,M,dd,h1,h2,h3,h4,h5,h6⟩:=h
 rw[← weight_same h2 h0 h3]
 exact xweight_any w sb mb _ M dd h1
theorem RD.get {w:World} {sb:Nat} {V:OM} (h:RD w sb V) (k:Int) (hk:I64 k):Calls Tryz.prog 88 #[Ptr sb,I k] w fun e w'=>e = .returned (.tuple #[S (getF V k),.bool (valM V k).isSome])∧Kept [] w w':=by
 obtain⟨h0,mb,M,dd,h1,h2,h3,h4,h5,h6⟩:=h
 have:=xget_any w sb mb _ M dd h1 k hk
 rw[show valF M k=getF V k from by unfold valF getF;rw[← h3 k];rfl,show (findA M k).isSome=(valM V k).isSome from by rw[← h3 k];unfold valM;rw[Option.isSome_map]] at this
 exact this
theorem RD.facts {w:World} {sb:Nat} {V:OM} (h:RD w sb V):SortedA V∧(∀ p∈V,1≤p.1∧p.1≤2147483647∧p.2.val.length≤256)∧V.length≤2000∧sumA wO V≤2000:=by
 obtain⟨h0,mb,M,dd,h1,h2,h3,h4,h5,h6⟩:=h
 have e:=congrArg (fun l:List (Int×List UInt8)=>l.map (·.1)) (val_map h2 h0 h3)
 simp only[mapA,List.map_map,Function.comp_def] at e
 have hw:=weight_same h2 h0 h3
 refine ⟨h0,fun p hp=>?_,by have:=om_len V;omega,by omega⟩
 have hk:=h4 p.1 (by rw[show M.map (·.1)=V.map (·.1) from e];exact List.mem_map_of_mem hp)
 have hf:=find_of_mem h0 (k:=p.1) (o:=p.2) hp
 have hv:=h3 p.1
 unfold valM at hv
 rw[hf] at hv
 cases ho:findA M p.1 with
 | none=>rw[ho] at hv;cases hv
 | some o =>
  rw[ho] at hv
  have e2:o.val=p.2.val:=by simpa using hv
  exact ⟨hk.1,hk.2,by rw[← e2];exact h6 _ _ ho⟩
theorem RD.all {w:World} {sb:Nat} {V:OM} (h:RD w sb V):keysF V 0 1073741824=V.map (·.1):=by
 obtain⟨h0,hk,hlen,hw⟩:=h.facts
 unfold keysF
 rw[List.filter_eq_self.2 (fun y hy=>by obtain⟨p,hp,rfl⟩:=List.mem_map.1 hy;have:=(hk p hp).1;simp;omega),List.take_of_length_le (by rw[List.length_map];exact Nat.le_trans hlen (by decide))]
end Go.Proofs.YteplbljjlbdhaacGreatDoor
